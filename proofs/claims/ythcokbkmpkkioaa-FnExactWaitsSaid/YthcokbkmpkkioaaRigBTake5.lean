/- Part of Rig, a reflective evaluator of this project's own: a function's code, run over typed data by Lean's kernel, gives its contract. No condition. -/
import Derived.Test.YthcokbkmpkkioaaRigBTake4
set_option linter.unusedVariables false
set_option linter.unusedSimpArgs false
namespace Rig
open Go
section
variable {w0 w w' : World} {F0 : Own} {s s' s0 : St} {m : Nat → Loc} {ok ok' : Nat → Prop} {a : Act}

/-- some objects were given away, nothing else -/
structure Fewer (s s' : St) : Prop where
  n : s'.n = s.n
  N : s'.N = s.N
  tmps : s'.tmps = s.tmps
  obj : ∀ o, s'.obj o = s.obj o ∨ s'.obj o = .dead
theorem Fewer.refl (s : St) : Fewer s s := ⟨rfl, rfl, rfl, fun _ => .inl rfl⟩
theorem Fewer.trans {s1 s2 : St} (h : Fewer s s1) (k : Fewer s1 s2) : Fewer s s2 :=
  ⟨k.n.trans h.n, k.N.trans h.N, k.tmps.trans h.tmps, fun o => (k.obj o).elim (fun e => (h.obj o).imp (e.trans ·) (e.trans ·)) .inr⟩
theorem Fewer.of_some {s1 : St} (h : Fewer s s1) {o : Nat} {ob : Obj} (ho : s1.obj o = ob) (hd : ob ≠ .dead) : s.obj o = ob := by
  rcases h.obj o with e | e
  · rw [← e]; exact ho
  · rw [e] at ho; exact absurd ho.symm hd
theorem Fewer.kill (s : St) (o : Nat) : Fewer s (s.setObj o .dead) := ⟨rfl, rfl, rfl, fun j => by
  rw [St.obj_setObj]
  by_cases h : o = j
  · rw [if_pos h]; exact .inr rfl
  · rw [if_neg h]; exact .inl rfl⟩
theorem get_fewer {s1 : St} (h : Fewer s s1) {c : CK} {v : V} {x : c.ty} (hg : V.get s1 c v = some x) : V.get s c v = some x := by
  have own : ∀ row o, v = .own o → c = .slice row → V.get s c v = some x := fun row o e1 e2 => by
    subst e1
    subst e2
    have h' : (match s1.obj o with | .arr row' l _ => castL row' row l | _ => none) = some x := hg
    cases ho : s1.obj o with
    | arr row' l fz =>
      have h2 := h.of_some ho nofun
      rw [ho] at h'
      show (match s.obj o with | .arr row' l _ => castL row' row l | _ => none) = some x
      rw [h2]; exact h'
    | dead => rw [ho] at h'; exact absurd h' nofun
    | box _ => rw [ho] at h'; exact absurd h' nofun
    | map _ => rw [ho] at h'; exact absurd h' nofun
    | fbox _ _ => rw [ho] at h'; exact absurd h' nofun
  cases c with
  | slice row => cases v <;> first | exact own _ _ rfl rfl | exact hg
  | map =>
    cases v <;> first | exact hg | skip
    case map o =>
      obtain ⟨o', e, ho⟩ := get_map hg
      cases e
      have h2 := h.of_some ho nofun
      show (match s.obj o with | .map g => some g | _ => none) = some x
      rw [h2]
  | _ => cases v <;> exact hg
theorem after_fewer {s1 : St} {v : V} (h : V.after s 2 v = some s1) : Fewer s s1 := by
  cases v with
  | own o =>
    have h' : (match s.obj o with | .arr row l fr => (match 2, fr with | 0, _ => some s | 1, _ => some (s.setObj o (.arr row l true)) | _, false => some (s.setObj o .dead) | _, true => none : Option St) | _ => none) = some s1 := h
    split at h'
    case h_2 => cases h'
    rename_i row l fr ho
    cases fr with
    | false =>
      have e : s.setObj o .dead = s1 := Option.some.inj h'
      subst e; exact Fewer.kill _ _
    | true => exact absurd (show (none : Option St) = some s1 from h') nofun
  | ro row l => exact absurd (show (none : Option St) = some s1 from h) nofun
  | map o =>
    unfold V.after at h
    simp only at h
    split at h
    case h_2 => cases h
    cases h; exact Fewer.kill _ _
  | _ =>
    have e : s = s1 := Option.some.inj (show some s = some s1 from h)
    subst e; exact Fewer.refl _
theorem getro_nm {c : CK} {v : V} {x : c.ty} (h : V.getro s c v = some x) : c ≠ .map ∧ V.get s c v = some x := by
  cases c with
  | map => exact absurd (show (none : Option (CK.map).ty) = some x from h) nofun
  | _ => exact ⟨nofun, h⟩

theorem pairO_some {α β : Type} {x : Option α} {y : Option β} {z : α × β} (h : pairO x y = some z) : ∃ a b, x = some a ∧ y = some b ∧ z = (a, b) := by
  unfold pairO at h
  split at h
  · exact ⟨_, _, rfl, rfl, (Option.some.inj h).symm⟩
  · cases h
/-- cells: what is owned is given away, what is read is read as it is at the end -/
theorem giveCells_ok : ∀ {cells : List (CK × Bool)} {s s' : St} (R : Rel w0 F0 s m ok a w) (hf : Fewer s0 s) {vs : List V} {us : List Value}, giveCells s cells vs = some s' → All2 (VR1 w ok m s.n) vs us →
    ∃ F, Rel w0 F0 s' m ok a w ∧ Took s m ok F s' ok ∧ Fewer s s' ∧
      ∀ {s1 : St} (R1 : Rel w0 F0 s1 m ok a w) (hn : s1.n = s.n) {x : Row (kinds cells)}, getCells s0 s1 cells vs = some x → TRs w (fun b => ok b ∨ pool s1 m b) cells x us F
  | [], s, s', R, hf, vs, us, h, hv => by
    cases vs with
    | nil =>
      have e : s = s' := Option.some.inj (show some s = some s' from h)
      subst e
      cases hv
      exact ⟨[], R, Took.refl _ _ _, Fewer.refl _, fun _ _ _ _ => ⟨rfl, rfl⟩⟩
    | cons v vs => exact absurd (show none = some s' from h) nofun
  | (c, own) :: cells, s, s', R, hf, vs, us, h, hv => by
    match vs, us, hv with
    | [], _, _ => exact absurd (show none = some s' from h) nofun
    | v :: vs, u :: us, .cons hv1 hv2 =>
      -- the first cell
      have first : ∃ s2 F1, giveCells s2 cells vs = some s' ∧ Rel w0 F0 s2 m ok a w ∧ Took s m ok F1 s2 ok ∧ Fewer s s2 ∧
          ∀ {s1 : St} (R1 : Rel w0 F0 s1 m ok a w) (hn : s1.n = s.n) {x : c.ty}, getOne s0 s1 c own v = some x → TR w (fun b => ok b ∨ pool s1 m b) c own x u F1 := by
        cases own with
        | false =>
          refine ⟨s, [], h, R, Took.refl _ _ _, Fewer.refl _, fun {s1} R1 hn {x} hx => ?_⟩
          obtain ⟨hnm, hg⟩ := getro_nm (show V.getro s1 c v = some x from hx)
          exact TR_read (get_rd R1 hnm hg (by rw [hn]; exact hv1)).1
        | true =>
          have h' : (match V.get s c v, V.after s 2 v with | some _, some s => giveCells s cells vs | _, _ => none) = some s' := h
          split at h'
          case h_2 => cases h'
          rename_i x0 s2 hg ha
          have ht : V.take s (sel true 2 1) c v = some (x0, s2) := by
            show V.take s 2 c v = _
            unfold V.take
            rw [hg, ha]
          obtain ⟨ok', F, R', T, hT, he⟩ := take_oneX R ht hv1
          have he := he rfl
          subst he
          refine ⟨s2, F, h', R', T, after_fewer ha, fun {s1} R1 hn {x} hx => ?_⟩
          have hx' : V.get s0 c v = some x := hx
          rw [get_fewer hf hg] at hx'
          cases hx'
          exact hT.widen fun _ h => .inl h
      obtain ⟨s2, F1, h2, R2, T1, W1, k1⟩ := first
      obtain ⟨F2, R3, T2, W2, k2⟩ := giveCells_ok R2 (hf.trans W1) h2 (T1.keepVRs hv2)
      refine ⟨F1 ++ F2, R3, T1.trans T2, W1.trans W2, fun {s1} R1 hn {x} hx => ?_⟩
      cases cells with
      | nil =>
        match vs, hv2, hx with
        | [], .nil, hx =>
          have e2 := k2 R1 (hn.trans T1.n.symm) (x := ()) rfl
          obtain ⟨_, e2⟩ := e2
          subst e2
          rw [List.append_nil]
          exact ⟨u, rfl, k1 R1 hn hx⟩
        | v' :: vs', .cons _ _, hx => exact absurd (show (none : Option (Row (kinds [(c, own)]))) = some x from hx) nofun
      | cons d ds =>
        obtain ⟨c', own'⟩ := d
        obtain ⟨x1, y1, h1, hy, e⟩ := pairO_some (show pairO (getOne s0 s1 c own v) (getCells s0 s1 ((c', own') :: ds) vs) = some x from hx)
        subst e
        exact ⟨u, us, F1, F2, rfl, rfl, k1 R1 hn h1, k2 R1 (hn.trans T1.n.symm) hy⟩
end
end Rig
