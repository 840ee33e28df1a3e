/- Part of Rig, a reflective evaluator of this project's own: a function's code, run over typed data by Lean's kernel, gives its contract. No condition. -/
import Derived.Test.YthcokbkmpkkioaaRigBTake5
set_option linter.unusedVariables false
set_option linter.unusedSimpArgs false
namespace Rig
open Go
section
variable {w0 w w' : World} {F0 : Own} {s s' s0 : St} {m : Nat → Loc} {ok ok' : Nat → Prop} {a : Act}

/-- variables and where they lie -/
def Lies (m : Nat → Loc) (n : Nat) (o b : Nat) : Prop := o < n ∧ (m o).addr = some ⟨b, 0, none⟩
theorem natsEq_eq : ∀ {a b : List Nat}, natsEq a b = true → a = b
  | [], [], _ => rfl
  | x :: a, y :: b, h => by
    have h' : (match Nat.beq x y with | true => natsEq a b | false => false) = true := h
    split at h'
    · rename_i e
      rw [Nat.eq_of_beq_eq_true e, natsEq_eq h']
    · cases h'
  | [], _ :: _, h => absurd (show false = true from h) nofun
  | _ :: _, [], h => absurd (show false = true from h) nofun
theorem clo_val {n : Nat} {gs bs : List Nat} (hids : All2 (Lies m n) gs bs) : ∀ {js : List Nat} {cs : List Value}, lall (fun j => Nat.blt j (llen gs)) js = true → All2 (PtrTo m n) (lmap (lget 0 gs) js) cs → cs = js.map fun j => Value.pointer (some ⟨bs.getD j 0, 0, none⟩)
  | [], cs, _, h => by cases h; rfl
  | j :: js, cs, hj, h => by
    have hj' : (match Nat.blt j (llen gs) with | true => lall (fun j => Nat.blt j (llen gs)) js | false => false) = true := hj
    split at hj'
    case h_2 => cases hj'
    rename_i hlt
    match cs, h with
    | c :: cs, .cons h1 h2 =>
      have ih := clo_val hids hj' h2
      have hl : j < gs.length := by rw [← llen_eq]; exact Nat.blt_eq.mp hlt
      obtain ⟨_, ad, had, hc⟩ := h1
      rw [lget_eq] at had
      have hg : gs[j]? = some (gs.getD j 0) := by simp [List.getD_eq_getElem?_getD, hl]
      obtain ⟨b, hb, _, hb2⟩ := hids.get hg
      rw [hb2] at had
      cases had
      rw [List.map_cons, ← ih, hc]
      have : bs.getD j 0 = b := by simp [List.getD_eq_getElem?_getD, hb]
      rw [this]
theorem giveArg_ok (R : Rel w0 F0 s m ok a w) (hf : Fewer s0 s) {gs bs : List Nat} (hids : All2 (Lies m s.n) gs bs) {g : Arg} {v : V} {u : Value} (h : giveArg s gs g v = some s') (hv : VR w ok m s.n v u) :
    ∃ F, Rel w0 F0 s' m ok a w ∧ Took s m ok F s' ok ∧ Fewer s s' ∧
      (∀ {s1 : St} (R1 : Rel w0 F0 s1 m ok a w) (hn : s1.n = s.n) (h1 : Fewer s' s1) {x : Row (kinds g.cells)}, getArg s0 s1 g v = some x → ArgR w (fun b => ok b ∨ pool s1 m b) bs g x u F) ∧
      (g.mode = 2 ∨ g.mode = 3 → ∃ o, v = .ptr o 0 ∧ s.obj o ≠ .dead ∧ s'.obj o = .dead ∧ ∃ b, b ∈ F ∧ (m o).addr = some ⟨b, 0, none⟩) ∧ (2 ≤ g.mode → ∃ o, v = .ptr o 0) := by
  unfold giveArg at h
  split at h
  · -- a variable's address
    rename_i o hm
    split at h
    case h_2 => cases h
    rename_i cs hob
    obtain ⟨hlt, ad, had, hu⟩ := hv
    have hor := R.objs o
    rw [hob] at hor
    obtain ⟨b, vs, t, fr, hb, hh, hc, ha⟩ := hor
    rw [had] at hb
    cases hb
    obtain ⟨R1, T1⟩ := give_obj R (o := o) (b := b) ⟨by rw [had]; rfl, by rw [hob]; trivial⟩
    obtain ⟨F2, R2, T2, W2, k2⟩ := giveCells_ok R1 (hf.trans (Fewer.kill s o)) h (T1.keepVRs ha)
    refine ⟨b :: F2, R2, T1.trans T2, (Fewer.kill s o).trans W2, fun {s1} R3 hn h1 {x} hx => ?_, fun _ => ⟨o, rfl, by rw [hob]; exact nofun, ?_, b, by simp, had⟩, fun _ => ⟨o, rfl⟩⟩
    · unfold getArg at hx
      rw [hm] at hx
      simp only [hf.of_some hob nofun] at hx
      unfold ArgR
      rw [hm]
      exact ⟨b, vs, t, fr, F2, hu, hh, hc, k2 R3 hn hx, rfl⟩
    · rcases W2.obj o with e | e
      · rw [e, St.obj_setObj, if_pos rfl]
      · exact e
  · -- a closure's variable
    rename_i o hm
    split at h
    case h_2 => cases h
    rename_i f os hob
    split at h
    case h_2 => cases h
    rename_i e1 e2 e3
    cases h
    replace e1 := Nat.eq_of_beq_eq_true e1
    replace e2 := natsEq_eq e2
    subst e1
    subst e2
    obtain ⟨hlt, ad, had, hu⟩ := hv
    have hor := R.objs o
    rw [hob] at hor
    obtain ⟨b, vs, t, fr, hb, hh, hc, ha⟩ := hor
    rw [had] at hb
    cases hb
    obtain ⟨R1, T1⟩ := give_obj R (o := o) (b := b) ⟨by rw [had]; rfl, by rw [hob]; trivial⟩
    have hcl : vs = #[cloVal g.fn g.js bs] := by
      apply Array.toList_inj.1
      generalize vs.toList = l at ha
      match l, ha with
      | [c], .cons ⟨cs, ec, hcs⟩ .nil =>
        rw [clo_val hids e3 hcs] at ec
        rw [ec]; rfl
    subst hcl
    refine ⟨[b], R1, T1, Fewer.kill s o, fun {s1} R3 hn h1 {x} hx => ?_, fun _ => ⟨o, rfl, by rw [hob]; exact nofun, by rw [St.obj_setObj, if_pos rfl], b, by simp, had⟩, fun _ => ⟨o, rfl⟩⟩
    unfold ArgR
    rw [hm]
    exact ⟨b, t, fr, hu, hh, hc, rfl⟩
  · -- a variable that is only read
    rename_i o hm
    cases h
    refine ⟨[], R, Took.refl _ _ _, Fewer.refl _, fun {s1} R3 hn h1 {x} hx => ?_, fun h => by rcases h with h | h <;> (rw [hm] at h; cases h), fun _ => ⟨o, rfl⟩⟩
    unfold getArg at hx
    rw [hm] at hx
    simp only at hx
    split at hx
    case h_2 => cases hx
    rename_i hro
    obtain ⟨hlt, ad, had, hu⟩ := hv
    unfold ArgR
    rw [hm]
    split at hx
    · rename_i cs hob
      have hor := R3.objs o
      rw [hob] at hor
      obtain ⟨b, vs, t, fr, hb, hh, hc, ha⟩ := hor
      rw [had] at hb
      cases hb
      have hex : ex s1 m o b := ⟨by rw [had]; rfl, by rw [hob]; trivial⟩
      refine ⟨b, hu, .inr ⟨o, hex⟩, R3.exlt hex, ⟨rfl, fun i y hy => ?_⟩, rfl⟩
      cases i with
      | succ i => simp [getq] at hy
      | zero =>
        have e : x = y := by simpa [getq] using hy
        subst e
        have key : ∀ (cells : List (CK × Bool)) (cs : List V) (x : Row (kinds cells)) (us : List Value), anyOwn cells = false → getCells s0 s1 cells cs = some x → All2 (VR1 w ok m s1.n) cs us →
            CK.rdRow w (fun b => ok b ∨ pool s1 m b) (kinds cells) x (fun j => us[j]?) := by
          intro cells
          induction cells with
          | nil => intro cs x us _ _ _; exact trivial
          | cons d ds ih =>
            obtain ⟨c, own⟩ := d
            intro cs x us ho hx ha
            have ho' : own = false ∧ anyOwn ds = false := by
              cases own
              · exact ⟨rfl, ho⟩
              · exact absurd (show true = false from ho) nofun
            obtain ⟨ho1, ho2⟩ := ho'
            subst ho1
            match cs, us, ha with
            | [], _, _ => cases ds <;> exact absurd (show none = some x from hx) nofun
            | v :: vs, u :: us, .cons h1 h2 =>
              cases ds with
              | nil =>
                cases vs with
                | cons _ _ => exact absurd (show none = some x from hx) nofun
                | nil =>
                  obtain ⟨hnm, hg⟩ := getro_nm (show V.getro s1 c v = some x from hx)
                  exact ⟨u, rfl, (get_rd R3 hnm hg h1).1⟩
              | cons d2 ds =>
                obtain ⟨x1, y1, hx1, hy1, e⟩ := pairO_some (show pairO (getOne s0 s1 c false v) (getCells s0 s1 (d2 :: ds) vs) = some x from hx)
                subst e
                obtain ⟨hnm, hg⟩ := getro_nm (show V.getro s1 c v = some x1 from hx1)
                exact ⟨⟨u, rfl, (get_rd R3 hnm hg h1).1⟩, ih vs y1 us ho2 hy1 h2⟩
        have := key g.cells cs x vs.toList hro hx ha
        refine CK.rdRow_keep (fun _ _ => rfl) (fun _ h => h) _ x _ _ (fun j v hv => ?_) this
        simp only [World.cell?, hh]
        simpa using hv
    · rename_i row x' hob
      have hor := R3.objs o
      rw [hob] at hor
      obtain ⟨b, hb, hokb, hbl, hra⟩ := hor
      rw [had] at hb
      cases hb
      have hcast : ∃ e : row = kinds g.cells, x = e ▸ x' := by
        unfold castR at hx
        split at hx
        · rename_i hb
          exact ⟨CK.eqs_of_beqs hb, (Option.some.inj hx).symm⟩
        · cases hx
      obtain ⟨e, hx'⟩ := hcast
      refine ⟨b, hu, .inl hokb, hbl, ?_, rfl⟩
      clear hx
      generalize kinds g.cells = kk at e x hx'
      subst e
      subst hx'
      exact hra.keep (fun _ _ => rfl) (fun _ h => .inl h) rfl
    · cases hx
  · rename_i vs hm
    obtain ⟨cs, hu, ha⟩ := hv
    obtain ⟨F2, R2, T2, W2, k2⟩ := giveCells_ok R hf h ha
    refine ⟨F2, R2, T2, W2, fun {s1} R3 hn h1 {x} hx => ?_, fun h => by rcases h with h | h <;> (rw [hm] at h; cases h), fun h => by rw [hm] at h; omega⟩
    unfold getArg at hx
    rw [hm] at hx
    unfold ArgR
    rw [hm]
    exact ⟨cs, hu, k2 R3 hn hx⟩
  · rename_i v _ _ hm
    have hone : ∀ {cells : List (CK × Bool)} {x : Row (kinds cells)} {s1 : St}, getCells s0 s1 cells [v] = some x → v.one = true := by
      intro cells
      cases cells with
      | nil => intro x s1 hx; exact absurd (show none = some x from hx) nofun
      | cons d ds =>
        obtain ⟨c, own⟩ := d
        intro x s1 hx
        have h1 : ∀ {y : c.ty}, getOne s0 s1 c own v = some y → v.one = true := fun {y} hy => by
          cases own with
          | true => exact get_one hy
          | false => exact get_one (getro_nm (show V.getro s1 c v = some y from hy)).2
        cases ds with
        | nil => exact h1 hx
        | cons d2 ds =>
          obtain ⟨x1, y1, hx1, _, _⟩ := pairO_some (show pairO (getOne s0 s1 c own v) (getCells s0 s1 (d2 :: ds) []) = some x from hx)
          exact h1 hx1
    by_cases h1 : v.one = true
    · obtain ⟨F2, R2, T2, W2, k2⟩ := giveCells_ok R hf h (.cons (hv.as1 h1) .nil)
      refine ⟨F2, R2, T2, W2, fun {s1} R3 hn h1 {x} hx => ?_, fun h => by rcases h with h | h <;> (rw [hm] at h; cases h), fun h => by rw [hm] at h; omega⟩
      unfold getArg at hx
      rw [hm] at hx
      unfold ArgR
      rw [hm]
      exact k2 R3 hn hx
    · have same : s = s' := by
        generalize g.cells = cells at h
        cases cells with
        | nil => exact absurd (show none = some s' from h) nofun
        | cons d ds =>
          obtain ⟨c, own⟩ := d
          cases own with
          | false => cases ds with
            | nil => exact Option.some.inj (show some s = some s' from h)
            | cons _ _ => exact absurd (show none = some s' from h) nofun
          | true =>
            have h' : (match V.get s c v, V.after s 2 v with | some _, some s => giveCells s ds [] | _, _ => none) = some s' := h
            split at h'
            case h_2 => cases h'
            rename_i x0 s2 hg _
            exact absurd (get_one hg) h1
      subst same
      refine ⟨[], R, Took.refl _ _ _, Fewer.refl _, fun {s1} R3 hn h2 {x} hx => ?_, fun h => by rcases h with h | h <;> (rw [hm] at h; cases h), fun h => by rw [hm] at h; omega⟩
      unfold getArg at hx
      rw [hm] at hx
      exact absurd (hone hx) h1
  · cases h
end
end Rig
namespace Rig
open Go
section
variable {w0 w w' : World} {F0 : Own} {s s' s0 : St} {m : Nat → Loc} {ok ok' : Nat → Prop} {a : Act}
/-- which of the variables are handed back -/
def backIds : Args → List Nat → List Nat
  | g :: r, o :: os => (if g.mode = 2 ∨ g.mode = 3 then [o] else []) ++ backIds r os
  | _, _ => []
theorem backIds_sub : ∀ {ptrs : Args} {os : List Nat} {o : Nat}, o ∈ backIds ptrs os → o ∈ os
  | [], _, _, h => by simp [backIds] at h
  | _ :: _, [], _, h => by simp [backIds] at h
  | g :: r, o' :: os, o, h => by
    unfold backIds at h
    rcases List.mem_append.1 h with h | h
    · split at h
      · have : o = o' := by simpa using h
        subst this; simp
      · cases h
    · exact List.mem_cons_of_mem _ (backIds_sub h)
theorem ptrs_cons (g : Arg) (r : Args) : Args.ptrs (g :: r) = if 2 ≤ g.mode then g :: Args.ptrs r else Args.ptrs r := by
  show sel (Nat.ble 2 g.mode) (g :: Args.ptrs r) (Args.ptrs r) = _
  by_cases h : 2 ≤ g.mode
  · rw [if_pos h, Nat.ble_eq.mpr h]; rfl
  · rw [if_neg h]
    cases e : Nat.ble 2 g.mode with
    | true => exact absurd (Nat.ble_eq.mp e) h
    | false => rfl
theorem ptrIds_cons (g : Arg) (r : Args) (v : V) (vs : List V) : ptrIds (g :: r) (v :: vs) = if 2 ≤ g.mode then (match v with | .ptr o _ => o | _ => 0) :: ptrIds r vs else ptrIds r vs := by
  show (match Nat.ble 2 g.mode with | true => (match v with | .ptr o _ => o | _ => 0) :: ptrIds r vs | false => ptrIds r vs) = _
  by_cases h : 2 ≤ g.mode
  · rw [if_pos h, Nat.ble_eq.mpr h]
  · rw [if_neg h]
    cases e : Nat.ble 2 g.mode with
    | true => exact absurd (Nat.ble_eq.mp e) h
    | false => rfl
theorem giveArgs_ok {gs bs : List Nat} : ∀ {ins : Args} {s s' : St} (R : Rel w0 F0 s m ok a w) (hf : Fewer s0 s) (hids : All2 (Lies m s.n) gs bs) {vs : List V} {us : List Value}, giveArgs s gs ins vs = some s' → All2 (VR w ok m s.n) vs us →
    ∃ F, Rel w0 F0 s' m ok a w ∧ Took s m ok F s' ok ∧ Fewer s s' ∧
      (∀ {s1 : St} (R1 : Rel w0 F0 s1 m ok a w) (hn : s1.n = s.n) (h1 : Fewer s' s1) {x : ins.T}, getArgs s0 s1 ins vs = some x → ArgsR w (fun b => ok b ∨ pool s1 m b) bs ins x us F) ∧
      (backIds ins.ptrs (ptrIds ins vs)).Nodup ∧ (∀ o ∈ backIds ins.ptrs (ptrIds ins vs), s.obj o ≠ .dead ∧ s'.obj o = .dead ∧ ∃ b, b ∈ F ∧ (m o).addr = some ⟨b, 0, none⟩)
  | [], s, s', R, hf, hids, vs, us, h, hv => by
    cases vs with
    | nil =>
      have e : s = s' := Option.some.inj (show some s = some s' from h)
      subst e
      cases hv
      exact ⟨[], R, Took.refl _ _ _, Fewer.refl _, fun _ _ _ _ _ => ⟨rfl, rfl⟩, List.nodup_nil, nofun⟩
    | cons v vs => exact absurd (show none = some s' from h) nofun
  | g :: r, s, s', R, hf, hids, vs, us, h, hv => by
    match vs, us, hv with
    | [], _, _ => exact absurd (show none = some s' from h) nofun
    | v :: vs, u :: us, .cons hv1 hv2 =>
      have h' : (match giveArg s gs g v with | some s => giveArgs s gs r vs | none => none) = some s' := h
      split at h'
      case h_2 => cases h'
      rename_i s2 h2
      obtain ⟨F1, R2, T1, W1, k1, d1, p1⟩ := giveArg_ok R hf hids h2 hv1
      obtain ⟨F2, R3, T2, W2, k2, nd2, d2⟩ := giveArgs_ok R2 (hf.trans W1) (by rw [T1.n]; exact hids) h' (T1.keepVRxs hv2)
      refine ⟨F1 ++ F2, R3, T1.trans T2, W1.trans W2, fun {s1} R4 hn h1 {x} hx => ?_, ?_, ?_⟩
      · have hx' : (match getArg s0 s1 g v with
          | some x => match getArgs s0 s1 r vs with
            | some y => some (ajoin g r x y)
            | none => none
          | none => none : Option (Args.T (g :: r))) = some x := hx
        split at hx'
        case h_2 => cases hx'
        rename_i x1 hx1
        split at hx'
        case h_2 => cases hx'
        rename_i y1 hy1
        have e : ajoin g r x1 y1 = x := Option.some.inj hx'
        subst e
        refine ⟨u, us, F1, F2, rfl, rfl, ?_, ?_⟩
        · rw [afst_join]; exact k1 R4 hn (W2.trans h1) hx1
        · rw [asnd_join]; exact k2 R4 (hn.trans T1.n.symm) h1 hy1
      all_goals rw [ptrs_cons, ptrIds_cons]
      all_goals by_cases hm : 2 ≤ g.mode
      all_goals first | (rw [if_pos hm, if_pos hm]) | (rw [if_neg hm, if_neg hm])
      · obtain ⟨o, ev⟩ := p1 hm
        subst ev
        unfold backIds
        split
        · rename_i h23
          obtain ⟨o', eo, ho1, ho2, _⟩ := d1 h23
          cases eo
          exact List.nodup_cons.2 ⟨fun hm => (d2 o hm).1 ho2, nd2⟩
        · exact nd2
      · exact nd2
      · obtain ⟨o, ev⟩ := p1 hm
        subst ev
        intro o' ho'
        unfold backIds at ho'
        rcases List.mem_append.1 ho' with ho' | ho'
        · split at ho'
          · rename_i h23
            obtain ⟨o2, eo, ho1, ho2, b, hb, had⟩ := d1 h23
            cases eo
            have : o' = o := by simpa using ho'
            subst this
            exact ⟨ho1, T2.dead _ ho2, b, List.mem_append_left _ hb, had⟩
          · cases ho'
        · obtain ⟨h1, h2, b, hb, had⟩ := d2 o' ho'
          exact ⟨fun hd => h1 (T1.dead _ hd), h2, b, List.mem_append_right _ hb, had⟩
      · intro o' ho'
        obtain ⟨h1, h2, b, hb, had⟩ := d2 o' ho'
        exact ⟨fun hd => h1 (T1.dead _ hd), h2, b, List.mem_append_right _ hb, had⟩
/-- where the variables lie that are handed over -/
theorem ids_ok {gs : List Nat} : ∀ {ins : Args} {s s' s1 : St} (R : Rel w0 F0 s0 m ok a w) (hf : Fewer s0 s) (hf1 : Fewer s0 s1) {vs : List V} {us : List Value} {x : ins.T}, giveArgs s gs ins vs = some s' → getArgs s0 s1 ins vs = some x → All2 (VR w ok m s0.n) vs us →
    All2 (Lies m s0.n) (ptrIds ins vs) (ptrBlocks ins us)
  | [], s, s', s1, R, hf, hf1, vs, us, x, h, hx, hv => by
    cases vs with
    | nil => cases hv; exact .nil
    | cons v vs => exact absurd (show none = some s' from h) nofun
  | g :: r, s, s', s1, R, hf, hf1, vs, us, x, h, hx, hv => by
    match vs, us, hv with
    | [], _, _ => exact absurd (show none = some s' from h) nofun
    | v :: vs, u :: us, .cons hv1 hv2 =>
      have h' : (match giveArg s gs g v with | some s => giveArgs s gs r vs | none => none) = some s' := h
      split at h'
      case h_2 => cases h'
      rename_i s2 h2
      have hx' : (match getArg s0 s1 g v with
          | some x => match getArgs s0 s1 r vs with
            | some y => some (ajoin g r x y)
            | none => none
          | none => none : Option (Args.T (g :: r))) = some x := hx
      split at hx'
      case h_2 => cases hx'
      rename_i x1 hx1
      split at hx'
      case h_2 => cases hx'
      rename_i y1 hy1
      have box : ∀ {o : Nat} {cs : List V}, v = .ptr o 0 → s0.obj o = .box cs → ∃ b, u = .pointer (some ⟨b, 0, none⟩) ∧ Lies m s0.n o b := fun {o cs} e ho => by
        subst e
        obtain ⟨hlt, ad, had, hu⟩ := hv1
        have hor := R.objs o
        rw [ho] at hor
        obtain ⟨b, _, _, _, hb, _⟩ := hor
        rw [had] at hb
        cases hb
        exact ⟨b, hu, hlt, had⟩
      have fbox : ∀ {o : Nat} {row : List CK} {y : Row row}, v = .ptr o 0 → s0.obj o = .fbox row y → ∃ b, u = .pointer (some ⟨b, 0, none⟩) ∧ Lies m s0.n o b := fun {o row y} e ho => by
        subst e
        obtain ⟨hlt, ad, had, hu⟩ := hv1
        have hor := R.objs o
        rw [ho] at hor
        obtain ⟨b, hb, _⟩ := hor
        rw [had] at hb
        cases hb
        exact ⟨b, hu, hlt, had⟩
      have one : 2 ≤ g.mode → ∃ o b, v = .ptr o 0 ∧ u = .pointer (some ⟨b, 0, none⟩) ∧ Lies m s0.n o b := fun hm => by
        unfold giveArg at h2
        split at h2
        · rename_i o _
          split at h2
          case h_2 => cases h2
          rename_i hob
          obtain ⟨b, h3, h4⟩ := box rfl (hf.of_some hob nofun)
          exact ⟨o, b, rfl, h3, h4⟩
        · rename_i o _
          split at h2
          case h_2 => cases h2
          rename_i hob
          obtain ⟨b, h3, h4⟩ := box rfl (hf.of_some hob nofun)
          exact ⟨o, b, rfl, h3, h4⟩
        · rename_i o hm4
          unfold getArg at hx1
          rw [hm4] at hx1
          simp only at hx1
          split at hx1
          case h_2 => cases hx1
          split at hx1
          · rename_i hob
            obtain ⟨b, h3, h4⟩ := box rfl (hf1.of_some hob nofun)
            exact ⟨o, b, rfl, h3, h4⟩
          · rename_i hob
            obtain ⟨b, h3, h4⟩ := fbox rfl (hf1.of_some hob nofun)
            exact ⟨o, b, rfl, h3, h4⟩
          · cases hx1
        · rename_i e; rw [e] at hm; omega
        · rename_i e; rw [e] at hm; omega
        · cases h2
      have W1 : Fewer s0 s2 := by
        unfold giveArg at h2
        have hgc : ∀ {cells : List (CK × Bool)} {s s' : St} {vs : List V}, giveCells s cells vs = some s' → Fewer s s' := by
          intro cells
          induction cells with
          | nil =>
            intro s s' vs h
            cases vs with
            | nil =>
              have e : s = s' := Option.some.inj (show some s = some s' from h)
              subst e; exact Fewer.refl _
            | cons _ _ => exact absurd (show none = some s' from h) nofun
          | cons d ds ih =>
            obtain ⟨c, own⟩ := d
            intro s s' vs h
            cases vs with
            | nil => exact absurd (show none = some s' from h) nofun
            | cons v vs =>
              cases own with
              | false => exact ih (show giveCells s ds vs = some s' from h)
              | true =>
                have h' : (match V.get s c v, V.after s 2 v with | some _, some s => giveCells s ds vs | _, _ => none) = some s' := h
                split at h'
                case h_2 => cases h'
                rename_i ha
                exact (after_fewer ha).trans (ih h')
        refine hf.trans ?_
        split at h2
        · split at h2
          case h_2 => cases h2
          exact (Fewer.kill _ _).trans (hgc h2)
        · split at h2
          case h_2 => cases h2
          split at h2
          case h_2 => cases h2
          cases h2; exact Fewer.kill _ _
        · cases h2; exact Fewer.refl _
        · exact hgc h2
        · exact hgc h2
        · cases h2
      have ih := ids_ok (gs := gs) R W1 hf1 h' hy1 hv2
      rw [ptrIds_cons]
      by_cases hm : 2 ≤ g.mode
      · rw [if_pos hm]
        obtain ⟨o, b, ev, eu, hl⟩ := one hm
        subst ev
        subst eu
        have : ptrBlocks (g :: r) (.pointer (some ⟨b, 0, none⟩) :: us) = b :: ptrBlocks r us := by simp [ptrBlocks, hm, blk]
        rw [this]
        exact .cons hl ih
      · rw [if_neg hm]
        have : ptrBlocks (g :: r) (u :: us) = ptrBlocks r us := by simp [ptrBlocks, hm]
        rw [this]
        exact ih
end
end Rig
