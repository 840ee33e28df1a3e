/- Part of Rig, a reflective evaluator of this project's own: a function's code, run over typed data by Lean's kernel, gives its contract. No condition. -/
import Derived.Test.YthcokbkmpkkioaaRigBTake
set_option linter.unusedVariables false
set_option linter.unusedSimpArgs false
namespace Rig
open Go
section
variable {w0 w w' : World} {F0 : Own} {s s' : St} {m : Nat → Loc} {ok ok' : Nat → Prop} {a : Act}

theorem obj_lt (R : Rel w0 F0 s m ok a w) {o : Nat} (h : s.obj o ≠ .dead) : o < s.n := by
  rcases Nat.lt_or_ge o s.n with h' | h'
  · exact h'
  · exact absurd (R.live o h') h

theorem TR_read {c : CK} {x : c.ty} {u : Value} (h : c.rd w ok x u) : TR w ok c false x u [] := by
  cases c <;> exact ⟨h, rfl⟩
/-- an object that has its block for itself is given away -/
theorem give_obj (R : Rel w0 F0 s m ok a w) {o b : Nat} (hex : ex s m o b) : Rel w0 F0 (s.setObj o .dead) m ok a w ∧ Took s m ok [b] (s.setObj o .dead) ok :=
  ⟨R.setObj o .dead (fun _ => rfl) trivial (fun b' h => by
      have := h.2
      rw [St.obj_setObj, if_pos rfl] at this
      exact this.elim),
    ⟨rfl, rfl, rfl, fun _ h => h, fun _ h => .inl h, fun j b' hj => by
      obtain ⟨g1, g2⟩ := hj
      rw [St.obj_setObj] at g2
      by_cases hoj : o = j
      · rw [if_pos hoj] at g2; exact g2.elim
      · rw [if_neg hoj] at g2; exact ⟨g1, g2⟩, fun b' hb' => by
      have : b' = b := by simpa using hb'
      subst this; exact ⟨o, hex⟩, fun b' hb' => by
      have : b' = b := by simpa using hb'
      subst this; exact ⟨(R.exok o b' hex).1, fun ⟨j, hj⟩ => R.nex hex #[] j hj⟩, List.nodup_cons.2 ⟨by simp, List.nodup_nil⟩, fun j hj => by
      rw [St.obj_setObj]; split <;> first | rfl | exact hj⟩⟩
/-- a map is given away -/
theorem take_map (R : Rel w0 F0 s m ok a w) {v : V} {g : (CK.map).ty} {u : Value} {md : Nat} (hg : V.get s .map v = some g) (ha : V.after s md v = some s') (hv : VR1 w ok m s.n v u) :
    ∃ F, md = 2 ∧ Rel w0 F0 s' m ok a w ∧ Took s m ok F s' ok ∧ TR w ok .map true g u F := by
  obtain ⟨o, e, ho⟩ := get_map hg
  subst e
  unfold V.after at ha
  simp only at ha
  split at ha
  case h_2 => cases ha
  cases ha
  have hor := R.objs o
  rw [ho] at hor
  obtain ⟨b, es, clk, had, hh, hM⟩ := hor
  obtain ⟨_, b', had', hu⟩ := hv
  rw [had] at had'
  cases had'
  obtain ⟨R', T⟩ := give_obj R (o := o) (b := b) ⟨by rw [had]; rfl, by rw [ho]; trivial⟩
  exact ⟨[b], rfl, R', T, b, es, clk, hu, hh, hM, rfl⟩
/-- one cell handed on: frozen (own = false) or given away -/
theorem take_oneX (R : Rel w0 F0 s m ok a w) {c : CK} {own : Bool} {v : V} {x : c.ty} {u : Value} (h : V.take s (sel own 2 1) c v = some (x, s')) (hv : VR1 w ok m s.n v u) :
    ∃ ok' F, Rel w0 F0 s' m ok' a w ∧ Took s m ok F s' ok' ∧ TR w ok' c own x u F ∧ (own = true → ok' = ok) := by
  unfold V.take at h
  split at h
  case h_1 => cases h
  rename_i x' hg
  split at h
  case h_2 => cases h
  rename_i s1 ha
  have he' := Option.some.inj h
  have e1 : x' = x := congrArg Prod.fst he'
  have e2 : s1 = s' := congrArg Prod.snd he'
  subst e1
  subst e2
  clear h he'
  by_cases hcm : c = .map
  · subst hcm
    obtain ⟨F, hmd, R', T, hT⟩ := take_map R hg ha hv
    cases own with
    | false => cases hmd
    | true => exact ⟨ok, F, R', T, hT, fun _ => rfl⟩
  obtain ⟨h1, h2, h3⟩ := get_rd R hcm hg hv
  have plain : (∀ o, v ≠ .own o) → (own = true → (∀ row l, v ≠ .ro row l)) → s = s1 → ∃ ok' F, Rel w0 F0 s1 m ok' a w ∧ Took s m ok F s1 ok' ∧ TR w ok' c own x' u F ∧ (own = true → ok' = ok) := by
    intro hn hs e2
    subst e2
    refine ⟨ok, [], R, Took.refl _ _ _, ?_, fun _ => rfl⟩
    have hr := h2 hn
    cases own with
    | false => exact TR_read hr
    | true =>
      cases c with
      | slice row =>
        cases v <;> first | exact absurd (show none = some x' from hg) nofun | skip
        case nil =>
          have hv' : u = .slice none 0 0 := hv
          subst hv'
          obtain ⟨A, cc, e, hle, hx⟩ := hr
          injection e with e1 e2 e3
          exact ⟨⟨none, 0, 0, row.length⟩, rfl, ⟨e2, Nat.le_refl _, rfl, rfl⟩, rfl⟩
        case ro row' l => exact absurd rfl (hs rfl row' l)
        case own o => exact absurd rfl (hn o)
      | map => exact absurd rfl hcm
      | _ => exact ⟨hr, rfl⟩
  cases v with
  | own o =>
    obtain ⟨row, l, fz, ho, e, hx⟩ := h3 o rfl
    have ha' : (match s.obj o with
      | .arr row l fr => match sel own 2 1, fr with
        | 0, _ => some s
        | 1, _ => some (s.setObj o (.arr row l true))
        | _, false => some (s.setObj o .dead)
        | _, true => none
      | _ => none : Option St) = some s1 := ha
    rw [ho] at ha'
    have hv2 := hv.2
    subst e
    have hor := R.objs o
    rw [ho] at hor
    have hx' : x' = l := hx
    cases own with
    | false =>
      have e2 : s.setObj o (.arr row l true) = s1 := Option.some.inj ha'
      subst e2
      have Rf := R.freeze o ho
      refine ⟨_, [], Rf, ⟨rfl, rfl, rfl, fun _ h => .inl h, fun b hb => ?_, fun j b hj => ?_, (fun _ h => by cases h), (fun _ h => by cases h), List.nodup_nil, fun j hj => by
        rw [St.obj_setObj, if_neg (fun e => by subst e; rw [ho] at hj; cases hj)]; exact hj⟩, ?_, fun h => by cases h⟩
      · rcases hb with hb | hb
        · exact .inl hb
        · rcases OR.block_cases R (by rw [ho]; simp) hb with h | h
          · exact .inr ⟨o, h⟩
          · exact .inl h
      · obtain ⟨g1, g2⟩ := hj
        rw [St.obj_setObj] at g2
        by_cases hoj : o = j
        · rw [if_pos hoj] at g2; exact g2.elim
        · rw [if_neg hoj] at g2; exact ⟨g1, g2⟩
      · refine TR_read ?_
        rw [hv2, hx']
        exact hor.rd (fun _ h => .inl h) (fun b hb => .inr hb)
    | true =>
      cases fz with
      | true => exact absurd (show none = some s1 from ha') nofun
      | false =>
        have e2 : s.setObj o .dead = s1 := Option.some.inj ha'
        subst e2
        have hexo : ∀ b, (m o).addr.map (·.block) = some b → ex s m o b := fun b hb => ⟨hb, by rw [ho]; trivial⟩
        refine ⟨ok, ((m o).addr.map (·.block)).toList, R.setObj o .dead (fun _ => rfl) trivial (fun b hb => ?_), ⟨rfl, rfl, rfl, fun _ h => h, fun _ h => .inl h, fun j b hj => ?_, fun b hb => ?_, fun b hb => ?_, ?_, fun j hj => by
          rw [St.obj_setObj]; split <;> first | rfl | exact hj⟩, ?_, fun _ => rfl⟩
        · have := hb.2
          rw [St.obj_setObj, if_pos rfl] at this
          exact this.elim
        · obtain ⟨g1, g2⟩ := hj
          rw [St.obj_setObj] at g2
          by_cases hoj : o = j
          · rw [if_pos hoj] at g2; exact g2.elim
          · rw [if_neg hoj] at g2; exact ⟨g1, g2⟩
        · have hb' : (m o).addr.map (·.block) = some b := by
            rcases hm : (m o).addr.map (·.block) with _ | b'
            · rw [hm] at hb; cases hb
            · rw [hm] at hb
              have : b = b' := by simpa using hb
              rw [this]; exact hm
          exact ⟨o, hexo b hb'⟩
        · have hb' : (m o).addr.map (·.block) = some b := by
            rcases hm : (m o).addr.map (·.block) with _ | b'
            · rw [hm] at hb; cases hb
            · rw [hm] at hb
              have : b = b' := by simpa using hb
              rw [this]; exact hm
          exact ⟨(R.exok o b (hexo b hb')).1, fun ⟨j, hj⟩ => R.nex (hexo b hb') #[] j hj⟩
        · rcases hm : (m o).addr.map (·.block) with _ | b'
          · rw [hm]; exact List.nodup_nil
          · rw [hm]; exact List.nodup_cons.2 ⟨by simp, List.nodup_nil⟩
        · exact ⟨m o, hv2, by rw [hx']; exact hor, rfl⟩
  | ro row l =>
    cases own with
    | false => exact plain (fun o e => by cases e) (fun h => by cases h) (Option.some.inj (show some s = some s1 from ha))
    | true => exact absurd (show none = some s1 from ha) nofun
  | map o =>
    exfalso
    cases c <;> first | exact absurd (show none = some x' from hg) nofun | exact hcm rfl
  | _ => exact plain (fun o e => by cases e) (fun _ row l e => by cases e) (Option.some.inj (show some s = some s1 from ha))
theorem take_one (R : Rel w0 F0 s m ok a w) {c : CK} {own : Bool} {v : V} {x : c.ty} {u : Value} (h : V.take s (sel own 2 1) c v = some (x, s')) (hv : VR1 w ok m s.n v u) :
    ∃ ok' F, Rel w0 F0 s' m ok' a w ∧ Took s m ok F s' ok' ∧ TR w ok' c own x u F :=
  let ⟨ok', F, h1, h2, h3, _⟩ := take_oneX R h hv
  ⟨ok', F, h1, h2, h3⟩
end
end Rig
