/- Part of Rig, a reflective evaluator of this project's own: a function's code, run over typed data by Lean's kernel, gives its contract. No condition. -/
import Derived.Test.YtkmgomipeljdfaaRigTake3
set_option linter.unusedVariables false
set_option linter.unusedSimpArgs false
namespace Rig
open Go
section
variable {w0 w w' : World} {F0 : Own} {s s' : St} {m : Nat → Loc} {ok ok' : Nat → Prop} {a : Act}

theorem Took.keepVRx {F : List Nat} (T : Took s m ok F s' ok') {v : V} {u : Value} (h : VR w ok m s.n v u) : VR w ok' m s'.n v u :=
  h.keep (fun _ _ => rfl) T.okm (by rw [T.n]; exact Nat.le_refl _) (fun _ _ => rfl)
theorem Took.keepVRxs {F : List Nat} (T : Took s m ok F s' ok') {vs : List V} {us : List Value} (h : All2 (VR w ok m s.n) vs us) : All2 (VR w ok' m s'.n) vs us :=
  h.imp fun _ _ => T.keepVRx

theorem takeArgs_one : ∀ {ins : Args} {s s' : St} {ok : Nat → Prop} (R : Rel w0 F0 s m ok a w) {vs : List V} {x : ins.T} {os : List Nat} {us : List Value},
    takeArgs s 1 ins vs = some (x, os, s') → All2 (VR w ok m s.n) vs us →
    ∃ ok' F, Rel w0 F0 s' m ok' a w ∧ Took s m ok F s' ok' ∧ ArgsR w ok' ins x us F ∧
      All2 (fun o b => o < s.n ∧ (m o).addr = some ⟨b, 0, none⟩ ∧ s'.obj o = .dead ∧ b ∈ F) os (ptrBlocks ins us)
  | [], s, s', ok, R, vs, x, os, us, h, hv => by
    cases vs with
    | nil =>
      have he := Option.some.inj (show some ((), ([] : List Nat), s) = some (x, os, s') from h)
      have e2 : [] = os := congrArg (·.2.1) he
      have e3 : s = s' := congrArg (·.2.2) he
      subst e2
      subst e3
      cases hv
      exact ⟨ok, [], R, Took.refl _ _ _, ⟨rfl, rfl⟩, .nil⟩
    | cons v vs => exact absurd (show none = some (x, os, s') from h) nofun
  | g :: r, s, s', ok, R, vs, x, os, us, h, hv => by
    match vs, us, hv with
    | [], _, _ => exact absurd (show none = some (x, os, s') from h) nofun
    | v :: vs, u :: us, .cons hv1 hv2 =>
      have h' : (match takeArg s 1 g v with
        | some (x, os, s) => match takeArgs s 1 r vs with
          | some (y, os', s) => some (ajoin g r x y, lapp os os', s)
          | none => none
        | none => none : Option (Args.T (g :: r) × List Nat × St)) = some (x, os, s') := h
      split at h'
      case h_2 => cases h'
      rename_i x1 os1 s1 h1
      split at h'
      case h_2 => cases h'
      rename_i y os2 s2 h2
      have he := Option.some.inj h'
      have e1 : ajoin g r x1 y = x := congrArg Prod.fst he
      have e2 : lapp os1 os2 = os := congrArg (·.2.1) he
      have e3 : s2 = s' := congrArg (·.2.2) he
      subst e1
      subst e2
      subst e3
      obtain ⟨ok1, F1, R1, T1, hA1, hp1, hn1⟩ := takeArg_one R h1 hv1
      obtain ⟨ok2, F2, R2, T2, hA2, hp2⟩ := takeArgs_one R1 h2 (T1.keepVRxs hv2)
      refine ⟨ok2, F1 ++ F2, R2, T1.trans T2, ⟨u, us, F1, F2, rfl, rfl, ?_, ?_⟩, ?_⟩
      · rw [afst_join]; exact hA1.keep (fun _ _ => rfl) T2.okm (fun _ _ => rfl)
      · rw [asnd_join]; exact hA2
      · rw [lapp_eq]
        have hp2' := hp2.imp (S := fun o b => o < s.n ∧ (m o).addr = some ⟨b, 0, none⟩ ∧ s2.obj o = .dead ∧ b ∈ F1 ++ F2) (fun o b ⟨h1, h2, h3, h4⟩ => ⟨by rw [← T1.n]; exact h1, h2, h3, List.mem_append_right _ h4⟩)
        by_cases hm : g.mode = 2
        · obtain ⟨o, b, e, hlt, hu, had, hd, hb⟩ := hp1 hm
          subst e
          subst hu
          have : ptrBlocks (g :: r) (.pointer (some ⟨b, 0, none⟩) :: us) = b :: ptrBlocks r us := by simp [ptrBlocks, hm, blk]
          rw [this]
          exact .cons ⟨hlt, had, T2.dead o hd, List.mem_append_left _ hb⟩ hp2'
        · have e := hn1 hm
          subst e
          have : ptrBlocks (g :: r) (u :: us) = ptrBlocks r us := by simp [ptrBlocks, hm]
          rw [this]
          exact hp2'

/-! #### nothing frozen, nothing given away -/
theorem take_zero (R : Rel w0 F0 s m ok a w) {c : CK} {v : V} {x : c.ty} {u : Value} (h : V.take s 0 c v = some (x, s')) (hv : VR1 w ok m s.n v u) :
    s' = s ∧ TR w (fun b => ok b ∨ pool s m b) c false x u [] := by
  unfold V.take at h
  split at h
  case h_1 => cases h
  rename_i x' hg
  split at h
  case h_2 => cases h
  rename_i s1 ha
  have he' := Option.some.inj h
  have e1 : x' = x := congrArg Prod.fst he'
  have e2 : s1 = s' := congrArg Prod.snd he'
  subst e1
  subst e2
  refine ⟨?_, TR_read (get_rd R hg hv).1⟩
  unfold V.after at ha
  split at ha
  · split at ha
    · exact (Option.some.inj ha).symm
    · cases ha
  · exact (Option.some.inj ha).symm
  · exact (Option.some.inj ha).symm
theorem takes_zero (s : St) (ok : Nat → Prop) (R : Rel w0 F0 s m ok a w) (s' : St) : ∀ (cells : List (CK × Bool)) (hc : anyOwn cells = false) {vs : List V} {x : Row (kinds cells)} {us : List Value},
    takeCells s 0 cells vs = some (x, s') → All2 (VR1 w ok m s.n) vs us → s' = s ∧ TRs w (fun b => ok b ∨ pool s m b) cells x us []
  | [], _, vs, x, us, h, hv => by
    cases vs with
    | nil =>
      have he := Option.some.inj (show some ((), s) = some (x, s') from h)
      cases hv
      exact ⟨(congrArg Prod.snd he).symm, rfl, rfl⟩
    | cons v vs => exact absurd (show none = some (x, s') from h) nofun
  | [(c, own)], hc, vs, x, us, h, hv => by
    have hown : own = false := by cases own <;> simp_all [anyOwn]
    subst hown
    match vs, hv with
    | [], _ => exact absurd (show none = some (x, s') from h) nofun
    | [v], .cons hv1 .nil =>
      obtain ⟨e, ht⟩ := take_zero R (show V.take s 0 c v = some (x, s') from h) hv1
      exact ⟨e, _, rfl, ht⟩
    | v :: v' :: vs, _ => exact absurd (show none = some (x, s') from h) nofun
  | (c, own) :: c' :: cs, hc, vs, x, us, h, hv => by
    have hown : own = false ∧ anyOwn (c' :: cs) = false := by
      cases own
      · exact ⟨rfl, hc⟩
      · exact absurd (show true = false from hc) nofun
    obtain ⟨hown, hc⟩ := hown
    subst hown
    match vs, us, hv with
    | [], _, _ => exact absurd (show none = some (x, s') from h) nofun
    | v :: vs, u :: us, .cons hv1 hv2 =>
      have h' : (match V.take s 0 c v with
        | some (x, s) => match takeCells s 0 (c' :: cs) vs with
          | some (y, s) => some ((x, y), s)
          | none => none
        | none => none : Option (Row (kinds ((c, false) :: c' :: cs)) × St)) = some (x, s') := h
      split at h'
      case h_2 => cases h'
      rename_i x1 s1 h1
      split at h'
      case h_2 => cases h'
      rename_i y s2 h2
      have he := Option.some.inj h'
      have e1 : (x1, y) = x := congrArg Prod.fst he
      have e2 : s2 = s' := congrArg Prod.snd he
      subst e1
      subst e2
      obtain ⟨e, ht1⟩ := take_zero R h1 hv1
      rw [e] at h2
      obtain ⟨e, ht2⟩ := takes_zero s ok R s2 (c' :: cs) hc h2 hv2
      exact ⟨e, u, us, [], [], rfl, rfl, ht1, ht2⟩
theorem takeArg_zero (R : Rel w0 F0 s m ok a w) {g : Arg} (hg : Args.gives [g] = false) {v : V} {x : Row (kinds g.cells)} {os : List Nat} {u : Value} (h : takeArg s 0 g v = some (x, os, s')) (hv : VR w ok m s.n v u) :
    s' = s ∧ os = [] ∧ ArgR w (fun b => ok b ∨ pool s m b) g x u [] := by
  have hm2 : g.mode ≠ 2 := fun e => by simp [Args.gives, e] at hg
  have hc : anyOwn g.cells = false := by
    cases h : anyOwn g.cells
    · rfl
    · simp [Args.gives, h] at hg
  unfold takeArg at h
  split at h
  · rename_i hm; exact absurd hm hm2
  · rename_i vs hm
    split at h
    case h_2 => cases h
    rename_i x1 s1 h1
    have he := Option.some.inj h
    have e1 : x1 = x := congrArg Prod.fst he
    have e2 : [] = os := congrArg (·.2.1) he
    have e3 : s1 = s' := congrArg (·.2.2) he
    subst e1
    subst e2
    subst e3
    obtain ⟨cs, hu, ha⟩ := hv
    obtain ⟨e, ht⟩ := takes_zero s ok R _ _ hc h1 ha
    refine ⟨e, rfl, ?_⟩
    unfold ArgR
    rw [hm]
    exact ⟨cs, hu, ht⟩
  · rename_i hm
    split at h
    case h_2 => cases h
    rename_i x1 s1 h1
    have he := Option.some.inj h
    have e1 : x1 = x := congrArg Prod.fst he
    have e2 : [] = os := congrArg (·.2.1) he
    have e3 : s1 = s' := congrArg (·.2.2) he
    subst e1
    subst e2
    subst e3
    obtain ⟨e, ht⟩ := takes_zero s ok R _ _ hc h1 (.cons (hv.as1 (takeCells_single h1)) .nil)
    refine ⟨e, rfl, ?_⟩
    unfold ArgR
    rw [hm]
    exact ht
  · cases h
theorem takeArgs_zero (s : St) (ok : Nat → Prop) (R : Rel w0 F0 s m ok a w) (s' : St) : ∀ (ins : Args) (hg : ins.gives = false) {vs : List V} {x : ins.T} {os : List Nat} {us : List Value}, takeArgs s 0 ins vs = some (x, os, s') → All2 (VR w ok m s.n) vs us →
    s' = s ∧ os = [] ∧ ArgsR w (fun b => ok b ∨ pool s m b) ins x us []
  | [], _, vs, x, os, us, h, hv => by
    cases vs with
    | nil =>
      have he := Option.some.inj (show some ((), ([] : List Nat), s) = some (x, os, s') from h)
      cases hv
      exact ⟨(congrArg (·.2.2) he).symm, (congrArg (·.2.1) he).symm, rfl, rfl⟩
    | cons v vs => exact absurd (show none = some (x, os, s') from h) nofun
  | g :: r, hg, vs, x, os, us, h, hv => by
    have hg1 : Args.gives [g] = false ∧ Args.gives r = false := by
      have hg' : (match Nat.beq g.mode 2, anyOwn g.cells with | false, false => Args.gives r | _, _ => true) = false := hg
      split at hg'
      · rename_i e1 e2
        refine ⟨?_, hg'⟩
        show (match Nat.beq g.mode 2, anyOwn g.cells with | false, false => false | _, _ => true) = false
        rw [e1, e2]
      · cases hg'
    match vs, us, hv with
    | [], _, _ => exact absurd (show none = some (x, os, s') from h) nofun
    | v :: vs, u :: us, .cons hv1 hv2 =>
      have h' : (match takeArg s 0 g v with
        | some (x, os, s) => match takeArgs s 0 r vs with
          | some (y, os', s) => some (ajoin g r x y, lapp os os', s)
          | none => none
        | none => none : Option (Args.T (g :: r) × List Nat × St)) = some (x, os, s') := h
      split at h'
      case h_2 => cases h'
      rename_i x1 os1 s1 h1
      split at h'
      case h_2 => cases h'
      rename_i y os2 s2 h2
      have he := Option.some.inj h'
      have e1 : ajoin g r x1 y = x := congrArg Prod.fst he
      have e2 : lapp os1 os2 = os := congrArg (·.2.1) he
      have e3 : s2 = s' := congrArg (·.2.2) he
      subst e1
      subst e2
      subst e3
      obtain ⟨e, e', hA1⟩ := takeArg_zero R hg1.1 h1 hv1
      rw [e] at h2
      subst e'
      obtain ⟨e, e', hA2⟩ := takeArgs_zero s ok R s2 r hg1.2 h2 hv2
      subst e
      subst e'
      refine ⟨rfl, rfl, u, us, [], [], rfl, rfl, ?_, ?_⟩
      · rw [afst_join]; exact hA1
      · rw [asnd_join]; exact hA2
end
end Rig
