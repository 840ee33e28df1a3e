/- Part of Rig, a reflective evaluator of this project's own: a function's code, run over typed data by Lean's kernel, gives its contract. No condition. -/
import Derived.Test.YthcokbkmpkkioaaRigBTake3
set_option linter.unusedVariables false
set_option linter.unusedSimpArgs false
namespace Rig
open Go
section
variable {w0 w w' : World} {F0 : Own} {s s' : St} {m : Nat → Loc} {ok ok' : Nat → Prop} {a : Act}

theorem Took.keepVRx {F : List Nat} (T : Took s m ok F s' ok') {v : V} {u : Value} (h : VR w ok m s.n v u) : VR w ok' m s'.n v u :=
  h.keep (fun _ _ => rfl) T.okm (by rw [T.n]; exact Nat.le_refl _) (fun _ _ => rfl)
theorem Took.keepVRxs {F : List Nat} (T : Took s m ok F s' ok') {vs : List V} {us : List Value} (h : All2 (VR w ok m s.n) vs us) : All2 (VR w ok' m s'.n) vs us :=
  h.imp fun _ _ => T.keepVRx

theorem takeArgs_one {gs : List Nat} : ∀ {ins : Args} {s s' : St} {ok : Nat → Prop} (R : Rel w0 F0 s m ok a w) {vs : List V} {x : ins.T} {os : List Nat} {us : List Value},
    takeArgs s 1 ins vs = some (x, os, s') → All2 (VR w ok m s.n) vs us →
    ∃ ok' F, Rel w0 F0 s' m ok' a w ∧ Took s m ok F s' ok' ∧ ArgsR w ok' gs ins x us F ∧ (∀ g ∈ ins, g.mode ≤ 2) ∧
      All2 (fun o b => o < s.n ∧ (m o).addr = some ⟨b, 0, none⟩ ∧ s'.obj o = .dead ∧ b ∈ F) os (ptrBlocks ins us)
  | [], s, s', ok, R, vs, x, os, us, h, hv => by
    cases vs with
    | nil =>
      have he := Option.some.inj (show some ((), ([] : List Nat), s) = some (x, os, s') from h)
      have e2 : [] = os := congrArg (·.2.1) he
      have e3 : s = s' := congrArg (·.2.2) he
      subst e2
      subst e3
      cases hv
      exact ⟨ok, [], R, Took.refl _ _ _, ⟨rfl, rfl⟩, nofun, .nil⟩
    | cons v vs => exact absurd (show none = some (x, os, s') from h) nofun
  | g :: r, s, s', ok, R, vs, x, os, us, h, hv => by
    match vs, us, hv with
    | [], _, _ => exact absurd (show none = some (x, os, s') from h) nofun
    | v :: vs, u :: us, .cons hv1 hv2 =>
      have h' : (match takeArg s 1 g v with
        | some (x, os, s) => match takeArgs s 1 r vs with
          | some (y, os', s) => some (ajoin g r x y, lapp os os', s)
          | none => none
        | none => none : Option (Args.T (g :: r) × List Nat × St)) = some (x, os, s') := h
      split at h'
      case h_2 => cases h'
      rename_i x1 os1 s1 h1
      split at h'
      case h_2 => cases h'
      rename_i y os2 s2 h2
      have he := Option.some.inj h'
      have e1 : ajoin g r x1 y = x := congrArg Prod.fst he
      have e2 : lapp os1 os2 = os := congrArg (·.2.1) he
      have e3 : s2 = s' := congrArg (·.2.2) he
      subst e1
      subst e2
      subst e3
      obtain ⟨ok1, F1, R1, T1, hA1, hm1, hp1, hn1⟩ := takeArg_one (bs := gs) R h1 hv1
      obtain ⟨ok2, F2, R2, T2, hA2, hm2, hp2⟩ := takeArgs_one (gs := gs) R1 h2 (T1.keepVRxs hv2)
      refine ⟨ok2, F1 ++ F2, R2, T1.trans T2, ⟨u, us, F1, F2, rfl, rfl, ?_, ?_⟩, (fun g' hg' => (List.mem_cons.1 hg').elim (fun e => e ▸ hm1) (hm2 g')), ?_⟩
      · rw [afst_join]; exact hA1.keep (Nat.le_refl _) (fun _ _ => rfl) T2.okm (fun _ _ => rfl)
      · rw [asnd_join]; exact hA2
      · rw [lapp_eq]
        have hp2' := hp2.imp (S := fun o b => o < s.n ∧ (m o).addr = some ⟨b, 0, none⟩ ∧ s2.obj o = .dead ∧ b ∈ F1 ++ F2) (fun o b ⟨h1, h2, h3, h4⟩ => ⟨by rw [← T1.n]; exact h1, h2, h3, List.mem_append_right _ h4⟩)
        by_cases hm : g.mode = 2
        · obtain ⟨o, b, e, hlt, hu, had, hd, hb⟩ := hp1 hm
          subst e
          subst hu
          have : ptrBlocks (g :: r) (.pointer (some ⟨b, 0, none⟩) :: us) = b :: ptrBlocks r us := by simp [ptrBlocks, hm, blk]
          rw [this]
          exact .cons ⟨hlt, had, T2.dead o hd, List.mem_append_left _ hb⟩ hp2'
        · have e := hn1 hm
          subst e
          have hm' : ¬ 2 ≤ g.mode := fun h => hm (Nat.le_antisymm hm1 h)
          have : ptrBlocks (g :: r) (u :: us) = ptrBlocks r us := by simp [ptrBlocks, hm']
          rw [this]
          exact hp2'

end
end Rig
