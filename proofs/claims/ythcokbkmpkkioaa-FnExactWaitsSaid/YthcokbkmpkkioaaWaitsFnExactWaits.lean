/- Part of Rig, a reflective evaluator of this project's own: a function's code, run over typed data by Lean's kernel, gives its contract. No condition. -/
import Derived.Test.YthcokbkmpkkioaaAllFnExactWaits
set_option linter.unusedVariables false
noncomputable section
namespace Rig.Pure
open Go (IntKind)
/-! ### pages for so many items -/
def pagesRight (n : Nat) : Bool := decide (spec_PagesFor_N 6 (n : Int) = impl_PagesFor_R 6 (n : Int) ∧ (spec_PagesFor_N 6 (n : Int)).isSome = true)
theorem pages_small : ∀ n : Nat, n ≤ 40 → pagesRight n = true := by
  have h : (List.range 41).all pagesRight = true := by decide +kernel
  intro n hn
  exact List.all_eq_true.1 h n (by simp; omega)
theorem pagesFor_eq (n : Nat) : ∃ y, spec_PagesFor (n : Int) = some y ∧ impl_PagesFor (n : Int) = some y := by
  by_cases h : n ≤ 40
  · have h1 := of_decide_eq_true (pages_small n h)
    obtain ⟨y, hy⟩ := Option.isSome_iff_exists.1 h1.2
    exact ⟨y, spec_PagesFor_of hy, impl_PagesFor_of (h1.1 ▸ hy)⟩
  · refine ⟨0, spec_PagesFor_of (n := 1) ?_, impl_PagesFor_of (k := 1) ?_⟩
    · simp only [spec_PagesFor_N, in_eq, dbind_s]
      rw [decide_eq_false (by omega), dnot_f, dif_t]
    · simp only [impl_PagesFor_R, impl_PagesFor_N, impl_in]
      rw [ile_t (by omega), dif_t, ile_f (by omega), dbind_s, dnot_f, dif_t]
theorem spec_StepsFor_eq (n m : Nat) : ∃ y, spec_StepsFor ((n : Int), (m : Int)) = some y ∧ impl_StepsFor ((n : Int), (m : Int)) = some y := by
  obtain ⟨y, h1, h2⟩ := pagesFor_eq n
  simp only [spec_StepsFor, impl_StepsFor, impl_in, in_eq, dbind_s]
  rw [ile_t (show (0 : Int) ≤ n by omega), dif_t, ile_t (show (0 : Int) ≤ m by omega), dif_t, dbind_s, dbind_s]
  by_cases hn : (n : Int) ≤ 40
  · rw [decide_eq_true (show (0 : Int) ≤ n ∧ (n : Int) ≤ 40 from ⟨by omega, hn⟩), ile_t hn, dnot_t, dif_f, dif_f]
    by_cases hm : (m : Int) ≤ 48
    · rw [decide_eq_true (show (0 : Int) ≤ m ∧ (m : Int) ≤ 48 from ⟨by omega, hm⟩), ile_t hm, dnot_t, dif_f, dif_f, h1, h2, dbind_s]
      exact ⟨_, rfl, rfl⟩
    · rw [decide_eq_false (show ¬ ((0 : Int) ≤ m ∧ (m : Int) ≤ 48) from fun h => hm h.2), ile_f hm, dnot_f, dif_t, dif_t]
      exact ⟨_, rfl, rfl⟩
  · rw [decide_eq_false (show ¬ ((0 : Int) ≤ n ∧ (n : Int) ≤ 40) from fun h => hn h.2), ile_f hn, dnot_f, dif_t, dif_t]
    exact ⟨_, rfl, rfl⟩
theorem waits_eq (x) (hb : PagesSmall (x : _ × _ × _ × _ × _ × List PageT × _).2.2.2.2.2.1) : ∃ y, spec_Waits x = some y ∧ impl_Waits x = some y := by
  obtain ⟨y, h1, h2⟩ := spec_StepsFor_eq (all (x.2.2.2.2.1, x.2.2.2.2.2.1)).length x.2.2.2.2.2.1.length
  simp only [spec_Waits, impl_Waits, spec_All_eq (x.2.2.2.2.1, x.2.2.2.2.2.1) hb, impl_All_eq (x.2.2.2.2.1, x.2.2.2.2.2.1) hb, dbind_s, dlen_eq, h1, h2]
  exact ⟨_, rfl, rfl⟩
theorem FnExactWaits_true (x) (h : G_Base x) : laws_FnExactWaits x = some true := by
  simp only [laws_FnExactWaits]
  obtain ⟨r, hr, h2⟩ := szBase_some x 1048576 h (by omega) (by omega)
  rw [hr, dbind_s]
  rcases h2 with h2 | ⟨h2, h3, _⟩
  · rw [ilt_t h2, dif_t]
  rw [ilt_f (by omega), dif_f]
  have hp : PagesSmall x.2.2.2.2.2.1 := by
    obtain ⟨a0, a1, a2, a3, a4, a5, a6⟩ := x
    have h' := h2
    exact pagesSmall_of h'.2.1
  obtain ⟨y, e1, e2⟩ := waits_eq x hp
  simp only [toBase_eq x h2, dbind_s, e1, e2, ine_f, eqBase_self x h2, dnot_t, dif_f]
end Rig.Pure
