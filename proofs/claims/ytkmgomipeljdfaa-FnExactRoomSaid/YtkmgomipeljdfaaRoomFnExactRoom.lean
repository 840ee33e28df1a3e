/- Part of Rig, a reflective evaluator of this project's own: a function's code, run over typed data by Lean's kernel, gives its contract. No condition. -/
import Derived.Test.YtkmgomipeljdfaaAllFnExactRoom
set_option linter.unusedVariables false
noncomputable section
namespace Rig.Pure
open Go (IntKind)
/-! ### pages for so many items -/
def pagesRight (n : Nat) : Bool := decide (spec_PagesFor_N 6 (n : Int) = impl_PagesFor_R 6 (n : Int) ∧ (spec_PagesFor_N 6 (n : Int)).isSome = true)
theorem pages_small : ∀ n : Nat, n ≤ 40 → pagesRight n = true := by
  have h : (List.range 41).all pagesRight = true := by decide +kernel
  intro n hn
  exact List.all_eq_true.1 h n (by simp; omega)
theorem pagesFor_eq (n : Nat) : ∃ y, spec_PagesFor (n : Int) = some y ∧ impl_PagesFor (n : Int) = some y := by
  by_cases h : n ≤ 40
  · have h1 := of_decide_eq_true (pages_small n h)
    obtain ⟨y, hy⟩ := Option.isSome_iff_exists.1 h1.2
    exact ⟨y, spec_PagesFor_of hy, impl_PagesFor_of (h1.1 ▸ hy)⟩
  · refine ⟨0, spec_PagesFor_of (n := 1) ?_, impl_PagesFor_of (k := 1) ?_⟩
    · simp only [spec_PagesFor_N, in_eq, dbind_s]
      rw [decide_eq_false (by omega), dnot_f, dif_t]
    · simp only [impl_PagesFor_R, impl_PagesFor_N, impl_in]
      rw [ile_t (by omega), dif_t, ile_f (by omega), dbind_s, dnot_f, dif_t]
theorem room_eq (b : BookT) (hb : PagesSmall b.2) : ∃ y, spec_Room b = some y ∧ impl_Room b = some y := by
  obtain ⟨y, h1, h2⟩ := pagesFor_eq (all b).length
  simp only [spec_Room, impl_Room, spec_Reach_eq b hb, impl_Reach_eq b hb, spec_All_eq b hb, impl_All_eq b hb, dbind_s, dlen_eq, h1, h2]
  exact ⟨_, rfl, rfl⟩
theorem FnExactRoom_true (b : BookT) (h : PagesGood b.2) : laws_FnExactRoom b = some true := by
  simp only [laws_FnExactRoom]
  obtain ⟨r, hr, h2⟩ := szBook_some b 1048576 h (by omega) (by omega)
  rw [hr, dbind_s]
  rcases h2 with h2 | ⟨h2, h3, _⟩
  · rw [ilt_t h2, dif_t]
  rw [ilt_f (by omega), dif_f]
  obtain ⟨y, e1, e2⟩ := room_eq b h2
  simp only [toBook_eq b h2, dbind_s, e1, e2, dneb_self, dif_f, eqBook_self b h2, dnot_t]
end Rig.Pure
