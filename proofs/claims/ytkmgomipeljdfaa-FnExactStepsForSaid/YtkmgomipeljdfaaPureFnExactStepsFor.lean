/- For all pairs of numbers, the program's StepsFor returns what the reference's returns. No condition. -/
import Derived.Test.YtkmgomipeljdfaaPFnExactStepsForx1
namespace Go.Proofs.Ytkmgomipeljdfaa.Pure
open Go.RowKit Go.Proofs.Ytkmgomipeljdfaa.PFnExactStepsFor Go.Proofs.YtkmgomipeljdfaaW.PrintWords Go.Proofs.YtkmgomipeljdfaaW.PrintLast

theorem pages_nat : ∀ n : Nat, n < 41 → (spec_PagesFor.f 10 (n : Int) = impl_PagesFor.f 10 (n : Int) ∧ (impl_PagesFor.f 10 (n : Int)).isSome = true) := by decide +kernel

theorem pages (a : Int) (h0 : 0 ≤ a) (h1 : a ≤ 40) : ∃ r, spec_PagesFor.f 10 a = some r ∧ impl_PagesFor.f 10 a = some r := by
  obtain ⟨n, rfl⟩ := Int.eq_ofNat_of_zero_le h0
  obtain ⟨h, hs⟩ := pages_nat n (by omega)
  obtain ⟨r, hr⟩ := Option.isSome_iff_exists.1 hs
  exact ⟨r, h.trans hr, hr⟩

theorem FnExactStepsFor : laws_FnExactStepsFor.Pure := by
  intro a0 a1 _ _
  refine ⟨10, ?_⟩
  unfold laws_FnExactStepsFor.f spec_StepsFor.f impl_StepsFor.f spec_l1In.f impl_in.f
  simp only [ge_iff_le]
  by_cases h0 : 0 ≤ a0
  · by_cases h1 : a0 ≤ 40
    · obtain ⟨r, e1, e2⟩ := pages a0 h0 h1
      by_cases h2 : 0 ≤ a1
      · by_cases h3 : a1 ≤ 48
        · simp [h0, h1, h2, h3, e1, e2]
        · simp [h0, h1, h2, h3]
      · simp [h0, h1, h2]
    · simp [h0, h1]
  · simp [h0]
end Go.Proofs.Ytkmgomipeljdfaa.Pure
