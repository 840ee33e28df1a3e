/- For every number, the program's CodeText returns the text that the reference's returns. No condition. -/
import Derived.Test.YtkmgomipeljdfaaPFnExactCodeTextx1
namespace Go.Proofs.Ytkmgomipeljdfaa.Pure
open Go.RowKit Go.Proofs.Ytkmgomipeljdfaa.PFnExactCodeText Go.Proofs.YtkmgomipeljdfaaW.PrintWords Go.Proofs.YtkmgomipeljdfaaW.PrintLast

theorem wrap_five : wrap64 ((6 : Int) - 1) = 5 := by unfold wrap64; omega

theorem FnExactCodeText : laws_FnExactCodeText.Pure := by
  intro a0 _
  unfold laws_FnExactCodeText.f spec_CodeText.f impl_CodeText.f impl_name.f spec_l1In.f
  simp only [Option.bind_some, List.length_cons, List.length_nil, Nat.zero_add, Nat.reduceAdd]
  have e6 : ((6 : Nat) : Int) = 6 := rfl
  rw [e6, wrap_five]
  by_cases h0 : a0 < 0
  · rw [if_neg (show ¬ a0 ≥ 0 by omega), if_pos h0]
    simp
  · rw [if_pos (show a0 ≥ 0 by omega), if_neg h0]
    by_cases h6 : a0 ≥ 6
    · have hd : decide (a0 ≤ 5) = false := decide_eq_false (by omega)
      rw [if_pos h6, hd]
      simp
    · have hd : decide (a0 ≤ 5) = true := decide_eq_true (by omega)
      rw [if_neg h6, hd]
      simp only [Option.bind_some, if_true]
      rw [if_pos (show 0 ≤ a0 by omega), if_pos (show a0 < 6 by omega)]
      simp
end Go.Proofs.Ytkmgomipeljdfaa.Pure
