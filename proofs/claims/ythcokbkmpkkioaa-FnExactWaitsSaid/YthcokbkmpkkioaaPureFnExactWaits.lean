/- Part of Rig, a reflective evaluator of this project's own: a function's code, run over typed data by Lean's kernel, gives its contract. No condition. -/
import Derived.Test.YthcokbkmpkkioaaShapeFnExactWaits
set_option linter.unusedVariables false
noncomputable section
namespace Rig.Pure
open Go (IntKind)
abbrev E5 := Int × Int × Int × Int × Int
abbrev PageT := Bool × Bool × List E5
abbrev BookT := Int × List PageT
def PageSmall (p : PageT) : Prop := p.2.2.length ≤ 1048576
def PagesSmall (l : List PageT) : Prop := l.length ≤ 1048576 ∧ ∀ p ∈ l, PageSmall p
theorem pagesSmall_of {l : List PageT} (h : S_PageS l) : PagesSmall l := ⟨h.1, fun p hp => by
  have := h.2 p hp
  obtain ⟨a, b, c⟩ := p
  exact this⟩
end Rig.Pure
