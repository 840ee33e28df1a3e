/- PROVED HERE: laws.FnExactVacText returns true for every argument, and each argument reads behind the call as before. No condition. -/
import Derived.Test.YtkmgomipeljdfaaPureFnExactVacText
import Derived.Test.YtkmgomipeljdfaaConFnExactVacText
import Derived.Test.YtkmgomipeljdfaaRigLawRow
import Derived.Test.YtkmgomipeljdfaaRows
import Derived.WalkKit
import Derived.ProofKit
import Derived.OpenShut
import Derived.SizedLaws
set_option linter.unusedVariables false
noncomputable section
namespace Go.Proofs.Ytkmgomipeljdfaa.fnExactVacText
open Rig Rig.Pure Go.Proofs.X.Con
theorem own : ownKnob Try.prog.godebug = none := by kernel_rfl
theorem pure_law (x) (h : Args.good s6.ins x) : ∃ y, s6.f x = some y ∧ HEq (rfst s6.outs s6.ins.ptrs y) true :=
  ⟨true, FnExactVacText_true x ⟨h.2.1.1, h.2.2.1.1, h.2.2.2.1.1, h.2.2.2.2.1.1, h.2.2.2.2.2.1⟩, HEq.rfl⟩
theorem lifted (os : Os) (started : os.Started) (H : Type) (enc : TypeId × Value → H) :
    ReturnsInHanded {} Try.checked os 6 .any (Rows.fnExactVacTextSpec.pre6 enc Try.prog Try.f6 Rows.fnExactVacTextRow.domain false) (Rows.fnExactVacTextSpec.post enc Try.prog Try.f6 false true false false) :=
  law_lifted (C := Try.checked) own started (by kernel_rfl) Try.func6
    (ChangeSpec.witness6 (enc := enc) (C := Try.checked) false ⟨#[], #[.agg #[.int .i64 0, .slice none 0 0, .slice none 0 0, .slice none 0 0, .slice none 0 0, .slice none 0 0]], []⟩ 8 (by kernel_rfl) (by kernel_rfl) (by kernel_rfl) (by kernel_rfl))
    ok6 rfl rfl (by kernel_rfl) pure_law (by kernel_rfl) (by kernel_rfl) (by kernel_rfl) (by kernel_rfl) 4 (by kernel_rfl) (by kernel_rfl) (by kernel_rfl) rfl
    (fun ds h => match ds, h with | [d], _ => rfl)
theorem over : Rows.fnExactVacTextRow.holds Try.pinned (OpenSpec.ofChange Rows.fnExactVacTextSpec) :=
  OpenClaim.holds_of_wide 6 Try.f6 rfl rfl rfl rfl rfl rfl rfl ⟨rfl, rfl, rfl, rfl, rfl⟩ rfl rfl rfl rfl rfl (by kernel_rfl) Try.func6 (by kernel_rfl)
    (of_decide_eq_true (by kernel_rfl)) (by unfold Func.isWrapper; first | (rw [if_pos (by decide +kernel)]; kernel_rfl) | (rw [if_neg (by decide +kernel)]; exact ⟨rfl, rfl⟩))
    (fun os started H enc _ => lifted os started H enc)
theorem proved : Rows.FnExactVacTextSaid := over
#print axioms proved
end Go.Proofs.Ytkmgomipeljdfaa.fnExactVacText
namespace Go.Proofs.Ytkmgomipeljdfaa
/-- The row, under a short name, for the claim. -/
theorem fnExactVacText_holds : Rows.FnExactVacTextSaid := fnExactVacText.proved
end Go.Proofs.Ytkmgomipeljdfaa
