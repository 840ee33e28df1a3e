/- PROVED HERE: laws.FnExactWaits returns true for every argument, and each argument reads behind the call as before. No condition. -/
import Derived.Test.YthcokbkmpkkioaaWaitsFnExactWaits
import Derived.Test.YthcokbkmpkkioaaConFnExactWaits
import Derived.Test.YthcokbkmpkkioaaRigBLawRow
import Derived.Test.YthcokbkmpkkioaaRows
import Derived.WalkKit
import Derived.ProofKit
import Derived.OpenShut
import Derived.SizedLaws
set_option linter.unusedVariables false
noncomputable section
namespace Go.Proofs.Ythcokbkmpkkioaa.fnExactWaits
open Rig Rig.Pure Go.Proofs.W.Con
theorem own : ownKnob Try.prog.godebug = none := by kernel_rfl
theorem pure_law (x) (h : Args.good s3.ins x) : ∃ y, s3.f x = some y ∧ HEq (rfst s3.outs s3.ins.ptrs y) true :=
  ⟨true, FnExactWaits_true x ⟨⟨⟨h.1.1.1, fun p0 h0 => (good_mem h.1.1 p0 h0).2.1⟩, ⟨h.1.2.1.1, fun p0 h0 => (good_mem h.1.2.1 p0 h0).2.1⟩⟩, ⟨h.1.2.2.2.2.2.1.1, fun p0 h0 => (good_mem h.1.2.2.2.2.2.1 p0 h0).2.2.1⟩, h.1.2.2.2.2.2.2.2.2.2.2.2.2.1.1, ⟨h.1.2.2.2.2.2.2.2.2.2.2.2.2.2.2.2.1.1, h.1.2.2.2.2.2.2.2.2.2.2.2.2.2.2.2.2.1.1, h.1.2.2.2.2.2.2.2.2.2.2.2.2.2.2.2.2.2.1.1, h.1.2.2.2.2.2.2.2.2.2.2.2.2.2.2.2.2.2.2.1.1, h.1.2.2.2.2.2.2.2.2.2.2.2.2.2.2.2.2.2.2.2.1⟩⟩, HEq.rfl⟩
theorem lifted (os : Os) (started : os.Started) (H : Type) (enc : TypeId × Value → H) :
    ReturnsInHanded {} Try.checked os 3 .any (Rows.fnExactWaitsSpec.pre6 enc Try.prog Try.f3 Rows.fnExactWaitsRow.domain false) (Rows.fnExactWaitsSpec.post enc Try.prog Try.f3 false true false false) :=
  law_lifted (C := Try.checked) own started (by kernel_rfl) Try.func3
    (ChangeSpec.witness6 (enc := enc) (C := Try.checked) false ⟨#[], #[.agg #[.slice none 0 0, .slice none 0 0, .int .i64 0, .bool false, .int .i64 0, .slice none 0 0, .int .i64 0, .int .i64 0, .int .i64 0, .int .i64 0, .int .i64 0, .int .i64 0, .slice none 0 0, .int .i64 0, .int .i64 0, .slice none 0 0, .slice none 0 0, .slice none 0 0, .slice none 0 0, .slice none 0 0]], []⟩ 8 (by kernel_rfl) (by kernel_rfl) (by kernel_rfl) (by kernel_rfl))
    ok3 rfl rfl (by kernel_rfl) pure_law (by kernel_rfl) (by kernel_rfl) (by kernel_rfl) (by kernel_rfl) 4 (by kernel_rfl) (by kernel_rfl) (by kernel_rfl) rfl
    (fun ds h => match ds, h with | [d], _ => rfl)
theorem over : Rows.fnExactWaitsRow.holds Try.pinned (OpenSpec.ofChange Rows.fnExactWaitsSpec) :=
  OpenClaim.holds_of_wide 3 Try.f3 rfl rfl rfl rfl rfl rfl rfl ⟨rfl, rfl, rfl, rfl, rfl⟩ rfl rfl rfl rfl rfl (by kernel_rfl) Try.func3 (by kernel_rfl)
    (of_decide_eq_true (by kernel_rfl)) (by unfold Func.isWrapper; first | (rw [if_pos (by decide +kernel)]; kernel_rfl) | (rw [if_neg (by decide +kernel)]; exact ⟨rfl, rfl⟩))
    (fun os started H enc _ => lifted os started H enc)
theorem proved : Rows.FnExactWaitsSaid := over
#print axioms proved
end Go.Proofs.Ythcokbkmpkkioaa.fnExactWaits
namespace Go.Proofs.Ythcokbkmpkkioaa
/-- The row, under a short name, for the claim. -/
theorem fnExactWaits_holds : Rows.FnExactWaitsSaid := fnExactWaits.proved
end Go.Proofs.Ythcokbkmpkkioaa
