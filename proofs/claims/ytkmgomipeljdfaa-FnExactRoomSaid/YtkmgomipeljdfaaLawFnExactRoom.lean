/- PROVED HERE: laws.FnExactRoom returns true for every argument, and each argument reads behind the call as before. No condition. -/
import Derived.Test.YtkmgomipeljdfaaRoomFnExactRoom
import Derived.Test.YtkmgomipeljdfaaConFnExactRoom
import Derived.Test.YtkmgomipeljdfaaRigBLawRow
import Derived.Test.YtkmgomipeljdfaaRows
import Derived.WalkKit
import Derived.ProofKit
import Derived.OpenShut
import Derived.SizedLaws
set_option linter.unusedVariables false
noncomputable section
namespace Go.Proofs.Ytkmgomipeljdfaa.fnExactRoom
open Rig Rig.Pure Go.Proofs.R.Con
theorem own : ownKnob Try.prog.godebug = none := by kernel_rfl
theorem pure_law (x) (h : Args.good s7.ins x) : ∃ y, s7.f x = some y ∧ HEq (rfst s7.outs s7.ins.ptrs y) true :=
  ⟨true, FnExactRoom_true x ⟨h.1.2.1, fun p hp => (good_mem h.1.2 p hp).2.2.1⟩, HEq.rfl⟩
theorem lifted (os : Os) (started : os.Started) (H : Type) (enc : TypeId × Value → H) :
    ReturnsInHanded {} Try.checked os 7 .any (Rows.fnExactRoomSpec.pre6 enc Try.prog Try.f7 Rows.fnExactRoomRow.domain false) (Rows.fnExactRoomSpec.post enc Try.prog Try.f7 false true false false) :=
  law_lifted (C := Try.checked) own started (by kernel_rfl) Try.func7
    (ChangeSpec.witness6 (enc := enc) (C := Try.checked) false ⟨#[], #[.agg #[.int .i64 0, .slice none 0 0]], []⟩ 8 (by kernel_rfl) (by kernel_rfl) (by kernel_rfl) (by kernel_rfl))
    ok7 rfl rfl (by kernel_rfl) pure_law (by kernel_rfl) (by kernel_rfl) (by kernel_rfl) (by kernel_rfl) 4 (by kernel_rfl) (by kernel_rfl) (by kernel_rfl) rfl
    (fun ds h => match ds, h with | [d], _ => rfl)
theorem over : Rows.fnExactRoomRow.holds Try.pinned (OpenSpec.ofChange Rows.fnExactRoomSpec) :=
  OpenClaim.holds_of_wide 7 Try.f7 rfl rfl rfl rfl rfl rfl rfl ⟨rfl, rfl, rfl, rfl, rfl⟩ rfl rfl rfl rfl rfl (by kernel_rfl) Try.func7 (by kernel_rfl)
    (of_decide_eq_true (by kernel_rfl)) (by unfold Func.isWrapper; first | (rw [if_pos (by decide +kernel)]; kernel_rfl) | (rw [if_neg (by decide +kernel)]; exact ⟨rfl, rfl⟩))
    (fun os started H enc _ => lifted os started H enc)
theorem proved : Rows.FnExactRoomSaid := over
#print axioms proved
end Go.Proofs.Ytkmgomipeljdfaa.fnExactRoom
namespace Go.Proofs.Ytkmgomipeljdfaa
/-- The row, under a short name, for the claim. -/
theorem fnExactRoom_holds : Rows.FnExactRoomSaid := fnExactRoom.proved
end Go.Proofs.Ytkmgomipeljdfaa
