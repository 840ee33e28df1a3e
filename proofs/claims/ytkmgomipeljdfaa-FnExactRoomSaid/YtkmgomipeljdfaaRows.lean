/-
  No cell of these rows narrows 'for every input' (looked for: loops, veiled, ifaces, maps, wideKeys, modest, calm, conditions, laid).
  DERIVED. THE GIVEN ROWS OF THIS SEAT. 5 by the template 'for every input the law returns true; each argument reads behind the call as it read before'; 0 by the template 'total and deterministic' (their statements: YtkmgomipeljdfaaTotals.lean).
  GIVEN WITH THE SEED: the statements are not yours to turn. If you find one false, say at which input.
  Laid BY PROGRAM, IN A SANDBOX (cutbox-rows.mjs): the forced cells as the released guide's own fill.sh prints them over the translation be2873c43917cad9… (all of the seat's roots in one cut). By AI agents, Wed Nov 11 2026. No macro, syntax, notation, axiom, sorry.
-/
import Derived.Test.YtkmgomipeljdfaaChecked
import GoSem.Claim
import GoSem.ClaimJoined
import GoSem.ClaimMapViews
import Derived.JoinedTies
import Derived.KernelRfl
namespace Go.Proofs.Ytkmgomipeljdfaa
/- THE CELL 'sum', in the pinned program and in every row, IS THE sha256 OF THE DUMP (.gsa) THAT YtkmgomipeljdfaaProg.lean LOADS. Nothing in Lean hashes anything: it is a label: what it is worth is what the hold of that sum in a sandbox is worth. -/
noncomputable def Try.pinned : Pinned := { name := "ytkmgomipeljdfaa", sum := "be2873c43917cad984b15179d2a5726909b2f033283d1a5327bf91a18c1177fd", checked := Try.checked }
namespace Rows
def none {H : Type} : Left H := { results := [], args := [] }

/-- 'laws.FnExactCodeText': WHATEVER THE INPUT: true; the input reads as it did. -/
def fnExactCodeTextSpec : ChangeSpec := { name := "fnExactCodeText", fn := fun _ => fun
  | [d] => { results := [.lit (.bool true)], args := [d] }
  | _ => none }
def fnExactCodeTextRow : OpenClaim := { program := "ytkmgomipeljdfaa", sum := "be2873c43917cad984b15179d2a5726909b2f033283d1a5327bf91a18c1177fd", func := "loop.example/g00492/laws.FnExactCodeText", spec := "fnExactCodeText", apart := false }
def FnExactCodeTextSaid : Prop := fnExactCodeTextRow.holds Try.pinned (OpenSpec.ofChange fnExactCodeTextSpec)

/-- ITS FALSE NEIGHBOUR: 'it returns false'. Refute it at one input. -/
def fnExactCodeTextWrong : ChangeSpec := { name := "fnExactCodeText", fn := fun _ => fun
  | [d] => { results := [.lit (.bool false)], args := [d] }
  | _ => none }
def FnExactCodeTextWrongFalsely : Prop := fnExactCodeTextRow.holds Try.pinned (OpenSpec.ofChange fnExactCodeTextWrong)

/-- 'laws.FnExactStepsFor': WHATEVER THE INPUT: true; the input reads as it did. -/
def fnExactStepsForSpec : ChangeSpec := { name := "fnExactStepsFor", fn := fun _ => fun
  | [d1, d2] => { results := [.lit (.bool true)], args := [d1, d2] }
  | _ => none }
def fnExactStepsForRow : OpenClaim := { program := "ytkmgomipeljdfaa", sum := "be2873c43917cad984b15179d2a5726909b2f033283d1a5327bf91a18c1177fd", func := "loop.example/g00492/laws.FnExactStepsFor", spec := "fnExactStepsFor", recurses := true, apart := false }
def FnExactStepsForSaid : Prop := fnExactStepsForRow.holds Try.pinned (OpenSpec.ofChange fnExactStepsForSpec)

/-- ITS FALSE NEIGHBOUR: 'it returns false'. Refute it at one input. -/
def fnExactStepsForWrong : ChangeSpec := { name := "fnExactStepsFor", fn := fun _ => fun
  | [d1, d2] => { results := [.lit (.bool false)], args := [d1, d2] }
  | _ => none }
def FnExactStepsForWrongFalsely : Prop := fnExactStepsForRow.holds Try.pinned (OpenSpec.ofChange fnExactStepsForWrong)

/-- 'laws.FnExactWhole': WHATEVER THE INPUT: true; the input reads as it did. -/
def fnExactWholeSpec : ChangeSpec := { name := "fnExactWhole", fn := fun _ => fun
  | [d] => { results := [.lit (.bool true)], args := [d] }
  | _ => none }
def fnExactWholeRow : OpenClaim := { program := "ytkmgomipeljdfaa", sum := "be2873c43917cad984b15179d2a5726909b2f033283d1a5327bf91a18c1177fd", func := "loop.example/g00492/laws.FnExactWhole", spec := "fnExactWhole", apart := false }
def FnExactWholeSaid : Prop := fnExactWholeRow.holds Try.pinned (OpenSpec.ofChange fnExactWholeSpec)

/-- ITS FALSE NEIGHBOUR: 'it returns false'. Refute it at one input. -/
def fnExactWholeWrong : ChangeSpec := { name := "fnExactWhole", fn := fun _ => fun
  | [d] => { results := [.lit (.bool false)], args := [d] }
  | _ => none }
def FnExactWholeWrongFalsely : Prop := fnExactWholeRow.holds Try.pinned (OpenSpec.ofChange fnExactWholeWrong)

/-- 'laws.FnExactVacText': WHATEVER THE INPUT: true; the input reads as it did. -/
def fnExactVacTextSpec : ChangeSpec := { name := "fnExactVacText", fn := fun _ => fun
  | [d] => { results := [.lit (.bool true)], args := [d] }
  | _ => none }
def fnExactVacTextRow : OpenClaim := { program := "ytkmgomipeljdfaa", sum := "be2873c43917cad984b15179d2a5726909b2f033283d1a5327bf91a18c1177fd", func := "loop.example/g00492/laws.FnExactVacText", spec := "fnExactVacText", apart := false }
def FnExactVacTextSaid : Prop := fnExactVacTextRow.holds Try.pinned (OpenSpec.ofChange fnExactVacTextSpec)

/-- ITS FALSE NEIGHBOUR: 'it returns false'. Refute it at one input. -/
def fnExactVacTextWrong : ChangeSpec := { name := "fnExactVacText", fn := fun _ => fun
  | [d] => { results := [.lit (.bool false)], args := [d] }
  | _ => none }
def FnExactVacTextWrongFalsely : Prop := fnExactVacTextRow.holds Try.pinned (OpenSpec.ofChange fnExactVacTextWrong)

/-- 'laws.FnExactRoom': WHATEVER THE INPUT: true; the input reads as it did. -/
def fnExactRoomSpec : ChangeSpec := { name := "fnExactRoom", fn := fun _ => fun
  | [d] => { results := [.lit (.bool true)], args := [d] }
  | _ => none }
def fnExactRoomRow : OpenClaim := { program := "ytkmgomipeljdfaa", sum := "be2873c43917cad984b15179d2a5726909b2f033283d1a5327bf91a18c1177fd", func := "loop.example/g00492/laws.FnExactRoom", spec := "fnExactRoom", unfollowed := true, recurses := true, apart := false }
def FnExactRoomSaid : Prop := fnExactRoomRow.holds Try.pinned (OpenSpec.ofChange fnExactRoomSpec)

/-- ITS FALSE NEIGHBOUR: 'it returns false'. Refute it at one input. -/
def fnExactRoomWrong : ChangeSpec := { name := "fnExactRoom", fn := fun _ => fun
  | [d] => { results := [.lit (.bool false)], args := [d] }
  | _ => none }
def FnExactRoomWrongFalsely : Prop := fnExactRoomRow.holds Try.pinned (OpenSpec.ofChange fnExactRoomWrong)

/- THE SECOND FORM. 'bulk': how many values and letters a reading holds, each counted each time it is reached (what is shared counts as often as it is met; a slice's spare places count too). A statement '..UptoSaid' is the law's where the arguments, and the package variables that the reading takes, are together of bulk at most 1048576: NARROWER than '..Said'. Prove '..Said' where nothing that the law and all that it calls make is longer than what came in: it says more and counts as full. Else prove '..UptoSaid'. A law counts once. -/
mutual
def uptoBulk {H : Type} : DataW H → Nat
  | .lit (.string bytes) => bytes.length + 1
  | .lit _ => 1
  | .nil => 1
  | .ptr d => uptoBulk d + 1
  | .slice elems spare => uptoBulkAll elems + uptoBulkAll spare + 1
  | .agg parts => uptoBulkAll parts + 1
  | .iface _ d => uptoBulk d + 1
  | .map entries => uptoBulkEntries entries + 1
  | .held _ => 1
def uptoBulkAll {H : Type} : List (DataW H) → Nat
  | [] => 0
  | d :: r => uptoBulk d + uptoBulkAll r
def uptoBulkEntries {H : Type} : List (Lit × DataW H) → Nat
  | [] => 0
  | x :: r => uptoBulkEntry x + uptoBulkEntries r
def uptoBulkEntry {H : Type} : Lit × DataW H → Nat
  | (.string bytes, d) => bytes.length + uptoBulk d + 1
  | (_, d) => uptoBulk d + 1
 end
def uptoSmall : (H : Type) → List (DataW H) → Bool := fun _ ds => decide (uptoBulkAll ds ≤ 1048576)
def OpenSpec.upto (s : _root_.Go.ChangeSpec) : _root_.Go.OpenSpec := { _root_.Go.OpenSpec.ofChange s with cond := some uptoSmall }

/-- 'laws.FnExactCodeText', WHERE WHAT IT READS IS OF BULK AT MOST 1048576: true; the input reads as it did. -/
def fnExactCodeTextUptoRow : OpenClaim := { program := "ytkmgomipeljdfaa", sum := "be2873c43917cad984b15179d2a5726909b2f033283d1a5327bf91a18c1177fd", func := "loop.example/g00492/laws.FnExactCodeText", spec := "fnExactCodeText", apart := false, narrowed := true }
def FnExactCodeTextUptoSaid : Prop := fnExactCodeTextUptoRow.holds Try.pinned (OpenSpec.upto fnExactCodeTextSpec)

/-- 'laws.FnExactStepsFor', WHERE WHAT IT READS IS OF BULK AT MOST 1048576: true; the input reads as it did. -/
def fnExactStepsForUptoRow : OpenClaim := { program := "ytkmgomipeljdfaa", sum := "be2873c43917cad984b15179d2a5726909b2f033283d1a5327bf91a18c1177fd", func := "loop.example/g00492/laws.FnExactStepsFor", spec := "fnExactStepsFor", recurses := true, apart := false, narrowed := true }
def FnExactStepsForUptoSaid : Prop := fnExactStepsForUptoRow.holds Try.pinned (OpenSpec.upto fnExactStepsForSpec)

/-- 'laws.FnExactWhole', WHERE WHAT IT READS IS OF BULK AT MOST 1048576: true; the input reads as it did. -/
def fnExactWholeUptoRow : OpenClaim := { program := "ytkmgomipeljdfaa", sum := "be2873c43917cad984b15179d2a5726909b2f033283d1a5327bf91a18c1177fd", func := "loop.example/g00492/laws.FnExactWhole", spec := "fnExactWhole", apart := false, narrowed := true }
def FnExactWholeUptoSaid : Prop := fnExactWholeUptoRow.holds Try.pinned (OpenSpec.upto fnExactWholeSpec)

/-- 'laws.FnExactVacText', WHERE WHAT IT READS IS OF BULK AT MOST 1048576: true; the input reads as it did. -/
def fnExactVacTextUptoRow : OpenClaim := { program := "ytkmgomipeljdfaa", sum := "be2873c43917cad984b15179d2a5726909b2f033283d1a5327bf91a18c1177fd", func := "loop.example/g00492/laws.FnExactVacText", spec := "fnExactVacText", apart := false, narrowed := true }
def FnExactVacTextUptoSaid : Prop := fnExactVacTextUptoRow.holds Try.pinned (OpenSpec.upto fnExactVacTextSpec)

/-- 'laws.FnExactRoom', WHERE WHAT IT READS IS OF BULK AT MOST 1048576: true; the input reads as it did. -/
def fnExactRoomUptoRow : OpenClaim := { program := "ytkmgomipeljdfaa", sum := "be2873c43917cad984b15179d2a5726909b2f033283d1a5327bf91a18c1177fd", func := "loop.example/g00492/laws.FnExactRoom", spec := "fnExactRoom", unfollowed := true, recurses := true, apart := false, narrowed := true }
def FnExactRoomUptoSaid : Prop := fnExactRoomUptoRow.holds Try.pinned (OpenSpec.upto fnExactRoomSpec)

end Rows
end Go.Proofs.Ytkmgomipeljdfaa
