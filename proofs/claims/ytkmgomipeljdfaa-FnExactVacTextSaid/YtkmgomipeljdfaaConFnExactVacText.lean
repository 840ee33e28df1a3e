/- Each function's contract: its code, run by Rig's evaluator, gives its text. Printed by gen.py. -/
import Derived.Test.YtkmgomipeljdfaaTextsFnExactVacText
import Derived.Test.YtkmgomipeljdfaaRigLawIn
import Derived.Test.YtkmgomipeljdfaaProg
set_option linter.unusedVariables false
set_option maxRecDepth 100000
open Rig Rig.Pure Go.Proofs
open Go (Code Func IntKind)
noncomputable section
namespace Go.Proofs.X.Con
noncomputable def Θ : Tab := [
  (2, { agg := false, cells := [.int .i64], bytes := 8 }),
  (3, { agg := false, cells := [.int .i64], bytes := 8 }),
  (4, { agg := false, cells := [.bool], bytes := 1 }),
  (5, { agg := false, cells := [.int .u8], bytes := 1 }),
  (6, { agg := false, cells := [.int .u8], bytes := 1 }),
  (7, { agg := true, cells := [.int .i64, .int .i64, .bool, .int .u8], bytes := 24, flds := [(0, 1), (1, 1), (2, 1), (3, 1)] }),
  (8, { agg := true, cells := [.int .i64, .int .i64, .bool, .int .u8], bytes := 24, flds := [(0, 1), (1, 1), (2, 1), (3, 1)] }),
  (9, { agg := false, cells := [.str], bytes := 16 }),
  (10, { agg := false, cells := [.str], bytes := 16 }),
  (11, { agg := false, cells := [.str], bytes := 16 }),
  (12, { agg := false, cells := [.int .u64], bytes := 8 }),
  (13, { agg := true, cells := [.str, .int .u64], bytes := 24, flds := [(0, 1), (1, 1)] }),
  (14, { agg := true, cells := [.str, .int .u64], bytes := 24, flds := [(0, 1), (1, 1)] }),
  (21, { agg := false, cells := [.int .i32], bytes := 4 }),
  (26, { agg := false, cells := [(.slice [.int .i64])], bytes := 24, elem := 3 }),
  (30, { agg := false, cells := [(.slice [.int .i64, .int .i64, .int .i64, .int .i64, .int .i64])], bytes := 24, elem := 81 }),
  (31, { agg := false, cells := [(.slice [.int .i64, .int .i64, .int .i64, .int .i64, .int .i64])], bytes := 24, elem := 86 }),
  (32, { agg := true, cells := [.int .i64, (.slice [.int .i64]), (.slice [.int .i64, .int .i64, .int .i64, .int .i64, .int .i64]), (.slice [.int .i64, .int .i64, .int .i64, .int .i64, .int .i64]), (.slice [.int .i64, .int .i64, .int .i64, .int .i64, .int .i64]), (.slice [.int .i64])], bytes := 128, flds := [(0, 1), (1, 1), (2, 1), (3, 1), (4, 1), (5, 1)] }),
  (33, { agg := true, cells := [.int .i64, (.slice [.int .i64]), (.slice [.int .i64, .int .i64, .int .i64, .int .i64, .int .i64]), (.slice [.int .i64, .int .i64, .int .i64, .int .i64, .int .i64]), (.slice [.int .i64, .int .i64, .int .i64, .int .i64, .int .i64]), (.slice [.int .i64])], bytes := 128, flds := [(0, 1), (1, 1), (2, 1), (3, 1), (4, 1), (5, 1)] }),
  (36, { agg := false, cells := [(.slice [.int .i64, .int .i64, .int .i64, .int .i64, .int .i64])], bytes := 24, elem := 77 }),
  (37, { agg := false, cells := [(.slice [.int .i64, .int .i64, .int .i64, .int .i64, .int .i64])], bytes := 24, elem := 83 }),
  (38, { agg := true, cells := [.int .i64, (.slice [.int .i64]), (.slice [.int .i64, .int .i64, .int .i64, .int .i64, .int .i64]), (.slice [.int .i64, .int .i64, .int .i64, .int .i64, .int .i64]), (.slice [.int .i64, .int .i64, .int .i64, .int .i64, .int .i64]), (.slice [.int .i64])], bytes := 128, flds := [(0, 1), (1, 1), (2, 1), (3, 1), (4, 1), (5, 1)] }),
  (39, { agg := true, cells := [.int .i64, (.slice [.int .i64]), (.slice [.int .i64, .int .i64, .int .i64, .int .i64, .int .i64]), (.slice [.int .i64, .int .i64, .int .i64, .int .i64, .int .i64]), (.slice [.int .i64, .int .i64, .int .i64, .int .i64, .int .i64]), (.slice [.int .i64])], bytes := 128, flds := [(0, 1), (1, 1), (2, 1), (3, 1), (4, 1), (5, 1)] }),
  (43, { agg := false, cells := [(.slice [.bool, .bool, (.slice [.int .i64, .int .i64, .int .i64, .int .i64, .int .i64])])], bytes := 24, elem := 93 }),
  (44, { agg := true, cells := [.int .i64, (.slice [.bool, .bool, (.slice [.int .i64, .int .i64, .int .i64, .int .i64, .int .i64])])], bytes := 32, flds := [(0, 1), (1, 1)] }),
  (45, { agg := true, cells := [.int .i64, (.slice [.bool, .bool, (.slice [.int .i64, .int .i64, .int .i64, .int .i64, .int .i64])])], bytes := 32, flds := [(0, 1), (1, 1)] }),
  (48, { agg := false, cells := [(.slice [.bool, .bool, (.slice [.int .i64, .int .i64, .int .i64, .int .i64, .int .i64])])], bytes := 24, elem := 99 }),
  (49, { agg := true, cells := [.int .i64, (.slice [.bool, .bool, (.slice [.int .i64, .int .i64, .int .i64, .int .i64, .int .i64])])], bytes := 32, flds := [(0, 1), (1, 1)] }),
  (50, { agg := true, cells := [.int .i64, (.slice [.bool, .bool, (.slice [.int .i64, .int .i64, .int .i64, .int .i64, .int .i64])])], bytes := 32, flds := [(0, 1), (1, 1)] }),
  (54, { agg := false, cells := [(.slice [.str])], bytes := 24, elem := 9 }),
  (71, { agg := false, cells := [.int .u64], bytes := 8 }),
  (74, { agg := true, cells := [.int .i64, .int .i64, .int .i64, .int .i64], bytes := 32, flds := [(0, 1), (1, 1), (2, 1), (3, 1)] }),
  (75, { agg := true, cells := [.int .i64, .int .i64, .int .i64, .int .i64], bytes := 32, flds := [(0, 1), (1, 1), (2, 1), (3, 1)] }),
  (76, { agg := true, cells := [.int .i64, .int .i64, .int .i64, .int .i64, .int .i64], bytes := 40, flds := [(0, 1), (1, 4)] }),
  (77, { agg := true, cells := [.int .i64, .int .i64, .int .i64, .int .i64, .int .i64], bytes := 40, flds := [(0, 1), (1, 4)] }),
  (79, { agg := true, cells := [.int .i64, .int .i64, .int .i64, .int .i64], bytes := 32, flds := [(0, 1), (1, 1), (2, 1), (3, 1)] }),
  (80, { agg := true, cells := [.int .i64, .int .i64, .int .i64, .int .i64, .int .i64], bytes := 40, flds := [(0, 1), (1, 4)] }),
  (81, { agg := true, cells := [.int .i64, .int .i64, .int .i64, .int .i64, .int .i64], bytes := 40, flds := [(0, 1), (1, 4)] }),
  (82, { agg := true, cells := [.int .i64, .int .i64, .int .i64, .int .i64, .int .i64], bytes := 40, flds := [(0, 1), (1, 4)] }),
  (83, { agg := true, cells := [.int .i64, .int .i64, .int .i64, .int .i64, .int .i64], bytes := 40, flds := [(0, 1), (1, 4)] }),
  (85, { agg := true, cells := [.int .i64, .int .i64, .int .i64, .int .i64, .int .i64], bytes := 40, flds := [(0, 1), (1, 4)] }),
  (86, { agg := true, cells := [.int .i64, .int .i64, .int .i64, .int .i64, .int .i64], bytes := 40, flds := [(0, 1), (1, 4)] }),
  (90, { agg := true, cells := [.bool, (.slice [.int .i64, .int .i64, .int .i64, .int .i64, .int .i64])], bytes := 32, flds := [(0, 1), (1, 1)] }),
  (91, { agg := true, cells := [.bool, (.slice [.int .i64, .int .i64, .int .i64, .int .i64, .int .i64])], bytes := 32, flds := [(0, 1), (1, 1)] }),
  (92, { agg := true, cells := [.bool, .bool, (.slice [.int .i64, .int .i64, .int .i64, .int .i64, .int .i64])], bytes := 40, flds := [(0, 1), (1, 2)] }),
  (93, { agg := true, cells := [.bool, .bool, (.slice [.int .i64, .int .i64, .int .i64, .int .i64, .int .i64])], bytes := 40, flds := [(0, 1), (1, 2)] }),
  (96, { agg := true, cells := [.bool, (.slice [.int .i64, .int .i64, .int .i64, .int .i64, .int .i64])], bytes := 32, flds := [(0, 1), (1, 1)] }),
  (97, { agg := true, cells := [.bool, (.slice [.int .i64, .int .i64, .int .i64, .int .i64, .int .i64])], bytes := 32, flds := [(0, 1), (1, 1)] }),
  (98, { agg := true, cells := [.bool, .bool, (.slice [.int .i64, .int .i64, .int .i64, .int .i64, .int .i64])], bytes := 40, flds := [(0, 1), (1, 2)] }),
  (99, { agg := true, cells := [.bool, .bool, (.slice [.int .i64, .int .i64, .int .i64, .int .i64, .int .i64])], bytes := 40, flds := [(0, 1), (1, 2)] }),
  (104, { agg := false, cells := [.int .u32], bytes := 4 }),
  (107, { agg := false, cells := [.int .u64], bytes := 8 }),
  (126, { agg := false, cells := [.int .u8], bytes := 1 }),
  (127, { agg := false, cells := [.int .u8], bytes := 1 }),
  (130, { agg := false, cells := [.int .i32], bytes := 4 }),
  (131, { agg := false, cells := [.int .i32], bytes := 4 })]
theorem tab : TabOk Try.prog Θ := tabOk_of (by kernel_rfl)
/- 33 loop.example/g00492/laws.szIntS -/
noncomputable def i33 : Args := [⟨0, [((.slice [.int .i64]), false)]⟩, ⟨0, [(.int .i64, false)]⟩]
noncomputable def o33 : Args := [⟨0, [(.int .i64, false)]⟩]
noncomputable def s33 : FSpec := ⟨i33, o33, laws_szIntS⟩
noncomputable def c33 : Code := match Try.f33.body with | some c => c | none => .skip
noncomputable def Φ33 : LFams Int := []
noncomputable def Γ33 : Env := []
theorem env33 : EnvOk Try.prog Γ33 := EnvOk.nil
theorem ok33 : FnOk Try.prog 33 s33 := by
  refine fn_ok (Θ := Θ) (Γ := Γ33) (Φ := Φ33) (c := c33) Try.func33 (by kernel_rfl) (by kernel_rfl) tab env33 (by kernel_rfl) (by kernel_rfl) (by kernel_rfl) (fun n => by kernel_rfl) ?_
  intro x y h
  have e : run Θ Γ33 Try.f33 c33 i33 o33 (Φ33.at 0) x = laws_szIntS x := by kernel_rfl
  exact ⟨0, e.trans h⟩
/- 34 loop.example/g00492/laws.szItemS -/
noncomputable def i34 : Args := [⟨0, [((.slice [.int .i64, .int .i64, .int .i64, .int .i64, .int .i64]), false)]⟩, ⟨0, [(.int .i64, false)]⟩]
noncomputable def o34 : Args := [⟨0, [(.int .i64, false)]⟩]
noncomputable def s34 : FSpec := ⟨i34, o34, laws_szItemS⟩
noncomputable def c34 : Code := match Try.f34.body with | some c => c | none => .skip
noncomputable def Φ34 : LFams Int := []
noncomputable def Γ34 : Env := []
theorem env34 : EnvOk Try.prog Γ34 := EnvOk.nil
theorem ok34 : FnOk Try.prog 34 s34 := by
  refine fn_ok (Θ := Θ) (Γ := Γ34) (Φ := Φ34) (c := c34) Try.func34 (by kernel_rfl) (by kernel_rfl) tab env34 (by kernel_rfl) (by kernel_rfl) (by kernel_rfl) (fun n => by kernel_rfl) ?_
  intro x y h
  have e : run Θ Γ34 Try.f34 c34 i34 o34 (Φ34.at 0) x = laws_szItemS x := by kernel_rfl
  exact ⟨0, e.trans h⟩
/- 35 loop.example/g00492/laws.szEntryS -/
noncomputable def i35 : Args := [⟨0, [((.slice [.int .i64, .int .i64, .int .i64, .int .i64, .int .i64]), false)]⟩, ⟨0, [(.int .i64, false)]⟩]
noncomputable def o35 : Args := [⟨0, [(.int .i64, false)]⟩]
noncomputable def s35 : FSpec := ⟨i35, o35, laws_szEntryS⟩
noncomputable def c35 : Code := match Try.f35.body with | some c => c | none => .skip
noncomputable def Φ35 : LFams Int := []
noncomputable def Γ35 : Env := []
theorem env35 : EnvOk Try.prog Γ35 := EnvOk.nil
theorem ok35 : FnOk Try.prog 35 s35 := by
  refine fn_ok (Θ := Θ) (Γ := Γ35) (Φ := Φ35) (c := c35) Try.func35 (by kernel_rfl) (by kernel_rfl) tab env35 (by kernel_rfl) (by kernel_rfl) (by kernel_rfl) (fun n => by kernel_rfl) ?_
  intro x y h
  have e : run Θ Γ35 Try.f35 c35 i35 o35 (Φ35.at 0) x = laws_szEntryS x := by kernel_rfl
  exact ⟨0, e.trans h⟩
/- 17 loop.example/g00492/laws.szVac -/
noncomputable def i17 : Args := [⟨1, [(.int .i64, false), ((.slice [.int .i64]), false), ((.slice [.int .i64, .int .i64, .int .i64, .int .i64, .int .i64]), false), ((.slice [.int .i64, .int .i64, .int .i64, .int .i64, .int .i64]), false), ((.slice [.int .i64, .int .i64, .int .i64, .int .i64, .int .i64]), false), ((.slice [.int .i64]), false)]⟩, ⟨0, [(.int .i64, false)]⟩]
noncomputable def o17 : Args := [⟨0, [(.int .i64, false)]⟩]
noncomputable def s17 : FSpec := ⟨i17, o17, laws_szVac⟩
noncomputable def c17 : Code := match Try.f17.body with | some c => c | none => .skip
noncomputable def Φ17 : LFams Int := []
noncomputable def Γ17 : Env := [(33, s33), (34, s34), (35, s35)]
theorem env17 : EnvOk Try.prog Γ17 := (EnvOk.cons ok33 Try.func33 (by kernel_rfl) (by decide) (EnvOk.cons ok34 Try.func34 (by kernel_rfl) (by decide) (EnvOk.cons ok35 Try.func35 (by kernel_rfl) (by decide) EnvOk.nil)))
theorem ok17 : FnOk Try.prog 17 s17 := by
  refine fn_ok (Θ := Θ) (Γ := Γ17) (Φ := Φ17) (c := c17) Try.func17 (by kernel_rfl) (by kernel_rfl) tab env17 (by kernel_rfl) (by kernel_rfl) (by kernel_rfl) (fun n => by kernel_rfl) ?_
  intro x y h
  have e : run Θ Γ17 Try.f17 c17 i17 o17 (Φ17.at 0) x = laws_szVac x := by kernel_rfl
  exact ⟨0, e.trans h⟩
/- 27 loop.example/g00492/spec.l1In -/
noncomputable def i27 : Args := [⟨0, [(.int .i64, false)]⟩, ⟨0, [(.int .i64, false)]⟩, ⟨0, [(.int .i64, false)]⟩]
noncomputable def o27 : Args := [⟨0, [(.bool, false)]⟩]
noncomputable def s27 : FSpec := ⟨i27, o27, spec_l1In⟩
noncomputable def c27 : Code := match Try.f27.body with | some c => c | none => .skip
noncomputable def Φ27 : LFams Bool := []
noncomputable def Γ27 : Env := []
theorem env27 : EnvOk Try.prog Γ27 := EnvOk.nil
theorem ok27 : FnOk Try.prog 27 s27 := by
  refine fn_ok (Θ := Θ) (Γ := Γ27) (Φ := Φ27) (c := c27) Try.func27 (by kernel_rfl) (by kernel_rfl) tab env27 (by kernel_rfl) (by kernel_rfl) (by kernel_rfl) (fun n => by kernel_rfl) ?_
  intro x y h
  have e : run Θ Γ27 Try.f27 c27 i27 o27 (Φ27.at 0) x = spec_l1In x := by kernel_rfl
  exact ⟨0, e.trans h⟩
/- 18 loop.example/g00492/spec.VacText -/
noncomputable def i18 : Args := [⟨1, [(.int .i64, false), ((.slice [.int .i64]), false), ((.slice [.int .i64, .int .i64, .int .i64, .int .i64, .int .i64]), false), ((.slice [.int .i64, .int .i64, .int .i64, .int .i64, .int .i64]), false), ((.slice [.int .i64, .int .i64, .int .i64, .int .i64, .int .i64]), false), ((.slice [.int .i64]), false)]⟩]
noncomputable def o18 : Args := [⟨0, [(.str, false)]⟩]
noncomputable def s18 : FSpec := ⟨i18, o18, spec_VacText⟩
noncomputable def c18 : Code := match Try.f18.body with | some c => c | none => .skip
noncomputable def Φ18 : LFams ByteArray := []
noncomputable def Γ18 : Env := [(27, s27)]
theorem env18 : EnvOk Try.prog Γ18 := (EnvOk.cons ok27 Try.func27 (by kernel_rfl) (by decide) EnvOk.nil)
theorem ok18 : FnOk Try.prog 18 s18 := by
  refine fn_ok (Θ := Θ) (Γ := Γ18) (Φ := Φ18) (c := c18) Try.func18 (by kernel_rfl) (by kernel_rfl) tab env18 (by kernel_rfl) (by kernel_rfl) (by kernel_rfl) (fun n => by kernel_rfl) ?_
  intro x y h
  have e : run Θ Γ18 Try.f18 c18 i18 o18 (Φ18.at 0) x = spec_VacText x := by kernel_rfl
  exact ⟨0, e.trans h⟩
/- 36 loop.example/g00492/laws.toIntS -/
noncomputable def i36 : Args := [⟨0, [((.slice [.int .i64]), false)]⟩]
noncomputable def o36 : Args := [⟨0, [((.slice [.int .i64]), true)]⟩]
noncomputable def s36 : FSpec := ⟨i36, o36, laws_toIntS⟩
noncomputable def c36 : Code := match Try.f36.body with | some c => c | none => .skip
noncomputable def S36_3 : Slots := [(0, .val (.slice [.int .i64]) false), (3, .val (.slice [.int .i64]) true), (4, .val (.int .i64) false)]
noncomputable def Φ36 : LFams ((List Int)) := [(3, ⟨S36_3, laws_toIntS_L3⟩)]
noncomputable def Γ36 : Env := []
theorem env36 : EnvOk Try.prog Γ36 := EnvOk.nil
theorem ok36 : FnOk Try.prog 36 s36 := by
  refine fn_ok (Θ := Θ) (Γ := Γ36) (Φ := Φ36) (c := c36) Try.func36 (by kernel_rfl) (by kernel_rfl) tab env36 (by kernel_rfl) (by kernel_rfl) (by kernel_rfl) (fun n => by kernel_rfl) ?_
  intro x y h
  obtain ⟨n, h⟩ := lim_some h
  have e : run Θ Γ36 Try.f36 c36 i36 o36 (Φ36.at n) x = laws_toIntS_N n x := by kernel_rfl
  exact ⟨n, e.trans h⟩
/- 66 loop.example/g00492/laws.toBox -/
noncomputable def i66 : Args := [⟨1, [(.int .i64, false), (.int .i64, false), (.int .i64, false), (.int .i64, false)]⟩]
noncomputable def o66 : Args := [⟨1, [(.int .i64, false), (.int .i64, false), (.int .i64, false), (.int .i64, false)]⟩]
noncomputable def s66 : FSpec := ⟨i66, o66, laws_toBox⟩
noncomputable def c66 : Code := match Try.f66.body with | some c => c | none => .skip
noncomputable def Φ66 : LFams (Int × Int × Int × Int) := []
noncomputable def Γ66 : Env := []
theorem env66 : EnvOk Try.prog Γ66 := EnvOk.nil
theorem ok66 : FnOk Try.prog 66 s66 := by
  refine fn_ok (Θ := Θ) (Γ := Γ66) (Φ := Φ66) (c := c66) Try.func66 (by kernel_rfl) (by kernel_rfl) tab env66 (by kernel_rfl) (by kernel_rfl) (by kernel_rfl) (fun n => by kernel_rfl) ?_
  intro x y h
  have e : run Θ Γ66 Try.f66 c66 i66 o66 (Φ66.at 0) x = laws_toBox x := by kernel_rfl
  exact ⟨0, e.trans h⟩
/- 52 loop.example/g00492/laws.toItem -/
noncomputable def i52 : Args := [⟨1, [(.int .i64, false), (.int .i64, false), (.int .i64, false), (.int .i64, false), (.int .i64, false)]⟩]
noncomputable def o52 : Args := [⟨1, [(.int .i64, false), (.int .i64, false), (.int .i64, false), (.int .i64, false), (.int .i64, false)]⟩]
noncomputable def s52 : FSpec := ⟨i52, o52, laws_toItem⟩
noncomputable def c52 : Code := match Try.f52.body with | some c => c | none => .skip
noncomputable def Φ52 : LFams (Int × Int × Int × Int × Int) := []
noncomputable def Γ52 : Env := [(66, s66)]
theorem env52 : EnvOk Try.prog Γ52 := (EnvOk.cons ok66 Try.func66 (by kernel_rfl) (by decide) EnvOk.nil)
theorem ok52 : FnOk Try.prog 52 s52 := by
  refine fn_ok (Θ := Θ) (Γ := Γ52) (Φ := Φ52) (c := c52) Try.func52 (by kernel_rfl) (by kernel_rfl) tab env52 (by kernel_rfl) (by kernel_rfl) (by kernel_rfl) (fun n => by kernel_rfl) ?_
  intro x y h
  have e : run Θ Γ52 Try.f52 c52 i52 o52 (Φ52.at 0) x = laws_toItem x := by kernel_rfl
  exact ⟨0, e.trans h⟩
/- 37 loop.example/g00492/laws.toItemS -/
noncomputable def i37 : Args := [⟨0, [((.slice [.int .i64, .int .i64, .int .i64, .int .i64, .int .i64]), false)]⟩]
noncomputable def o37 : Args := [⟨0, [((.slice [.int .i64, .int .i64, .int .i64, .int .i64, .int .i64]), true)]⟩]
noncomputable def s37 : FSpec := ⟨i37, o37, laws_toItemS⟩
noncomputable def c37 : Code := match Try.f37.body with | some c => c | none => .skip
noncomputable def S37_3 : Slots := [(0, .val (.slice [.int .i64, .int .i64, .int .i64, .int .i64, .int .i64]) false), (3, .val (.slice [.int .i64, .int .i64, .int .i64, .int .i64, .int .i64]) true), (4, .val (.int .i64) false)]
noncomputable def Φ37 : LFams ((List (Int × Int × Int × Int × Int))) := [(3, ⟨S37_3, laws_toItemS_L3⟩)]
noncomputable def Γ37 : Env := [(52, s52)]
theorem env37 : EnvOk Try.prog Γ37 := (EnvOk.cons ok52 Try.func52 (by kernel_rfl) (by decide) EnvOk.nil)
theorem ok37 : FnOk Try.prog 37 s37 := by
  refine fn_ok (Θ := Θ) (Γ := Γ37) (Φ := Φ37) (c := c37) Try.func37 (by kernel_rfl) (by kernel_rfl) tab env37 (by kernel_rfl) (by kernel_rfl) (by kernel_rfl) (fun n => by kernel_rfl) ?_
  intro x y h
  obtain ⟨n, h⟩ := lim_some h
  have e : run Θ Γ37 Try.f37 c37 i37 o37 (Φ37.at n) x = laws_toItemS_N n x := by kernel_rfl
  exact ⟨n, e.trans h⟩
/- 53 loop.example/g00492/laws.toEntry -/
noncomputable def i53 : Args := [⟨1, [(.int .i64, false), (.int .i64, false), (.int .i64, false), (.int .i64, false), (.int .i64, false)]⟩]
noncomputable def o53 : Args := [⟨1, [(.int .i64, false), (.int .i64, false), (.int .i64, false), (.int .i64, false), (.int .i64, false)]⟩]
noncomputable def s53 : FSpec := ⟨i53, o53, laws_toEntry⟩
noncomputable def c53 : Code := match Try.f53.body with | some c => c | none => .skip
noncomputable def Φ53 : LFams (Int × Int × Int × Int × Int) := []
noncomputable def Γ53 : Env := [(66, s66)]
theorem env53 : EnvOk Try.prog Γ53 := (EnvOk.cons ok66 Try.func66 (by kernel_rfl) (by decide) EnvOk.nil)
theorem ok53 : FnOk Try.prog 53 s53 := by
  refine fn_ok (Θ := Θ) (Γ := Γ53) (Φ := Φ53) (c := c53) Try.func53 (by kernel_rfl) (by kernel_rfl) tab env53 (by kernel_rfl) (by kernel_rfl) (by kernel_rfl) (fun n => by kernel_rfl) ?_
  intro x y h
  have e : run Θ Γ53 Try.f53 c53 i53 o53 (Φ53.at 0) x = laws_toEntry x := by kernel_rfl
  exact ⟨0, e.trans h⟩
/- 38 loop.example/g00492/laws.toEntryS -/
noncomputable def i38 : Args := [⟨0, [((.slice [.int .i64, .int .i64, .int .i64, .int .i64, .int .i64]), false)]⟩]
noncomputable def o38 : Args := [⟨0, [((.slice [.int .i64, .int .i64, .int .i64, .int .i64, .int .i64]), true)]⟩]
noncomputable def s38 : FSpec := ⟨i38, o38, laws_toEntryS⟩
noncomputable def c38 : Code := match Try.f38.body with | some c => c | none => .skip
noncomputable def S38_3 : Slots := [(0, .val (.slice [.int .i64, .int .i64, .int .i64, .int .i64, .int .i64]) false), (3, .val (.slice [.int .i64, .int .i64, .int .i64, .int .i64, .int .i64]) true), (4, .val (.int .i64) false)]
noncomputable def Φ38 : LFams ((List (Int × Int × Int × Int × Int))) := [(3, ⟨S38_3, laws_toEntryS_L3⟩)]
noncomputable def Γ38 : Env := [(53, s53)]
theorem env38 : EnvOk Try.prog Γ38 := (EnvOk.cons ok53 Try.func53 (by kernel_rfl) (by decide) EnvOk.nil)
theorem ok38 : FnOk Try.prog 38 s38 := by
  refine fn_ok (Θ := Θ) (Γ := Γ38) (Φ := Φ38) (c := c38) Try.func38 (by kernel_rfl) (by kernel_rfl) tab env38 (by kernel_rfl) (by kernel_rfl) (by kernel_rfl) (fun n => by kernel_rfl) ?_
  intro x y h
  obtain ⟨n, h⟩ := lim_some h
  have e : run Θ Γ38 Try.f38 c38 i38 o38 (Φ38.at n) x = laws_toEntryS_N n x := by kernel_rfl
  exact ⟨n, e.trans h⟩
/- 19 loop.example/g00492/laws.toVac -/
noncomputable def i19 : Args := [⟨1, [(.int .i64, false), ((.slice [.int .i64]), false), ((.slice [.int .i64, .int .i64, .int .i64, .int .i64, .int .i64]), false), ((.slice [.int .i64, .int .i64, .int .i64, .int .i64, .int .i64]), false), ((.slice [.int .i64, .int .i64, .int .i64, .int .i64, .int .i64]), false), ((.slice [.int .i64]), false)]⟩]
noncomputable def o19 : Args := [⟨1, [(.int .i64, false), ((.slice [.int .i64]), true), ((.slice [.int .i64, .int .i64, .int .i64, .int .i64, .int .i64]), true), ((.slice [.int .i64, .int .i64, .int .i64, .int .i64, .int .i64]), true), ((.slice [.int .i64, .int .i64, .int .i64, .int .i64, .int .i64]), true), ((.slice [.int .i64]), true)]⟩]
noncomputable def s19 : FSpec := ⟨i19, o19, laws_toVac⟩
noncomputable def c19 : Code := match Try.f19.body with | some c => c | none => .skip
noncomputable def Φ19 : LFams (Int × (List Int) × (List (Int × Int × Int × Int × Int)) × (List (Int × Int × Int × Int × Int)) × (List (Int × Int × Int × Int × Int)) × (List Int)) := []
noncomputable def Γ19 : Env := [(36, s36), (37, s37), (38, s38)]
theorem env19 : EnvOk Try.prog Γ19 := (EnvOk.cons ok36 Try.func36 (by kernel_rfl) (by decide) (EnvOk.cons ok37 Try.func37 (by kernel_rfl) (by decide) (EnvOk.cons ok38 Try.func38 (by kernel_rfl) (by decide) EnvOk.nil)))
theorem ok19 : FnOk Try.prog 19 s19 := by
  refine fn_ok (Θ := Θ) (Γ := Γ19) (Φ := Φ19) (c := c19) Try.func19 (by kernel_rfl) (by kernel_rfl) tab env19 (by kernel_rfl) (by kernel_rfl) (by kernel_rfl) (fun n => by kernel_rfl) ?_
  intro x y h
  have e : run Θ Γ19 Try.f19 c19 i19 o19 (Φ19.at 0) x = laws_toVac x := by kernel_rfl
  exact ⟨0, e.trans h⟩
/- 28 loop.example/g00492/impl.name -/
noncomputable def i28 : Args := [⟨0, [(.int .i64, false)]⟩, ⟨0, [((.slice [.str]), false)]⟩]
noncomputable def o28 : Args := [⟨0, [(.str, false)]⟩]
noncomputable def s28 : FSpec := ⟨i28, o28, impl_name⟩
noncomputable def c28 : Code := match Try.f28.body with | some c => c | none => .skip
noncomputable def Φ28 : LFams ByteArray := []
noncomputable def Γ28 : Env := []
theorem env28 : EnvOk Try.prog Γ28 := EnvOk.nil
theorem ok28 : FnOk Try.prog 28 s28 := by
  refine fn_ok (Θ := Θ) (Γ := Γ28) (Φ := Φ28) (c := c28) Try.func28 (by kernel_rfl) (by kernel_rfl) tab env28 (by kernel_rfl) (by kernel_rfl) (by kernel_rfl) (fun n => by kernel_rfl) ?_
  intro x y h
  have e : run Θ Γ28 Try.f28 c28 i28 o28 (Φ28.at 0) x = impl_name x := by kernel_rfl
  exact ⟨0, e.trans h⟩
/- 20 loop.example/g00492/impl.VacText -/
noncomputable def i20 : Args := [⟨1, [(.int .i64, false), ((.slice [.int .i64]), false), ((.slice [.int .i64, .int .i64, .int .i64, .int .i64, .int .i64]), false), ((.slice [.int .i64, .int .i64, .int .i64, .int .i64, .int .i64]), false), ((.slice [.int .i64, .int .i64, .int .i64, .int .i64, .int .i64]), false), ((.slice [.int .i64]), false)]⟩]
noncomputable def o20 : Args := [⟨0, [(.str, false)]⟩]
noncomputable def s20 : FSpec := ⟨i20, o20, impl_VacText⟩
noncomputable def c20 : Code := match Try.f20.body with | some c => c | none => .skip
noncomputable def Φ20 : LFams ByteArray := []
noncomputable def Γ20 : Env := [(28, s28)]
theorem env20 : EnvOk Try.prog Γ20 := (EnvOk.cons ok28 Try.func28 (by kernel_rfl) (by decide) EnvOk.nil)
theorem ok20 : FnOk Try.prog 20 s20 := by
  refine fn_ok (Θ := Θ) (Γ := Γ20) (Φ := Φ20) (c := c20) Try.func20 (by kernel_rfl) (by kernel_rfl) tab env20 (by kernel_rfl) (by kernel_rfl) (by kernel_rfl) (fun n => by kernel_rfl) ?_
  intro x y h
  have e : run Θ Γ20 Try.f20 c20 i20 o20 (Φ20.at 0) x = impl_VacText x := by kernel_rfl
  exact ⟨0, e.trans h⟩
/- 14 loop.example/g00492/laws.eqIntS -/
noncomputable def i14 : Args := [⟨0, [((.slice [.int .i64]), false)]⟩, ⟨0, [((.slice [.int .i64]), false)]⟩]
noncomputable def o14 : Args := [⟨0, [(.bool, false)]⟩]
noncomputable def s14 : FSpec := ⟨i14, o14, laws_eqIntS⟩
noncomputable def c14 : Code := match Try.f14.body with | some c => c | none => .skip
noncomputable def S14_4 : Slots := [(0, .val (.slice [.int .i64]) false), (1, .val (.slice [.int .i64]) false), (5, .val (.int .i64) false)]
noncomputable def Φ14 : LFams Bool := [(4, ⟨S14_4, laws_eqIntS_L4⟩)]
noncomputable def Γ14 : Env := []
theorem env14 : EnvOk Try.prog Γ14 := EnvOk.nil
theorem ok14 : FnOk Try.prog 14 s14 := by
  refine fn_ok (Θ := Θ) (Γ := Γ14) (Φ := Φ14) (c := c14) Try.func14 (by kernel_rfl) (by kernel_rfl) tab env14 (by kernel_rfl) (by kernel_rfl) (by kernel_rfl) (fun n => by kernel_rfl) ?_
  intro x y h
  obtain ⟨n, h⟩ := lim_some h
  have e : run Θ Γ14 Try.f14 c14 i14 o14 (Φ14.at n) x = laws_eqIntS_N n x := by kernel_rfl
  exact ⟨n, e.trans h⟩
/- 67 loop.example/g00492/laws.eqBox -/
noncomputable def i67 : Args := [⟨1, [(.int .i64, false), (.int .i64, false), (.int .i64, false), (.int .i64, false)]⟩, ⟨1, [(.int .i64, false), (.int .i64, false), (.int .i64, false), (.int .i64, false)]⟩]
noncomputable def o67 : Args := [⟨0, [(.bool, false)]⟩]
noncomputable def s67 : FSpec := ⟨i67, o67, laws_eqBox⟩
noncomputable def c67 : Code := match Try.f67.body with | some c => c | none => .skip
noncomputable def Φ67 : LFams Bool := []
noncomputable def Γ67 : Env := []
theorem env67 : EnvOk Try.prog Γ67 := EnvOk.nil
theorem ok67 : FnOk Try.prog 67 s67 := by
  refine fn_ok (Θ := Θ) (Γ := Γ67) (Φ := Φ67) (c := c67) Try.func67 (by kernel_rfl) (by kernel_rfl) tab env67 (by kernel_rfl) (by kernel_rfl) (by kernel_rfl) (fun n => by kernel_rfl) ?_
  intro x y h
  have e : run Θ Γ67 Try.f67 c67 i67 o67 (Φ67.at 0) x = laws_eqBox x := by kernel_rfl
  exact ⟨0, e.trans h⟩
/- 54 loop.example/g00492/laws.eqItem -/
noncomputable def i54 : Args := [⟨1, [(.int .i64, false), (.int .i64, false), (.int .i64, false), (.int .i64, false), (.int .i64, false)]⟩, ⟨1, [(.int .i64, false), (.int .i64, false), (.int .i64, false), (.int .i64, false), (.int .i64, false)]⟩]
noncomputable def o54 : Args := [⟨0, [(.bool, false)]⟩]
noncomputable def s54 : FSpec := ⟨i54, o54, laws_eqItem⟩
noncomputable def c54 : Code := match Try.f54.body with | some c => c | none => .skip
noncomputable def Φ54 : LFams Bool := []
noncomputable def Γ54 : Env := [(67, s67)]
theorem env54 : EnvOk Try.prog Γ54 := (EnvOk.cons ok67 Try.func67 (by kernel_rfl) (by decide) EnvOk.nil)
theorem ok54 : FnOk Try.prog 54 s54 := by
  refine fn_ok (Θ := Θ) (Γ := Γ54) (Φ := Φ54) (c := c54) Try.func54 (by kernel_rfl) (by kernel_rfl) tab env54 (by kernel_rfl) (by kernel_rfl) (by kernel_rfl) (fun n => by kernel_rfl) ?_
  intro x y h
  have e : run Θ Γ54 Try.f54 c54 i54 o54 (Φ54.at 0) x = laws_eqItem x := by kernel_rfl
  exact ⟨0, e.trans h⟩
/- 39 loop.example/g00492/laws.eqItemS -/
noncomputable def i39 : Args := [⟨0, [((.slice [.int .i64, .int .i64, .int .i64, .int .i64, .int .i64]), false)]⟩, ⟨0, [((.slice [.int .i64, .int .i64, .int .i64, .int .i64, .int .i64]), false)]⟩]
noncomputable def o39 : Args := [⟨0, [(.bool, false)]⟩]
noncomputable def s39 : FSpec := ⟨i39, o39, laws_eqItemS⟩
noncomputable def c39 : Code := match Try.f39.body with | some c => c | none => .skip
noncomputable def S39_4 : Slots := [(0, .val (.slice [.int .i64, .int .i64, .int .i64, .int .i64, .int .i64]) false), (1, .val (.slice [.int .i64, .int .i64, .int .i64, .int .i64, .int .i64]) false), (5, .val (.int .i64) false)]
noncomputable def Φ39 : LFams Bool := [(4, ⟨S39_4, laws_eqItemS_L4⟩)]
noncomputable def Γ39 : Env := [(54, s54)]
theorem env39 : EnvOk Try.prog Γ39 := (EnvOk.cons ok54 Try.func54 (by kernel_rfl) (by decide) EnvOk.nil)
theorem ok39 : FnOk Try.prog 39 s39 := by
  refine fn_ok (Θ := Θ) (Γ := Γ39) (Φ := Φ39) (c := c39) Try.func39 (by kernel_rfl) (by kernel_rfl) tab env39 (by kernel_rfl) (by kernel_rfl) (by kernel_rfl) (fun n => by kernel_rfl) ?_
  intro x y h
  obtain ⟨n, h⟩ := lim_some h
  have e : run Θ Γ39 Try.f39 c39 i39 o39 (Φ39.at n) x = laws_eqItemS_N n x := by kernel_rfl
  exact ⟨n, e.trans h⟩
/- 55 loop.example/g00492/laws.eqEntry -/
noncomputable def i55 : Args := [⟨1, [(.int .i64, false), (.int .i64, false), (.int .i64, false), (.int .i64, false), (.int .i64, false)]⟩, ⟨1, [(.int .i64, false), (.int .i64, false), (.int .i64, false), (.int .i64, false), (.int .i64, false)]⟩]
noncomputable def o55 : Args := [⟨0, [(.bool, false)]⟩]
noncomputable def s55 : FSpec := ⟨i55, o55, laws_eqEntry⟩
noncomputable def c55 : Code := match Try.f55.body with | some c => c | none => .skip
noncomputable def Φ55 : LFams Bool := []
noncomputable def Γ55 : Env := [(67, s67)]
theorem env55 : EnvOk Try.prog Γ55 := (EnvOk.cons ok67 Try.func67 (by kernel_rfl) (by decide) EnvOk.nil)
theorem ok55 : FnOk Try.prog 55 s55 := by
  refine fn_ok (Θ := Θ) (Γ := Γ55) (Φ := Φ55) (c := c55) Try.func55 (by kernel_rfl) (by kernel_rfl) tab env55 (by kernel_rfl) (by kernel_rfl) (by kernel_rfl) (fun n => by kernel_rfl) ?_
  intro x y h
  have e : run Θ Γ55 Try.f55 c55 i55 o55 (Φ55.at 0) x = laws_eqEntry x := by kernel_rfl
  exact ⟨0, e.trans h⟩
/- 40 loop.example/g00492/laws.eqEntryS -/
noncomputable def i40 : Args := [⟨0, [((.slice [.int .i64, .int .i64, .int .i64, .int .i64, .int .i64]), false)]⟩, ⟨0, [((.slice [.int .i64, .int .i64, .int .i64, .int .i64, .int .i64]), false)]⟩]
noncomputable def o40 : Args := [⟨0, [(.bool, false)]⟩]
noncomputable def s40 : FSpec := ⟨i40, o40, laws_eqEntryS⟩
noncomputable def c40 : Code := match Try.f40.body with | some c => c | none => .skip
noncomputable def S40_4 : Slots := [(0, .val (.slice [.int .i64, .int .i64, .int .i64, .int .i64, .int .i64]) false), (1, .val (.slice [.int .i64, .int .i64, .int .i64, .int .i64, .int .i64]) false), (5, .val (.int .i64) false)]
noncomputable def Φ40 : LFams Bool := [(4, ⟨S40_4, laws_eqEntryS_L4⟩)]
noncomputable def Γ40 : Env := [(55, s55)]
theorem env40 : EnvOk Try.prog Γ40 := (EnvOk.cons ok55 Try.func55 (by kernel_rfl) (by decide) EnvOk.nil)
theorem ok40 : FnOk Try.prog 40 s40 := by
  refine fn_ok (Θ := Θ) (Γ := Γ40) (Φ := Φ40) (c := c40) Try.func40 (by kernel_rfl) (by kernel_rfl) tab env40 (by kernel_rfl) (by kernel_rfl) (by kernel_rfl) (fun n => by kernel_rfl) ?_
  intro x y h
  obtain ⟨n, h⟩ := lim_some h
  have e : run Θ Γ40 Try.f40 c40 i40 o40 (Φ40.at n) x = laws_eqEntryS_N n x := by kernel_rfl
  exact ⟨n, e.trans h⟩
/- 21 loop.example/g00492/laws.eqVac -/
noncomputable def i21 : Args := [⟨1, [(.int .i64, false), ((.slice [.int .i64]), false), ((.slice [.int .i64, .int .i64, .int .i64, .int .i64, .int .i64]), false), ((.slice [.int .i64, .int .i64, .int .i64, .int .i64, .int .i64]), false), ((.slice [.int .i64, .int .i64, .int .i64, .int .i64, .int .i64]), false), ((.slice [.int .i64]), false)]⟩, ⟨1, [(.int .i64, false), ((.slice [.int .i64]), false), ((.slice [.int .i64, .int .i64, .int .i64, .int .i64, .int .i64]), false), ((.slice [.int .i64, .int .i64, .int .i64, .int .i64, .int .i64]), false), ((.slice [.int .i64, .int .i64, .int .i64, .int .i64, .int .i64]), false), ((.slice [.int .i64]), false)]⟩]
noncomputable def o21 : Args := [⟨0, [(.bool, false)]⟩]
noncomputable def s21 : FSpec := ⟨i21, o21, laws_eqVac⟩
noncomputable def c21 : Code := match Try.f21.body with | some c => c | none => .skip
noncomputable def Φ21 : LFams Bool := []
noncomputable def Γ21 : Env := [(14, s14), (39, s39), (40, s40)]
theorem env21 : EnvOk Try.prog Γ21 := (EnvOk.cons ok14 Try.func14 (by kernel_rfl) (by decide) (EnvOk.cons ok39 Try.func39 (by kernel_rfl) (by decide) (EnvOk.cons ok40 Try.func40 (by kernel_rfl) (by decide) EnvOk.nil)))
theorem ok21 : FnOk Try.prog 21 s21 := by
  refine fn_ok (Θ := Θ) (Γ := Γ21) (Φ := Φ21) (c := c21) Try.func21 (by kernel_rfl) (by kernel_rfl) tab env21 (by kernel_rfl) (by kernel_rfl) (by kernel_rfl) (fun n => by kernel_rfl) ?_
  intro x y h
  have e : run Θ Γ21 Try.f21 c21 i21 o21 (Φ21.at 0) x = laws_eqVac x := by kernel_rfl
  exact ⟨0, e.trans h⟩
/- 6 loop.example/g00492/laws.FnExactVacText -/
noncomputable def i6 : Args := [⟨1, [(.int .i64, false), ((.slice [.int .i64]), false), ((.slice [.int .i64, .int .i64, .int .i64, .int .i64, .int .i64]), false), ((.slice [.int .i64, .int .i64, .int .i64, .int .i64, .int .i64]), false), ((.slice [.int .i64, .int .i64, .int .i64, .int .i64, .int .i64]), false), ((.slice [.int .i64]), false)]⟩]
noncomputable def o6 : Args := [⟨0, [(.bool, false)]⟩]
noncomputable def s6 : FSpec := ⟨i6, o6, laws_FnExactVacText⟩
noncomputable def c6 : Code := match Try.f6.body with | some c => c | none => .skip
noncomputable def Φ6 : LFams Bool := []
noncomputable def Γ6 : Env := [(17, s17), (18, s18), (19, s19), (20, s20), (21, s21)]
theorem env6 : EnvOk Try.prog Γ6 := (EnvOk.cons ok17 Try.func17 (by kernel_rfl) (by decide) (EnvOk.cons ok18 Try.func18 (by kernel_rfl) (by decide) (EnvOk.cons ok19 Try.func19 (by kernel_rfl) (by decide) (EnvOk.cons ok20 Try.func20 (by kernel_rfl) (by decide) (EnvOk.cons ok21 Try.func21 (by kernel_rfl) (by decide) EnvOk.nil)))))
theorem ok6 : FnOk Try.prog 6 s6 := by
  refine fn_ok (Θ := Θ) (Γ := Γ6) (Φ := Φ6) (c := c6) Try.func6 (by kernel_rfl) (by kernel_rfl) tab env6 (by kernel_rfl) (by kernel_rfl) (by kernel_rfl) (fun n => by kernel_rfl) ?_
  intro x y h
  have e : run Θ Γ6 Try.f6 c6 i6 o6 (Φ6.at 0) x = laws_FnExactVacText x := by kernel_rfl
  exact ⟨0, e.trans h⟩
end Go.Proofs.X.Con
