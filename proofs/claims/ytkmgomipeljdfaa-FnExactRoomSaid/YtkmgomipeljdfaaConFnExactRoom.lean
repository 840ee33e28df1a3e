/- Each function's contract: its code, run by Rig's evaluator, gives its text. Printed by gen.py. -/
import Derived.Test.YtkmgomipeljdfaaTextsFnExactRoom
import Derived.Test.YtkmgomipeljdfaaRigBLawIn
import Derived.Test.YtkmgomipeljdfaaProg
set_option linter.unusedVariables false
set_option maxRecDepth 100000
open Rig Rig.Pure Go.Proofs
open Go (Code Func IntKind)
noncomputable section
namespace Go.Proofs.R.Con
noncomputable def Θ : Tab := [
  (1, { agg := false, cells := [.map], bytes := 8, elem := 1 }),
  (2, { agg := false, cells := [.int .i64], bytes := 8 }),
  (3, { agg := false, cells := [.int .i64], bytes := 8 }),
  (4, { agg := false, cells := [.bool], bytes := 1 }),
  (5, { agg := false, cells := [.int .u8], bytes := 1 }),
  (6, { agg := false, cells := [.int .u8], bytes := 1 }),
  (7, { agg := true, cells := [.int .i64, .int .i64, .bool, .int .u8], bytes := 24, flds := [(0, 1), (1, 1), (2, 1), (3, 1)] }),
  (8, { agg := true, cells := [.int .i64, .int .i64, .bool, .int .u8], bytes := 24, flds := [(0, 1), (1, 1), (2, 1), (3, 1)] }),
  (9, { agg := false, cells := [.str], bytes := 16 }),
  (10, { agg := false, cells := [.str], bytes := 16 }),
  (11, { agg := false, cells := [.str], bytes := 16 }),
  (12, { agg := false, cells := [.int .u64], bytes := 8 }),
  (13, { agg := true, cells := [.str, .int .u64], bytes := 24, flds := [(0, 1), (1, 1)] }),
  (14, { agg := true, cells := [.str, .int .u64], bytes := 24, flds := [(0, 1), (1, 1)] }),
  (21, { agg := false, cells := [.int .i32], bytes := 4 }),
  (22, { agg := false, cells := [.map], bytes := 8, elem := 1 }),
  (23, { agg := false, cells := [.map], bytes := 8, elem := 1 }),
  (24, { agg := false, cells := [.map], bytes := 8, elem := 1 }),
  (25, { agg := false, cells := [.map], bytes := 8, elem := 1 }),
  (26, { agg := false, cells := [(.slice [.int .i64])], bytes := 24, elem := 3 }),
  (27, { agg := false, cells := [.map], bytes := 8, elem := 1 }),
  (28, { agg := false, cells := [.map], bytes := 8, elem := 1 }),
  (29, { agg := false, cells := [.map], bytes := 8, elem := 1 }),
  (30, { agg := false, cells := [(.slice [.int .i64, .int .i64, .int .i64, .int .i64, .int .i64])], bytes := 24, elem := 81 }),
  (31, { agg := false, cells := [(.slice [.int .i64, .int .i64, .int .i64, .int .i64, .int .i64])], bytes := 24, elem := 86 }),
  (32, { agg := true, cells := [.int .i64, (.slice [.int .i64]), (.slice [.int .i64, .int .i64, .int .i64, .int .i64, .int .i64]), (.slice [.int .i64, .int .i64, .int .i64, .int .i64, .int .i64]), (.slice [.int .i64, .int .i64, .int .i64, .int .i64, .int .i64]), (.slice [.int .i64])], bytes := 128, flds := [(0, 1), (1, 1), (2, 1), (3, 1), (4, 1), (5, 1)] }),
  (33, { agg := true, cells := [.int .i64, (.slice [.int .i64]), (.slice [.int .i64, .int .i64, .int .i64, .int .i64, .int .i64]), (.slice [.int .i64, .int .i64, .int .i64, .int .i64, .int .i64]), (.slice [.int .i64, .int .i64, .int .i64, .int .i64, .int .i64]), (.slice [.int .i64])], bytes := 128, flds := [(0, 1), (1, 1), (2, 1), (3, 1), (4, 1), (5, 1)] }),
  (34, { agg := false, cells := [.map], bytes := 8, elem := 1 }),
  (35, { agg := false, cells := [.map], bytes := 8, elem := 1 }),
  (36, { agg := false, cells := [(.slice [.int .i64, .int .i64, .int .i64, .int .i64, .int .i64])], bytes := 24, elem := 77 }),
  (37, { agg := false, cells := [(.slice [.int .i64, .int .i64, .int .i64, .int .i64, .int .i64])], bytes := 24, elem := 83 }),
  (38, { agg := true, cells := [.int .i64, (.slice [.int .i64]), (.slice [.int .i64, .int .i64, .int .i64, .int .i64, .int .i64]), (.slice [.int .i64, .int .i64, .int .i64, .int .i64, .int .i64]), (.slice [.int .i64, .int .i64, .int .i64, .int .i64, .int .i64]), (.slice [.int .i64])], bytes := 128, flds := [(0, 1), (1, 1), (2, 1), (3, 1), (4, 1), (5, 1)] }),
  (39, { agg := true, cells := [.int .i64, (.slice [.int .i64]), (.slice [.int .i64, .int .i64, .int .i64, .int .i64, .int .i64]), (.slice [.int .i64, .int .i64, .int .i64, .int .i64, .int .i64]), (.slice [.int .i64, .int .i64, .int .i64, .int .i64, .int .i64]), (.slice [.int .i64])], bytes := 128, flds := [(0, 1), (1, 1), (2, 1), (3, 1), (4, 1), (5, 1)] }),
  (40, { agg := false, cells := [.map], bytes := 8, elem := 1 }),
  (41, { agg := false, cells := [.map], bytes := 8, elem := 1 }),
  (42, { agg := false, cells := [.map], bytes := 8, elem := 1 }),
  (43, { agg := false, cells := [(.slice [.bool, .bool, (.slice [.int .i64, .int .i64, .int .i64, .int .i64, .int .i64])])], bytes := 24, elem := 93 }),
  (44, { agg := true, cells := [.int .i64, (.slice [.bool, .bool, (.slice [.int .i64, .int .i64, .int .i64, .int .i64, .int .i64])])], bytes := 32, flds := [(0, 1), (1, 1)] }),
  (45, { agg := true, cells := [.int .i64, (.slice [.bool, .bool, (.slice [.int .i64, .int .i64, .int .i64, .int .i64, .int .i64])])], bytes := 32, flds := [(0, 1), (1, 1)] }),
  (46, { agg := false, cells := [.map], bytes := 8, elem := 1 }),
  (47, { agg := false, cells := [.map], bytes := 8, elem := 1 }),
  (48, { agg := false, cells := [(.slice [.bool, .bool, (.slice [.int .i64, .int .i64, .int .i64, .int .i64, .int .i64])])], bytes := 24, elem := 99 }),
  (49, { agg := true, cells := [.int .i64, (.slice [.bool, .bool, (.slice [.int .i64, .int .i64, .int .i64, .int .i64, .int .i64])])], bytes := 32, flds := [(0, 1), (1, 1)] }),
  (50, { agg := true, cells := [.int .i64, (.slice [.bool, .bool, (.slice [.int .i64, .int .i64, .int .i64, .int .i64, .int .i64])])], bytes := 32, flds := [(0, 1), (1, 1)] }),
  (51, { agg := false, cells := [.map], bytes := 8, elem := 1 }),
  (52, { agg := false, cells := [.map], bytes := 8, elem := 1 }),
  (53, { agg := false, cells := [.map], bytes := 8, elem := 1 }),
  (54, { agg := false, cells := [(.slice [.str])], bytes := 24, elem := 9 }),
  (55, { agg := false, cells := [.map], bytes := 8, elem := 1 }),
  (56, { agg := false, cells := [.map], bytes := 8, elem := 1 }),
  (57, { agg := false, cells := [.map], bytes := 8, elem := 1 }),
  (58, { agg := false, cells := [.map], bytes := 8, elem := 1 }),
  (59, { agg := false, cells := [.map], bytes := 8, elem := 1 }),
  (60, { agg := false, cells := [.map], bytes := 8, elem := 1 }),
  (61, { agg := false, cells := [.map], bytes := 8, elem := 1 }),
  (62, { agg := false, cells := [.map], bytes := 8, elem := 1 }),
  (63, { agg := false, cells := [.map], bytes := 8, elem := 1 }),
  (64, { agg := false, cells := [.map], bytes := 8, elem := 1 }),
  (65, { agg := false, cells := [.map], bytes := 8, elem := 1 }),
  (66, { agg := false, cells := [.map], bytes := 8, elem := 1 }),
  (67, { agg := false, cells := [.map], bytes := 8, elem := 1 }),
  (68, { agg := false, cells := [.map], bytes := 8, elem := 1 }),
  (69, { agg := false, cells := [.map], bytes := 8, elem := 1 }),
  (70, { agg := false, cells := [.map], bytes := 8, elem := 1 }),
  (71, { agg := false, cells := [.int .u64], bytes := 8 }),
  (73, { agg := false, cells := [.map], bytes := 8, elem := 1 }),
  (74, { agg := true, cells := [.int .i64, .int .i64, .int .i64, .int .i64], bytes := 32, flds := [(0, 1), (1, 1), (2, 1), (3, 1)] }),
  (75, { agg := true, cells := [.int .i64, .int .i64, .int .i64, .int .i64], bytes := 32, flds := [(0, 1), (1, 1), (2, 1), (3, 1)] }),
  (76, { agg := true, cells := [.int .i64, .int .i64, .int .i64, .int .i64, .int .i64], bytes := 40, flds := [(0, 1), (1, 4)] }),
  (77, { agg := true, cells := [.int .i64, .int .i64, .int .i64, .int .i64, .int .i64], bytes := 40, flds := [(0, 1), (1, 4)] }),
  (78, { agg := false, cells := [.map], bytes := 8, elem := 1 }),
  (79, { agg := true, cells := [.int .i64, .int .i64, .int .i64, .int .i64], bytes := 32, flds := [(0, 1), (1, 1), (2, 1), (3, 1)] }),
  (80, { agg := true, cells := [.int .i64, .int .i64, .int .i64, .int .i64, .int .i64], bytes := 40, flds := [(0, 1), (1, 4)] }),
  (81, { agg := true, cells := [.int .i64, .int .i64, .int .i64, .int .i64, .int .i64], bytes := 40, flds := [(0, 1), (1, 4)] }),
  (82, { agg := true, cells := [.int .i64, .int .i64, .int .i64, .int .i64, .int .i64], bytes := 40, flds := [(0, 1), (1, 4)] }),
  (83, { agg := true, cells := [.int .i64, .int .i64, .int .i64, .int .i64, .int .i64], bytes := 40, flds := [(0, 1), (1, 4)] }),
  (84, { agg := false, cells := [.map], bytes := 8, elem := 1 }),
  (85, { agg := true, cells := [.int .i64, .int .i64, .int .i64, .int .i64, .int .i64], bytes := 40, flds := [(0, 1), (1, 4)] }),
  (86, { agg := true, cells := [.int .i64, .int .i64, .int .i64, .int .i64, .int .i64], bytes := 40, flds := [(0, 1), (1, 4)] }),
  (87, { agg := false, cells := [.map], bytes := 8, elem := 1 }),
  (88, { agg := false, cells := [.map], bytes := 8, elem := 1 }),
  (89, { agg := false, cells := [.map], bytes := 8, elem := 1 }),
  (90, { agg := true, cells := [.bool, (.slice [.int .i64, .int .i64, .int .i64, .int .i64, .int .i64])], bytes := 32, flds := [(0, 1), (1, 1)] }),
  (91, { agg := true, cells := [.bool, (.slice [.int .i64, .int .i64, .int .i64, .int .i64, .int .i64])], bytes := 32, flds := [(0, 1), (1, 1)] }),
  (92, { agg := true, cells := [.bool, .bool, (.slice [.int .i64, .int .i64, .int .i64, .int .i64, .int .i64])], bytes := 40, flds := [(0, 1), (1, 2)] }),
  (93, { agg := true, cells := [.bool, .bool, (.slice [.int .i64, .int .i64, .int .i64, .int .i64, .int .i64])], bytes := 40, flds := [(0, 1), (1, 2)] }),
  (94, { agg := false, cells := [.map], bytes := 8, elem := 1 }),
  (95, { agg := false, cells := [.map], bytes := 8, elem := 1 }),
  (96, { agg := true, cells := [.bool, (.slice [.int .i64, .int .i64, .int .i64, .int .i64, .int .i64])], bytes := 32, flds := [(0, 1), (1, 1)] }),
  (97, { agg := true, cells := [.bool, (.slice [.int .i64, .int .i64, .int .i64, .int .i64, .int .i64])], bytes := 32, flds := [(0, 1), (1, 1)] }),
  (98, { agg := true, cells := [.bool, .bool, (.slice [.int .i64, .int .i64, .int .i64, .int .i64, .int .i64])], bytes := 40, flds := [(0, 1), (1, 2)] }),
  (99, { agg := true, cells := [.bool, .bool, (.slice [.int .i64, .int .i64, .int .i64, .int .i64, .int .i64])], bytes := 40, flds := [(0, 1), (1, 2)] }),
  (100, { agg := false, cells := [.map], bytes := 8, elem := 1 }),
  (101, { agg := false, cells := [.map], bytes := 8, elem := 1 }),
  (102, { agg := false, cells := [.map], bytes := 8, elem := 1 }),
  (103, { agg := false, cells := [.map], bytes := 8, elem := 1 }),
  (104, { agg := false, cells := [.int .u32], bytes := 4 }),
  (106, { agg := false, cells := [.map], bytes := 8, elem := 1 }),
  (107, { agg := false, cells := [.int .u64], bytes := 8 }),
  (109, { agg := false, cells := [.map], bytes := 8, elem := 1 }),
  (110, { agg := false, cells := [.map], bytes := 8, elem := 1 }),
  (111, { agg := false, cells := [.map], bytes := 8, elem := 1 }),
  (112, { agg := false, cells := [.map], bytes := 8, elem := 1 }),
  (113, { agg := false, cells := [.map], bytes := 8, elem := 1 }),
  (114, { agg := false, cells := [.map], bytes := 8, elem := 1 }),
  (115, { agg := false, cells := [.map], bytes := 8 }),
  (116, { agg := false, cells := [.map], bytes := 8, elem := 1 }),
  (117, { agg := false, cells := [.map], bytes := 8, elem := 1 }),
  (118, { agg := false, cells := [.map], bytes := 8, elem := 1 }),
  (119, { agg := false, cells := [.map], bytes := 8, elem := 1 }),
  (125, { agg := false, cells := [.map], bytes := 8, elem := 1 }),
  (126, { agg := false, cells := [.int .u8], bytes := 1 }),
  (127, { agg := false, cells := [.int .u8], bytes := 1 }),
  (128, { agg := false, cells := [.map], bytes := 8, elem := 1 }),
  (130, { agg := false, cells := [.int .i32], bytes := 4 }),
  (131, { agg := false, cells := [.int .i32], bytes := 4 })]
theorem tab : TabOk Try.prog Θ := tabOk_of (by kernel_rfl)
/- 35 loop.example/g00492/laws.szEntryS -/
noncomputable def i35 : Args := [{ mode := 0, cells := [((.slice [.int .i64, .int .i64, .int .i64, .int .i64, .int .i64]), false)] }, { mode := 0, cells := [(.int .i64, false)] }]
noncomputable def o35 : Args := [{ mode := 0, cells := [(.int .i64, false)] }]
noncomputable def s35 : FSpec := ⟨i35, o35, laws_szEntryS⟩
noncomputable def c35 : Code := match Try.f35.body with | some c => c | none => .skip
noncomputable def Φ35 : LFams Int := []
noncomputable def Γ35 : Env := []
theorem env35 : EnvOk Try.prog Γ35 := EnvOk.nil
theorem ok35 : FnOk Try.prog 35 s35 := by
  refine fn_ok (Θ := Θ) (Γ := Γ35) (Φ := Φ35) (c := c35) Try.func35 (by kernel_rfl) (by kernel_rfl) tab env35 (by kernel_rfl) (by kernel_rfl) (by kernel_rfl) (fun n => by kernel_rfl) ?_
  intro x y h
  have e : run Θ Γ35 Try.f35 c35 i35 o35 (Φ35.at 0) x = laws_szEntryS x := by kernel_rfl
  exact ⟨0, e.trans h⟩
/- 68 loop.example/g00492/laws.szNode -/
noncomputable def i68 : Args := [{ mode := 1, cells := [(.bool, false), ((.slice [.int .i64, .int .i64, .int .i64, .int .i64, .int .i64]), false)] }, { mode := 0, cells := [(.int .i64, false)] }]
noncomputable def o68 : Args := [{ mode := 0, cells := [(.int .i64, false)] }]
noncomputable def s68 : FSpec := ⟨i68, o68, laws_szNode⟩
noncomputable def c68 : Code := match Try.f68.body with | some c => c | none => .skip
noncomputable def Φ68 : LFams Int := []
noncomputable def Γ68 : Env := [(35, s35)]
theorem env68 : EnvOk Try.prog Γ68 := (EnvOk.cons ok35 Try.func35 (by kernel_rfl) (by decide) EnvOk.nil)
theorem ok68 : FnOk Try.prog 68 s68 := by
  refine fn_ok (Θ := Θ) (Γ := Γ68) (Φ := Φ68) (c := c68) Try.func68 (by kernel_rfl) (by kernel_rfl) tab env68 (by kernel_rfl) (by kernel_rfl) (by kernel_rfl) (fun n => by kernel_rfl) ?_
  intro x y h
  have e : run Θ Γ68 Try.f68 c68 i68 o68 (Φ68.at 0) x = laws_szNode x := by kernel_rfl
  exact ⟨0, e.trans h⟩
/- 56 loop.example/g00492/laws.szPage -/
noncomputable def i56 : Args := [{ mode := 1, cells := [(.bool, false), (.bool, false), ((.slice [.int .i64, .int .i64, .int .i64, .int .i64, .int .i64]), false)] }, { mode := 0, cells := [(.int .i64, false)] }]
noncomputable def o56 : Args := [{ mode := 0, cells := [(.int .i64, false)] }]
noncomputable def s56 : FSpec := ⟨i56, o56, laws_szPage⟩
noncomputable def c56 : Code := match Try.f56.body with | some c => c | none => .skip
noncomputable def Φ56 : LFams Int := []
noncomputable def Γ56 : Env := [(68, s68)]
theorem env56 : EnvOk Try.prog Γ56 := (EnvOk.cons ok68 Try.func68 (by kernel_rfl) (by decide) EnvOk.nil)
theorem ok56 : FnOk Try.prog 56 s56 := by
  refine fn_ok (Θ := Θ) (Γ := Γ56) (Φ := Φ56) (c := c56) Try.func56 (by kernel_rfl) (by kernel_rfl) tab env56 (by kernel_rfl) (by kernel_rfl) (by kernel_rfl) (fun n => by kernel_rfl) ?_
  intro x y h
  have e : run Θ Γ56 Try.f56 c56 i56 o56 (Φ56.at 0) x = laws_szPage x := by kernel_rfl
  exact ⟨0, e.trans h⟩
/- 41 loop.example/g00492/laws.szPageS -/
noncomputable def i41 : Args := [{ mode := 0, cells := [((.slice [.bool, .bool, (.slice [.int .i64, .int .i64, .int .i64, .int .i64, .int .i64])]), false)] }, { mode := 0, cells := [(.int .i64, false)] }]
noncomputable def o41 : Args := [{ mode := 0, cells := [(.int .i64, false)] }]
noncomputable def s41 : FSpec := ⟨i41, o41, laws_szPageS⟩
noncomputable def c41 : Code := match Try.f41.body with | some c => c | none => .skip
noncomputable def S41_5 : Slots := [(0, .val (.slice [.bool, .bool, (.slice [.int .i64, .int .i64, .int .i64, .int .i64, .int .i64])]) false), (1, .val (.int .i64) false), (5, .val (.int .i64) false)]
noncomputable def Φ41 : LFams Int := [(5, ⟨S41_5, laws_szPageS_L5⟩)]
noncomputable def Γ41 : Env := [(56, s56)]
theorem env41 : EnvOk Try.prog Γ41 := (EnvOk.cons ok56 Try.func56 (by kernel_rfl) (by decide) EnvOk.nil)
theorem ok41 : FnOk Try.prog 41 s41 := by
  refine fn_ok (Θ := Θ) (Γ := Γ41) (Φ := Φ41) (c := c41) Try.func41 (by kernel_rfl) (by kernel_rfl) tab env41 (by kernel_rfl) (by kernel_rfl) (by kernel_rfl) (fun n => by kernel_rfl) ?_
  intro x y h
  obtain ⟨n, h⟩ := lim_some h
  have e : run Θ Γ41 Try.f41 c41 i41 o41 (Φ41.at n) x = laws_szPageS_N n x := by kernel_rfl
  exact ⟨n, e.trans h⟩
/- 22 loop.example/g00492/laws.szBook -/
noncomputable def i22 : Args := [{ mode := 1, cells := [(.int .i64, false), ((.slice [.bool, .bool, (.slice [.int .i64, .int .i64, .int .i64, .int .i64, .int .i64])]), false)] }, { mode := 0, cells := [(.int .i64, false)] }]
noncomputable def o22 : Args := [{ mode := 0, cells := [(.int .i64, false)] }]
noncomputable def s22 : FSpec := ⟨i22, o22, laws_szBook⟩
noncomputable def c22 : Code := match Try.f22.body with | some c => c | none => .skip
noncomputable def Φ22 : LFams Int := []
noncomputable def Γ22 : Env := [(41, s41)]
theorem env22 : EnvOk Try.prog Γ22 := (EnvOk.cons ok41 Try.func41 (by kernel_rfl) (by decide) EnvOk.nil)
theorem ok22 : FnOk Try.prog 22 s22 := by
  refine fn_ok (Θ := Θ) (Γ := Γ22) (Φ := Φ22) (c := c22) Try.func22 (by kernel_rfl) (by kernel_rfl) tab env22 (by kernel_rfl) (by kernel_rfl) (by kernel_rfl) (fun n => by kernel_rfl) ?_
  intro x y h
  have e : run Θ Γ22 Try.f22 c22 i22 o22 (Φ22.at 0) x = laws_szBook x := by kernel_rfl
  exact ⟨0, e.trans h⟩
/- 27 loop.example/g00492/spec.l1In -/
noncomputable def i27 : Args := [{ mode := 0, cells := [(.int .i64, false)] }, { mode := 0, cells := [(.int .i64, false)] }, { mode := 0, cells := [(.int .i64, false)] }]
noncomputable def o27 : Args := [{ mode := 0, cells := [(.bool, false)] }]
noncomputable def s27 : FSpec := ⟨i27, o27, spec_l1In⟩
noncomputable def c27 : Code := match Try.f27.body with | some c => c | none => .skip
noncomputable def Φ27 : LFams Bool := []
noncomputable def Γ27 : Env := []
theorem env27 : EnvOk Try.prog Γ27 := EnvOk.nil
theorem ok27 : FnOk Try.prog 27 s27 := by
  refine fn_ok (Θ := Θ) (Γ := Γ27) (Φ := Φ27) (c := c27) Try.func27 (by kernel_rfl) (by kernel_rfl) tab env27 (by kernel_rfl) (by kernel_rfl) (by kernel_rfl) (fun n => by kernel_rfl) ?_
  intro x y h
  have e : run Θ Γ27 Try.f27 c27 i27 o27 (Φ27.at 0) x = spec_l1In x := by kernel_rfl
  exact ⟨0, e.trans h⟩
/- 48 loop.example/g00492/spec.Most -/
noncomputable def i48 : Args := [{ mode := 0, cells := [(.int .i64, false)] }, { mode := 0, cells := [(.int .i64, false)] }]
noncomputable def o48 : Args := [{ mode := 0, cells := [(.int .i64, false)] }]
noncomputable def s48 : FSpec := ⟨i48, o48, spec_Most⟩
noncomputable def c48 : Code := match Try.f48.body with | some c => c | none => .skip
noncomputable def Φ48 : LFams Int := []
noncomputable def Γ48 : Env := []
theorem env48 : EnvOk Try.prog Γ48 := EnvOk.nil
theorem ok48 : FnOk Try.prog 48 s48 := by
  refine fn_ok (Θ := Θ) (Γ := Γ48) (Φ := Φ48) (c := c48) Try.func48 (by kernel_rfl) (by kernel_rfl) tab env48 (by kernel_rfl) (by kernel_rfl) (by kernel_rfl) (fun n => by kernel_rfl) ?_
  intro x y h
  have e : run Θ Γ48 Try.f48 c48 i48 o48 (Φ48.at 0) x = spec_Most x := by kernel_rfl
  exact ⟨0, e.trans h⟩
/- 49 loop.example/g00492/spec.Up -/
noncomputable def i49 : Args := [{ mode := 0, cells := [(.int .i64, false)] }, { mode := 0, cells := [(.int .i64, false)] }]
noncomputable def o49 : Args := [{ mode := 0, cells := [(.int .i64, false)] }]
noncomputable def s49 : FSpec := ⟨i49, o49, spec_Up⟩
noncomputable def c49 : Code := match Try.f49.body with | some c => c | none => .skip
noncomputable def Φ49 : LFams Int := []
noncomputable def Γ49 : Env := []
theorem env49 : EnvOk Try.prog Γ49 := EnvOk.nil
theorem ok49 : FnOk Try.prog 49 s49 := by
  refine fn_ok (Θ := Θ) (Γ := Γ49) (Φ := Φ49) (c := c49) Try.func49 (by kernel_rfl) (by kernel_rfl) tab env49 (by kernel_rfl) (by kernel_rfl) (by kernel_rfl) (fun n => by kernel_rfl) ?_
  intro x y h
  have e : run Θ Γ49 Try.f49 c49 i49 o49 (Φ49.at 0) x = spec_Up x := by kernel_rfl
  exact ⟨0, e.trans h⟩
/- 29 loop.example/g00492/spec.PagesFor -/
noncomputable def i29 : Args := [{ mode := 0, cells := [(.int .i64, false)] }]
noncomputable def o29 : Args := [{ mode := 0, cells := [(.int .i64, false)] }]
noncomputable def s29 : FSpec := ⟨i29, o29, spec_PagesFor⟩
noncomputable def c29 : Code := match Try.f29.body with | some c => c | none => .skip
noncomputable def S29_5 : Slots := [(3, .val (.int .i64) false), (4, .val (.int .i64) false)]
noncomputable def Φ29 : LFams Int := [(5, ⟨S29_5, spec_PagesFor_L5⟩)]
noncomputable def Γ29 : Env := [(27, s27), (48, s48), (49, s49)]
theorem env29 : EnvOk Try.prog Γ29 := (EnvOk.cons ok27 Try.func27 (by kernel_rfl) (by decide) (EnvOk.cons ok48 Try.func48 (by kernel_rfl) (by decide) (EnvOk.cons ok49 Try.func49 (by kernel_rfl) (by decide) EnvOk.nil)))
theorem ok29 : FnOk Try.prog 29 s29 := by
  refine fn_ok (Θ := Θ) (Γ := Γ29) (Φ := Φ29) (c := c29) Try.func29 (by kernel_rfl) (by kernel_rfl) tab env29 (by kernel_rfl) (by kernel_rfl) (by kernel_rfl) (fun n => by kernel_rfl) ?_
  intro x y h
  obtain ⟨n, h⟩ := lim_some h
  have e : run Θ Γ29 Try.f29 c29 i29 o29 (Φ29.at n) x = spec_PagesFor_N n x := by kernel_rfl
  exact ⟨n, e.trans h⟩
/- 69 loop.example/g00492/spec.l7Has -/
noncomputable def i69 : Args := [{ mode := 0, cells := [((.slice [.int .i64]), false)] }, { mode := 0, cells := [(.int .i64, false)] }]
noncomputable def o69 : Args := [{ mode := 0, cells := [(.bool, false)] }]
noncomputable def s69 : FSpec := ⟨i69, o69, spec_l7Has⟩
noncomputable def c69 : Code := match Try.f69.body with | some c => c | none => .skip
noncomputable def S69_2 : Slots := [(0, .val (.slice [.int .i64]) false), (1, .val (.int .i64) false), (5, .val (.int .i64) false)]
noncomputable def Φ69 : LFams Bool := [(2, ⟨S69_2, spec_l7Has_L2⟩)]
noncomputable def Γ69 : Env := []
theorem env69 : EnvOk Try.prog Γ69 := EnvOk.nil
theorem ok69 : FnOk Try.prog 69 s69 := by
  refine fn_ok (Θ := Θ) (Γ := Γ69) (Φ := Φ69) (c := c69) Try.func69 (by kernel_rfl) (by kernel_rfl) tab env69 (by kernel_rfl) (by kernel_rfl) (by kernel_rfl) (fun n => by kernel_rfl) ?_
  intro x y h
  obtain ⟨n, h⟩ := lim_some h
  have e : run Θ Γ69 Try.f69 c69 i69 o69 (Φ69.at n) x = spec_l7Has_N n x := by kernel_rfl
  exact ⟨n, e.trans h⟩
/- 57 loop.example/g00492/spec.l7Walk -/
noncomputable def i57 : Args := [{ mode := 1, cells := [(.int .i64, false), ((.slice [.bool, .bool, (.slice [.int .i64, .int .i64, .int .i64, .int .i64, .int .i64])]), false)] }, { mode := 0, cells := [(.int .i64, false)] }, { mode := 0, cells := [((.slice [.int .i64]), true)] }]
noncomputable def o57 : Args := [{ mode := 0, cells := [((.slice [.int .i64]), true)] }]
noncomputable def s57 : FSpec := ⟨i57, o57, spec_l7Walk⟩
noncomputable def c57 : Code := match Try.f57.body with | some c => c | none => .skip
noncomputable def S57_6 : Slots := [(2, .val (.slice [.int .i64]) true), (3, .box [(.int .i64, false), ((.slice [.bool, .bool, (.slice [.int .i64, .int .i64, .int .i64, .int .i64, .int .i64])]), false)]), (7, .box [(.bool, false), ((.slice [.int .i64, .int .i64, .int .i64, .int .i64, .int .i64]), false)]), (8, .val (.int .i64) false)]
noncomputable def Φ57 (k : Nat) : LFams ((List Int)) := [(6, ⟨S57_6, spec_l7Walk_L6 (spec_l7Walk_R k)⟩)]
noncomputable def r57 (k : Nat) : FSpec := ⟨i57, o57, spec_l7Walk_R k⟩
noncomputable def Γ57 (k : Nat) : Env := [(57, r57 k), (27, s27), (69, s69)]
theorem env57 (k : Nat) (h : FnOk Try.prog 57 (r57 k)) : EnvOk Try.prog (Γ57 k) := EnvOk.cons h Try.func57 (by kernel_rfl) (by decide) (EnvOk.cons ok27 Try.func27 (by kernel_rfl) (by decide) (EnvOk.cons ok69 Try.func69 (by kernel_rfl) (by decide) EnvOk.nil))
theorem step57 (k : Nat) (h : FnOk Try.prog 57 (r57 k)) : FnOk Try.prog 57 (r57 (k + 1)) := by
  refine fn_ok (Θ := Θ) (Γ := (Γ57 k)) (Φ := (Φ57 k)) (c := c57) Try.func57 (by kernel_rfl) (by kernel_rfl) tab (env57 k h) (by kernel_rfl) (by kernel_rfl) (by kernel_rfl) (fun n => by kernel_rfl) ?_
  intro x y h
  obtain ⟨n, h⟩ := lim_some h
  have e : run Θ (Γ57 k) Try.f57 c57 i57 o57 ((Φ57 k).at n) x = spec_l7Walk_N (spec_l7Walk_R k) n x := by kernel_rfl
  exact ⟨n, e.trans h⟩
theorem ok57 : FnOk Try.prog 57 s57 := FnOk.lim (fun k => Nat.rec (FnOk.none fun _ => rfl) (fun k h => step57 k h) k)
/- 42 loop.example/g00492/spec.Reach -/
noncomputable def i42 : Args := [{ mode := 1, cells := [(.int .i64, false), ((.slice [.bool, .bool, (.slice [.int .i64, .int .i64, .int .i64, .int .i64, .int .i64])]), false)] }]
noncomputable def o42 : Args := [{ mode := 0, cells := [((.slice [.int .i64]), true)] }]
noncomputable def s42 : FSpec := ⟨i42, o42, spec_Reach⟩
noncomputable def c42 : Code := match Try.f42.body with | some c => c | none => .skip
noncomputable def Φ42 : LFams ((List Int)) := []
noncomputable def Γ42 : Env := [(57, s57)]
theorem env42 : EnvOk Try.prog Γ42 := (EnvOk.cons ok57 Try.func57 (by kernel_rfl) (by decide) EnvOk.nil)
theorem ok42 : FnOk Try.prog 42 s42 := by
  refine fn_ok (Θ := Θ) (Γ := Γ42) (Φ := Φ42) (c := c42) Try.func42 (by kernel_rfl) (by kernel_rfl) tab env42 (by kernel_rfl) (by kernel_rfl) (by kernel_rfl) (fun n => by kernel_rfl) ?_
  intro x y h
  have e : run Θ Γ42 Try.f42 c42 i42 o42 (Φ42.at 0) x = spec_Reach x := by kernel_rfl
  exact ⟨0, e.trans h⟩
/- 58 loop.example/g00492/spec.Leaves -/
noncomputable def i58 : Args := [{ mode := 1, cells := [(.int .i64, false), ((.slice [.bool, .bool, (.slice [.int .i64, .int .i64, .int .i64, .int .i64, .int .i64])]), false)] }]
noncomputable def o58 : Args := [{ mode := 0, cells := [((.slice [.int .i64]), true)] }]
noncomputable def s58 : FSpec := ⟨i58, o58, spec_Leaves⟩
noncomputable def c58 : Code := match Try.f58.body with | some c => c | none => .skip
noncomputable def S58_4 : Slots := [(1, .box [(.int .i64, false), ((.slice [.bool, .bool, (.slice [.int .i64, .int .i64, .int .i64, .int .i64, .int .i64])]), false)]), (3, .val (.slice [.int .i64]) true), (4, .val (.slice [.int .i64]) false), (5, .val (.int .i64) false)]
noncomputable def Φ58 : LFams ((List Int)) := [(4, ⟨S58_4, spec_Leaves_L4⟩)]
noncomputable def Γ58 : Env := [(42, s42)]
theorem env58 : EnvOk Try.prog Γ58 := (EnvOk.cons ok42 Try.func42 (by kernel_rfl) (by decide) EnvOk.nil)
theorem ok58 : FnOk Try.prog 58 s58 := by
  refine fn_ok (Θ := Θ) (Γ := Γ58) (Φ := Φ58) (c := c58) Try.func58 (by kernel_rfl) (by kernel_rfl) tab env58 (by kernel_rfl) (by kernel_rfl) (by kernel_rfl) (fun n => by kernel_rfl) ?_
  intro x y h
  obtain ⟨n, h⟩ := lim_some h
  have e : run Θ Γ58 Try.f58 c58 i58 o58 (Φ58.at n) x = spec_Leaves_N n x := by kernel_rfl
  exact ⟨n, e.trans h⟩
/- 59 loop.example/g00492/spec.ItemsOf -/
noncomputable def i59 : Args := [{ mode := 1, cells := [(.bool, false), ((.slice [.int .i64, .int .i64, .int .i64, .int .i64, .int .i64]), false)] }]
noncomputable def o59 : Args := [{ mode := 0, cells := [((.slice [.int .i64, .int .i64, .int .i64, .int .i64, .int .i64]), true)] }]
noncomputable def s59 : FSpec := ⟨i59, o59, spec_ItemsOf⟩
noncomputable def c59 : Code := match Try.f59.body with | some c => c | none => .skip
noncomputable def S59_3 : Slots := [(1, .box [(.bool, false), ((.slice [.int .i64, .int .i64, .int .i64, .int .i64, .int .i64]), false)]), (3, .val (.slice [.int .i64, .int .i64, .int .i64, .int .i64, .int .i64]) true), (4, .val (.int .i64) false)]
noncomputable def Φ59 : LFams ((List (Int × Int × Int × Int × Int))) := [(3, ⟨S59_3, spec_ItemsOf_L3⟩)]
noncomputable def Γ59 : Env := []
theorem env59 : EnvOk Try.prog Γ59 := EnvOk.nil
theorem ok59 : FnOk Try.prog 59 s59 := by
  refine fn_ok (Θ := Θ) (Γ := Γ59) (Φ := Φ59) (c := c59) Try.func59 (by kernel_rfl) (by kernel_rfl) tab env59 (by kernel_rfl) (by kernel_rfl) (by kernel_rfl) (fun n => by kernel_rfl) ?_
  intro x y h
  obtain ⟨n, h⟩ := lim_some h
  have e : run Θ Γ59 Try.f59 c59 i59 o59 (Φ59.at n) x = spec_ItemsOf_N n x := by kernel_rfl
  exact ⟨n, e.trans h⟩
/- 43 loop.example/g00492/spec.All -/
noncomputable def i43 : Args := [{ mode := 1, cells := [(.int .i64, false), ((.slice [.bool, .bool, (.slice [.int .i64, .int .i64, .int .i64, .int .i64, .int .i64])]), false)] }]
noncomputable def o43 : Args := [{ mode := 0, cells := [((.slice [.int .i64, .int .i64, .int .i64, .int .i64, .int .i64]), true)] }]
noncomputable def s43 : FSpec := ⟨i43, o43, spec_All⟩
noncomputable def c43 : Code := match Try.f43.body with | some c => c | none => .skip
noncomputable def S43_4 : Slots := [(1, .box [(.int .i64, false), ((.slice [.bool, .bool, (.slice [.int .i64, .int .i64, .int .i64, .int .i64, .int .i64])]), false)]), (3, .val (.slice [.int .i64, .int .i64, .int .i64, .int .i64, .int .i64]) true), (4, .val (.slice [.int .i64]) false), (5, .val (.int .i64) false)]
noncomputable def Φ43 : LFams ((List (Int × Int × Int × Int × Int))) := [(4, ⟨S43_4, spec_All_L4⟩)]
noncomputable def Γ43 : Env := [(58, s58), (59, s59)]
theorem env43 : EnvOk Try.prog Γ43 := (EnvOk.cons ok58 Try.func58 (by kernel_rfl) (by decide) (EnvOk.cons ok59 Try.func59 (by kernel_rfl) (by decide) EnvOk.nil))
theorem ok43 : FnOk Try.prog 43 s43 := by
  refine fn_ok (Θ := Θ) (Γ := Γ43) (Φ := Φ43) (c := c43) Try.func43 (by kernel_rfl) (by kernel_rfl) tab env43 (by kernel_rfl) (by kernel_rfl) (by kernel_rfl) (fun n => by kernel_rfl) ?_
  intro x y h
  obtain ⟨n, h⟩ := lim_some h
  have e : run Θ Γ43 Try.f43 c43 i43 o43 (Φ43.at n) x = spec_All_N n x := by kernel_rfl
  exact ⟨n, e.trans h⟩
/- 23 loop.example/g00492/spec.Room -/
noncomputable def i23 : Args := [{ mode := 1, cells := [(.int .i64, false), ((.slice [.bool, .bool, (.slice [.int .i64, .int .i64, .int .i64, .int .i64, .int .i64])]), false)] }]
noncomputable def o23 : Args := [{ mode := 0, cells := [(.bool, false)] }]
noncomputable def s23 : FSpec := ⟨i23, o23, spec_Room⟩
noncomputable def c23 : Code := match Try.f23.body with | some c => c | none => .skip
noncomputable def Φ23 : LFams Bool := []
noncomputable def Γ23 : Env := [(29, s29), (42, s42), (43, s43)]
theorem env23 : EnvOk Try.prog Γ23 := (EnvOk.cons ok29 Try.func29 (by kernel_rfl) (by decide) (EnvOk.cons ok42 Try.func42 (by kernel_rfl) (by decide) (EnvOk.cons ok43 Try.func43 (by kernel_rfl) (by decide) EnvOk.nil)))
theorem ok23 : FnOk Try.prog 23 s23 := by
  refine fn_ok (Θ := Θ) (Γ := Γ23) (Φ := Φ23) (c := c23) Try.func23 (by kernel_rfl) (by kernel_rfl) tab env23 (by kernel_rfl) (by kernel_rfl) (by kernel_rfl) (fun n => by kernel_rfl) ?_
  intro x y h
  have e : run Θ Γ23 Try.f23 c23 i23 o23 (Φ23.at 0) x = spec_Room x := by kernel_rfl
  exact ⟨0, e.trans h⟩
/- 66 loop.example/g00492/laws.toBox -/
noncomputable def i66 : Args := [{ mode := 1, cells := [(.int .i64, false), (.int .i64, false), (.int .i64, false), (.int .i64, false)] }]
noncomputable def o66 : Args := [{ mode := 1, cells := [(.int .i64, false), (.int .i64, false), (.int .i64, false), (.int .i64, false)] }]
noncomputable def s66 : FSpec := ⟨i66, o66, laws_toBox⟩
noncomputable def c66 : Code := match Try.f66.body with | some c => c | none => .skip
noncomputable def Φ66 : LFams (Int × Int × Int × Int) := []
noncomputable def Γ66 : Env := []
theorem env66 : EnvOk Try.prog Γ66 := EnvOk.nil
theorem ok66 : FnOk Try.prog 66 s66 := by
  refine fn_ok (Θ := Θ) (Γ := Γ66) (Φ := Φ66) (c := c66) Try.func66 (by kernel_rfl) (by kernel_rfl) tab env66 (by kernel_rfl) (by kernel_rfl) (by kernel_rfl) (fun n => by kernel_rfl) ?_
  intro x y h
  have e : run Θ Γ66 Try.f66 c66 i66 o66 (Φ66.at 0) x = laws_toBox x := by kernel_rfl
  exact ⟨0, e.trans h⟩
/- 53 loop.example/g00492/laws.toEntry -/
noncomputable def i53 : Args := [{ mode := 1, cells := [(.int .i64, false), (.int .i64, false), (.int .i64, false), (.int .i64, false), (.int .i64, false)] }]
noncomputable def o53 : Args := [{ mode := 1, cells := [(.int .i64, false), (.int .i64, false), (.int .i64, false), (.int .i64, false), (.int .i64, false)] }]
noncomputable def s53 : FSpec := ⟨i53, o53, laws_toEntry⟩
noncomputable def c53 : Code := match Try.f53.body with | some c => c | none => .skip
noncomputable def Φ53 : LFams (Int × Int × Int × Int × Int) := []
noncomputable def Γ53 : Env := [(66, s66)]
theorem env53 : EnvOk Try.prog Γ53 := (EnvOk.cons ok66 Try.func66 (by kernel_rfl) (by decide) EnvOk.nil)
theorem ok53 : FnOk Try.prog 53 s53 := by
  refine fn_ok (Θ := Θ) (Γ := Γ53) (Φ := Φ53) (c := c53) Try.func53 (by kernel_rfl) (by kernel_rfl) tab env53 (by kernel_rfl) (by kernel_rfl) (by kernel_rfl) (fun n => by kernel_rfl) ?_
  intro x y h
  have e : run Θ Γ53 Try.f53 c53 i53 o53 (Φ53.at 0) x = laws_toEntry x := by kernel_rfl
  exact ⟨0, e.trans h⟩
/- 38 loop.example/g00492/laws.toEntryS -/
noncomputable def i38 : Args := [{ mode := 0, cells := [((.slice [.int .i64, .int .i64, .int .i64, .int .i64, .int .i64]), false)] }]
noncomputable def o38 : Args := [{ mode := 0, cells := [((.slice [.int .i64, .int .i64, .int .i64, .int .i64, .int .i64]), true)] }]
noncomputable def s38 : FSpec := ⟨i38, o38, laws_toEntryS⟩
noncomputable def c38 : Code := match Try.f38.body with | some c => c | none => .skip
noncomputable def S38_3 : Slots := [(0, .val (.slice [.int .i64, .int .i64, .int .i64, .int .i64, .int .i64]) false), (3, .val (.slice [.int .i64, .int .i64, .int .i64, .int .i64, .int .i64]) true), (4, .val (.int .i64) false)]
noncomputable def Φ38 : LFams ((List (Int × Int × Int × Int × Int))) := [(3, ⟨S38_3, laws_toEntryS_L3⟩)]
noncomputable def Γ38 : Env := [(53, s53)]
theorem env38 : EnvOk Try.prog Γ38 := (EnvOk.cons ok53 Try.func53 (by kernel_rfl) (by decide) EnvOk.nil)
theorem ok38 : FnOk Try.prog 38 s38 := by
  refine fn_ok (Θ := Θ) (Γ := Γ38) (Φ := Φ38) (c := c38) Try.func38 (by kernel_rfl) (by kernel_rfl) tab env38 (by kernel_rfl) (by kernel_rfl) (by kernel_rfl) (fun n => by kernel_rfl) ?_
  intro x y h
  obtain ⟨n, h⟩ := lim_some h
  have e : run Θ Γ38 Try.f38 c38 i38 o38 (Φ38.at n) x = laws_toEntryS_N n x := by kernel_rfl
  exact ⟨n, e.trans h⟩
/- 70 loop.example/g00492/laws.toNode -/
noncomputable def i70 : Args := [{ mode := 1, cells := [(.bool, false), ((.slice [.int .i64, .int .i64, .int .i64, .int .i64, .int .i64]), false)] }]
noncomputable def o70 : Args := [{ mode := 1, cells := [(.bool, false), ((.slice [.int .i64, .int .i64, .int .i64, .int .i64, .int .i64]), true)] }]
noncomputable def s70 : FSpec := ⟨i70, o70, laws_toNode⟩
noncomputable def c70 : Code := match Try.f70.body with | some c => c | none => .skip
noncomputable def Φ70 : LFams (Bool × (List (Int × Int × Int × Int × Int))) := []
noncomputable def Γ70 : Env := [(38, s38)]
theorem env70 : EnvOk Try.prog Γ70 := (EnvOk.cons ok38 Try.func38 (by kernel_rfl) (by decide) EnvOk.nil)
theorem ok70 : FnOk Try.prog 70 s70 := by
  refine fn_ok (Θ := Θ) (Γ := Γ70) (Φ := Φ70) (c := c70) Try.func70 (by kernel_rfl) (by kernel_rfl) tab env70 (by kernel_rfl) (by kernel_rfl) (by kernel_rfl) (fun n => by kernel_rfl) ?_
  intro x y h
  have e : run Θ Γ70 Try.f70 c70 i70 o70 (Φ70.at 0) x = laws_toNode x := by kernel_rfl
  exact ⟨0, e.trans h⟩
/- 60 loop.example/g00492/laws.toPage -/
noncomputable def i60 : Args := [{ mode := 1, cells := [(.bool, false), (.bool, false), ((.slice [.int .i64, .int .i64, .int .i64, .int .i64, .int .i64]), false)] }]
noncomputable def o60 : Args := [{ mode := 1, cells := [(.bool, false), (.bool, false), ((.slice [.int .i64, .int .i64, .int .i64, .int .i64, .int .i64]), true)] }]
noncomputable def s60 : FSpec := ⟨i60, o60, laws_toPage⟩
noncomputable def c60 : Code := match Try.f60.body with | some c => c | none => .skip
noncomputable def Φ60 : LFams (Bool × Bool × (List (Int × Int × Int × Int × Int))) := []
noncomputable def Γ60 : Env := [(70, s70)]
theorem env60 : EnvOk Try.prog Γ60 := (EnvOk.cons ok70 Try.func70 (by kernel_rfl) (by decide) EnvOk.nil)
theorem ok60 : FnOk Try.prog 60 s60 := by
  refine fn_ok (Θ := Θ) (Γ := Γ60) (Φ := Φ60) (c := c60) Try.func60 (by kernel_rfl) (by kernel_rfl) tab env60 (by kernel_rfl) (by kernel_rfl) (by kernel_rfl) (fun n => by kernel_rfl) ?_
  intro x y h
  have e : run Θ Γ60 Try.f60 c60 i60 o60 (Φ60.at 0) x = laws_toPage x := by kernel_rfl
  exact ⟨0, e.trans h⟩
/- 44 loop.example/g00492/laws.toPageS -/
noncomputable def i44 : Args := [{ mode := 0, cells := [((.slice [.bool, .bool, (.slice [.int .i64, .int .i64, .int .i64, .int .i64, .int .i64])]), false)] }]
noncomputable def o44 : Args := [{ mode := 0, cells := [((.slice [.bool, .bool, (.slice [.int .i64, .int .i64, .int .i64, .int .i64, .int .i64])]), true)] }]
noncomputable def s44 : FSpec := ⟨i44, o44, laws_toPageS⟩
noncomputable def c44 : Code := match Try.f44.body with | some c => c | none => .skip
noncomputable def S44_3 : Slots := [(0, .val (.slice [.bool, .bool, (.slice [.int .i64, .int .i64, .int .i64, .int .i64, .int .i64])]) false), (3, .val (.slice [.bool, .bool, (.slice [.int .i64, .int .i64, .int .i64, .int .i64, .int .i64])]) true), (4, .val (.int .i64) false)]
noncomputable def Φ44 : LFams ((List (Bool × Bool × (List (Int × Int × Int × Int × Int))))) := [(3, ⟨S44_3, laws_toPageS_L3⟩)]
noncomputable def Γ44 : Env := [(60, s60)]
theorem env44 : EnvOk Try.prog Γ44 := (EnvOk.cons ok60 Try.func60 (by kernel_rfl) (by decide) EnvOk.nil)
theorem ok44 : FnOk Try.prog 44 s44 := by
  refine fn_ok (Θ := Θ) (Γ := Γ44) (Φ := Φ44) (c := c44) Try.func44 (by kernel_rfl) (by kernel_rfl) tab env44 (by kernel_rfl) (by kernel_rfl) (by kernel_rfl) (fun n => by kernel_rfl) ?_
  intro x y h
  obtain ⟨n, h⟩ := lim_some h
  have e : run Θ Γ44 Try.f44 c44 i44 o44 (Φ44.at n) x = laws_toPageS_N n x := by kernel_rfl
  exact ⟨n, e.trans h⟩
/- 24 loop.example/g00492/laws.toBook -/
noncomputable def i24 : Args := [{ mode := 1, cells := [(.int .i64, false), ((.slice [.bool, .bool, (.slice [.int .i64, .int .i64, .int .i64, .int .i64, .int .i64])]), false)] }]
noncomputable def o24 : Args := [{ mode := 1, cells := [(.int .i64, false), ((.slice [.bool, .bool, (.slice [.int .i64, .int .i64, .int .i64, .int .i64, .int .i64])]), true)] }]
noncomputable def s24 : FSpec := ⟨i24, o24, laws_toBook⟩
noncomputable def c24 : Code := match Try.f24.body with | some c => c | none => .skip
noncomputable def Φ24 : LFams (Int × (List (Bool × Bool × (List (Int × Int × Int × Int × Int))))) := []
noncomputable def Γ24 : Env := [(44, s44)]
theorem env24 : EnvOk Try.prog Γ24 := (EnvOk.cons ok44 Try.func44 (by kernel_rfl) (by decide) EnvOk.nil)
theorem ok24 : FnOk Try.prog 24 s24 := by
  refine fn_ok (Θ := Θ) (Γ := Γ24) (Φ := Φ24) (c := c24) Try.func24 (by kernel_rfl) (by kernel_rfl) tab env24 (by kernel_rfl) (by kernel_rfl) (by kernel_rfl) (fun n => by kernel_rfl) ?_
  intro x y h
  have e : run Θ Γ24 Try.f24 c24 i24 o24 (Φ24.at 0) x = laws_toBook x := by kernel_rfl
  exact ⟨0, e.trans h⟩
/- 30 loop.example/g00492/impl.in -/
noncomputable def i30 : Args := [{ mode := 0, cells := [(.int .i64, false)] }, { mode := 0, cells := [(.int .i64, false)] }, { mode := 0, cells := [(.int .i64, false)] }]
noncomputable def o30 : Args := [{ mode := 0, cells := [(.bool, false)] }]
noncomputable def s30 : FSpec := ⟨i30, o30, impl_in⟩
noncomputable def c30 : Code := match Try.f30.body with | some c => c | none => .skip
noncomputable def Φ30 : LFams Bool := []
noncomputable def Γ30 : Env := []
theorem env30 : EnvOk Try.prog Γ30 := EnvOk.nil
theorem ok30 : FnOk Try.prog 30 s30 := by
  refine fn_ok (Θ := Θ) (Γ := Γ30) (Φ := Φ30) (c := c30) Try.func30 (by kernel_rfl) (by kernel_rfl) tab env30 (by kernel_rfl) (by kernel_rfl) (by kernel_rfl) (fun n => by kernel_rfl) ?_
  intro x y h
  have e : run Θ Γ30 Try.f30 c30 i30 o30 (Φ30.at 0) x = impl_in x := by kernel_rfl
  exact ⟨0, e.trans h⟩
/- 50 loop.example/g00492/impl.Up -/
noncomputable def i50 : Args := [{ mode := 0, cells := [(.int .i64, false)] }, { mode := 0, cells := [(.int .i64, false)] }]
noncomputable def o50 : Args := [{ mode := 0, cells := [(.int .i64, false)] }]
noncomputable def s50 : FSpec := ⟨i50, o50, impl_Up⟩
noncomputable def c50 : Code := match Try.f50.body with | some c => c | none => .skip
noncomputable def Φ50 : LFams Int := []
noncomputable def Γ50 : Env := []
theorem env50 : EnvOk Try.prog Γ50 := EnvOk.nil
theorem ok50 : FnOk Try.prog 50 s50 := by
  refine fn_ok (Θ := Θ) (Γ := Γ50) (Φ := Φ50) (c := c50) Try.func50 (by kernel_rfl) (by kernel_rfl) tab env50 (by kernel_rfl) (by kernel_rfl) (by kernel_rfl) (fun n => by kernel_rfl) ?_
  intro x y h
  have e : run Θ Γ50 Try.f50 c50 i50 o50 (Φ50.at 0) x = impl_Up x := by kernel_rfl
  exact ⟨0, e.trans h⟩
/- 31 loop.example/g00492/impl.PagesFor -/
noncomputable def i31 : Args := [{ mode := 0, cells := [(.int .i64, false)] }]
noncomputable def o31 : Args := [{ mode := 0, cells := [(.int .i64, false)] }]
noncomputable def s31 : FSpec := ⟨i31, o31, impl_PagesFor⟩
noncomputable def c31 : Code := match Try.f31.body with | some c => c | none => .skip
noncomputable def Φ31 (k : Nat) : LFams Int := []
noncomputable def r31 (k : Nat) : FSpec := ⟨i31, o31, impl_PagesFor_R k⟩
noncomputable def Γ31 (k : Nat) : Env := [(31, r31 k), (30, s30), (50, s50)]
theorem env31 (k : Nat) (h : FnOk Try.prog 31 (r31 k)) : EnvOk Try.prog (Γ31 k) := EnvOk.cons h Try.func31 (by kernel_rfl) (by decide) (EnvOk.cons ok30 Try.func30 (by kernel_rfl) (by decide) (EnvOk.cons ok50 Try.func50 (by kernel_rfl) (by decide) EnvOk.nil))
theorem step31 (k : Nat) (h : FnOk Try.prog 31 (r31 k)) : FnOk Try.prog 31 (r31 (k + 1)) := by
  refine fn_ok (Θ := Θ) (Γ := (Γ31 k)) (Φ := (Φ31 k)) (c := c31) Try.func31 (by kernel_rfl) (by kernel_rfl) tab (env31 k h) (by kernel_rfl) (by kernel_rfl) (by kernel_rfl) (fun n => by kernel_rfl) ?_
  intro x y h
  have e : run Θ (Γ31 k) Try.f31 c31 i31 o31 ((Φ31 k).at 0) x = impl_PagesFor_N (impl_PagesFor_R k) x := by kernel_rfl
  exact ⟨0, e.trans h⟩
theorem ok31 : FnOk Try.prog 31 s31 := FnOk.lim (fun k => Nat.rec (FnOk.none fun _ => rfl) (fun k h => step31 k h) k)
/- 75 loop.example/g00492/impl.exists -/
noncomputable def i75 : Args := [{ mode := 1, cells := [(.int .i64, false), ((.slice [.bool, .bool, (.slice [.int .i64, .int .i64, .int .i64, .int .i64, .int .i64])]), false)] }, { mode := 0, cells := [(.int .i64, false)] }]
noncomputable def o75 : Args := [{ mode := 0, cells := [(.bool, false)] }]
noncomputable def s75 : FSpec := ⟨i75, o75, impl_exists⟩
noncomputable def c75 : Code := match Try.f75.body with | some c => c | none => .skip
noncomputable def Φ75 : LFams Bool := []
noncomputable def Γ75 : Env := []
theorem env75 : EnvOk Try.prog Γ75 := EnvOk.nil
theorem ok75 : FnOk Try.prog 75 s75 := by
  refine fn_ok (Θ := Θ) (Γ := Γ75) (Φ := Φ75) (c := c75) Try.func75 (by kernel_rfl) (by kernel_rfl) tab env75 (by kernel_rfl) (by kernel_rfl) (by kernel_rfl) (fun n => by kernel_rfl) ?_
  intro x y h
  have e : run Θ Γ75 Try.f75 c75 i75 o75 (Φ75.at 0) x = impl_exists x := by kernel_rfl
  exact ⟨0, e.trans h⟩
/- 72 loop.example/g00492/impl.used -/
noncomputable def i72 : Args := [{ mode := 1, cells := [(.int .i64, false), ((.slice [.bool, .bool, (.slice [.int .i64, .int .i64, .int .i64, .int .i64, .int .i64])]), false)] }, { mode := 0, cells := [(.int .i64, false)] }]
noncomputable def o72 : Args := [{ mode := 0, cells := [(.bool, false)] }]
noncomputable def s72 : FSpec := ⟨i72, o72, impl_used⟩
noncomputable def c72 : Code := match Try.f72.body with | some c => c | none => .skip
noncomputable def Φ72 : LFams Bool := []
noncomputable def Γ72 : Env := [(75, s75)]
theorem env72 : EnvOk Try.prog Γ72 := (EnvOk.cons ok75 Try.func75 (by kernel_rfl) (by decide) EnvOk.nil)
theorem ok72 : FnOk Try.prog 72 s72 := by
  refine fn_ok (Θ := Θ) (Γ := Γ72) (Φ := Φ72) (c := c72) Try.func72 (by kernel_rfl) (by kernel_rfl) tab env72 (by kernel_rfl) (by kernel_rfl) (by kernel_rfl) (fun n => by kernel_rfl) ?_
  intro x y h
  have e : run Θ Γ72 Try.f72 c72 i72 o72 (Φ72.at 0) x = impl_used x := by kernel_rfl
  exact ⟨0, e.trans h⟩
/- 71 loop.example/g00492/impl.reachFrom$1 -/
noncomputable def i71 : Args := [{ mode := 0, cells := [(.int .i64, false)] }, { mode := 4, cells := [(.int .i64, false), ((.slice [.bool, .bool, (.slice [.int .i64, .int .i64, .int .i64, .int .i64, .int .i64])]), false)] }, { mode := 2, cells := [(.map, true)] }, { mode := 2, cells := [((.slice [.int .i64]), true)] }, { mode := 3, cells := [], fn := 71, js := [0, 1, 2, 3] }]
noncomputable def o71 : Args := []
noncomputable def s71 : FSpec := ⟨i71, o71, impl_reachFrom_1⟩
noncomputable def c71 : Code := match Try.f71.body with | some c => c | none => .skip
noncomputable def S71_5 : Slots := [(1, .fpar 0 [.int .i64, (.slice [.bool, .bool, (.slice [.int .i64, .int .i64, .int .i64, .int .i64, .int .i64])])]), (2, .par 1 [(.map, true)]), (3, .par 2 [((.slice [.int .i64]), true)]), (4, .cpar 3 71 [0, 1, 2, 3]), (38, .val (.slice [.int .i64, .int .i64, .int .i64, .int .i64, .int .i64]) false), (39, .val (.int .i64) false), (40, .val (.int .i64) false)]
noncomputable def Φ71 (k : Nat) : LFams (((Int → Int)) × (List Int)) := [(5, ⟨S71_5, impl_reachFrom_1_L5 (impl_reachFrom_1_R k)⟩)]
noncomputable def r71 (k : Nat) : FSpec := ⟨i71, o71, impl_reachFrom_1_R k⟩
noncomputable def Γ71 (k : Nat) : Env := [(71, r71 k), (72, s72)]
theorem env71 (k : Nat) (h : FnOk Try.prog 71 (r71 k)) : EnvOk Try.prog (Γ71 k) := EnvOk.cons h Try.func71 (by kernel_rfl) (by decide) (EnvOk.cons ok72 Try.func72 (by kernel_rfl) (by decide) EnvOk.nil)
theorem step71 (k : Nat) (h : FnOk Try.prog 71 (r71 k)) : FnOk Try.prog 71 (r71 (k + 1)) := by
  refine fn_ok (Θ := Θ) (Γ := (Γ71 k)) (Φ := (Φ71 k)) (c := c71) Try.func71 (by kernel_rfl) (by kernel_rfl) tab (env71 k h) (by kernel_rfl) (by kernel_rfl) (by kernel_rfl) (fun n => by kernel_rfl) ?_
  intro x y h
  obtain ⟨n, h⟩ := lim_some h
  have e : run Θ (Γ71 k) Try.f71 c71 i71 o71 ((Φ71 k).at n) x = impl_reachFrom_1_N (impl_reachFrom_1_R k) n x := by kernel_rfl
  exact ⟨n, e.trans h⟩
theorem ok71 : FnOk Try.prog 71 s71 := FnOk.lim (fun k => Nat.rec (FnOk.none fun _ => rfl) (fun k h => step71 k h) k)
/- 61 loop.example/g00492/impl.reachFrom -/
noncomputable def i61 : Args := [{ mode := 1, cells := [(.int .i64, false), ((.slice [.bool, .bool, (.slice [.int .i64, .int .i64, .int .i64, .int .i64, .int .i64])]), false)] }, { mode := 0, cells := [(.int .i64, false)] }]
noncomputable def o61 : Args := [{ mode := 0, cells := [((.slice [.int .i64]), true)] }]
noncomputable def s61 : FSpec := ⟨i61, o61, impl_reachFrom⟩
noncomputable def c61 : Code := match Try.f61.body with | some c => c | none => .skip
noncomputable def Φ61 : LFams ((List Int)) := []
noncomputable def Γ61 : Env := [(71, s71)]
theorem env61 : EnvOk Try.prog Γ61 := (EnvOk.cons ok71 Try.func71 (by kernel_rfl) (by decide) EnvOk.nil)
theorem ok61 : FnOk Try.prog 61 s61 := by
  refine fn_ok (Θ := Θ) (Γ := Γ61) (Φ := Φ61) (c := c61) Try.func61 (by kernel_rfl) (by kernel_rfl) tab env61 (by kernel_rfl) (by kernel_rfl) (by kernel_rfl) (fun n => by kernel_rfl) ?_
  intro x y h
  have e : run Θ Γ61 Try.f61 c61 i61 o61 (Φ61.at 0) x = impl_reachFrom x := by kernel_rfl
  exact ⟨0, e.trans h⟩
/- 45 loop.example/g00492/impl.Reach -/
noncomputable def i45 : Args := [{ mode := 1, cells := [(.int .i64, false), ((.slice [.bool, .bool, (.slice [.int .i64, .int .i64, .int .i64, .int .i64, .int .i64])]), false)] }]
noncomputable def o45 : Args := [{ mode := 0, cells := [((.slice [.int .i64]), true)] }]
noncomputable def s45 : FSpec := ⟨i45, o45, impl_Reach⟩
noncomputable def c45 : Code := match Try.f45.body with | some c => c | none => .skip
noncomputable def Φ45 : LFams ((List Int)) := []
noncomputable def Γ45 : Env := [(61, s61)]
theorem env45 : EnvOk Try.prog Γ45 := (EnvOk.cons ok61 Try.func61 (by kernel_rfl) (by decide) EnvOk.nil)
theorem ok45 : FnOk Try.prog 45 s45 := by
  refine fn_ok (Θ := Θ) (Γ := Γ45) (Φ := Φ45) (c := c45) Try.func45 (by kernel_rfl) (by kernel_rfl) tab env45 (by kernel_rfl) (by kernel_rfl) (by kernel_rfl) (fun n => by kernel_rfl) ?_
  intro x y h
  have e : run Θ Γ45 Try.f45 c45 i45 o45 (Φ45.at 0) x = impl_Reach x := by kernel_rfl
  exact ⟨0, e.trans h⟩
/- 73 loop.example/g00492/impl.ItemsOf -/
noncomputable def i73 : Args := [{ mode := 1, cells := [(.bool, false), ((.slice [.int .i64, .int .i64, .int .i64, .int .i64, .int .i64]), false)] }]
noncomputable def o73 : Args := [{ mode := 0, cells := [((.slice [.int .i64, .int .i64, .int .i64, .int .i64, .int .i64]), true)] }]
noncomputable def s73 : FSpec := ⟨i73, o73, impl_ItemsOf⟩
noncomputable def c73 : Code := match Try.f73.body with | some c => c | none => .skip
noncomputable def S73_4 : Slots := [(3, .val (.slice [.int .i64, .int .i64, .int .i64, .int .i64, .int .i64]) true), (9, .val (.slice [.int .i64, .int .i64, .int .i64, .int .i64, .int .i64]) false), (10, .val (.int .i64) false), (11, .val (.int .i64) false)]
noncomputable def Φ73 : LFams ((List (Int × Int × Int × Int × Int))) := [(4, ⟨S73_4, impl_ItemsOf_L4⟩)]
noncomputable def Γ73 : Env := []
theorem env73 : EnvOk Try.prog Γ73 := EnvOk.nil
theorem ok73 : FnOk Try.prog 73 s73 := by
  refine fn_ok (Θ := Θ) (Γ := Γ73) (Φ := Φ73) (c := c73) Try.func73 (by kernel_rfl) (by kernel_rfl) tab env73 (by kernel_rfl) (by kernel_rfl) (by kernel_rfl) (fun n => by kernel_rfl) ?_
  intro x y h
  obtain ⟨n, h⟩ := lim_some h
  have e : run Θ Γ73 Try.f73 c73 i73 o73 (Φ73.at n) x = impl_ItemsOf_N n x := by kernel_rfl
  exact ⟨n, e.trans h⟩
/- 62 loop.example/g00492/impl.itemsFrom -/
noncomputable def i62 : Args := [{ mode := 1, cells := [(.int .i64, false), ((.slice [.bool, .bool, (.slice [.int .i64, .int .i64, .int .i64, .int .i64, .int .i64])]), false)] }, { mode := 0, cells := [(.int .i64, false)] }]
noncomputable def o62 : Args := [{ mode := 0, cells := [((.slice [.int .i64, .int .i64, .int .i64, .int .i64, .int .i64]), true)] }]
noncomputable def s62 : FSpec := ⟨i62, o62, impl_itemsFrom⟩
noncomputable def c62 : Code := match Try.f62.body with | some c => c | none => .skip
noncomputable def S62_3 : Slots := [(2, .box [(.int .i64, false), ((.slice [.bool, .bool, (.slice [.int .i64, .int .i64, .int .i64, .int .i64, .int .i64])]), false)]), (5, .val (.slice [.int .i64, .int .i64, .int .i64, .int .i64, .int .i64]) true), (10, .val (.slice [.int .i64]) false), (11, .val (.int .i64) false), (12, .val (.int .i64) false)]
noncomputable def Φ62 : LFams ((List (Int × Int × Int × Int × Int))) := [(3, ⟨S62_3, impl_itemsFrom_L3⟩)]
noncomputable def Γ62 : Env := [(61, s61), (73, s73)]
theorem env62 : EnvOk Try.prog Γ62 := (EnvOk.cons ok61 Try.func61 (by kernel_rfl) (by decide) (EnvOk.cons ok73 Try.func73 (by kernel_rfl) (by decide) EnvOk.nil))
theorem ok62 : FnOk Try.prog 62 s62 := by
  refine fn_ok (Θ := Θ) (Γ := Γ62) (Φ := Φ62) (c := c62) Try.func62 (by kernel_rfl) (by kernel_rfl) tab env62 (by kernel_rfl) (by kernel_rfl) (by kernel_rfl) (fun n => by kernel_rfl) ?_
  intro x y h
  obtain ⟨n, h⟩ := lim_some h
  have e : run Θ Γ62 Try.f62 c62 i62 o62 (Φ62.at n) x = impl_itemsFrom_N n x := by kernel_rfl
  exact ⟨n, e.trans h⟩
/- 46 loop.example/g00492/impl.All -/
noncomputable def i46 : Args := [{ mode := 1, cells := [(.int .i64, false), ((.slice [.bool, .bool, (.slice [.int .i64, .int .i64, .int .i64, .int .i64, .int .i64])]), false)] }]
noncomputable def o46 : Args := [{ mode := 0, cells := [((.slice [.int .i64, .int .i64, .int .i64, .int .i64, .int .i64]), true)] }]
noncomputable def s46 : FSpec := ⟨i46, o46, impl_All⟩
noncomputable def c46 : Code := match Try.f46.body with | some c => c | none => .skip
noncomputable def Φ46 : LFams ((List (Int × Int × Int × Int × Int))) := []
noncomputable def Γ46 : Env := [(62, s62)]
theorem env46 : EnvOk Try.prog Γ46 := (EnvOk.cons ok62 Try.func62 (by kernel_rfl) (by decide) EnvOk.nil)
theorem ok46 : FnOk Try.prog 46 s46 := by
  refine fn_ok (Θ := Θ) (Γ := Γ46) (Φ := Φ46) (c := c46) Try.func46 (by kernel_rfl) (by kernel_rfl) tab env46 (by kernel_rfl) (by kernel_rfl) (by kernel_rfl) (fun n => by kernel_rfl) ?_
  intro x y h
  have e : run Θ Γ46 Try.f46 c46 i46 o46 (Φ46.at 0) x = impl_All x := by kernel_rfl
  exact ⟨0, e.trans h⟩
/- 25 loop.example/g00492/impl.Room -/
noncomputable def i25 : Args := [{ mode := 1, cells := [(.int .i64, false), ((.slice [.bool, .bool, (.slice [.int .i64, .int .i64, .int .i64, .int .i64, .int .i64])]), false)] }]
noncomputable def o25 : Args := [{ mode := 0, cells := [(.bool, false)] }]
noncomputable def s25 : FSpec := ⟨i25, o25, impl_Room⟩
noncomputable def c25 : Code := match Try.f25.body with | some c => c | none => .skip
noncomputable def Φ25 : LFams Bool := []
noncomputable def Γ25 : Env := [(31, s31), (45, s45), (46, s46)]
theorem env25 : EnvOk Try.prog Γ25 := (EnvOk.cons ok31 Try.func31 (by kernel_rfl) (by decide) (EnvOk.cons ok45 Try.func45 (by kernel_rfl) (by decide) (EnvOk.cons ok46 Try.func46 (by kernel_rfl) (by decide) EnvOk.nil)))
theorem ok25 : FnOk Try.prog 25 s25 := by
  refine fn_ok (Θ := Θ) (Γ := Γ25) (Φ := Φ25) (c := c25) Try.func25 (by kernel_rfl) (by kernel_rfl) tab env25 (by kernel_rfl) (by kernel_rfl) (by kernel_rfl) (fun n => by kernel_rfl) ?_
  intro x y h
  have e : run Θ Γ25 Try.f25 c25 i25 o25 (Φ25.at 0) x = impl_Room x := by kernel_rfl
  exact ⟨0, e.trans h⟩
/- 67 loop.example/g00492/laws.eqBox -/
noncomputable def i67 : Args := [{ mode := 1, cells := [(.int .i64, false), (.int .i64, false), (.int .i64, false), (.int .i64, false)] }, { mode := 1, cells := [(.int .i64, false), (.int .i64, false), (.int .i64, false), (.int .i64, false)] }]
noncomputable def o67 : Args := [{ mode := 0, cells := [(.bool, false)] }]
noncomputable def s67 : FSpec := ⟨i67, o67, laws_eqBox⟩
noncomputable def c67 : Code := match Try.f67.body with | some c => c | none => .skip
noncomputable def Φ67 : LFams Bool := []
noncomputable def Γ67 : Env := []
theorem env67 : EnvOk Try.prog Γ67 := EnvOk.nil
theorem ok67 : FnOk Try.prog 67 s67 := by
  refine fn_ok (Θ := Θ) (Γ := Γ67) (Φ := Φ67) (c := c67) Try.func67 (by kernel_rfl) (by kernel_rfl) tab env67 (by kernel_rfl) (by kernel_rfl) (by kernel_rfl) (fun n => by kernel_rfl) ?_
  intro x y h
  have e : run Θ Γ67 Try.f67 c67 i67 o67 (Φ67.at 0) x = laws_eqBox x := by kernel_rfl
  exact ⟨0, e.trans h⟩
/- 55 loop.example/g00492/laws.eqEntry -/
noncomputable def i55 : Args := [{ mode := 1, cells := [(.int .i64, false), (.int .i64, false), (.int .i64, false), (.int .i64, false), (.int .i64, false)] }, { mode := 1, cells := [(.int .i64, false), (.int .i64, false), (.int .i64, false), (.int .i64, false), (.int .i64, false)] }]
noncomputable def o55 : Args := [{ mode := 0, cells := [(.bool, false)] }]
noncomputable def s55 : FSpec := ⟨i55, o55, laws_eqEntry⟩
noncomputable def c55 : Code := match Try.f55.body with | some c => c | none => .skip
noncomputable def Φ55 : LFams Bool := []
noncomputable def Γ55 : Env := [(67, s67)]
theorem env55 : EnvOk Try.prog Γ55 := (EnvOk.cons ok67 Try.func67 (by kernel_rfl) (by decide) EnvOk.nil)
theorem ok55 : FnOk Try.prog 55 s55 := by
  refine fn_ok (Θ := Θ) (Γ := Γ55) (Φ := Φ55) (c := c55) Try.func55 (by kernel_rfl) (by kernel_rfl) tab env55 (by kernel_rfl) (by kernel_rfl) (by kernel_rfl) (fun n => by kernel_rfl) ?_
  intro x y h
  have e : run Θ Γ55 Try.f55 c55 i55 o55 (Φ55.at 0) x = laws_eqEntry x := by kernel_rfl
  exact ⟨0, e.trans h⟩
/- 40 loop.example/g00492/laws.eqEntryS -/
noncomputable def i40 : Args := [{ mode := 0, cells := [((.slice [.int .i64, .int .i64, .int .i64, .int .i64, .int .i64]), false)] }, { mode := 0, cells := [((.slice [.int .i64, .int .i64, .int .i64, .int .i64, .int .i64]), false)] }]
noncomputable def o40 : Args := [{ mode := 0, cells := [(.bool, false)] }]
noncomputable def s40 : FSpec := ⟨i40, o40, laws_eqEntryS⟩
noncomputable def c40 : Code := match Try.f40.body with | some c => c | none => .skip
noncomputable def S40_4 : Slots := [(0, .val (.slice [.int .i64, .int .i64, .int .i64, .int .i64, .int .i64]) false), (1, .val (.slice [.int .i64, .int .i64, .int .i64, .int .i64, .int .i64]) false), (5, .val (.int .i64) false)]
noncomputable def Φ40 : LFams Bool := [(4, ⟨S40_4, laws_eqEntryS_L4⟩)]
noncomputable def Γ40 : Env := [(55, s55)]
theorem env40 : EnvOk Try.prog Γ40 := (EnvOk.cons ok55 Try.func55 (by kernel_rfl) (by decide) EnvOk.nil)
theorem ok40 : FnOk Try.prog 40 s40 := by
  refine fn_ok (Θ := Θ) (Γ := Γ40) (Φ := Φ40) (c := c40) Try.func40 (by kernel_rfl) (by kernel_rfl) tab env40 (by kernel_rfl) (by kernel_rfl) (by kernel_rfl) (fun n => by kernel_rfl) ?_
  intro x y h
  obtain ⟨n, h⟩ := lim_some h
  have e : run Θ Γ40 Try.f40 c40 i40 o40 (Φ40.at n) x = laws_eqEntryS_N n x := by kernel_rfl
  exact ⟨n, e.trans h⟩
/- 74 loop.example/g00492/laws.eqNode -/
noncomputable def i74 : Args := [{ mode := 1, cells := [(.bool, false), ((.slice [.int .i64, .int .i64, .int .i64, .int .i64, .int .i64]), false)] }, { mode := 1, cells := [(.bool, false), ((.slice [.int .i64, .int .i64, .int .i64, .int .i64, .int .i64]), false)] }]
noncomputable def o74 : Args := [{ mode := 0, cells := [(.bool, false)] }]
noncomputable def s74 : FSpec := ⟨i74, o74, laws_eqNode⟩
noncomputable def c74 : Code := match Try.f74.body with | some c => c | none => .skip
noncomputable def Φ74 : LFams Bool := []
noncomputable def Γ74 : Env := [(40, s40)]
theorem env74 : EnvOk Try.prog Γ74 := (EnvOk.cons ok40 Try.func40 (by kernel_rfl) (by decide) EnvOk.nil)
theorem ok74 : FnOk Try.prog 74 s74 := by
  refine fn_ok (Θ := Θ) (Γ := Γ74) (Φ := Φ74) (c := c74) Try.func74 (by kernel_rfl) (by kernel_rfl) tab env74 (by kernel_rfl) (by kernel_rfl) (by kernel_rfl) (fun n => by kernel_rfl) ?_
  intro x y h
  have e : run Θ Γ74 Try.f74 c74 i74 o74 (Φ74.at 0) x = laws_eqNode x := by kernel_rfl
  exact ⟨0, e.trans h⟩
/- 63 loop.example/g00492/laws.eqPage -/
noncomputable def i63 : Args := [{ mode := 1, cells := [(.bool, false), (.bool, false), ((.slice [.int .i64, .int .i64, .int .i64, .int .i64, .int .i64]), false)] }, { mode := 1, cells := [(.bool, false), (.bool, false), ((.slice [.int .i64, .int .i64, .int .i64, .int .i64, .int .i64]), false)] }]
noncomputable def o63 : Args := [{ mode := 0, cells := [(.bool, false)] }]
noncomputable def s63 : FSpec := ⟨i63, o63, laws_eqPage⟩
noncomputable def c63 : Code := match Try.f63.body with | some c => c | none => .skip
noncomputable def Φ63 : LFams Bool := []
noncomputable def Γ63 : Env := [(74, s74)]
theorem env63 : EnvOk Try.prog Γ63 := (EnvOk.cons ok74 Try.func74 (by kernel_rfl) (by decide) EnvOk.nil)
theorem ok63 : FnOk Try.prog 63 s63 := by
  refine fn_ok (Θ := Θ) (Γ := Γ63) (Φ := Φ63) (c := c63) Try.func63 (by kernel_rfl) (by kernel_rfl) tab env63 (by kernel_rfl) (by kernel_rfl) (by kernel_rfl) (fun n => by kernel_rfl) ?_
  intro x y h
  have e : run Θ Γ63 Try.f63 c63 i63 o63 (Φ63.at 0) x = laws_eqPage x := by kernel_rfl
  exact ⟨0, e.trans h⟩
/- 47 loop.example/g00492/laws.eqPageS -/
noncomputable def i47 : Args := [{ mode := 0, cells := [((.slice [.bool, .bool, (.slice [.int .i64, .int .i64, .int .i64, .int .i64, .int .i64])]), false)] }, { mode := 0, cells := [((.slice [.bool, .bool, (.slice [.int .i64, .int .i64, .int .i64, .int .i64, .int .i64])]), false)] }]
noncomputable def o47 : Args := [{ mode := 0, cells := [(.bool, false)] }]
noncomputable def s47 : FSpec := ⟨i47, o47, laws_eqPageS⟩
noncomputable def c47 : Code := match Try.f47.body with | some c => c | none => .skip
noncomputable def S47_4 : Slots := [(0, .val (.slice [.bool, .bool, (.slice [.int .i64, .int .i64, .int .i64, .int .i64, .int .i64])]) false), (1, .val (.slice [.bool, .bool, (.slice [.int .i64, .int .i64, .int .i64, .int .i64, .int .i64])]) false), (5, .val (.int .i64) false)]
noncomputable def Φ47 : LFams Bool := [(4, ⟨S47_4, laws_eqPageS_L4⟩)]
noncomputable def Γ47 : Env := [(63, s63)]
theorem env47 : EnvOk Try.prog Γ47 := (EnvOk.cons ok63 Try.func63 (by kernel_rfl) (by decide) EnvOk.nil)
theorem ok47 : FnOk Try.prog 47 s47 := by
  refine fn_ok (Θ := Θ) (Γ := Γ47) (Φ := Φ47) (c := c47) Try.func47 (by kernel_rfl) (by kernel_rfl) tab env47 (by kernel_rfl) (by kernel_rfl) (by kernel_rfl) (fun n => by kernel_rfl) ?_
  intro x y h
  obtain ⟨n, h⟩ := lim_some h
  have e : run Θ Γ47 Try.f47 c47 i47 o47 (Φ47.at n) x = laws_eqPageS_N n x := by kernel_rfl
  exact ⟨n, e.trans h⟩
/- 26 loop.example/g00492/laws.eqBook -/
noncomputable def i26 : Args := [{ mode := 1, cells := [(.int .i64, false), ((.slice [.bool, .bool, (.slice [.int .i64, .int .i64, .int .i64, .int .i64, .int .i64])]), false)] }, { mode := 1, cells := [(.int .i64, false), ((.slice [.bool, .bool, (.slice [.int .i64, .int .i64, .int .i64, .int .i64, .int .i64])]), false)] }]
noncomputable def o26 : Args := [{ mode := 0, cells := [(.bool, false)] }]
noncomputable def s26 : FSpec := ⟨i26, o26, laws_eqBook⟩
noncomputable def c26 : Code := match Try.f26.body with | some c => c | none => .skip
noncomputable def Φ26 : LFams Bool := []
noncomputable def Γ26 : Env := [(47, s47)]
theorem env26 : EnvOk Try.prog Γ26 := (EnvOk.cons ok47 Try.func47 (by kernel_rfl) (by decide) EnvOk.nil)
theorem ok26 : FnOk Try.prog 26 s26 := by
  refine fn_ok (Θ := Θ) (Γ := Γ26) (Φ := Φ26) (c := c26) Try.func26 (by kernel_rfl) (by kernel_rfl) tab env26 (by kernel_rfl) (by kernel_rfl) (by kernel_rfl) (fun n => by kernel_rfl) ?_
  intro x y h
  have e : run Θ Γ26 Try.f26 c26 i26 o26 (Φ26.at 0) x = laws_eqBook x := by kernel_rfl
  exact ⟨0, e.trans h⟩
/- 7 loop.example/g00492/laws.FnExactRoom -/
noncomputable def i7 : Args := [{ mode := 1, cells := [(.int .i64, false), ((.slice [.bool, .bool, (.slice [.int .i64, .int .i64, .int .i64, .int .i64, .int .i64])]), false)] }]
noncomputable def o7 : Args := [{ mode := 0, cells := [(.bool, false)] }]
noncomputable def s7 : FSpec := ⟨i7, o7, laws_FnExactRoom⟩
noncomputable def c7 : Code := match Try.f7.body with | some c => c | none => .skip
noncomputable def Φ7 : LFams Bool := []
noncomputable def Γ7 : Env := [(22, s22), (23, s23), (24, s24), (25, s25), (26, s26)]
theorem env7 : EnvOk Try.prog Γ7 := (EnvOk.cons ok22 Try.func22 (by kernel_rfl) (by decide) (EnvOk.cons ok23 Try.func23 (by kernel_rfl) (by decide) (EnvOk.cons ok24 Try.func24 (by kernel_rfl) (by decide) (EnvOk.cons ok25 Try.func25 (by kernel_rfl) (by decide) (EnvOk.cons ok26 Try.func26 (by kernel_rfl) (by decide) EnvOk.nil)))))
theorem ok7 : FnOk Try.prog 7 s7 := by
  refine fn_ok (Θ := Θ) (Γ := Γ7) (Φ := Φ7) (c := c7) Try.func7 (by kernel_rfl) (by kernel_rfl) tab env7 (by kernel_rfl) (by kernel_rfl) (by kernel_rfl) (fun n => by kernel_rfl) ?_
  intro x y h
  have e : run Θ Γ7 Try.f7 c7 i7 o7 (Φ7.at 0) x = laws_FnExactRoom x := by kernel_rfl
  exact ⟨0, e.trans h⟩
end Go.Proofs.R.Con
