/- Each function's contract: its code, run by Rig's evaluator, gives its text. Printed by gen.py. -/
import Derived.Test.YthcokbkmpkkioaaTextsFnExactWaits
import Derived.Test.YthcokbkmpkkioaaRigBLawIn
import Derived.Test.YthcokbkmpkkioaaProg
set_option linter.unusedVariables false
set_option maxRecDepth 100000
open Rig Rig.Pure Go.Proofs
open Go (Code Func IntKind)
noncomputable section
namespace Go.Proofs.W.Con
noncomputable def Θ : Tab := [
  (1, { agg := false, cells := [.map], bytes := 8, elem := 1 }),
  (2, { agg := false, cells := [.int .i64], bytes := 8 }),
  (3, { agg := false, cells := [.int .i64], bytes := 8 }),
  (4, { agg := false, cells := [.bool], bytes := 1 }),
  (5, { agg := false, cells := [.int .u8], bytes := 1 }),
  (6, { agg := false, cells := [.int .u8], bytes := 1 }),
  (7, { agg := true, cells := [.int .i64, .int .i64, .bool, .int .u8], bytes := 24, flds := [(0, 1), (1, 1), (2, 1), (3, 1)] }),
  (8, { agg := true, cells := [.int .i64, .int .i64, .bool, .int .u8], bytes := 24, flds := [(0, 1), (1, 1), (2, 1), (3, 1)] }),
  (9, { agg := false, cells := [.str], bytes := 16 }),
  (10, { agg := false, cells := [.str], bytes := 16 }),
  (11, { agg := false, cells := [.str], bytes := 16 }),
  (12, { agg := false, cells := [.int .u64], bytes := 8 }),
  (13, { agg := true, cells := [.str, .int .u64], bytes := 24, flds := [(0, 1), (1, 1)] }),
  (14, { agg := true, cells := [.str, .int .u64], bytes := 24, flds := [(0, 1), (1, 1)] }),
  (21, { agg := false, cells := [.int .i32], bytes := 4 }),
  (22, { agg := false, cells := [(.slice [.bool, (.slice [.int .u8])])], bytes := 24, elem := 100 }),
  (23, { agg := false, cells := [(.slice [.int .i64, (.slice [.int .u8])])], bytes := 24, elem := 103 }),
  (24, { agg := true, cells := [(.slice [.bool, (.slice [.int .u8])]), (.slice [.int .i64, (.slice [.int .u8])]), .int .i64, .bool], bytes := 64, flds := [(0, 1), (1, 1), (2, 1), (3, 1)] }),
  (25, { agg := true, cells := [(.slice [.bool, (.slice [.int .u8])]), (.slice [.int .i64, (.slice [.int .u8])]), .int .i64, .bool], bytes := 64, flds := [(0, 1), (1, 1), (2, 1), (3, 1)] }),
  (26, { agg := false, cells := [(.slice [.bool, .bool, (.slice [.int .i64, .int .i64, .int .i64, .int .i64, .int .i64])])], bytes := 24, elem := 108 }),
  (27, { agg := true, cells := [.int .i64, (.slice [.bool, .bool, (.slice [.int .i64, .int .i64, .int .i64, .int .i64, .int .i64])])], bytes := 32, flds := [(0, 1), (1, 1)] }),
  (28, { agg := true, cells := [.int .i64, (.slice [.bool, .bool, (.slice [.int .i64, .int .i64, .int .i64, .int .i64, .int .i64])])], bytes := 32, flds := [(0, 1), (1, 1)] }),
  (29, { agg := true, cells := [.int .i64, .int .i64, .int .i64, .int .i64], bytes := 32, flds := [(0, 1), (1, 1), (2, 1), (3, 1)] }),
  (30, { agg := true, cells := [.int .i64, .int .i64, .int .i64, .int .i64], bytes := 32, flds := [(0, 1), (1, 1), (2, 1), (3, 1)] }),
  (31, { agg := false, cells := [(.slice [.int .i64])], bytes := 24, elem := 3 }),
  (32, { agg := false, cells := [(.slice [.int .i64, .int .i64, .int .i64, .int .i64, .int .i64])], bytes := 24, elem := 123 }),
  (33, { agg := false, cells := [(.slice [.int .i64, .int .i64, .int .i64, .int .i64, .int .i64])], bytes := 24, elem := 126 }),
  (34, { agg := true, cells := [.int .i64, (.slice [.int .i64]), (.slice [.int .i64, .int .i64, .int .i64, .int .i64, .int .i64]), (.slice [.int .i64, .int .i64, .int .i64, .int .i64, .int .i64]), (.slice [.int .i64, .int .i64, .int .i64, .int .i64, .int .i64]), (.slice [.int .i64])], bytes := 128, flds := [(0, 1), (1, 1), (2, 1), (3, 1), (4, 1), (5, 1)] }),
  (35, { agg := true, cells := [.int .i64, (.slice [.int .i64]), (.slice [.int .i64, .int .i64, .int .i64, .int .i64, .int .i64]), (.slice [.int .i64, .int .i64, .int .i64, .int .i64, .int .i64]), (.slice [.int .i64, .int .i64, .int .i64, .int .i64, .int .i64]), (.slice [.int .i64])], bytes := 128, flds := [(0, 1), (1, 1), (2, 1), (3, 1), (4, 1), (5, 1)] }),
  (36, { agg := true, cells := [(.slice [.bool, (.slice [.int .u8])]), (.slice [.int .i64, (.slice [.int .u8])]), .int .i64, .bool, .int .i64, (.slice [.bool, .bool, (.slice [.int .i64, .int .i64, .int .i64, .int .i64, .int .i64])]), .int .i64, .int .i64, .int .i64, .int .i64, .int .i64, .int .i64, (.slice [.int .i64]), .int .i64, .int .i64, (.slice [.int .i64]), (.slice [.int .i64, .int .i64, .int .i64, .int .i64, .int .i64]), (.slice [.int .i64, .int .i64, .int .i64, .int .i64, .int .i64]), (.slice [.int .i64, .int .i64, .int .i64, .int .i64, .int .i64]), (.slice [.int .i64])], bytes := 304, flds := [(0, 4), (4, 2), (6, 4), (10, 1), (11, 1), (12, 1), (13, 1), (14, 6)] }),
  (37, { agg := true, cells := [(.slice [.bool, (.slice [.int .u8])]), (.slice [.int .i64, (.slice [.int .u8])]), .int .i64, .bool, .int .i64, (.slice [.bool, .bool, (.slice [.int .i64, .int .i64, .int .i64, .int .i64, .int .i64])]), .int .i64, .int .i64, .int .i64, .int .i64, .int .i64, .int .i64, (.slice [.int .i64]), .int .i64, .int .i64, (.slice [.int .i64]), (.slice [.int .i64, .int .i64, .int .i64, .int .i64, .int .i64]), (.slice [.int .i64, .int .i64, .int .i64, .int .i64, .int .i64]), (.slice [.int .i64, .int .i64, .int .i64, .int .i64, .int .i64]), (.slice [.int .i64])], bytes := 304, flds := [(0, 4), (4, 2), (6, 4), (10, 1), (11, 1), (12, 1), (13, 1), (14, 6)] }),
  (38, { agg := false, cells := [.map], bytes := 8, elem := 1 }),
  (39, { agg := false, cells := [.map], bytes := 8, elem := 1 }),
  (40, { agg := false, cells := [(.slice [.bool, (.slice [.int .u8])])], bytes := 24, elem := 115 }),
  (41, { agg := false, cells := [(.slice [.int .i64, (.slice [.int .u8])])], bytes := 24, elem := 117 }),
  (42, { agg := true, cells := [(.slice [.bool, (.slice [.int .u8])]), (.slice [.int .i64, (.slice [.int .u8])]), .int .i64, .bool], bytes := 64, flds := [(0, 1), (1, 1), (2, 1), (3, 1)] }),
  (43, { agg := true, cells := [(.slice [.bool, (.slice [.int .u8])]), (.slice [.int .i64, (.slice [.int .u8])]), .int .i64, .bool], bytes := 64, flds := [(0, 1), (1, 1), (2, 1), (3, 1)] }),
  (44, { agg := false, cells := [(.slice [.bool, .bool, (.slice [.int .i64, .int .i64, .int .i64, .int .i64, .int .i64])])], bytes := 24, elem := 85 }),
  (45, { agg := true, cells := [.int .i64, (.slice [.bool, .bool, (.slice [.int .i64, .int .i64, .int .i64, .int .i64, .int .i64])])], bytes := 32, flds := [(0, 1), (1, 1)] }),
  (46, { agg := true, cells := [.int .i64, (.slice [.bool, .bool, (.slice [.int .i64, .int .i64, .int .i64, .int .i64, .int .i64])])], bytes := 32, flds := [(0, 1), (1, 1)] }),
  (47, { agg := true, cells := [.int .i64, .int .i64, .int .i64, .int .i64], bytes := 32, flds := [(0, 1), (1, 1), (2, 1), (3, 1)] }),
  (48, { agg := false, cells := [(.slice [.int .i64, .int .i64, .int .i64, .int .i64, .int .i64])], bytes := 24, elem := 114 }),
  (49, { agg := false, cells := [(.slice [.int .i64, .int .i64, .int .i64, .int .i64, .int .i64])], bytes := 24, elem := 112 }),
  (50, { agg := true, cells := [.int .i64, (.slice [.int .i64]), (.slice [.int .i64, .int .i64, .int .i64, .int .i64, .int .i64]), (.slice [.int .i64, .int .i64, .int .i64, .int .i64, .int .i64]), (.slice [.int .i64, .int .i64, .int .i64, .int .i64, .int .i64]), (.slice [.int .i64])], bytes := 128, flds := [(0, 1), (1, 1), (2, 1), (3, 1), (4, 1), (5, 1)] }),
  (51, { agg := true, cells := [.int .i64, (.slice [.int .i64]), (.slice [.int .i64, .int .i64, .int .i64, .int .i64, .int .i64]), (.slice [.int .i64, .int .i64, .int .i64, .int .i64, .int .i64]), (.slice [.int .i64, .int .i64, .int .i64, .int .i64, .int .i64]), (.slice [.int .i64])], bytes := 128, flds := [(0, 1), (1, 1), (2, 1), (3, 1), (4, 1), (5, 1)] }),
  (52, { agg := true, cells := [(.slice [.bool, (.slice [.int .u8])]), (.slice [.int .i64, (.slice [.int .u8])]), .int .i64, .bool, .int .i64, (.slice [.bool, .bool, (.slice [.int .i64, .int .i64, .int .i64, .int .i64, .int .i64])]), .int .i64, .int .i64, .int .i64, .int .i64, .int .i64, .int .i64, (.slice [.int .i64]), .int .i64, .int .i64, (.slice [.int .i64]), (.slice [.int .i64, .int .i64, .int .i64, .int .i64, .int .i64]), (.slice [.int .i64, .int .i64, .int .i64, .int .i64, .int .i64]), (.slice [.int .i64, .int .i64, .int .i64, .int .i64, .int .i64]), (.slice [.int .i64])], bytes := 304, flds := [(0, 4), (4, 2), (6, 4), (10, 1), (11, 1), (12, 1), (13, 1), (14, 6)] }),
  (53, { agg := true, cells := [(.slice [.bool, (.slice [.int .u8])]), (.slice [.int .i64, (.slice [.int .u8])]), .int .i64, .bool, .int .i64, (.slice [.bool, .bool, (.slice [.int .i64, .int .i64, .int .i64, .int .i64, .int .i64])]), .int .i64, .int .i64, .int .i64, .int .i64, .int .i64, .int .i64, (.slice [.int .i64]), .int .i64, .int .i64, (.slice [.int .i64]), (.slice [.int .i64, .int .i64, .int .i64, .int .i64, .int .i64]), (.slice [.int .i64, .int .i64, .int .i64, .int .i64, .int .i64]), (.slice [.int .i64, .int .i64, .int .i64, .int .i64, .int .i64]), (.slice [.int .i64])], bytes := 304, flds := [(0, 4), (4, 2), (6, 4), (10, 1), (11, 1), (12, 1), (13, 1), (14, 6)] }),
  (54, { agg := false, cells := [.map], bytes := 8, elem := 1 }),
  (55, { agg := false, cells := [.map], bytes := 8, elem := 1 }),
  (56, { agg := false, cells := [.map], bytes := 8, elem := 1 }),
  (57, { agg := false, cells := [.map], bytes := 8, elem := 1 }),
  (58, { agg := false, cells := [.map], bytes := 8, elem := 1 }),
  (59, { agg := false, cells := [.map], bytes := 8, elem := 1 }),
  (60, { agg := false, cells := [.map], bytes := 8, elem := 1 }),
  (61, { agg := false, cells := [.map], bytes := 8, elem := 1 }),
  (62, { agg := false, cells := [.map], bytes := 8, elem := 1 }),
  (63, { agg := false, cells := [.map], bytes := 8, elem := 1 }),
  (64, { agg := false, cells := [.map], bytes := 8, elem := 1 }),
  (65, { agg := false, cells := [.map], bytes := 8, elem := 1 }),
  (66, { agg := false, cells := [.map], bytes := 8, elem := 1 }),
  (67, { agg := false, cells := [.map], bytes := 8, elem := 1 }),
  (68, { agg := false, cells := [.map], bytes := 8, elem := 1 }),
  (69, { agg := false, cells := [.map], bytes := 8, elem := 1 }),
  (70, { agg := false, cells := [.map], bytes := 8, elem := 1 }),
  (71, { agg := false, cells := [.map], bytes := 8, elem := 1 }),
  (72, { agg := false, cells := [.map], bytes := 8, elem := 1 }),
  (73, { agg := false, cells := [.map], bytes := 8, elem := 1 }),
  (74, { agg := false, cells := [.map], bytes := 8, elem := 1 }),
  (75, { agg := false, cells := [.map], bytes := 8, elem := 1 }),
  (76, { agg := false, cells := [.map], bytes := 8, elem := 1 }),
  (77, { agg := false, cells := [.map], bytes := 8, elem := 1 }),
  (78, { agg := false, cells := [.map], bytes := 8, elem := 1 }),
  (79, { agg := false, cells := [.map], bytes := 8, elem := 1 }),
  (80, { agg := false, cells := [.map], bytes := 8, elem := 1 }),
  (81, { agg := false, cells := [.map], bytes := 8, elem := 1 }),
  (82, { agg := true, cells := [.bool, (.slice [.int .i64, .int .i64, .int .i64, .int .i64, .int .i64])], bytes := 32, flds := [(0, 1), (1, 1)] }),
  (83, { agg := true, cells := [.bool, (.slice [.int .i64, .int .i64, .int .i64, .int .i64, .int .i64])], bytes := 32, flds := [(0, 1), (1, 1)] }),
  (84, { agg := true, cells := [.bool, .bool, (.slice [.int .i64, .int .i64, .int .i64, .int .i64, .int .i64])], bytes := 40, flds := [(0, 1), (1, 2)] }),
  (85, { agg := true, cells := [.bool, .bool, (.slice [.int .i64, .int .i64, .int .i64, .int .i64, .int .i64])], bytes := 40, flds := [(0, 1), (1, 2)] }),
  (86, { agg := false, cells := [.map], bytes := 8, elem := 1 }),
  (87, { agg := false, cells := [.map], bytes := 8, elem := 1 }),
  (88, { agg := false, cells := [.map], bytes := 8, elem := 1 }),
  (89, { agg := false, cells := [.map], bytes := 8, elem := 1 }),
  (90, { agg := false, cells := [.map], bytes := 8, elem := 1 }),
  (91, { agg := false, cells := [.map], bytes := 8, elem := 1 }),
  (92, { agg := false, cells := [.map], bytes := 8, elem := 1 }),
  (93, { agg := false, cells := [.map], bytes := 8, elem := 1 }),
  (94, { agg := false, cells := [.map], bytes := 8, elem := 1 }),
  (95, { agg := false, cells := [.map], bytes := 8, elem := 1 }),
  (96, { agg := false, cells := [.map], bytes := 8, elem := 1 }),
  (97, { agg := false, cells := [.map], bytes := 8, elem := 1 }),
  (98, { agg := false, cells := [(.slice [.int .u8])], bytes := 24, elem := 5 }),
  (99, { agg := true, cells := [.bool, (.slice [.int .u8])], bytes := 32, flds := [(0, 1), (1, 1)] }),
  (100, { agg := true, cells := [.bool, (.slice [.int .u8])], bytes := 32, flds := [(0, 1), (1, 1)] }),
  (101, { agg := false, cells := [.map], bytes := 8, elem := 1 }),
  (102, { agg := true, cells := [.int .i64, (.slice [.int .u8])], bytes := 32, flds := [(0, 1), (1, 1)] }),
  (103, { agg := true, cells := [.int .i64, (.slice [.int .u8])], bytes := 32, flds := [(0, 1), (1, 1)] }),
  (104, { agg := false, cells := [.map], bytes := 8, elem := 1 }),
  (105, { agg := true, cells := [.bool, (.slice [.int .i64, .int .i64, .int .i64, .int .i64, .int .i64])], bytes := 32, flds := [(0, 1), (1, 1)] }),
  (106, { agg := true, cells := [.bool, (.slice [.int .i64, .int .i64, .int .i64, .int .i64, .int .i64])], bytes := 32, flds := [(0, 1), (1, 1)] }),
  (107, { agg := true, cells := [.bool, .bool, (.slice [.int .i64, .int .i64, .int .i64, .int .i64, .int .i64])], bytes := 40, flds := [(0, 1), (1, 2)] }),
  (108, { agg := true, cells := [.bool, .bool, (.slice [.int .i64, .int .i64, .int .i64, .int .i64, .int .i64])], bytes := 40, flds := [(0, 1), (1, 2)] }),
  (109, { agg := true, cells := [.int .i64, .int .i64, .int .i64, .int .i64], bytes := 32, flds := [(0, 1), (1, 1), (2, 1), (3, 1)] }),
  (110, { agg := true, cells := [.int .i64, .int .i64, .int .i64, .int .i64], bytes := 32, flds := [(0, 1), (1, 1), (2, 1), (3, 1)] }),
  (111, { agg := true, cells := [.int .i64, .int .i64, .int .i64, .int .i64, .int .i64], bytes := 40, flds := [(0, 1), (1, 4)] }),
  (112, { agg := true, cells := [.int .i64, .int .i64, .int .i64, .int .i64, .int .i64], bytes := 40, flds := [(0, 1), (1, 4)] }),
  (113, { agg := true, cells := [.int .i64, .int .i64, .int .i64, .int .i64, .int .i64], bytes := 40, flds := [(0, 1), (1, 4)] }),
  (114, { agg := true, cells := [.int .i64, .int .i64, .int .i64, .int .i64, .int .i64], bytes := 40, flds := [(0, 1), (1, 4)] }),
  (115, { agg := true, cells := [.bool, (.slice [.int .u8])], bytes := 32, flds := [(0, 1), (1, 1)] }),
  (116, { agg := false, cells := [.map], bytes := 8, elem := 1 }),
  (117, { agg := true, cells := [.int .i64, (.slice [.int .u8])], bytes := 32, flds := [(0, 1), (1, 1)] }),
  (118, { agg := false, cells := [.map], bytes := 8, elem := 1 }),
  (119, { agg := false, cells := [.map], bytes := 8, elem := 1 }),
  (120, { agg := false, cells := [.map], bytes := 8, elem := 1 }),
  (121, { agg := true, cells := [.int .i64, .int .i64, .int .i64, .int .i64], bytes := 32, flds := [(0, 1), (1, 1), (2, 1), (3, 1)] }),
  (122, { agg := true, cells := [.int .i64, .int .i64, .int .i64, .int .i64, .int .i64], bytes := 40, flds := [(0, 1), (1, 4)] }),
  (123, { agg := true, cells := [.int .i64, .int .i64, .int .i64, .int .i64, .int .i64], bytes := 40, flds := [(0, 1), (1, 4)] }),
  (124, { agg := false, cells := [.map], bytes := 8, elem := 1 }),
  (125, { agg := true, cells := [.int .i64, .int .i64, .int .i64, .int .i64, .int .i64], bytes := 40, flds := [(0, 1), (1, 4)] }),
  (126, { agg := true, cells := [.int .i64, .int .i64, .int .i64, .int .i64, .int .i64], bytes := 40, flds := [(0, 1), (1, 4)] }),
  (127, { agg := false, cells := [.map], bytes := 8, elem := 1 }),
  (128, { agg := false, cells := [.map], bytes := 8, elem := 1 }),
  (129, { agg := false, cells := [.map], bytes := 8, elem := 1 }),
  (130, { agg := false, cells := [.map], bytes := 8, elem := 1 }),
  (131, { agg := false, cells := [.map], bytes := 8, elem := 1 }),
  (132, { agg := false, cells := [.map], bytes := 8, elem := 1 }),
  (133, { agg := false, cells := [.map], bytes := 8, elem := 1 }),
  (134, { agg := false, cells := [.map], bytes := 8, elem := 1 }),
  (135, { agg := false, cells := [.map], bytes := 8, elem := 1 }),
  (136, { agg := false, cells := [.map], bytes := 8, elem := 1 }),
  (137, { agg := false, cells := [.map], bytes := 8, elem := 1 }),
  (138, { agg := false, cells := [.map], bytes := 8, elem := 1 }),
  (139, { agg := false, cells := [.map], bytes := 8 }),
  (140, { agg := false, cells := [.map], bytes := 8, elem := 1 }),
  (141, { agg := false, cells := [.map], bytes := 8, elem := 1 }),
  (142, { agg := false, cells := [.map], bytes := 8, elem := 1 }),
  (143, { agg := false, cells := [.map], bytes := 8, elem := 1 }),
  (144, { agg := false, cells := [.map], bytes := 8, elem := 1 }),
  (145, { agg := false, cells := [.map], bytes := 8, elem := 1 }),
  (146, { agg := false, cells := [.map], bytes := 8, elem := 1 }),
  (152, { agg := false, cells := [.map], bytes := 8, elem := 1 }),
  (153, { agg := false, cells := [.int .u32], bytes := 4 }),
  (154, { agg := false, cells := [.int .u8], bytes := 1 }),
  (155, { agg := false, cells := [.int .u8], bytes := 1 }),
  (156, { agg := false, cells := [.map], bytes := 8, elem := 1 }),
  (158, { agg := false, cells := [.int .i32], bytes := 4 }),
  (159, { agg := false, cells := [.int .i32], bytes := 4 })]
theorem tab : TabOk Try.prog Θ := tabOk_of (by kernel_rfl)
/- 68 loop.example/g00492/laws.szByteS -/
noncomputable def i68 : Args := [{ mode := 0, cells := [((.slice [.int .u8]), false)] }, { mode := 0, cells := [(.int .i64, false)] }]
noncomputable def o68 : Args := [{ mode := 0, cells := [(.int .i64, false)] }]
noncomputable def s68 : FSpec := ⟨i68, o68, laws_szByteS⟩
noncomputable def c68 : Code := match Try.f68.body with | some c => c | none => .skip
noncomputable def Φ68 : LFams Int := []
noncomputable def Γ68 : Env := []
theorem env68 : EnvOk Try.prog Γ68 := EnvOk.nil
theorem ok68 : FnOk Try.prog 68 s68 := by
  refine fn_ok (Θ := Θ) (Γ := Γ68) (Φ := Φ68) (c := c68) Try.func68 (by kernel_rfl) (by kernel_rfl) tab env68 (by kernel_rfl) (by kernel_rfl) (by kernel_rfl) (fun n => by kernel_rfl) ?_
  intro x y h
  have e : run Θ Γ68 Try.f68 c68 i68 o68 (Φ68.at 0) x = laws_szByteS x := by kernel_rfl
  exact ⟨0, e.trans h⟩
/- 49 loop.example/g00492/laws.szCell -/
noncomputable def i49 : Args := [{ mode := 1, cells := [(.bool, false), ((.slice [.int .u8]), false)] }, { mode := 0, cells := [(.int .i64, false)] }]
noncomputable def o49 : Args := [{ mode := 0, cells := [(.int .i64, false)] }]
noncomputable def s49 : FSpec := ⟨i49, o49, laws_szCell⟩
noncomputable def c49 : Code := match Try.f49.body with | some c => c | none => .skip
noncomputable def Φ49 : LFams Int := []
noncomputable def Γ49 : Env := [(68, s68)]
theorem env49 : EnvOk Try.prog Γ49 := (EnvOk.cons ok68 Try.func68 (by kernel_rfl) (by decide) EnvOk.nil)
theorem ok49 : FnOk Try.prog 49 s49 := by
  refine fn_ok (Θ := Θ) (Γ := Γ49) (Φ := Φ49) (c := c49) Try.func49 (by kernel_rfl) (by kernel_rfl) tab env49 (by kernel_rfl) (by kernel_rfl) (by kernel_rfl) (fun n => by kernel_rfl) ?_
  intro x y h
  have e : run Θ Γ49 Try.f49 c49 i49 o49 (Φ49.at 0) x = laws_szCell x := by kernel_rfl
  exact ⟨0, e.trans h⟩
/- 27 loop.example/g00492/laws.szCellS -/
noncomputable def i27 : Args := [{ mode := 0, cells := [((.slice [.bool, (.slice [.int .u8])]), false)] }, { mode := 0, cells := [(.int .i64, false)] }]
noncomputable def o27 : Args := [{ mode := 0, cells := [(.int .i64, false)] }]
noncomputable def s27 : FSpec := ⟨i27, o27, laws_szCellS⟩
noncomputable def c27 : Code := match Try.f27.body with | some c => c | none => .skip
noncomputable def S27_5 : Slots := [(0, .val (.slice [.bool, (.slice [.int .u8])]) false), (1, .val (.int .i64) false), (5, .val (.int .i64) false)]
noncomputable def Φ27 : LFams Int := [(5, ⟨S27_5, laws_szCellS_L5⟩)]
noncomputable def Γ27 : Env := [(49, s49)]
theorem env27 : EnvOk Try.prog Γ27 := (EnvOk.cons ok49 Try.func49 (by kernel_rfl) (by decide) EnvOk.nil)
theorem ok27 : FnOk Try.prog 27 s27 := by
  refine fn_ok (Θ := Θ) (Γ := Γ27) (Φ := Φ27) (c := c27) Try.func27 (by kernel_rfl) (by kernel_rfl) tab env27 (by kernel_rfl) (by kernel_rfl) (by kernel_rfl) (fun n => by kernel_rfl) ?_
  intro x y h
  obtain ⟨n, h⟩ := lim_some h
  have e : run Θ Γ27 Try.f27 c27 i27 o27 (Φ27.at n) x = laws_szCellS_N n x := by kernel_rfl
  exact ⟨n, e.trans h⟩
/- 50 loop.example/g00492/laws.szWet -/
noncomputable def i50 : Args := [{ mode := 1, cells := [(.int .i64, false), ((.slice [.int .u8]), false)] }, { mode := 0, cells := [(.int .i64, false)] }]
noncomputable def o50 : Args := [{ mode := 0, cells := [(.int .i64, false)] }]
noncomputable def s50 : FSpec := ⟨i50, o50, laws_szWet⟩
noncomputable def c50 : Code := match Try.f50.body with | some c => c | none => .skip
noncomputable def Φ50 : LFams Int := []
noncomputable def Γ50 : Env := [(68, s68)]
theorem env50 : EnvOk Try.prog Γ50 := (EnvOk.cons ok68 Try.func68 (by kernel_rfl) (by decide) EnvOk.nil)
theorem ok50 : FnOk Try.prog 50 s50 := by
  refine fn_ok (Θ := Θ) (Γ := Γ50) (Φ := Φ50) (c := c50) Try.func50 (by kernel_rfl) (by kernel_rfl) tab env50 (by kernel_rfl) (by kernel_rfl) (by kernel_rfl) (fun n => by kernel_rfl) ?_
  intro x y h
  have e : run Θ Γ50 Try.f50 c50 i50 o50 (Φ50.at 0) x = laws_szWet x := by kernel_rfl
  exact ⟨0, e.trans h⟩
/- 28 loop.example/g00492/laws.szWetS -/
noncomputable def i28 : Args := [{ mode := 0, cells := [((.slice [.int .i64, (.slice [.int .u8])]), false)] }, { mode := 0, cells := [(.int .i64, false)] }]
noncomputable def o28 : Args := [{ mode := 0, cells := [(.int .i64, false)] }]
noncomputable def s28 : FSpec := ⟨i28, o28, laws_szWetS⟩
noncomputable def c28 : Code := match Try.f28.body with | some c => c | none => .skip
noncomputable def S28_5 : Slots := [(0, .val (.slice [.int .i64, (.slice [.int .u8])]) false), (1, .val (.int .i64) false), (5, .val (.int .i64) false)]
noncomputable def Φ28 : LFams Int := [(5, ⟨S28_5, laws_szWetS_L5⟩)]
noncomputable def Γ28 : Env := [(50, s50)]
theorem env28 : EnvOk Try.prog Γ28 := (EnvOk.cons ok50 Try.func50 (by kernel_rfl) (by decide) EnvOk.nil)
theorem ok28 : FnOk Try.prog 28 s28 := by
  refine fn_ok (Θ := Θ) (Γ := Γ28) (Φ := Φ28) (c := c28) Try.func28 (by kernel_rfl) (by kernel_rfl) tab env28 (by kernel_rfl) (by kernel_rfl) (by kernel_rfl) (fun n => by kernel_rfl) ?_
  intro x y h
  obtain ⟨n, h⟩ := lim_some h
  have e : run Θ Γ28 Try.f28 c28 i28 o28 (Φ28.at n) x = laws_szWetS_N n x := by kernel_rfl
  exact ⟨n, e.trans h⟩
/- 9 loop.example/g00492/laws.szDisk -/
noncomputable def i9 : Args := [{ mode := 1, cells := [((.slice [.bool, (.slice [.int .u8])]), false), ((.slice [.int .i64, (.slice [.int .u8])]), false), (.int .i64, false), (.bool, false)] }, { mode := 0, cells := [(.int .i64, false)] }]
noncomputable def o9 : Args := [{ mode := 0, cells := [(.int .i64, false)] }]
noncomputable def s9 : FSpec := ⟨i9, o9, laws_szDisk⟩
noncomputable def c9 : Code := match Try.f9.body with | some c => c | none => .skip
noncomputable def Φ9 : LFams Int := []
noncomputable def Γ9 : Env := [(27, s27), (28, s28)]
theorem env9 : EnvOk Try.prog Γ9 := (EnvOk.cons ok27 Try.func27 (by kernel_rfl) (by decide) (EnvOk.cons ok28 Try.func28 (by kernel_rfl) (by decide) EnvOk.nil))
theorem ok9 : FnOk Try.prog 9 s9 := by
  refine fn_ok (Θ := Θ) (Γ := Γ9) (Φ := Φ9) (c := c9) Try.func9 (by kernel_rfl) (by kernel_rfl) tab env9 (by kernel_rfl) (by kernel_rfl) (by kernel_rfl) (fun n => by kernel_rfl) ?_
  intro x y h
  have e : run Θ Γ9 Try.f9 c9 i9 o9 (Φ9.at 0) x = laws_szDisk x := by kernel_rfl
  exact ⟨0, e.trans h⟩
/- 31 loop.example/g00492/laws.szEntryS -/
noncomputable def i31 : Args := [{ mode := 0, cells := [((.slice [.int .i64, .int .i64, .int .i64, .int .i64, .int .i64]), false)] }, { mode := 0, cells := [(.int .i64, false)] }]
noncomputable def o31 : Args := [{ mode := 0, cells := [(.int .i64, false)] }]
noncomputable def s31 : FSpec := ⟨i31, o31, laws_szEntryS⟩
noncomputable def c31 : Code := match Try.f31.body with | some c => c | none => .skip
noncomputable def Φ31 : LFams Int := []
noncomputable def Γ31 : Env := []
theorem env31 : EnvOk Try.prog Γ31 := EnvOk.nil
theorem ok31 : FnOk Try.prog 31 s31 := by
  refine fn_ok (Θ := Θ) (Γ := Γ31) (Φ := Φ31) (c := c31) Try.func31 (by kernel_rfl) (by kernel_rfl) tab env31 (by kernel_rfl) (by kernel_rfl) (by kernel_rfl) (fun n => by kernel_rfl) ?_
  intro x y h
  have e : run Θ Γ31 Try.f31 c31 i31 o31 (Φ31.at 0) x = laws_szEntryS x := by kernel_rfl
  exact ⟨0, e.trans h⟩
/- 69 loop.example/g00492/laws.szNode -/
noncomputable def i69 : Args := [{ mode := 1, cells := [(.bool, false), ((.slice [.int .i64, .int .i64, .int .i64, .int .i64, .int .i64]), false)] }, { mode := 0, cells := [(.int .i64, false)] }]
noncomputable def o69 : Args := [{ mode := 0, cells := [(.int .i64, false)] }]
noncomputable def s69 : FSpec := ⟨i69, o69, laws_szNode⟩
noncomputable def c69 : Code := match Try.f69.body with | some c => c | none => .skip
noncomputable def Φ69 : LFams Int := []
noncomputable def Γ69 : Env := [(31, s31)]
theorem env69 : EnvOk Try.prog Γ69 := (EnvOk.cons ok31 Try.func31 (by kernel_rfl) (by decide) EnvOk.nil)
theorem ok69 : FnOk Try.prog 69 s69 := by
  refine fn_ok (Θ := Θ) (Γ := Γ69) (Φ := Φ69) (c := c69) Try.func69 (by kernel_rfl) (by kernel_rfl) tab env69 (by kernel_rfl) (by kernel_rfl) (by kernel_rfl) (fun n => by kernel_rfl) ?_
  intro x y h
  have e : run Θ Γ69 Try.f69 c69 i69 o69 (Φ69.at 0) x = laws_szNode x := by kernel_rfl
  exact ⟨0, e.trans h⟩
/- 51 loop.example/g00492/laws.szPage -/
noncomputable def i51 : Args := [{ mode := 1, cells := [(.bool, false), (.bool, false), ((.slice [.int .i64, .int .i64, .int .i64, .int .i64, .int .i64]), false)] }, { mode := 0, cells := [(.int .i64, false)] }]
noncomputable def o51 : Args := [{ mode := 0, cells := [(.int .i64, false)] }]
noncomputable def s51 : FSpec := ⟨i51, o51, laws_szPage⟩
noncomputable def c51 : Code := match Try.f51.body with | some c => c | none => .skip
noncomputable def Φ51 : LFams Int := []
noncomputable def Γ51 : Env := [(69, s69)]
theorem env51 : EnvOk Try.prog Γ51 := (EnvOk.cons ok69 Try.func69 (by kernel_rfl) (by decide) EnvOk.nil)
theorem ok51 : FnOk Try.prog 51 s51 := by
  refine fn_ok (Θ := Θ) (Γ := Γ51) (Φ := Φ51) (c := c51) Try.func51 (by kernel_rfl) (by kernel_rfl) tab env51 (by kernel_rfl) (by kernel_rfl) (by kernel_rfl) (fun n => by kernel_rfl) ?_
  intro x y h
  have e : run Θ Γ51 Try.f51 c51 i51 o51 (Φ51.at 0) x = laws_szPage x := by kernel_rfl
  exact ⟨0, e.trans h⟩
/- 29 loop.example/g00492/laws.szPageS -/
noncomputable def i29 : Args := [{ mode := 0, cells := [((.slice [.bool, .bool, (.slice [.int .i64, .int .i64, .int .i64, .int .i64, .int .i64])]), false)] }, { mode := 0, cells := [(.int .i64, false)] }]
noncomputable def o29 : Args := [{ mode := 0, cells := [(.int .i64, false)] }]
noncomputable def s29 : FSpec := ⟨i29, o29, laws_szPageS⟩
noncomputable def c29 : Code := match Try.f29.body with | some c => c | none => .skip
noncomputable def S29_5 : Slots := [(0, .val (.slice [.bool, .bool, (.slice [.int .i64, .int .i64, .int .i64, .int .i64, .int .i64])]) false), (1, .val (.int .i64) false), (5, .val (.int .i64) false)]
noncomputable def Φ29 : LFams Int := [(5, ⟨S29_5, laws_szPageS_L5⟩)]
noncomputable def Γ29 : Env := [(51, s51)]
theorem env29 : EnvOk Try.prog Γ29 := (EnvOk.cons ok51 Try.func51 (by kernel_rfl) (by decide) EnvOk.nil)
theorem ok29 : FnOk Try.prog 29 s29 := by
  refine fn_ok (Θ := Θ) (Γ := Γ29) (Φ := Φ29) (c := c29) Try.func29 (by kernel_rfl) (by kernel_rfl) tab env29 (by kernel_rfl) (by kernel_rfl) (by kernel_rfl) (fun n => by kernel_rfl) ?_
  intro x y h
  obtain ⟨n, h⟩ := lim_some h
  have e : run Θ Γ29 Try.f29 c29 i29 o29 (Φ29.at n) x = laws_szPageS_N n x := by kernel_rfl
  exact ⟨n, e.trans h⟩
/- 10 loop.example/g00492/laws.szBook -/
noncomputable def i10 : Args := [{ mode := 1, cells := [(.int .i64, false), ((.slice [.bool, .bool, (.slice [.int .i64, .int .i64, .int .i64, .int .i64, .int .i64])]), false)] }, { mode := 0, cells := [(.int .i64, false)] }]
noncomputable def o10 : Args := [{ mode := 0, cells := [(.int .i64, false)] }]
noncomputable def s10 : FSpec := ⟨i10, o10, laws_szBook⟩
noncomputable def c10 : Code := match Try.f10.body with | some c => c | none => .skip
noncomputable def Φ10 : LFams Int := []
noncomputable def Γ10 : Env := [(29, s29)]
theorem env10 : EnvOk Try.prog Γ10 := (EnvOk.cons ok29 Try.func29 (by kernel_rfl) (by decide) EnvOk.nil)
theorem ok10 : FnOk Try.prog 10 s10 := by
  refine fn_ok (Θ := Θ) (Γ := Γ10) (Φ := Φ10) (c := c10) Try.func10 (by kernel_rfl) (by kernel_rfl) tab env10 (by kernel_rfl) (by kernel_rfl) (by kernel_rfl) (fun n => by kernel_rfl) ?_
  intro x y h
  have e : run Θ Γ10 Try.f10 c10 i10 o10 (Φ10.at 0) x = laws_szBook x := by kernel_rfl
  exact ⟨0, e.trans h⟩
/- 11 loop.example/g00492/laws.szIntS -/
noncomputable def i11 : Args := [{ mode := 0, cells := [((.slice [.int .i64]), false)] }, { mode := 0, cells := [(.int .i64, false)] }]
noncomputable def o11 : Args := [{ mode := 0, cells := [(.int .i64, false)] }]
noncomputable def s11 : FSpec := ⟨i11, o11, laws_szIntS⟩
noncomputable def c11 : Code := match Try.f11.body with | some c => c | none => .skip
noncomputable def Φ11 : LFams Int := []
noncomputable def Γ11 : Env := []
theorem env11 : EnvOk Try.prog Γ11 := EnvOk.nil
theorem ok11 : FnOk Try.prog 11 s11 := by
  refine fn_ok (Θ := Θ) (Γ := Γ11) (Φ := Φ11) (c := c11) Try.func11 (by kernel_rfl) (by kernel_rfl) tab env11 (by kernel_rfl) (by kernel_rfl) (by kernel_rfl) (fun n => by kernel_rfl) ?_
  intro x y h
  have e : run Θ Γ11 Try.f11 c11 i11 o11 (Φ11.at 0) x = laws_szIntS x := by kernel_rfl
  exact ⟨0, e.trans h⟩
/- 30 loop.example/g00492/laws.szItemS -/
noncomputable def i30 : Args := [{ mode := 0, cells := [((.slice [.int .i64, .int .i64, .int .i64, .int .i64, .int .i64]), false)] }, { mode := 0, cells := [(.int .i64, false)] }]
noncomputable def o30 : Args := [{ mode := 0, cells := [(.int .i64, false)] }]
noncomputable def s30 : FSpec := ⟨i30, o30, laws_szItemS⟩
noncomputable def c30 : Code := match Try.f30.body with | some c => c | none => .skip
noncomputable def Φ30 : LFams Int := []
noncomputable def Γ30 : Env := []
theorem env30 : EnvOk Try.prog Γ30 := EnvOk.nil
theorem ok30 : FnOk Try.prog 30 s30 := by
  refine fn_ok (Θ := Θ) (Γ := Γ30) (Φ := Φ30) (c := c30) Try.func30 (by kernel_rfl) (by kernel_rfl) tab env30 (by kernel_rfl) (by kernel_rfl) (by kernel_rfl) (fun n => by kernel_rfl) ?_
  intro x y h
  have e : run Θ Γ30 Try.f30 c30 i30 o30 (Φ30.at 0) x = laws_szItemS x := by kernel_rfl
  exact ⟨0, e.trans h⟩
/- 12 loop.example/g00492/laws.szVac -/
noncomputable def i12 : Args := [{ mode := 1, cells := [(.int .i64, false), ((.slice [.int .i64]), false), ((.slice [.int .i64, .int .i64, .int .i64, .int .i64, .int .i64]), false), ((.slice [.int .i64, .int .i64, .int .i64, .int .i64, .int .i64]), false), ((.slice [.int .i64, .int .i64, .int .i64, .int .i64, .int .i64]), false), ((.slice [.int .i64]), false)] }, { mode := 0, cells := [(.int .i64, false)] }]
noncomputable def o12 : Args := [{ mode := 0, cells := [(.int .i64, false)] }]
noncomputable def s12 : FSpec := ⟨i12, o12, laws_szVac⟩
noncomputable def c12 : Code := match Try.f12.body with | some c => c | none => .skip
noncomputable def Φ12 : LFams Int := []
noncomputable def Γ12 : Env := [(11, s11), (30, s30), (31, s31)]
theorem env12 : EnvOk Try.prog Γ12 := (EnvOk.cons ok11 Try.func11 (by kernel_rfl) (by decide) (EnvOk.cons ok30 Try.func30 (by kernel_rfl) (by decide) (EnvOk.cons ok31 Try.func31 (by kernel_rfl) (by decide) EnvOk.nil)))
theorem ok12 : FnOk Try.prog 12 s12 := by
  refine fn_ok (Θ := Θ) (Γ := Γ12) (Φ := Φ12) (c := c12) Try.func12 (by kernel_rfl) (by kernel_rfl) tab env12 (by kernel_rfl) (by kernel_rfl) (by kernel_rfl) (fun n => by kernel_rfl) ?_
  intro x y h
  have e : run Θ Γ12 Try.f12 c12 i12 o12 (Φ12.at 0) x = laws_szVac x := by kernel_rfl
  exact ⟨0, e.trans h⟩
/- 4 loop.example/g00492/laws.szBase -/
noncomputable def i4 : Args := [{ mode := 1, cells := [((.slice [.bool, (.slice [.int .u8])]), false), ((.slice [.int .i64, (.slice [.int .u8])]), false), (.int .i64, false), (.bool, false), (.int .i64, false), ((.slice [.bool, .bool, (.slice [.int .i64, .int .i64, .int .i64, .int .i64, .int .i64])]), false), (.int .i64, false), (.int .i64, false), (.int .i64, false), (.int .i64, false), (.int .i64, false), (.int .i64, false), ((.slice [.int .i64]), false), (.int .i64, false), (.int .i64, false), ((.slice [.int .i64]), false), ((.slice [.int .i64, .int .i64, .int .i64, .int .i64, .int .i64]), false), ((.slice [.int .i64, .int .i64, .int .i64, .int .i64, .int .i64]), false), ((.slice [.int .i64, .int .i64, .int .i64, .int .i64, .int .i64]), false), ((.slice [.int .i64]), false)] }, { mode := 0, cells := [(.int .i64, false)] }]
noncomputable def o4 : Args := [{ mode := 0, cells := [(.int .i64, false)] }]
noncomputable def s4 : FSpec := ⟨i4, o4, laws_szBase⟩
noncomputable def c4 : Code := match Try.f4.body with | some c => c | none => .skip
noncomputable def Φ4 : LFams Int := []
noncomputable def Γ4 : Env := [(9, s9), (10, s10), (11, s11), (12, s12)]
theorem env4 : EnvOk Try.prog Γ4 := (EnvOk.cons ok9 Try.func9 (by kernel_rfl) (by decide) (EnvOk.cons ok10 Try.func10 (by kernel_rfl) (by decide) (EnvOk.cons ok11 Try.func11 (by kernel_rfl) (by decide) (EnvOk.cons ok12 Try.func12 (by kernel_rfl) (by decide) EnvOk.nil))))
theorem ok4 : FnOk Try.prog 4 s4 := by
  refine fn_ok (Θ := Θ) (Γ := Γ4) (Φ := Φ4) (c := c4) Try.func4 (by kernel_rfl) (by kernel_rfl) tab env4 (by kernel_rfl) (by kernel_rfl) (by kernel_rfl) (fun n => by kernel_rfl) ?_
  intro x y h
  have e : run Θ Γ4 Try.f4 c4 i4 o4 (Φ4.at 0) x = laws_szBase x := by kernel_rfl
  exact ⟨0, e.trans h⟩
/- 32 loop.example/g00492/spec.l1In -/
noncomputable def i32 : Args := [{ mode := 0, cells := [(.int .i64, false)] }, { mode := 0, cells := [(.int .i64, false)] }, { mode := 0, cells := [(.int .i64, false)] }]
noncomputable def o32 : Args := [{ mode := 0, cells := [(.bool, false)] }]
noncomputable def s32 : FSpec := ⟨i32, o32, spec_l1In⟩
noncomputable def c32 : Code := match Try.f32.body with | some c => c | none => .skip
noncomputable def Φ32 : LFams Bool := []
noncomputable def Γ32 : Env := []
theorem env32 : EnvOk Try.prog Γ32 := EnvOk.nil
theorem ok32 : FnOk Try.prog 32 s32 := by
  refine fn_ok (Θ := Θ) (Γ := Γ32) (Φ := Φ32) (c := c32) Try.func32 (by kernel_rfl) (by kernel_rfl) tab env32 (by kernel_rfl) (by kernel_rfl) (by kernel_rfl) (fun n => by kernel_rfl) ?_
  intro x y h
  have e : run Θ Γ32 Try.f32 c32 i32 o32 (Φ32.at 0) x = spec_l1In x := by kernel_rfl
  exact ⟨0, e.trans h⟩
/- 52 loop.example/g00492/spec.Most -/
noncomputable def i52 : Args := [{ mode := 0, cells := [(.int .i64, false)] }, { mode := 0, cells := [(.int .i64, false)] }]
noncomputable def o52 : Args := [{ mode := 0, cells := [(.int .i64, false)] }]
noncomputable def s52 : FSpec := ⟨i52, o52, spec_Most⟩
noncomputable def c52 : Code := match Try.f52.body with | some c => c | none => .skip
noncomputable def Φ52 : LFams Int := []
noncomputable def Γ52 : Env := []
theorem env52 : EnvOk Try.prog Γ52 := EnvOk.nil
theorem ok52 : FnOk Try.prog 52 s52 := by
  refine fn_ok (Θ := Θ) (Γ := Γ52) (Φ := Φ52) (c := c52) Try.func52 (by kernel_rfl) (by kernel_rfl) tab env52 (by kernel_rfl) (by kernel_rfl) (by kernel_rfl) (fun n => by kernel_rfl) ?_
  intro x y h
  have e : run Θ Γ52 Try.f52 c52 i52 o52 (Φ52.at 0) x = spec_Most x := by kernel_rfl
  exact ⟨0, e.trans h⟩
/- 53 loop.example/g00492/spec.Up -/
noncomputable def i53 : Args := [{ mode := 0, cells := [(.int .i64, false)] }, { mode := 0, cells := [(.int .i64, false)] }]
noncomputable def o53 : Args := [{ mode := 0, cells := [(.int .i64, false)] }]
noncomputable def s53 : FSpec := ⟨i53, o53, spec_Up⟩
noncomputable def c53 : Code := match Try.f53.body with | some c => c | none => .skip
noncomputable def Φ53 : LFams Int := []
noncomputable def Γ53 : Env := []
theorem env53 : EnvOk Try.prog Γ53 := EnvOk.nil
theorem ok53 : FnOk Try.prog 53 s53 := by
  refine fn_ok (Θ := Θ) (Γ := Γ53) (Φ := Φ53) (c := c53) Try.func53 (by kernel_rfl) (by kernel_rfl) tab env53 (by kernel_rfl) (by kernel_rfl) (by kernel_rfl) (fun n => by kernel_rfl) ?_
  intro x y h
  have e : run Θ Γ53 Try.f53 c53 i53 o53 (Φ53.at 0) x = spec_Up x := by kernel_rfl
  exact ⟨0, e.trans h⟩
/- 33 loop.example/g00492/spec.PagesFor -/
noncomputable def i33 : Args := [{ mode := 0, cells := [(.int .i64, false)] }]
noncomputable def o33 : Args := [{ mode := 0, cells := [(.int .i64, false)] }]
noncomputable def s33 : FSpec := ⟨i33, o33, spec_PagesFor⟩
noncomputable def c33 : Code := match Try.f33.body with | some c => c | none => .skip
noncomputable def S33_5 : Slots := [(3, .val (.int .i64) false), (4, .val (.int .i64) false)]
noncomputable def Φ33 : LFams Int := [(5, ⟨S33_5, spec_PagesFor_L5⟩)]
noncomputable def Γ33 : Env := [(32, s32), (52, s52), (53, s53)]
theorem env33 : EnvOk Try.prog Γ33 := (EnvOk.cons ok32 Try.func32 (by kernel_rfl) (by decide) (EnvOk.cons ok52 Try.func52 (by kernel_rfl) (by decide) (EnvOk.cons ok53 Try.func53 (by kernel_rfl) (by decide) EnvOk.nil)))
theorem ok33 : FnOk Try.prog 33 s33 := by
  refine fn_ok (Θ := Θ) (Γ := Γ33) (Φ := Φ33) (c := c33) Try.func33 (by kernel_rfl) (by kernel_rfl) tab env33 (by kernel_rfl) (by kernel_rfl) (by kernel_rfl) (fun n => by kernel_rfl) ?_
  intro x y h
  obtain ⟨n, h⟩ := lim_some h
  have e : run Θ Γ33 Try.f33 c33 i33 o33 (Φ33.at n) x = spec_PagesFor_N n x := by kernel_rfl
  exact ⟨n, e.trans h⟩
/- 13 loop.example/g00492/spec.StepsFor -/
noncomputable def i13 : Args := [{ mode := 0, cells := [(.int .i64, false)] }, { mode := 0, cells := [(.int .i64, false)] }]
noncomputable def o13 : Args := [{ mode := 0, cells := [(.int .i64, false)] }]
noncomputable def s13 : FSpec := ⟨i13, o13, spec_StepsFor⟩
noncomputable def c13 : Code := match Try.f13.body with | some c => c | none => .skip
noncomputable def Φ13 : LFams Int := []
noncomputable def Γ13 : Env := [(32, s32), (33, s33)]
theorem env13 : EnvOk Try.prog Γ13 := (EnvOk.cons ok32 Try.func32 (by kernel_rfl) (by decide) (EnvOk.cons ok33 Try.func33 (by kernel_rfl) (by decide) EnvOk.nil))
theorem ok13 : FnOk Try.prog 13 s13 := by
  refine fn_ok (Θ := Θ) (Γ := Γ13) (Φ := Φ13) (c := c13) Try.func13 (by kernel_rfl) (by kernel_rfl) tab env13 (by kernel_rfl) (by kernel_rfl) (by kernel_rfl) (fun n => by kernel_rfl) ?_
  intro x y h
  have e : run Θ Γ13 Try.f13 c13 i13 o13 (Φ13.at 0) x = spec_StepsFor x := by kernel_rfl
  exact ⟨0, e.trans h⟩
/- 79 loop.example/g00492/spec.l7Has -/
noncomputable def i79 : Args := [{ mode := 0, cells := [((.slice [.int .i64]), false)] }, { mode := 0, cells := [(.int .i64, false)] }]
noncomputable def o79 : Args := [{ mode := 0, cells := [(.bool, false)] }]
noncomputable def s79 : FSpec := ⟨i79, o79, spec_l7Has⟩
noncomputable def c79 : Code := match Try.f79.body with | some c => c | none => .skip
noncomputable def S79_2 : Slots := [(0, .val (.slice [.int .i64]) false), (1, .val (.int .i64) false), (5, .val (.int .i64) false)]
noncomputable def Φ79 : LFams Bool := [(2, ⟨S79_2, spec_l7Has_L2⟩)]
noncomputable def Γ79 : Env := []
theorem env79 : EnvOk Try.prog Γ79 := EnvOk.nil
theorem ok79 : FnOk Try.prog 79 s79 := by
  refine fn_ok (Θ := Θ) (Γ := Γ79) (Φ := Φ79) (c := c79) Try.func79 (by kernel_rfl) (by kernel_rfl) tab env79 (by kernel_rfl) (by kernel_rfl) (by kernel_rfl) (fun n => by kernel_rfl) ?_
  intro x y h
  obtain ⟨n, h⟩ := lim_some h
  have e : run Θ Γ79 Try.f79 c79 i79 o79 (Φ79.at n) x = spec_l7Has_N n x := by kernel_rfl
  exact ⟨n, e.trans h⟩
/- 70 loop.example/g00492/spec.l7Walk -/
noncomputable def i70 : Args := [{ mode := 1, cells := [(.int .i64, false), ((.slice [.bool, .bool, (.slice [.int .i64, .int .i64, .int .i64, .int .i64, .int .i64])]), false)] }, { mode := 0, cells := [(.int .i64, false)] }, { mode := 0, cells := [((.slice [.int .i64]), true)] }]
noncomputable def o70 : Args := [{ mode := 0, cells := [((.slice [.int .i64]), true)] }]
noncomputable def s70 : FSpec := ⟨i70, o70, spec_l7Walk⟩
noncomputable def c70 : Code := match Try.f70.body with | some c => c | none => .skip
noncomputable def S70_6 : Slots := [(2, .val (.slice [.int .i64]) true), (3, .box [(.int .i64, false), ((.slice [.bool, .bool, (.slice [.int .i64, .int .i64, .int .i64, .int .i64, .int .i64])]), false)]), (7, .box [(.bool, false), ((.slice [.int .i64, .int .i64, .int .i64, .int .i64, .int .i64]), false)]), (8, .val (.int .i64) false)]
noncomputable def Φ70 (k : Nat) : LFams ((List Int)) := [(6, ⟨S70_6, spec_l7Walk_L6 (spec_l7Walk_R k)⟩)]
noncomputable def r70 (k : Nat) : FSpec := ⟨i70, o70, spec_l7Walk_R k⟩
noncomputable def Γ70 (k : Nat) : Env := [(70, r70 k), (32, s32), (79, s79)]
theorem env70 (k : Nat) (h : FnOk Try.prog 70 (r70 k)) : EnvOk Try.prog (Γ70 k) := EnvOk.cons h Try.func70 (by kernel_rfl) (by decide) (EnvOk.cons ok32 Try.func32 (by kernel_rfl) (by decide) (EnvOk.cons ok79 Try.func79 (by kernel_rfl) (by decide) EnvOk.nil))
theorem step70 (k : Nat) (h : FnOk Try.prog 70 (r70 k)) : FnOk Try.prog 70 (r70 (k + 1)) := by
  refine fn_ok (Θ := Θ) (Γ := (Γ70 k)) (Φ := (Φ70 k)) (c := c70) Try.func70 (by kernel_rfl) (by kernel_rfl) tab (env70 k h) (by kernel_rfl) (by kernel_rfl) (by kernel_rfl) (fun n => by kernel_rfl) ?_
  intro x y h
  obtain ⟨n, h⟩ := lim_some h
  have e : run Θ (Γ70 k) Try.f70 c70 i70 o70 ((Φ70 k).at n) x = spec_l7Walk_N (spec_l7Walk_R k) n x := by kernel_rfl
  exact ⟨n, e.trans h⟩
theorem ok70 : FnOk Try.prog 70 s70 := FnOk.lim (fun k => Nat.rec (FnOk.none fun _ => rfl) (fun k h => step70 k h) k)
/- 54 loop.example/g00492/spec.Reach -/
noncomputable def i54 : Args := [{ mode := 1, cells := [(.int .i64, false), ((.slice [.bool, .bool, (.slice [.int .i64, .int .i64, .int .i64, .int .i64, .int .i64])]), false)] }]
noncomputable def o54 : Args := [{ mode := 0, cells := [((.slice [.int .i64]), true)] }]
noncomputable def s54 : FSpec := ⟨i54, o54, spec_Reach⟩
noncomputable def c54 : Code := match Try.f54.body with | some c => c | none => .skip
noncomputable def Φ54 : LFams ((List Int)) := []
noncomputable def Γ54 : Env := [(70, s70)]
theorem env54 : EnvOk Try.prog Γ54 := (EnvOk.cons ok70 Try.func70 (by kernel_rfl) (by decide) EnvOk.nil)
theorem ok54 : FnOk Try.prog 54 s54 := by
  refine fn_ok (Θ := Θ) (Γ := Γ54) (Φ := Φ54) (c := c54) Try.func54 (by kernel_rfl) (by kernel_rfl) tab env54 (by kernel_rfl) (by kernel_rfl) (by kernel_rfl) (fun n => by kernel_rfl) ?_
  intro x y h
  have e : run Θ Γ54 Try.f54 c54 i54 o54 (Φ54.at 0) x = spec_Reach x := by kernel_rfl
  exact ⟨0, e.trans h⟩
/- 34 loop.example/g00492/spec.Leaves -/
noncomputable def i34 : Args := [{ mode := 1, cells := [(.int .i64, false), ((.slice [.bool, .bool, (.slice [.int .i64, .int .i64, .int .i64, .int .i64, .int .i64])]), false)] }]
noncomputable def o34 : Args := [{ mode := 0, cells := [((.slice [.int .i64]), true)] }]
noncomputable def s34 : FSpec := ⟨i34, o34, spec_Leaves⟩
noncomputable def c34 : Code := match Try.f34.body with | some c => c | none => .skip
noncomputable def S34_4 : Slots := [(1, .box [(.int .i64, false), ((.slice [.bool, .bool, (.slice [.int .i64, .int .i64, .int .i64, .int .i64, .int .i64])]), false)]), (3, .val (.slice [.int .i64]) true), (4, .val (.slice [.int .i64]) false), (5, .val (.int .i64) false)]
noncomputable def Φ34 : LFams ((List Int)) := [(4, ⟨S34_4, spec_Leaves_L4⟩)]
noncomputable def Γ34 : Env := [(54, s54)]
theorem env34 : EnvOk Try.prog Γ34 := (EnvOk.cons ok54 Try.func54 (by kernel_rfl) (by decide) EnvOk.nil)
theorem ok34 : FnOk Try.prog 34 s34 := by
  refine fn_ok (Θ := Θ) (Γ := Γ34) (Φ := Φ34) (c := c34) Try.func34 (by kernel_rfl) (by kernel_rfl) tab env34 (by kernel_rfl) (by kernel_rfl) (by kernel_rfl) (fun n => by kernel_rfl) ?_
  intro x y h
  obtain ⟨n, h⟩ := lim_some h
  have e : run Θ Γ34 Try.f34 c34 i34 o34 (Φ34.at n) x = spec_Leaves_N n x := by kernel_rfl
  exact ⟨n, e.trans h⟩
/- 35 loop.example/g00492/spec.ItemsOf -/
noncomputable def i35 : Args := [{ mode := 1, cells := [(.bool, false), ((.slice [.int .i64, .int .i64, .int .i64, .int .i64, .int .i64]), false)] }]
noncomputable def o35 : Args := [{ mode := 0, cells := [((.slice [.int .i64, .int .i64, .int .i64, .int .i64, .int .i64]), true)] }]
noncomputable def s35 : FSpec := ⟨i35, o35, spec_ItemsOf⟩
noncomputable def c35 : Code := match Try.f35.body with | some c => c | none => .skip
noncomputable def S35_3 : Slots := [(1, .box [(.bool, false), ((.slice [.int .i64, .int .i64, .int .i64, .int .i64, .int .i64]), false)]), (3, .val (.slice [.int .i64, .int .i64, .int .i64, .int .i64, .int .i64]) true), (4, .val (.int .i64) false)]
noncomputable def Φ35 : LFams ((List (Int × Int × Int × Int × Int))) := [(3, ⟨S35_3, spec_ItemsOf_L3⟩)]
noncomputable def Γ35 : Env := []
theorem env35 : EnvOk Try.prog Γ35 := EnvOk.nil
theorem ok35 : FnOk Try.prog 35 s35 := by
  refine fn_ok (Θ := Θ) (Γ := Γ35) (Φ := Φ35) (c := c35) Try.func35 (by kernel_rfl) (by kernel_rfl) tab env35 (by kernel_rfl) (by kernel_rfl) (by kernel_rfl) (fun n => by kernel_rfl) ?_
  intro x y h
  obtain ⟨n, h⟩ := lim_some h
  have e : run Θ Γ35 Try.f35 c35 i35 o35 (Φ35.at n) x = spec_ItemsOf_N n x := by kernel_rfl
  exact ⟨n, e.trans h⟩
/- 14 loop.example/g00492/spec.All -/
noncomputable def i14 : Args := [{ mode := 1, cells := [(.int .i64, false), ((.slice [.bool, .bool, (.slice [.int .i64, .int .i64, .int .i64, .int .i64, .int .i64])]), false)] }]
noncomputable def o14 : Args := [{ mode := 0, cells := [((.slice [.int .i64, .int .i64, .int .i64, .int .i64, .int .i64]), true)] }]
noncomputable def s14 : FSpec := ⟨i14, o14, spec_All⟩
noncomputable def c14 : Code := match Try.f14.body with | some c => c | none => .skip
noncomputable def S14_4 : Slots := [(1, .box [(.int .i64, false), ((.slice [.bool, .bool, (.slice [.int .i64, .int .i64, .int .i64, .int .i64, .int .i64])]), false)]), (3, .val (.slice [.int .i64, .int .i64, .int .i64, .int .i64, .int .i64]) true), (4, .val (.slice [.int .i64]) false), (5, .val (.int .i64) false)]
noncomputable def Φ14 : LFams ((List (Int × Int × Int × Int × Int))) := [(4, ⟨S14_4, spec_All_L4⟩)]
noncomputable def Γ14 : Env := [(34, s34), (35, s35)]
theorem env14 : EnvOk Try.prog Γ14 := (EnvOk.cons ok34 Try.func34 (by kernel_rfl) (by decide) (EnvOk.cons ok35 Try.func35 (by kernel_rfl) (by decide) EnvOk.nil))
theorem ok14 : FnOk Try.prog 14 s14 := by
  refine fn_ok (Θ := Θ) (Γ := Γ14) (Φ := Φ14) (c := c14) Try.func14 (by kernel_rfl) (by kernel_rfl) tab env14 (by kernel_rfl) (by kernel_rfl) (by kernel_rfl) (fun n => by kernel_rfl) ?_
  intro x y h
  obtain ⟨n, h⟩ := lim_some h
  have e : run Θ Γ14 Try.f14 c14 i14 o14 (Φ14.at n) x = spec_All_N n x := by kernel_rfl
  exact ⟨n, e.trans h⟩
/- 5 loop.example/g00492/spec.Waits -/
noncomputable def i5 : Args := [{ mode := 1, cells := [((.slice [.bool, (.slice [.int .u8])]), false), ((.slice [.int .i64, (.slice [.int .u8])]), false), (.int .i64, false), (.bool, false), (.int .i64, false), ((.slice [.bool, .bool, (.slice [.int .i64, .int .i64, .int .i64, .int .i64, .int .i64])]), false), (.int .i64, false), (.int .i64, false), (.int .i64, false), (.int .i64, false), (.int .i64, false), (.int .i64, false), ((.slice [.int .i64]), false), (.int .i64, false), (.int .i64, false), ((.slice [.int .i64]), false), ((.slice [.int .i64, .int .i64, .int .i64, .int .i64, .int .i64]), false), ((.slice [.int .i64, .int .i64, .int .i64, .int .i64, .int .i64]), false), ((.slice [.int .i64, .int .i64, .int .i64, .int .i64, .int .i64]), false), ((.slice [.int .i64]), false)] }]
noncomputable def o5 : Args := [{ mode := 0, cells := [(.int .i64, false)] }]
noncomputable def s5 : FSpec := ⟨i5, o5, spec_Waits⟩
noncomputable def c5 : Code := match Try.f5.body with | some c => c | none => .skip
noncomputable def Φ5 : LFams Int := []
noncomputable def Γ5 : Env := [(13, s13), (14, s14)]
theorem env5 : EnvOk Try.prog Γ5 := (EnvOk.cons ok13 Try.func13 (by kernel_rfl) (by decide) (EnvOk.cons ok14 Try.func14 (by kernel_rfl) (by decide) EnvOk.nil))
theorem ok5 : FnOk Try.prog 5 s5 := by
  refine fn_ok (Θ := Θ) (Γ := Γ5) (Φ := Φ5) (c := c5) Try.func5 (by kernel_rfl) (by kernel_rfl) tab env5 (by kernel_rfl) (by kernel_rfl) (by kernel_rfl) (fun n => by kernel_rfl) ?_
  intro x y h
  have e : run Θ Γ5 Try.f5 c5 i5 o5 (Φ5.at 0) x = spec_Waits x := by kernel_rfl
  exact ⟨0, e.trans h⟩
/- 71 loop.example/g00492/laws.toByteS -/
noncomputable def i71 : Args := [{ mode := 0, cells := [((.slice [.int .u8]), false)] }]
noncomputable def o71 : Args := [{ mode := 0, cells := [((.slice [.int .u8]), true)] }]
noncomputable def s71 : FSpec := ⟨i71, o71, laws_toByteS⟩
noncomputable def c71 : Code := match Try.f71.body with | some c => c | none => .skip
noncomputable def S71_3 : Slots := [(0, .val (.slice [.int .u8]) false), (3, .val (.slice [.int .u8]) true), (4, .val (.int .i64) false)]
noncomputable def Φ71 : LFams ((List Int)) := [(3, ⟨S71_3, laws_toByteS_L3⟩)]
noncomputable def Γ71 : Env := []
theorem env71 : EnvOk Try.prog Γ71 := EnvOk.nil
theorem ok71 : FnOk Try.prog 71 s71 := by
  refine fn_ok (Θ := Θ) (Γ := Γ71) (Φ := Φ71) (c := c71) Try.func71 (by kernel_rfl) (by kernel_rfl) tab env71 (by kernel_rfl) (by kernel_rfl) (by kernel_rfl) (fun n => by kernel_rfl) ?_
  intro x y h
  obtain ⟨n, h⟩ := lim_some h
  have e : run Θ Γ71 Try.f71 c71 i71 o71 (Φ71.at n) x = laws_toByteS_N n x := by kernel_rfl
  exact ⟨n, e.trans h⟩
/- 55 loop.example/g00492/laws.toCell -/
noncomputable def i55 : Args := [{ mode := 1, cells := [(.bool, false), ((.slice [.int .u8]), false)] }]
noncomputable def o55 : Args := [{ mode := 1, cells := [(.bool, false), ((.slice [.int .u8]), true)] }]
noncomputable def s55 : FSpec := ⟨i55, o55, laws_toCell⟩
noncomputable def c55 : Code := match Try.f55.body with | some c => c | none => .skip
noncomputable def Φ55 : LFams (Bool × (List Int)) := []
noncomputable def Γ55 : Env := [(71, s71)]
theorem env55 : EnvOk Try.prog Γ55 := (EnvOk.cons ok71 Try.func71 (by kernel_rfl) (by decide) EnvOk.nil)
theorem ok55 : FnOk Try.prog 55 s55 := by
  refine fn_ok (Θ := Θ) (Γ := Γ55) (Φ := Φ55) (c := c55) Try.func55 (by kernel_rfl) (by kernel_rfl) tab env55 (by kernel_rfl) (by kernel_rfl) (by kernel_rfl) (fun n => by kernel_rfl) ?_
  intro x y h
  have e : run Θ Γ55 Try.f55 c55 i55 o55 (Φ55.at 0) x = laws_toCell x := by kernel_rfl
  exact ⟨0, e.trans h⟩
/- 36 loop.example/g00492/laws.toCellS -/
noncomputable def i36 : Args := [{ mode := 0, cells := [((.slice [.bool, (.slice [.int .u8])]), false)] }]
noncomputable def o36 : Args := [{ mode := 0, cells := [((.slice [.bool, (.slice [.int .u8])]), true)] }]
noncomputable def s36 : FSpec := ⟨i36, o36, laws_toCellS⟩
noncomputable def c36 : Code := match Try.f36.body with | some c => c | none => .skip
noncomputable def S36_3 : Slots := [(0, .val (.slice [.bool, (.slice [.int .u8])]) false), (3, .val (.slice [.bool, (.slice [.int .u8])]) true), (4, .val (.int .i64) false)]
noncomputable def Φ36 : LFams ((List (Bool × (List Int)))) := [(3, ⟨S36_3, laws_toCellS_L3⟩)]
noncomputable def Γ36 : Env := [(55, s55)]
theorem env36 : EnvOk Try.prog Γ36 := (EnvOk.cons ok55 Try.func55 (by kernel_rfl) (by decide) EnvOk.nil)
theorem ok36 : FnOk Try.prog 36 s36 := by
  refine fn_ok (Θ := Θ) (Γ := Γ36) (Φ := Φ36) (c := c36) Try.func36 (by kernel_rfl) (by kernel_rfl) tab env36 (by kernel_rfl) (by kernel_rfl) (by kernel_rfl) (fun n => by kernel_rfl) ?_
  intro x y h
  obtain ⟨n, h⟩ := lim_some h
  have e : run Θ Γ36 Try.f36 c36 i36 o36 (Φ36.at n) x = laws_toCellS_N n x := by kernel_rfl
  exact ⟨n, e.trans h⟩
/- 56 loop.example/g00492/laws.toWet -/
noncomputable def i56 : Args := [{ mode := 1, cells := [(.int .i64, false), ((.slice [.int .u8]), false)] }]
noncomputable def o56 : Args := [{ mode := 1, cells := [(.int .i64, false), ((.slice [.int .u8]), true)] }]
noncomputable def s56 : FSpec := ⟨i56, o56, laws_toWet⟩
noncomputable def c56 : Code := match Try.f56.body with | some c => c | none => .skip
noncomputable def Φ56 : LFams (Int × (List Int)) := []
noncomputable def Γ56 : Env := [(71, s71)]
theorem env56 : EnvOk Try.prog Γ56 := (EnvOk.cons ok71 Try.func71 (by kernel_rfl) (by decide) EnvOk.nil)
theorem ok56 : FnOk Try.prog 56 s56 := by
  refine fn_ok (Θ := Θ) (Γ := Γ56) (Φ := Φ56) (c := c56) Try.func56 (by kernel_rfl) (by kernel_rfl) tab env56 (by kernel_rfl) (by kernel_rfl) (by kernel_rfl) (fun n => by kernel_rfl) ?_
  intro x y h
  have e : run Θ Γ56 Try.f56 c56 i56 o56 (Φ56.at 0) x = laws_toWet x := by kernel_rfl
  exact ⟨0, e.trans h⟩
/- 37 loop.example/g00492/laws.toWetS -/
noncomputable def i37 : Args := [{ mode := 0, cells := [((.slice [.int .i64, (.slice [.int .u8])]), false)] }]
noncomputable def o37 : Args := [{ mode := 0, cells := [((.slice [.int .i64, (.slice [.int .u8])]), true)] }]
noncomputable def s37 : FSpec := ⟨i37, o37, laws_toWetS⟩
noncomputable def c37 : Code := match Try.f37.body with | some c => c | none => .skip
noncomputable def S37_3 : Slots := [(0, .val (.slice [.int .i64, (.slice [.int .u8])]) false), (3, .val (.slice [.int .i64, (.slice [.int .u8])]) true), (4, .val (.int .i64) false)]
noncomputable def Φ37 : LFams ((List (Int × (List Int)))) := [(3, ⟨S37_3, laws_toWetS_L3⟩)]
noncomputable def Γ37 : Env := [(56, s56)]
theorem env37 : EnvOk Try.prog Γ37 := (EnvOk.cons ok56 Try.func56 (by kernel_rfl) (by decide) EnvOk.nil)
theorem ok37 : FnOk Try.prog 37 s37 := by
  refine fn_ok (Θ := Θ) (Γ := Γ37) (Φ := Φ37) (c := c37) Try.func37 (by kernel_rfl) (by kernel_rfl) tab env37 (by kernel_rfl) (by kernel_rfl) (by kernel_rfl) (fun n => by kernel_rfl) ?_
  intro x y h
  obtain ⟨n, h⟩ := lim_some h
  have e : run Θ Γ37 Try.f37 c37 i37 o37 (Φ37.at n) x = laws_toWetS_N n x := by kernel_rfl
  exact ⟨n, e.trans h⟩
/- 15 loop.example/g00492/laws.toDisk -/
noncomputable def i15 : Args := [{ mode := 1, cells := [((.slice [.bool, (.slice [.int .u8])]), false), ((.slice [.int .i64, (.slice [.int .u8])]), false), (.int .i64, false), (.bool, false)] }]
noncomputable def o15 : Args := [{ mode := 1, cells := [((.slice [.bool, (.slice [.int .u8])]), true), ((.slice [.int .i64, (.slice [.int .u8])]), true), (.int .i64, false), (.bool, false)] }]
noncomputable def s15 : FSpec := ⟨i15, o15, laws_toDisk⟩
noncomputable def c15 : Code := match Try.f15.body with | some c => c | none => .skip
noncomputable def Φ15 : LFams ((List (Bool × (List Int))) × (List (Int × (List Int))) × Int × Bool) := []
noncomputable def Γ15 : Env := [(36, s36), (37, s37)]
theorem env15 : EnvOk Try.prog Γ15 := (EnvOk.cons ok36 Try.func36 (by kernel_rfl) (by decide) (EnvOk.cons ok37 Try.func37 (by kernel_rfl) (by decide) EnvOk.nil))
theorem ok15 : FnOk Try.prog 15 s15 := by
  refine fn_ok (Θ := Θ) (Γ := Γ15) (Φ := Φ15) (c := c15) Try.func15 (by kernel_rfl) (by kernel_rfl) tab env15 (by kernel_rfl) (by kernel_rfl) (by kernel_rfl) (fun n => by kernel_rfl) ?_
  intro x y h
  have e : run Θ Γ15 Try.f15 c15 i15 o15 (Φ15.at 0) x = laws_toDisk x := by kernel_rfl
  exact ⟨0, e.trans h⟩
/- 73 loop.example/g00492/laws.toBox -/
noncomputable def i73 : Args := [{ mode := 1, cells := [(.int .i64, false), (.int .i64, false), (.int .i64, false), (.int .i64, false)] }]
noncomputable def o73 : Args := [{ mode := 1, cells := [(.int .i64, false), (.int .i64, false), (.int .i64, false), (.int .i64, false)] }]
noncomputable def s73 : FSpec := ⟨i73, o73, laws_toBox⟩
noncomputable def c73 : Code := match Try.f73.body with | some c => c | none => .skip
noncomputable def Φ73 : LFams (Int × Int × Int × Int) := []
noncomputable def Γ73 : Env := []
theorem env73 : EnvOk Try.prog Γ73 := EnvOk.nil
theorem ok73 : FnOk Try.prog 73 s73 := by
  refine fn_ok (Θ := Θ) (Γ := Γ73) (Φ := Φ73) (c := c73) Try.func73 (by kernel_rfl) (by kernel_rfl) tab env73 (by kernel_rfl) (by kernel_rfl) (by kernel_rfl) (fun n => by kernel_rfl) ?_
  intro x y h
  have e : run Θ Γ73 Try.f73 c73 i73 o73 (Φ73.at 0) x = laws_toBox x := by kernel_rfl
  exact ⟨0, e.trans h⟩
/- 59 loop.example/g00492/laws.toEntry -/
noncomputable def i59 : Args := [{ mode := 1, cells := [(.int .i64, false), (.int .i64, false), (.int .i64, false), (.int .i64, false), (.int .i64, false)] }]
noncomputable def o59 : Args := [{ mode := 1, cells := [(.int .i64, false), (.int .i64, false), (.int .i64, false), (.int .i64, false), (.int .i64, false)] }]
noncomputable def s59 : FSpec := ⟨i59, o59, laws_toEntry⟩
noncomputable def c59 : Code := match Try.f59.body with | some c => c | none => .skip
noncomputable def Φ59 : LFams (Int × Int × Int × Int × Int) := []
noncomputable def Γ59 : Env := [(73, s73)]
theorem env59 : EnvOk Try.prog Γ59 := (EnvOk.cons ok73 Try.func73 (by kernel_rfl) (by decide) EnvOk.nil)
theorem ok59 : FnOk Try.prog 59 s59 := by
  refine fn_ok (Θ := Θ) (Γ := Γ59) (Φ := Φ59) (c := c59) Try.func59 (by kernel_rfl) (by kernel_rfl) tab env59 (by kernel_rfl) (by kernel_rfl) (by kernel_rfl) (fun n => by kernel_rfl) ?_
  intro x y h
  have e : run Θ Γ59 Try.f59 c59 i59 o59 (Φ59.at 0) x = laws_toEntry x := by kernel_rfl
  exact ⟨0, e.trans h⟩
/- 40 loop.example/g00492/laws.toEntryS -/
noncomputable def i40 : Args := [{ mode := 0, cells := [((.slice [.int .i64, .int .i64, .int .i64, .int .i64, .int .i64]), false)] }]
noncomputable def o40 : Args := [{ mode := 0, cells := [((.slice [.int .i64, .int .i64, .int .i64, .int .i64, .int .i64]), true)] }]
noncomputable def s40 : FSpec := ⟨i40, o40, laws_toEntryS⟩
noncomputable def c40 : Code := match Try.f40.body with | some c => c | none => .skip
noncomputable def S40_3 : Slots := [(0, .val (.slice [.int .i64, .int .i64, .int .i64, .int .i64, .int .i64]) false), (3, .val (.slice [.int .i64, .int .i64, .int .i64, .int .i64, .int .i64]) true), (4, .val (.int .i64) false)]
noncomputable def Φ40 : LFams ((List (Int × Int × Int × Int × Int))) := [(3, ⟨S40_3, laws_toEntryS_L3⟩)]
noncomputable def Γ40 : Env := [(59, s59)]
theorem env40 : EnvOk Try.prog Γ40 := (EnvOk.cons ok59 Try.func59 (by kernel_rfl) (by decide) EnvOk.nil)
theorem ok40 : FnOk Try.prog 40 s40 := by
  refine fn_ok (Θ := Θ) (Γ := Γ40) (Φ := Φ40) (c := c40) Try.func40 (by kernel_rfl) (by kernel_rfl) tab env40 (by kernel_rfl) (by kernel_rfl) (by kernel_rfl) (fun n => by kernel_rfl) ?_
  intro x y h
  obtain ⟨n, h⟩ := lim_some h
  have e : run Θ Γ40 Try.f40 c40 i40 o40 (Φ40.at n) x = laws_toEntryS_N n x := by kernel_rfl
  exact ⟨n, e.trans h⟩
/- 72 loop.example/g00492/laws.toNode -/
noncomputable def i72 : Args := [{ mode := 1, cells := [(.bool, false), ((.slice [.int .i64, .int .i64, .int .i64, .int .i64, .int .i64]), false)] }]
noncomputable def o72 : Args := [{ mode := 1, cells := [(.bool, false), ((.slice [.int .i64, .int .i64, .int .i64, .int .i64, .int .i64]), true)] }]
noncomputable def s72 : FSpec := ⟨i72, o72, laws_toNode⟩
noncomputable def c72 : Code := match Try.f72.body with | some c => c | none => .skip
noncomputable def Φ72 : LFams (Bool × (List (Int × Int × Int × Int × Int))) := []
noncomputable def Γ72 : Env := [(40, s40)]
theorem env72 : EnvOk Try.prog Γ72 := (EnvOk.cons ok40 Try.func40 (by kernel_rfl) (by decide) EnvOk.nil)
theorem ok72 : FnOk Try.prog 72 s72 := by
  refine fn_ok (Θ := Θ) (Γ := Γ72) (Φ := Φ72) (c := c72) Try.func72 (by kernel_rfl) (by kernel_rfl) tab env72 (by kernel_rfl) (by kernel_rfl) (by kernel_rfl) (fun n => by kernel_rfl) ?_
  intro x y h
  have e : run Θ Γ72 Try.f72 c72 i72 o72 (Φ72.at 0) x = laws_toNode x := by kernel_rfl
  exact ⟨0, e.trans h⟩
/- 57 loop.example/g00492/laws.toPage -/
noncomputable def i57 : Args := [{ mode := 1, cells := [(.bool, false), (.bool, false), ((.slice [.int .i64, .int .i64, .int .i64, .int .i64, .int .i64]), false)] }]
noncomputable def o57 : Args := [{ mode := 1, cells := [(.bool, false), (.bool, false), ((.slice [.int .i64, .int .i64, .int .i64, .int .i64, .int .i64]), true)] }]
noncomputable def s57 : FSpec := ⟨i57, o57, laws_toPage⟩
noncomputable def c57 : Code := match Try.f57.body with | some c => c | none => .skip
noncomputable def Φ57 : LFams (Bool × Bool × (List (Int × Int × Int × Int × Int))) := []
noncomputable def Γ57 : Env := [(72, s72)]
theorem env57 : EnvOk Try.prog Γ57 := (EnvOk.cons ok72 Try.func72 (by kernel_rfl) (by decide) EnvOk.nil)
theorem ok57 : FnOk Try.prog 57 s57 := by
  refine fn_ok (Θ := Θ) (Γ := Γ57) (Φ := Φ57) (c := c57) Try.func57 (by kernel_rfl) (by kernel_rfl) tab env57 (by kernel_rfl) (by kernel_rfl) (by kernel_rfl) (fun n => by kernel_rfl) ?_
  intro x y h
  have e : run Θ Γ57 Try.f57 c57 i57 o57 (Φ57.at 0) x = laws_toPage x := by kernel_rfl
  exact ⟨0, e.trans h⟩
/- 38 loop.example/g00492/laws.toPageS -/
noncomputable def i38 : Args := [{ mode := 0, cells := [((.slice [.bool, .bool, (.slice [.int .i64, .int .i64, .int .i64, .int .i64, .int .i64])]), false)] }]
noncomputable def o38 : Args := [{ mode := 0, cells := [((.slice [.bool, .bool, (.slice [.int .i64, .int .i64, .int .i64, .int .i64, .int .i64])]), true)] }]
noncomputable def s38 : FSpec := ⟨i38, o38, laws_toPageS⟩
noncomputable def c38 : Code := match Try.f38.body with | some c => c | none => .skip
noncomputable def S38_3 : Slots := [(0, .val (.slice [.bool, .bool, (.slice [.int .i64, .int .i64, .int .i64, .int .i64, .int .i64])]) false), (3, .val (.slice [.bool, .bool, (.slice [.int .i64, .int .i64, .int .i64, .int .i64, .int .i64])]) true), (4, .val (.int .i64) false)]
noncomputable def Φ38 : LFams ((List (Bool × Bool × (List (Int × Int × Int × Int × Int))))) := [(3, ⟨S38_3, laws_toPageS_L3⟩)]
noncomputable def Γ38 : Env := [(57, s57)]
theorem env38 : EnvOk Try.prog Γ38 := (EnvOk.cons ok57 Try.func57 (by kernel_rfl) (by decide) EnvOk.nil)
theorem ok38 : FnOk Try.prog 38 s38 := by
  refine fn_ok (Θ := Θ) (Γ := Γ38) (Φ := Φ38) (c := c38) Try.func38 (by kernel_rfl) (by kernel_rfl) tab env38 (by kernel_rfl) (by kernel_rfl) (by kernel_rfl) (fun n => by kernel_rfl) ?_
  intro x y h
  obtain ⟨n, h⟩ := lim_some h
  have e : run Θ Γ38 Try.f38 c38 i38 o38 (Φ38.at n) x = laws_toPageS_N n x := by kernel_rfl
  exact ⟨n, e.trans h⟩
/- 16 loop.example/g00492/laws.toBook -/
noncomputable def i16 : Args := [{ mode := 1, cells := [(.int .i64, false), ((.slice [.bool, .bool, (.slice [.int .i64, .int .i64, .int .i64, .int .i64, .int .i64])]), false)] }]
noncomputable def o16 : Args := [{ mode := 1, cells := [(.int .i64, false), ((.slice [.bool, .bool, (.slice [.int .i64, .int .i64, .int .i64, .int .i64, .int .i64])]), true)] }]
noncomputable def s16 : FSpec := ⟨i16, o16, laws_toBook⟩
noncomputable def c16 : Code := match Try.f16.body with | some c => c | none => .skip
noncomputable def Φ16 : LFams (Int × (List (Bool × Bool × (List (Int × Int × Int × Int × Int))))) := []
noncomputable def Γ16 : Env := [(38, s38)]
theorem env16 : EnvOk Try.prog Γ16 := (EnvOk.cons ok38 Try.func38 (by kernel_rfl) (by decide) EnvOk.nil)
theorem ok16 : FnOk Try.prog 16 s16 := by
  refine fn_ok (Θ := Θ) (Γ := Γ16) (Φ := Φ16) (c := c16) Try.func16 (by kernel_rfl) (by kernel_rfl) tab env16 (by kernel_rfl) (by kernel_rfl) (by kernel_rfl) (fun n => by kernel_rfl) ?_
  intro x y h
  have e : run Θ Γ16 Try.f16 c16 i16 o16 (Φ16.at 0) x = laws_toBook x := by kernel_rfl
  exact ⟨0, e.trans h⟩
/- 17 loop.example/g00492/laws.toHead -/
noncomputable def i17 : Args := [{ mode := 1, cells := [(.int .i64, false), (.int .i64, false), (.int .i64, false), (.int .i64, false)] }]
noncomputable def o17 : Args := [{ mode := 1, cells := [(.int .i64, false), (.int .i64, false), (.int .i64, false), (.int .i64, false)] }]
noncomputable def s17 : FSpec := ⟨i17, o17, laws_toHead⟩
noncomputable def c17 : Code := match Try.f17.body with | some c => c | none => .skip
noncomputable def Φ17 : LFams (Int × Int × Int × Int) := []
noncomputable def Γ17 : Env := []
theorem env17 : EnvOk Try.prog Γ17 := EnvOk.nil
theorem ok17 : FnOk Try.prog 17 s17 := by
  refine fn_ok (Θ := Θ) (Γ := Γ17) (Φ := Φ17) (c := c17) Try.func17 (by kernel_rfl) (by kernel_rfl) tab env17 (by kernel_rfl) (by kernel_rfl) (by kernel_rfl) (fun n => by kernel_rfl) ?_
  intro x y h
  have e : run Θ Γ17 Try.f17 c17 i17 o17 (Φ17.at 0) x = laws_toHead x := by kernel_rfl
  exact ⟨0, e.trans h⟩
/- 18 loop.example/g00492/laws.toIntS -/
noncomputable def i18 : Args := [{ mode := 0, cells := [((.slice [.int .i64]), false)] }]
noncomputable def o18 : Args := [{ mode := 0, cells := [((.slice [.int .i64]), true)] }]
noncomputable def s18 : FSpec := ⟨i18, o18, laws_toIntS⟩
noncomputable def c18 : Code := match Try.f18.body with | some c => c | none => .skip
noncomputable def S18_3 : Slots := [(0, .val (.slice [.int .i64]) false), (3, .val (.slice [.int .i64]) true), (4, .val (.int .i64) false)]
noncomputable def Φ18 : LFams ((List Int)) := [(3, ⟨S18_3, laws_toIntS_L3⟩)]
noncomputable def Γ18 : Env := []
theorem env18 : EnvOk Try.prog Γ18 := EnvOk.nil
theorem ok18 : FnOk Try.prog 18 s18 := by
  refine fn_ok (Θ := Θ) (Γ := Γ18) (Φ := Φ18) (c := c18) Try.func18 (by kernel_rfl) (by kernel_rfl) tab env18 (by kernel_rfl) (by kernel_rfl) (by kernel_rfl) (fun n => by kernel_rfl) ?_
  intro x y h
  obtain ⟨n, h⟩ := lim_some h
  have e : run Θ Γ18 Try.f18 c18 i18 o18 (Φ18.at n) x = laws_toIntS_N n x := by kernel_rfl
  exact ⟨n, e.trans h⟩
/- 58 loop.example/g00492/laws.toItem -/
noncomputable def i58 : Args := [{ mode := 1, cells := [(.int .i64, false), (.int .i64, false), (.int .i64, false), (.int .i64, false), (.int .i64, false)] }]
noncomputable def o58 : Args := [{ mode := 1, cells := [(.int .i64, false), (.int .i64, false), (.int .i64, false), (.int .i64, false), (.int .i64, false)] }]
noncomputable def s58 : FSpec := ⟨i58, o58, laws_toItem⟩
noncomputable def c58 : Code := match Try.f58.body with | some c => c | none => .skip
noncomputable def Φ58 : LFams (Int × Int × Int × Int × Int) := []
noncomputable def Γ58 : Env := [(73, s73)]
theorem env58 : EnvOk Try.prog Γ58 := (EnvOk.cons ok73 Try.func73 (by kernel_rfl) (by decide) EnvOk.nil)
theorem ok58 : FnOk Try.prog 58 s58 := by
  refine fn_ok (Θ := Θ) (Γ := Γ58) (Φ := Φ58) (c := c58) Try.func58 (by kernel_rfl) (by kernel_rfl) tab env58 (by kernel_rfl) (by kernel_rfl) (by kernel_rfl) (fun n => by kernel_rfl) ?_
  intro x y h
  have e : run Θ Γ58 Try.f58 c58 i58 o58 (Φ58.at 0) x = laws_toItem x := by kernel_rfl
  exact ⟨0, e.trans h⟩
/- 39 loop.example/g00492/laws.toItemS -/
noncomputable def i39 : Args := [{ mode := 0, cells := [((.slice [.int .i64, .int .i64, .int .i64, .int .i64, .int .i64]), false)] }]
noncomputable def o39 : Args := [{ mode := 0, cells := [((.slice [.int .i64, .int .i64, .int .i64, .int .i64, .int .i64]), true)] }]
noncomputable def s39 : FSpec := ⟨i39, o39, laws_toItemS⟩
noncomputable def c39 : Code := match Try.f39.body with | some c => c | none => .skip
noncomputable def S39_3 : Slots := [(0, .val (.slice [.int .i64, .int .i64, .int .i64, .int .i64, .int .i64]) false), (3, .val (.slice [.int .i64, .int .i64, .int .i64, .int .i64, .int .i64]) true), (4, .val (.int .i64) false)]
noncomputable def Φ39 : LFams ((List (Int × Int × Int × Int × Int))) := [(3, ⟨S39_3, laws_toItemS_L3⟩)]
noncomputable def Γ39 : Env := [(58, s58)]
theorem env39 : EnvOk Try.prog Γ39 := (EnvOk.cons ok58 Try.func58 (by kernel_rfl) (by decide) EnvOk.nil)
theorem ok39 : FnOk Try.prog 39 s39 := by
  refine fn_ok (Θ := Θ) (Γ := Γ39) (Φ := Φ39) (c := c39) Try.func39 (by kernel_rfl) (by kernel_rfl) tab env39 (by kernel_rfl) (by kernel_rfl) (by kernel_rfl) (fun n => by kernel_rfl) ?_
  intro x y h
  obtain ⟨n, h⟩ := lim_some h
  have e : run Θ Γ39 Try.f39 c39 i39 o39 (Φ39.at n) x = laws_toItemS_N n x := by kernel_rfl
  exact ⟨n, e.trans h⟩
/- 19 loop.example/g00492/laws.toVac -/
noncomputable def i19 : Args := [{ mode := 1, cells := [(.int .i64, false), ((.slice [.int .i64]), false), ((.slice [.int .i64, .int .i64, .int .i64, .int .i64, .int .i64]), false), ((.slice [.int .i64, .int .i64, .int .i64, .int .i64, .int .i64]), false), ((.slice [.int .i64, .int .i64, .int .i64, .int .i64, .int .i64]), false), ((.slice [.int .i64]), false)] }]
noncomputable def o19 : Args := [{ mode := 1, cells := [(.int .i64, false), ((.slice [.int .i64]), true), ((.slice [.int .i64, .int .i64, .int .i64, .int .i64, .int .i64]), true), ((.slice [.int .i64, .int .i64, .int .i64, .int .i64, .int .i64]), true), ((.slice [.int .i64, .int .i64, .int .i64, .int .i64, .int .i64]), true), ((.slice [.int .i64]), true)] }]
noncomputable def s19 : FSpec := ⟨i19, o19, laws_toVac⟩
noncomputable def c19 : Code := match Try.f19.body with | some c => c | none => .skip
noncomputable def Φ19 : LFams (Int × (List Int) × (List (Int × Int × Int × Int × Int)) × (List (Int × Int × Int × Int × Int)) × (List (Int × Int × Int × Int × Int)) × (List Int)) := []
noncomputable def Γ19 : Env := [(18, s18), (39, s39), (40, s40)]
theorem env19 : EnvOk Try.prog Γ19 := (EnvOk.cons ok18 Try.func18 (by kernel_rfl) (by decide) (EnvOk.cons ok39 Try.func39 (by kernel_rfl) (by decide) (EnvOk.cons ok40 Try.func40 (by kernel_rfl) (by decide) EnvOk.nil)))
theorem ok19 : FnOk Try.prog 19 s19 := by
  refine fn_ok (Θ := Θ) (Γ := Γ19) (Φ := Φ19) (c := c19) Try.func19 (by kernel_rfl) (by kernel_rfl) tab env19 (by kernel_rfl) (by kernel_rfl) (by kernel_rfl) (fun n => by kernel_rfl) ?_
  intro x y h
  have e : run Θ Γ19 Try.f19 c19 i19 o19 (Φ19.at 0) x = laws_toVac x := by kernel_rfl
  exact ⟨0, e.trans h⟩
/- 6 loop.example/g00492/laws.toBase -/
noncomputable def i6 : Args := [{ mode := 1, cells := [((.slice [.bool, (.slice [.int .u8])]), false), ((.slice [.int .i64, (.slice [.int .u8])]), false), (.int .i64, false), (.bool, false), (.int .i64, false), ((.slice [.bool, .bool, (.slice [.int .i64, .int .i64, .int .i64, .int .i64, .int .i64])]), false), (.int .i64, false), (.int .i64, false), (.int .i64, false), (.int .i64, false), (.int .i64, false), (.int .i64, false), ((.slice [.int .i64]), false), (.int .i64, false), (.int .i64, false), ((.slice [.int .i64]), false), ((.slice [.int .i64, .int .i64, .int .i64, .int .i64, .int .i64]), false), ((.slice [.int .i64, .int .i64, .int .i64, .int .i64, .int .i64]), false), ((.slice [.int .i64, .int .i64, .int .i64, .int .i64, .int .i64]), false), ((.slice [.int .i64]), false)] }]
noncomputable def o6 : Args := [{ mode := 1, cells := [((.slice [.bool, (.slice [.int .u8])]), true), ((.slice [.int .i64, (.slice [.int .u8])]), true), (.int .i64, false), (.bool, false), (.int .i64, false), ((.slice [.bool, .bool, (.slice [.int .i64, .int .i64, .int .i64, .int .i64, .int .i64])]), true), (.int .i64, false), (.int .i64, false), (.int .i64, false), (.int .i64, false), (.int .i64, false), (.int .i64, false), ((.slice [.int .i64]), true), (.int .i64, false), (.int .i64, false), ((.slice [.int .i64]), true), ((.slice [.int .i64, .int .i64, .int .i64, .int .i64, .int .i64]), true), ((.slice [.int .i64, .int .i64, .int .i64, .int .i64, .int .i64]), true), ((.slice [.int .i64, .int .i64, .int .i64, .int .i64, .int .i64]), true), ((.slice [.int .i64]), true)] }]
noncomputable def s6 : FSpec := ⟨i6, o6, laws_toBase⟩
noncomputable def c6 : Code := match Try.f6.body with | some c => c | none => .skip
noncomputable def Φ6 : LFams ((List (Bool × (List Int))) × (List (Int × (List Int))) × Int × Bool × Int × (List (Bool × Bool × (List (Int × Int × Int × Int × Int)))) × Int × Int × Int × Int × Int × Int × (List Int) × Int × Int × (List Int) × (List (Int × Int × Int × Int × Int)) × (List (Int × Int × Int × Int × Int)) × (List (Int × Int × Int × Int × Int)) × (List Int)) := []
noncomputable def Γ6 : Env := [(15, s15), (16, s16), (17, s17), (18, s18), (19, s19)]
theorem env6 : EnvOk Try.prog Γ6 := (EnvOk.cons ok15 Try.func15 (by kernel_rfl) (by decide) (EnvOk.cons ok16 Try.func16 (by kernel_rfl) (by decide) (EnvOk.cons ok17 Try.func17 (by kernel_rfl) (by decide) (EnvOk.cons ok18 Try.func18 (by kernel_rfl) (by decide) (EnvOk.cons ok19 Try.func19 (by kernel_rfl) (by decide) EnvOk.nil)))))
theorem ok6 : FnOk Try.prog 6 s6 := by
  refine fn_ok (Θ := Θ) (Γ := Γ6) (Φ := Φ6) (c := c6) Try.func6 (by kernel_rfl) (by kernel_rfl) tab env6 (by kernel_rfl) (by kernel_rfl) (by kernel_rfl) (fun n => by kernel_rfl) ?_
  intro x y h
  have e : run Θ Γ6 Try.f6 c6 i6 o6 (Φ6.at 0) x = laws_toBase x := by kernel_rfl
  exact ⟨0, e.trans h⟩
/- 41 loop.example/g00492/impl.in -/
noncomputable def i41 : Args := [{ mode := 0, cells := [(.int .i64, false)] }, { mode := 0, cells := [(.int .i64, false)] }, { mode := 0, cells := [(.int .i64, false)] }]
noncomputable def o41 : Args := [{ mode := 0, cells := [(.bool, false)] }]
noncomputable def s41 : FSpec := ⟨i41, o41, impl_in⟩
noncomputable def c41 : Code := match Try.f41.body with | some c => c | none => .skip
noncomputable def Φ41 : LFams Bool := []
noncomputable def Γ41 : Env := []
theorem env41 : EnvOk Try.prog Γ41 := EnvOk.nil
theorem ok41 : FnOk Try.prog 41 s41 := by
  refine fn_ok (Θ := Θ) (Γ := Γ41) (Φ := Φ41) (c := c41) Try.func41 (by kernel_rfl) (by kernel_rfl) tab env41 (by kernel_rfl) (by kernel_rfl) (by kernel_rfl) (fun n => by kernel_rfl) ?_
  intro x y h
  have e : run Θ Γ41 Try.f41 c41 i41 o41 (Φ41.at 0) x = impl_in x := by kernel_rfl
  exact ⟨0, e.trans h⟩
/- 60 loop.example/g00492/impl.Up -/
noncomputable def i60 : Args := [{ mode := 0, cells := [(.int .i64, false)] }, { mode := 0, cells := [(.int .i64, false)] }]
noncomputable def o60 : Args := [{ mode := 0, cells := [(.int .i64, false)] }]
noncomputable def s60 : FSpec := ⟨i60, o60, impl_Up⟩
noncomputable def c60 : Code := match Try.f60.body with | some c => c | none => .skip
noncomputable def Φ60 : LFams Int := []
noncomputable def Γ60 : Env := []
theorem env60 : EnvOk Try.prog Γ60 := EnvOk.nil
theorem ok60 : FnOk Try.prog 60 s60 := by
  refine fn_ok (Θ := Θ) (Γ := Γ60) (Φ := Φ60) (c := c60) Try.func60 (by kernel_rfl) (by kernel_rfl) tab env60 (by kernel_rfl) (by kernel_rfl) (by kernel_rfl) (fun n => by kernel_rfl) ?_
  intro x y h
  have e : run Θ Γ60 Try.f60 c60 i60 o60 (Φ60.at 0) x = impl_Up x := by kernel_rfl
  exact ⟨0, e.trans h⟩
/- 42 loop.example/g00492/impl.PagesFor -/
noncomputable def i42 : Args := [{ mode := 0, cells := [(.int .i64, false)] }]
noncomputable def o42 : Args := [{ mode := 0, cells := [(.int .i64, false)] }]
noncomputable def s42 : FSpec := ⟨i42, o42, impl_PagesFor⟩
noncomputable def c42 : Code := match Try.f42.body with | some c => c | none => .skip
noncomputable def Φ42 (k : Nat) : LFams Int := []
noncomputable def r42 (k : Nat) : FSpec := ⟨i42, o42, impl_PagesFor_R k⟩
noncomputable def Γ42 (k : Nat) : Env := [(42, r42 k), (41, s41), (60, s60)]
theorem env42 (k : Nat) (h : FnOk Try.prog 42 (r42 k)) : EnvOk Try.prog (Γ42 k) := EnvOk.cons h Try.func42 (by kernel_rfl) (by decide) (EnvOk.cons ok41 Try.func41 (by kernel_rfl) (by decide) (EnvOk.cons ok60 Try.func60 (by kernel_rfl) (by decide) EnvOk.nil))
theorem step42 (k : Nat) (h : FnOk Try.prog 42 (r42 k)) : FnOk Try.prog 42 (r42 (k + 1)) := by
  refine fn_ok (Θ := Θ) (Γ := (Γ42 k)) (Φ := (Φ42 k)) (c := c42) Try.func42 (by kernel_rfl) (by kernel_rfl) tab (env42 k h) (by kernel_rfl) (by kernel_rfl) (by kernel_rfl) (fun n => by kernel_rfl) ?_
  intro x y h
  have e : run Θ (Γ42 k) Try.f42 c42 i42 o42 ((Φ42 k).at 0) x = impl_PagesFor_N (impl_PagesFor_R k) x := by kernel_rfl
  exact ⟨0, e.trans h⟩
theorem ok42 : FnOk Try.prog 42 s42 := FnOk.lim (fun k => Nat.rec (FnOk.none fun _ => rfl) (fun k h => step42 k h) k)
/- 20 loop.example/g00492/impl.StepsFor -/
noncomputable def i20 : Args := [{ mode := 0, cells := [(.int .i64, false)] }, { mode := 0, cells := [(.int .i64, false)] }]
noncomputable def o20 : Args := [{ mode := 0, cells := [(.int .i64, false)] }]
noncomputable def s20 : FSpec := ⟨i20, o20, impl_StepsFor⟩
noncomputable def c20 : Code := match Try.f20.body with | some c => c | none => .skip
noncomputable def Φ20 : LFams Int := []
noncomputable def Γ20 : Env := [(41, s41), (42, s42)]
theorem env20 : EnvOk Try.prog Γ20 := (EnvOk.cons ok41 Try.func41 (by kernel_rfl) (by decide) (EnvOk.cons ok42 Try.func42 (by kernel_rfl) (by decide) EnvOk.nil))
theorem ok20 : FnOk Try.prog 20 s20 := by
  refine fn_ok (Θ := Θ) (Γ := Γ20) (Φ := Φ20) (c := c20) Try.func20 (by kernel_rfl) (by kernel_rfl) tab env20 (by kernel_rfl) (by kernel_rfl) (by kernel_rfl) (fun n => by kernel_rfl) ?_
  intro x y h
  have e : run Θ Γ20 Try.f20 c20 i20 o20 (Φ20.at 0) x = impl_StepsFor x := by kernel_rfl
  exact ⟨0, e.trans h⟩
/- 80 loop.example/g00492/impl.exists -/
noncomputable def i80 : Args := [{ mode := 1, cells := [(.int .i64, false), ((.slice [.bool, .bool, (.slice [.int .i64, .int .i64, .int .i64, .int .i64, .int .i64])]), false)] }, { mode := 0, cells := [(.int .i64, false)] }]
noncomputable def o80 : Args := [{ mode := 0, cells := [(.bool, false)] }]
noncomputable def s80 : FSpec := ⟨i80, o80, impl_exists⟩
noncomputable def c80 : Code := match Try.f80.body with | some c => c | none => .skip
noncomputable def Φ80 : LFams Bool := []
noncomputable def Γ80 : Env := []
theorem env80 : EnvOk Try.prog Γ80 := EnvOk.nil
theorem ok80 : FnOk Try.prog 80 s80 := by
  refine fn_ok (Θ := Θ) (Γ := Γ80) (Φ := Φ80) (c := c80) Try.func80 (by kernel_rfl) (by kernel_rfl) tab env80 (by kernel_rfl) (by kernel_rfl) (by kernel_rfl) (fun n => by kernel_rfl) ?_
  intro x y h
  have e : run Θ Γ80 Try.f80 c80 i80 o80 (Φ80.at 0) x = impl_exists x := by kernel_rfl
  exact ⟨0, e.trans h⟩
/- 75 loop.example/g00492/impl.used -/
noncomputable def i75 : Args := [{ mode := 1, cells := [(.int .i64, false), ((.slice [.bool, .bool, (.slice [.int .i64, .int .i64, .int .i64, .int .i64, .int .i64])]), false)] }, { mode := 0, cells := [(.int .i64, false)] }]
noncomputable def o75 : Args := [{ mode := 0, cells := [(.bool, false)] }]
noncomputable def s75 : FSpec := ⟨i75, o75, impl_used⟩
noncomputable def c75 : Code := match Try.f75.body with | some c => c | none => .skip
noncomputable def Φ75 : LFams Bool := []
noncomputable def Γ75 : Env := [(80, s80)]
theorem env75 : EnvOk Try.prog Γ75 := (EnvOk.cons ok80 Try.func80 (by kernel_rfl) (by decide) EnvOk.nil)
theorem ok75 : FnOk Try.prog 75 s75 := by
  refine fn_ok (Θ := Θ) (Γ := Γ75) (Φ := Φ75) (c := c75) Try.func75 (by kernel_rfl) (by kernel_rfl) tab env75 (by kernel_rfl) (by kernel_rfl) (by kernel_rfl) (fun n => by kernel_rfl) ?_
  intro x y h
  have e : run Θ Γ75 Try.f75 c75 i75 o75 (Φ75.at 0) x = impl_used x := by kernel_rfl
  exact ⟨0, e.trans h⟩
/- 74 loop.example/g00492/impl.reachFrom$1 -/
noncomputable def i74 : Args := [{ mode := 0, cells := [(.int .i64, false)] }, { mode := 4, cells := [(.int .i64, false), ((.slice [.bool, .bool, (.slice [.int .i64, .int .i64, .int .i64, .int .i64, .int .i64])]), false)] }, { mode := 2, cells := [(.map, true)] }, { mode := 2, cells := [((.slice [.int .i64]), true)] }, { mode := 3, cells := [], fn := 74, js := [0, 1, 2, 3] }]
noncomputable def o74 : Args := []
noncomputable def s74 : FSpec := ⟨i74, o74, impl_reachFrom_1⟩
noncomputable def c74 : Code := match Try.f74.body with | some c => c | none => .skip
noncomputable def S74_5 : Slots := [(1, .fpar 0 [.int .i64, (.slice [.bool, .bool, (.slice [.int .i64, .int .i64, .int .i64, .int .i64, .int .i64])])]), (2, .par 1 [(.map, true)]), (3, .par 2 [((.slice [.int .i64]), true)]), (4, .cpar 3 74 [0, 1, 2, 3]), (38, .val (.slice [.int .i64, .int .i64, .int .i64, .int .i64, .int .i64]) false), (39, .val (.int .i64) false), (40, .val (.int .i64) false)]
noncomputable def Φ74 (k : Nat) : LFams (((Int → Int)) × (List Int)) := [(5, ⟨S74_5, impl_reachFrom_1_L5 (impl_reachFrom_1_R k)⟩)]
noncomputable def r74 (k : Nat) : FSpec := ⟨i74, o74, impl_reachFrom_1_R k⟩
noncomputable def Γ74 (k : Nat) : Env := [(74, r74 k), (75, s75)]
theorem env74 (k : Nat) (h : FnOk Try.prog 74 (r74 k)) : EnvOk Try.prog (Γ74 k) := EnvOk.cons h Try.func74 (by kernel_rfl) (by decide) (EnvOk.cons ok75 Try.func75 (by kernel_rfl) (by decide) EnvOk.nil)
theorem step74 (k : Nat) (h : FnOk Try.prog 74 (r74 k)) : FnOk Try.prog 74 (r74 (k + 1)) := by
  refine fn_ok (Θ := Θ) (Γ := (Γ74 k)) (Φ := (Φ74 k)) (c := c74) Try.func74 (by kernel_rfl) (by kernel_rfl) tab (env74 k h) (by kernel_rfl) (by kernel_rfl) (by kernel_rfl) (fun n => by kernel_rfl) ?_
  intro x y h
  obtain ⟨n, h⟩ := lim_some h
  have e : run Θ (Γ74 k) Try.f74 c74 i74 o74 ((Φ74 k).at n) x = impl_reachFrom_1_N (impl_reachFrom_1_R k) n x := by kernel_rfl
  exact ⟨n, e.trans h⟩
theorem ok74 : FnOk Try.prog 74 s74 := FnOk.lim (fun k => Nat.rec (FnOk.none fun _ => rfl) (fun k h => step74 k h) k)
/- 61 loop.example/g00492/impl.reachFrom -/
noncomputable def i61 : Args := [{ mode := 1, cells := [(.int .i64, false), ((.slice [.bool, .bool, (.slice [.int .i64, .int .i64, .int .i64, .int .i64, .int .i64])]), false)] }, { mode := 0, cells := [(.int .i64, false)] }]
noncomputable def o61 : Args := [{ mode := 0, cells := [((.slice [.int .i64]), true)] }]
noncomputable def s61 : FSpec := ⟨i61, o61, impl_reachFrom⟩
noncomputable def c61 : Code := match Try.f61.body with | some c => c | none => .skip
noncomputable def Φ61 : LFams ((List Int)) := []
noncomputable def Γ61 : Env := [(74, s74)]
theorem env61 : EnvOk Try.prog Γ61 := (EnvOk.cons ok74 Try.func74 (by kernel_rfl) (by decide) EnvOk.nil)
theorem ok61 : FnOk Try.prog 61 s61 := by
  refine fn_ok (Θ := Θ) (Γ := Γ61) (Φ := Φ61) (c := c61) Try.func61 (by kernel_rfl) (by kernel_rfl) tab env61 (by kernel_rfl) (by kernel_rfl) (by kernel_rfl) (fun n => by kernel_rfl) ?_
  intro x y h
  have e : run Θ Γ61 Try.f61 c61 i61 o61 (Φ61.at 0) x = impl_reachFrom x := by kernel_rfl
  exact ⟨0, e.trans h⟩
/- 62 loop.example/g00492/impl.ItemsOf -/
noncomputable def i62 : Args := [{ mode := 1, cells := [(.bool, false), ((.slice [.int .i64, .int .i64, .int .i64, .int .i64, .int .i64]), false)] }]
noncomputable def o62 : Args := [{ mode := 0, cells := [((.slice [.int .i64, .int .i64, .int .i64, .int .i64, .int .i64]), true)] }]
noncomputable def s62 : FSpec := ⟨i62, o62, impl_ItemsOf⟩
noncomputable def c62 : Code := match Try.f62.body with | some c => c | none => .skip
noncomputable def S62_4 : Slots := [(3, .val (.slice [.int .i64, .int .i64, .int .i64, .int .i64, .int .i64]) true), (9, .val (.slice [.int .i64, .int .i64, .int .i64, .int .i64, .int .i64]) false), (10, .val (.int .i64) false), (11, .val (.int .i64) false)]
noncomputable def Φ62 : LFams ((List (Int × Int × Int × Int × Int))) := [(4, ⟨S62_4, impl_ItemsOf_L4⟩)]
noncomputable def Γ62 : Env := []
theorem env62 : EnvOk Try.prog Γ62 := EnvOk.nil
theorem ok62 : FnOk Try.prog 62 s62 := by
  refine fn_ok (Θ := Θ) (Γ := Γ62) (Φ := Φ62) (c := c62) Try.func62 (by kernel_rfl) (by kernel_rfl) tab env62 (by kernel_rfl) (by kernel_rfl) (by kernel_rfl) (fun n => by kernel_rfl) ?_
  intro x y h
  obtain ⟨n, h⟩ := lim_some h
  have e : run Θ Γ62 Try.f62 c62 i62 o62 (Φ62.at n) x = impl_ItemsOf_N n x := by kernel_rfl
  exact ⟨n, e.trans h⟩
/- 43 loop.example/g00492/impl.itemsFrom -/
noncomputable def i43 : Args := [{ mode := 1, cells := [(.int .i64, false), ((.slice [.bool, .bool, (.slice [.int .i64, .int .i64, .int .i64, .int .i64, .int .i64])]), false)] }, { mode := 0, cells := [(.int .i64, false)] }]
noncomputable def o43 : Args := [{ mode := 0, cells := [((.slice [.int .i64, .int .i64, .int .i64, .int .i64, .int .i64]), true)] }]
noncomputable def s43 : FSpec := ⟨i43, o43, impl_itemsFrom⟩
noncomputable def c43 : Code := match Try.f43.body with | some c => c | none => .skip
noncomputable def S43_3 : Slots := [(2, .box [(.int .i64, false), ((.slice [.bool, .bool, (.slice [.int .i64, .int .i64, .int .i64, .int .i64, .int .i64])]), false)]), (5, .val (.slice [.int .i64, .int .i64, .int .i64, .int .i64, .int .i64]) true), (10, .val (.slice [.int .i64]) false), (11, .val (.int .i64) false), (12, .val (.int .i64) false)]
noncomputable def Φ43 : LFams ((List (Int × Int × Int × Int × Int))) := [(3, ⟨S43_3, impl_itemsFrom_L3⟩)]
noncomputable def Γ43 : Env := [(61, s61), (62, s62)]
theorem env43 : EnvOk Try.prog Γ43 := (EnvOk.cons ok61 Try.func61 (by kernel_rfl) (by decide) (EnvOk.cons ok62 Try.func62 (by kernel_rfl) (by decide) EnvOk.nil))
theorem ok43 : FnOk Try.prog 43 s43 := by
  refine fn_ok (Θ := Θ) (Γ := Γ43) (Φ := Φ43) (c := c43) Try.func43 (by kernel_rfl) (by kernel_rfl) tab env43 (by kernel_rfl) (by kernel_rfl) (by kernel_rfl) (fun n => by kernel_rfl) ?_
  intro x y h
  obtain ⟨n, h⟩ := lim_some h
  have e : run Θ Γ43 Try.f43 c43 i43 o43 (Φ43.at n) x = impl_itemsFrom_N n x := by kernel_rfl
  exact ⟨n, e.trans h⟩
/- 21 loop.example/g00492/impl.All -/
noncomputable def i21 : Args := [{ mode := 1, cells := [(.int .i64, false), ((.slice [.bool, .bool, (.slice [.int .i64, .int .i64, .int .i64, .int .i64, .int .i64])]), false)] }]
noncomputable def o21 : Args := [{ mode := 0, cells := [((.slice [.int .i64, .int .i64, .int .i64, .int .i64, .int .i64]), true)] }]
noncomputable def s21 : FSpec := ⟨i21, o21, impl_All⟩
noncomputable def c21 : Code := match Try.f21.body with | some c => c | none => .skip
noncomputable def Φ21 : LFams ((List (Int × Int × Int × Int × Int))) := []
noncomputable def Γ21 : Env := [(43, s43)]
theorem env21 : EnvOk Try.prog Γ21 := (EnvOk.cons ok43 Try.func43 (by kernel_rfl) (by decide) EnvOk.nil)
theorem ok21 : FnOk Try.prog 21 s21 := by
  refine fn_ok (Θ := Θ) (Γ := Γ21) (Φ := Φ21) (c := c21) Try.func21 (by kernel_rfl) (by kernel_rfl) tab env21 (by kernel_rfl) (by kernel_rfl) (by kernel_rfl) (fun n => by kernel_rfl) ?_
  intro x y h
  have e : run Θ Γ21 Try.f21 c21 i21 o21 (Φ21.at 0) x = impl_All x := by kernel_rfl
  exact ⟨0, e.trans h⟩
/- 7 loop.example/g00492/impl.Waits -/
noncomputable def i7 : Args := [{ mode := 1, cells := [((.slice [.bool, (.slice [.int .u8])]), false), ((.slice [.int .i64, (.slice [.int .u8])]), false), (.int .i64, false), (.bool, false), (.int .i64, false), ((.slice [.bool, .bool, (.slice [.int .i64, .int .i64, .int .i64, .int .i64, .int .i64])]), false), (.int .i64, false), (.int .i64, false), (.int .i64, false), (.int .i64, false), (.int .i64, false), (.int .i64, false), ((.slice [.int .i64]), false), (.int .i64, false), (.int .i64, false), ((.slice [.int .i64]), false), ((.slice [.int .i64, .int .i64, .int .i64, .int .i64, .int .i64]), false), ((.slice [.int .i64, .int .i64, .int .i64, .int .i64, .int .i64]), false), ((.slice [.int .i64, .int .i64, .int .i64, .int .i64, .int .i64]), false), ((.slice [.int .i64]), false)] }]
noncomputable def o7 : Args := [{ mode := 0, cells := [(.int .i64, false)] }]
noncomputable def s7 : FSpec := ⟨i7, o7, impl_Waits⟩
noncomputable def c7 : Code := match Try.f7.body with | some c => c | none => .skip
noncomputable def Φ7 : LFams Int := []
noncomputable def Γ7 : Env := [(20, s20), (21, s21)]
theorem env7 : EnvOk Try.prog Γ7 := (EnvOk.cons ok20 Try.func20 (by kernel_rfl) (by decide) (EnvOk.cons ok21 Try.func21 (by kernel_rfl) (by decide) EnvOk.nil))
theorem ok7 : FnOk Try.prog 7 s7 := by
  refine fn_ok (Θ := Θ) (Γ := Γ7) (Φ := Φ7) (c := c7) Try.func7 (by kernel_rfl) (by kernel_rfl) tab env7 (by kernel_rfl) (by kernel_rfl) (by kernel_rfl) (fun n => by kernel_rfl) ?_
  intro x y h
  have e : run Θ Γ7 Try.f7 c7 i7 o7 (Φ7.at 0) x = impl_Waits x := by kernel_rfl
  exact ⟨0, e.trans h⟩
/- 76 loop.example/g00492/laws.eqByteS -/
noncomputable def i76 : Args := [{ mode := 0, cells := [((.slice [.int .u8]), false)] }, { mode := 0, cells := [((.slice [.int .u8]), false)] }]
noncomputable def o76 : Args := [{ mode := 0, cells := [(.bool, false)] }]
noncomputable def s76 : FSpec := ⟨i76, o76, laws_eqByteS⟩
noncomputable def c76 : Code := match Try.f76.body with | some c => c | none => .skip
noncomputable def S76_4 : Slots := [(0, .val (.slice [.int .u8]) false), (1, .val (.slice [.int .u8]) false), (5, .val (.int .i64) false)]
noncomputable def Φ76 : LFams Bool := [(4, ⟨S76_4, laws_eqByteS_L4⟩)]
noncomputable def Γ76 : Env := []
theorem env76 : EnvOk Try.prog Γ76 := EnvOk.nil
theorem ok76 : FnOk Try.prog 76 s76 := by
  refine fn_ok (Θ := Θ) (Γ := Γ76) (Φ := Φ76) (c := c76) Try.func76 (by kernel_rfl) (by kernel_rfl) tab env76 (by kernel_rfl) (by kernel_rfl) (by kernel_rfl) (fun n => by kernel_rfl) ?_
  intro x y h
  obtain ⟨n, h⟩ := lim_some h
  have e : run Θ Γ76 Try.f76 c76 i76 o76 (Φ76.at n) x = laws_eqByteS_N n x := by kernel_rfl
  exact ⟨n, e.trans h⟩
/- 63 loop.example/g00492/laws.eqCell -/
noncomputable def i63 : Args := [{ mode := 1, cells := [(.bool, false), ((.slice [.int .u8]), false)] }, { mode := 1, cells := [(.bool, false), ((.slice [.int .u8]), false)] }]
noncomputable def o63 : Args := [{ mode := 0, cells := [(.bool, false)] }]
noncomputable def s63 : FSpec := ⟨i63, o63, laws_eqCell⟩
noncomputable def c63 : Code := match Try.f63.body with | some c => c | none => .skip
noncomputable def Φ63 : LFams Bool := []
noncomputable def Γ63 : Env := [(76, s76)]
theorem env63 : EnvOk Try.prog Γ63 := (EnvOk.cons ok76 Try.func76 (by kernel_rfl) (by decide) EnvOk.nil)
theorem ok63 : FnOk Try.prog 63 s63 := by
  refine fn_ok (Θ := Θ) (Γ := Γ63) (Φ := Φ63) (c := c63) Try.func63 (by kernel_rfl) (by kernel_rfl) tab env63 (by kernel_rfl) (by kernel_rfl) (by kernel_rfl) (fun n => by kernel_rfl) ?_
  intro x y h
  have e : run Θ Γ63 Try.f63 c63 i63 o63 (Φ63.at 0) x = laws_eqCell x := by kernel_rfl
  exact ⟨0, e.trans h⟩
/- 44 loop.example/g00492/laws.eqCellS -/
noncomputable def i44 : Args := [{ mode := 0, cells := [((.slice [.bool, (.slice [.int .u8])]), false)] }, { mode := 0, cells := [((.slice [.bool, (.slice [.int .u8])]), false)] }]
noncomputable def o44 : Args := [{ mode := 0, cells := [(.bool, false)] }]
noncomputable def s44 : FSpec := ⟨i44, o44, laws_eqCellS⟩
noncomputable def c44 : Code := match Try.f44.body with | some c => c | none => .skip
noncomputable def S44_4 : Slots := [(0, .val (.slice [.bool, (.slice [.int .u8])]) false), (1, .val (.slice [.bool, (.slice [.int .u8])]) false), (5, .val (.int .i64) false)]
noncomputable def Φ44 : LFams Bool := [(4, ⟨S44_4, laws_eqCellS_L4⟩)]
noncomputable def Γ44 : Env := [(63, s63)]
theorem env44 : EnvOk Try.prog Γ44 := (EnvOk.cons ok63 Try.func63 (by kernel_rfl) (by decide) EnvOk.nil)
theorem ok44 : FnOk Try.prog 44 s44 := by
  refine fn_ok (Θ := Θ) (Γ := Γ44) (Φ := Φ44) (c := c44) Try.func44 (by kernel_rfl) (by kernel_rfl) tab env44 (by kernel_rfl) (by kernel_rfl) (by kernel_rfl) (fun n => by kernel_rfl) ?_
  intro x y h
  obtain ⟨n, h⟩ := lim_some h
  have e : run Θ Γ44 Try.f44 c44 i44 o44 (Φ44.at n) x = laws_eqCellS_N n x := by kernel_rfl
  exact ⟨n, e.trans h⟩
/- 64 loop.example/g00492/laws.eqWet -/
noncomputable def i64 : Args := [{ mode := 1, cells := [(.int .i64, false), ((.slice [.int .u8]), false)] }, { mode := 1, cells := [(.int .i64, false), ((.slice [.int .u8]), false)] }]
noncomputable def o64 : Args := [{ mode := 0, cells := [(.bool, false)] }]
noncomputable def s64 : FSpec := ⟨i64, o64, laws_eqWet⟩
noncomputable def c64 : Code := match Try.f64.body with | some c => c | none => .skip
noncomputable def Φ64 : LFams Bool := []
noncomputable def Γ64 : Env := [(76, s76)]
theorem env64 : EnvOk Try.prog Γ64 := (EnvOk.cons ok76 Try.func76 (by kernel_rfl) (by decide) EnvOk.nil)
theorem ok64 : FnOk Try.prog 64 s64 := by
  refine fn_ok (Θ := Θ) (Γ := Γ64) (Φ := Φ64) (c := c64) Try.func64 (by kernel_rfl) (by kernel_rfl) tab env64 (by kernel_rfl) (by kernel_rfl) (by kernel_rfl) (fun n => by kernel_rfl) ?_
  intro x y h
  have e : run Θ Γ64 Try.f64 c64 i64 o64 (Φ64.at 0) x = laws_eqWet x := by kernel_rfl
  exact ⟨0, e.trans h⟩
/- 45 loop.example/g00492/laws.eqWetS -/
noncomputable def i45 : Args := [{ mode := 0, cells := [((.slice [.int .i64, (.slice [.int .u8])]), false)] }, { mode := 0, cells := [((.slice [.int .i64, (.slice [.int .u8])]), false)] }]
noncomputable def o45 : Args := [{ mode := 0, cells := [(.bool, false)] }]
noncomputable def s45 : FSpec := ⟨i45, o45, laws_eqWetS⟩
noncomputable def c45 : Code := match Try.f45.body with | some c => c | none => .skip
noncomputable def S45_4 : Slots := [(0, .val (.slice [.int .i64, (.slice [.int .u8])]) false), (1, .val (.slice [.int .i64, (.slice [.int .u8])]) false), (5, .val (.int .i64) false)]
noncomputable def Φ45 : LFams Bool := [(4, ⟨S45_4, laws_eqWetS_L4⟩)]
noncomputable def Γ45 : Env := [(64, s64)]
theorem env45 : EnvOk Try.prog Γ45 := (EnvOk.cons ok64 Try.func64 (by kernel_rfl) (by decide) EnvOk.nil)
theorem ok45 : FnOk Try.prog 45 s45 := by
  refine fn_ok (Θ := Θ) (Γ := Γ45) (Φ := Φ45) (c := c45) Try.func45 (by kernel_rfl) (by kernel_rfl) tab env45 (by kernel_rfl) (by kernel_rfl) (by kernel_rfl) (fun n => by kernel_rfl) ?_
  intro x y h
  obtain ⟨n, h⟩ := lim_some h
  have e : run Θ Γ45 Try.f45 c45 i45 o45 (Φ45.at n) x = laws_eqWetS_N n x := by kernel_rfl
  exact ⟨n, e.trans h⟩
/- 22 loop.example/g00492/laws.eqDisk -/
noncomputable def i22 : Args := [{ mode := 1, cells := [((.slice [.bool, (.slice [.int .u8])]), false), ((.slice [.int .i64, (.slice [.int .u8])]), false), (.int .i64, false), (.bool, false)] }, { mode := 1, cells := [((.slice [.bool, (.slice [.int .u8])]), false), ((.slice [.int .i64, (.slice [.int .u8])]), false), (.int .i64, false), (.bool, false)] }]
noncomputable def o22 : Args := [{ mode := 0, cells := [(.bool, false)] }]
noncomputable def s22 : FSpec := ⟨i22, o22, laws_eqDisk⟩
noncomputable def c22 : Code := match Try.f22.body with | some c => c | none => .skip
noncomputable def Φ22 : LFams Bool := []
noncomputable def Γ22 : Env := [(44, s44), (45, s45)]
theorem env22 : EnvOk Try.prog Γ22 := (EnvOk.cons ok44 Try.func44 (by kernel_rfl) (by decide) (EnvOk.cons ok45 Try.func45 (by kernel_rfl) (by decide) EnvOk.nil))
theorem ok22 : FnOk Try.prog 22 s22 := by
  refine fn_ok (Θ := Θ) (Γ := Γ22) (Φ := Φ22) (c := c22) Try.func22 (by kernel_rfl) (by kernel_rfl) tab env22 (by kernel_rfl) (by kernel_rfl) (by kernel_rfl) (fun n => by kernel_rfl) ?_
  intro x y h
  have e : run Θ Γ22 Try.f22 c22 i22 o22 (Φ22.at 0) x = laws_eqDisk x := by kernel_rfl
  exact ⟨0, e.trans h⟩
/- 78 loop.example/g00492/laws.eqBox -/
noncomputable def i78 : Args := [{ mode := 1, cells := [(.int .i64, false), (.int .i64, false), (.int .i64, false), (.int .i64, false)] }, { mode := 1, cells := [(.int .i64, false), (.int .i64, false), (.int .i64, false), (.int .i64, false)] }]
noncomputable def o78 : Args := [{ mode := 0, cells := [(.bool, false)] }]
noncomputable def s78 : FSpec := ⟨i78, o78, laws_eqBox⟩
noncomputable def c78 : Code := match Try.f78.body with | some c => c | none => .skip
noncomputable def Φ78 : LFams Bool := []
noncomputable def Γ78 : Env := []
theorem env78 : EnvOk Try.prog Γ78 := EnvOk.nil
theorem ok78 : FnOk Try.prog 78 s78 := by
  refine fn_ok (Θ := Θ) (Γ := Γ78) (Φ := Φ78) (c := c78) Try.func78 (by kernel_rfl) (by kernel_rfl) tab env78 (by kernel_rfl) (by kernel_rfl) (by kernel_rfl) (fun n => by kernel_rfl) ?_
  intro x y h
  have e : run Θ Γ78 Try.f78 c78 i78 o78 (Φ78.at 0) x = laws_eqBox x := by kernel_rfl
  exact ⟨0, e.trans h⟩
/- 67 loop.example/g00492/laws.eqEntry -/
noncomputable def i67 : Args := [{ mode := 1, cells := [(.int .i64, false), (.int .i64, false), (.int .i64, false), (.int .i64, false), (.int .i64, false)] }, { mode := 1, cells := [(.int .i64, false), (.int .i64, false), (.int .i64, false), (.int .i64, false), (.int .i64, false)] }]
noncomputable def o67 : Args := [{ mode := 0, cells := [(.bool, false)] }]
noncomputable def s67 : FSpec := ⟨i67, o67, laws_eqEntry⟩
noncomputable def c67 : Code := match Try.f67.body with | some c => c | none => .skip
noncomputable def Φ67 : LFams Bool := []
noncomputable def Γ67 : Env := [(78, s78)]
theorem env67 : EnvOk Try.prog Γ67 := (EnvOk.cons ok78 Try.func78 (by kernel_rfl) (by decide) EnvOk.nil)
theorem ok67 : FnOk Try.prog 67 s67 := by
  refine fn_ok (Θ := Θ) (Γ := Γ67) (Φ := Φ67) (c := c67) Try.func67 (by kernel_rfl) (by kernel_rfl) tab env67 (by kernel_rfl) (by kernel_rfl) (by kernel_rfl) (fun n => by kernel_rfl) ?_
  intro x y h
  have e : run Θ Γ67 Try.f67 c67 i67 o67 (Φ67.at 0) x = laws_eqEntry x := by kernel_rfl
  exact ⟨0, e.trans h⟩
/- 48 loop.example/g00492/laws.eqEntryS -/
noncomputable def i48 : Args := [{ mode := 0, cells := [((.slice [.int .i64, .int .i64, .int .i64, .int .i64, .int .i64]), false)] }, { mode := 0, cells := [((.slice [.int .i64, .int .i64, .int .i64, .int .i64, .int .i64]), false)] }]
noncomputable def o48 : Args := [{ mode := 0, cells := [(.bool, false)] }]
noncomputable def s48 : FSpec := ⟨i48, o48, laws_eqEntryS⟩
noncomputable def c48 : Code := match Try.f48.body with | some c => c | none => .skip
noncomputable def S48_4 : Slots := [(0, .val (.slice [.int .i64, .int .i64, .int .i64, .int .i64, .int .i64]) false), (1, .val (.slice [.int .i64, .int .i64, .int .i64, .int .i64, .int .i64]) false), (5, .val (.int .i64) false)]
noncomputable def Φ48 : LFams Bool := [(4, ⟨S48_4, laws_eqEntryS_L4⟩)]
noncomputable def Γ48 : Env := [(67, s67)]
theorem env48 : EnvOk Try.prog Γ48 := (EnvOk.cons ok67 Try.func67 (by kernel_rfl) (by decide) EnvOk.nil)
theorem ok48 : FnOk Try.prog 48 s48 := by
  refine fn_ok (Θ := Θ) (Γ := Γ48) (Φ := Φ48) (c := c48) Try.func48 (by kernel_rfl) (by kernel_rfl) tab env48 (by kernel_rfl) (by kernel_rfl) (by kernel_rfl) (fun n => by kernel_rfl) ?_
  intro x y h
  obtain ⟨n, h⟩ := lim_some h
  have e : run Θ Γ48 Try.f48 c48 i48 o48 (Φ48.at n) x = laws_eqEntryS_N n x := by kernel_rfl
  exact ⟨n, e.trans h⟩
/- 77 loop.example/g00492/laws.eqNode -/
noncomputable def i77 : Args := [{ mode := 1, cells := [(.bool, false), ((.slice [.int .i64, .int .i64, .int .i64, .int .i64, .int .i64]), false)] }, { mode := 1, cells := [(.bool, false), ((.slice [.int .i64, .int .i64, .int .i64, .int .i64, .int .i64]), false)] }]
noncomputable def o77 : Args := [{ mode := 0, cells := [(.bool, false)] }]
noncomputable def s77 : FSpec := ⟨i77, o77, laws_eqNode⟩
noncomputable def c77 : Code := match Try.f77.body with | some c => c | none => .skip
noncomputable def Φ77 : LFams Bool := []
noncomputable def Γ77 : Env := [(48, s48)]
theorem env77 : EnvOk Try.prog Γ77 := (EnvOk.cons ok48 Try.func48 (by kernel_rfl) (by decide) EnvOk.nil)
theorem ok77 : FnOk Try.prog 77 s77 := by
  refine fn_ok (Θ := Θ) (Γ := Γ77) (Φ := Φ77) (c := c77) Try.func77 (by kernel_rfl) (by kernel_rfl) tab env77 (by kernel_rfl) (by kernel_rfl) (by kernel_rfl) (fun n => by kernel_rfl) ?_
  intro x y h
  have e : run Θ Γ77 Try.f77 c77 i77 o77 (Φ77.at 0) x = laws_eqNode x := by kernel_rfl
  exact ⟨0, e.trans h⟩
/- 65 loop.example/g00492/laws.eqPage -/
noncomputable def i65 : Args := [{ mode := 1, cells := [(.bool, false), (.bool, false), ((.slice [.int .i64, .int .i64, .int .i64, .int .i64, .int .i64]), false)] }, { mode := 1, cells := [(.bool, false), (.bool, false), ((.slice [.int .i64, .int .i64, .int .i64, .int .i64, .int .i64]), false)] }]
noncomputable def o65 : Args := [{ mode := 0, cells := [(.bool, false)] }]
noncomputable def s65 : FSpec := ⟨i65, o65, laws_eqPage⟩
noncomputable def c65 : Code := match Try.f65.body with | some c => c | none => .skip
noncomputable def Φ65 : LFams Bool := []
noncomputable def Γ65 : Env := [(77, s77)]
theorem env65 : EnvOk Try.prog Γ65 := (EnvOk.cons ok77 Try.func77 (by kernel_rfl) (by decide) EnvOk.nil)
theorem ok65 : FnOk Try.prog 65 s65 := by
  refine fn_ok (Θ := Θ) (Γ := Γ65) (Φ := Φ65) (c := c65) Try.func65 (by kernel_rfl) (by kernel_rfl) tab env65 (by kernel_rfl) (by kernel_rfl) (by kernel_rfl) (fun n => by kernel_rfl) ?_
  intro x y h
  have e : run Θ Γ65 Try.f65 c65 i65 o65 (Φ65.at 0) x = laws_eqPage x := by kernel_rfl
  exact ⟨0, e.trans h⟩
/- 46 loop.example/g00492/laws.eqPageS -/
noncomputable def i46 : Args := [{ mode := 0, cells := [((.slice [.bool, .bool, (.slice [.int .i64, .int .i64, .int .i64, .int .i64, .int .i64])]), false)] }, { mode := 0, cells := [((.slice [.bool, .bool, (.slice [.int .i64, .int .i64, .int .i64, .int .i64, .int .i64])]), false)] }]
noncomputable def o46 : Args := [{ mode := 0, cells := [(.bool, false)] }]
noncomputable def s46 : FSpec := ⟨i46, o46, laws_eqPageS⟩
noncomputable def c46 : Code := match Try.f46.body with | some c => c | none => .skip
noncomputable def S46_4 : Slots := [(0, .val (.slice [.bool, .bool, (.slice [.int .i64, .int .i64, .int .i64, .int .i64, .int .i64])]) false), (1, .val (.slice [.bool, .bool, (.slice [.int .i64, .int .i64, .int .i64, .int .i64, .int .i64])]) false), (5, .val (.int .i64) false)]
noncomputable def Φ46 : LFams Bool := [(4, ⟨S46_4, laws_eqPageS_L4⟩)]
noncomputable def Γ46 : Env := [(65, s65)]
theorem env46 : EnvOk Try.prog Γ46 := (EnvOk.cons ok65 Try.func65 (by kernel_rfl) (by decide) EnvOk.nil)
theorem ok46 : FnOk Try.prog 46 s46 := by
  refine fn_ok (Θ := Θ) (Γ := Γ46) (Φ := Φ46) (c := c46) Try.func46 (by kernel_rfl) (by kernel_rfl) tab env46 (by kernel_rfl) (by kernel_rfl) (by kernel_rfl) (fun n => by kernel_rfl) ?_
  intro x y h
  obtain ⟨n, h⟩ := lim_some h
  have e : run Θ Γ46 Try.f46 c46 i46 o46 (Φ46.at n) x = laws_eqPageS_N n x := by kernel_rfl
  exact ⟨n, e.trans h⟩
/- 23 loop.example/g00492/laws.eqBook -/
noncomputable def i23 : Args := [{ mode := 1, cells := [(.int .i64, false), ((.slice [.bool, .bool, (.slice [.int .i64, .int .i64, .int .i64, .int .i64, .int .i64])]), false)] }, { mode := 1, cells := [(.int .i64, false), ((.slice [.bool, .bool, (.slice [.int .i64, .int .i64, .int .i64, .int .i64, .int .i64])]), false)] }]
noncomputable def o23 : Args := [{ mode := 0, cells := [(.bool, false)] }]
noncomputable def s23 : FSpec := ⟨i23, o23, laws_eqBook⟩
noncomputable def c23 : Code := match Try.f23.body with | some c => c | none => .skip
noncomputable def Φ23 : LFams Bool := []
noncomputable def Γ23 : Env := [(46, s46)]
theorem env23 : EnvOk Try.prog Γ23 := (EnvOk.cons ok46 Try.func46 (by kernel_rfl) (by decide) EnvOk.nil)
theorem ok23 : FnOk Try.prog 23 s23 := by
  refine fn_ok (Θ := Θ) (Γ := Γ23) (Φ := Φ23) (c := c23) Try.func23 (by kernel_rfl) (by kernel_rfl) tab env23 (by kernel_rfl) (by kernel_rfl) (by kernel_rfl) (fun n => by kernel_rfl) ?_
  intro x y h
  have e : run Θ Γ23 Try.f23 c23 i23 o23 (Φ23.at 0) x = laws_eqBook x := by kernel_rfl
  exact ⟨0, e.trans h⟩
/- 24 loop.example/g00492/laws.eqHead -/
noncomputable def i24 : Args := [{ mode := 1, cells := [(.int .i64, false), (.int .i64, false), (.int .i64, false), (.int .i64, false)] }, { mode := 1, cells := [(.int .i64, false), (.int .i64, false), (.int .i64, false), (.int .i64, false)] }]
noncomputable def o24 : Args := [{ mode := 0, cells := [(.bool, false)] }]
noncomputable def s24 : FSpec := ⟨i24, o24, laws_eqHead⟩
noncomputable def c24 : Code := match Try.f24.body with | some c => c | none => .skip
noncomputable def Φ24 : LFams Bool := []
noncomputable def Γ24 : Env := []
theorem env24 : EnvOk Try.prog Γ24 := EnvOk.nil
theorem ok24 : FnOk Try.prog 24 s24 := by
  refine fn_ok (Θ := Θ) (Γ := Γ24) (Φ := Φ24) (c := c24) Try.func24 (by kernel_rfl) (by kernel_rfl) tab env24 (by kernel_rfl) (by kernel_rfl) (by kernel_rfl) (fun n => by kernel_rfl) ?_
  intro x y h
  have e : run Θ Γ24 Try.f24 c24 i24 o24 (Φ24.at 0) x = laws_eqHead x := by kernel_rfl
  exact ⟨0, e.trans h⟩
/- 25 loop.example/g00492/laws.eqIntS -/
noncomputable def i25 : Args := [{ mode := 0, cells := [((.slice [.int .i64]), false)] }, { mode := 0, cells := [((.slice [.int .i64]), false)] }]
noncomputable def o25 : Args := [{ mode := 0, cells := [(.bool, false)] }]
noncomputable def s25 : FSpec := ⟨i25, o25, laws_eqIntS⟩
noncomputable def c25 : Code := match Try.f25.body with | some c => c | none => .skip
noncomputable def S25_4 : Slots := [(0, .val (.slice [.int .i64]) false), (1, .val (.slice [.int .i64]) false), (5, .val (.int .i64) false)]
noncomputable def Φ25 : LFams Bool := [(4, ⟨S25_4, laws_eqIntS_L4⟩)]
noncomputable def Γ25 : Env := []
theorem env25 : EnvOk Try.prog Γ25 := EnvOk.nil
theorem ok25 : FnOk Try.prog 25 s25 := by
  refine fn_ok (Θ := Θ) (Γ := Γ25) (Φ := Φ25) (c := c25) Try.func25 (by kernel_rfl) (by kernel_rfl) tab env25 (by kernel_rfl) (by kernel_rfl) (by kernel_rfl) (fun n => by kernel_rfl) ?_
  intro x y h
  obtain ⟨n, h⟩ := lim_some h
  have e : run Θ Γ25 Try.f25 c25 i25 o25 (Φ25.at n) x = laws_eqIntS_N n x := by kernel_rfl
  exact ⟨n, e.trans h⟩
/- 66 loop.example/g00492/laws.eqItem -/
noncomputable def i66 : Args := [{ mode := 1, cells := [(.int .i64, false), (.int .i64, false), (.int .i64, false), (.int .i64, false), (.int .i64, false)] }, { mode := 1, cells := [(.int .i64, false), (.int .i64, false), (.int .i64, false), (.int .i64, false), (.int .i64, false)] }]
noncomputable def o66 : Args := [{ mode := 0, cells := [(.bool, false)] }]
noncomputable def s66 : FSpec := ⟨i66, o66, laws_eqItem⟩
noncomputable def c66 : Code := match Try.f66.body with | some c => c | none => .skip
noncomputable def Φ66 : LFams Bool := []
noncomputable def Γ66 : Env := [(78, s78)]
theorem env66 : EnvOk Try.prog Γ66 := (EnvOk.cons ok78 Try.func78 (by kernel_rfl) (by decide) EnvOk.nil)
theorem ok66 : FnOk Try.prog 66 s66 := by
  refine fn_ok (Θ := Θ) (Γ := Γ66) (Φ := Φ66) (c := c66) Try.func66 (by kernel_rfl) (by kernel_rfl) tab env66 (by kernel_rfl) (by kernel_rfl) (by kernel_rfl) (fun n => by kernel_rfl) ?_
  intro x y h
  have e : run Θ Γ66 Try.f66 c66 i66 o66 (Φ66.at 0) x = laws_eqItem x := by kernel_rfl
  exact ⟨0, e.trans h⟩
/- 47 loop.example/g00492/laws.eqItemS -/
noncomputable def i47 : Args := [{ mode := 0, cells := [((.slice [.int .i64, .int .i64, .int .i64, .int .i64, .int .i64]), false)] }, { mode := 0, cells := [((.slice [.int .i64, .int .i64, .int .i64, .int .i64, .int .i64]), false)] }]
noncomputable def o47 : Args := [{ mode := 0, cells := [(.bool, false)] }]
noncomputable def s47 : FSpec := ⟨i47, o47, laws_eqItemS⟩
noncomputable def c47 : Code := match Try.f47.body with | some c => c | none => .skip
noncomputable def S47_4 : Slots := [(0, .val (.slice [.int .i64, .int .i64, .int .i64, .int .i64, .int .i64]) false), (1, .val (.slice [.int .i64, .int .i64, .int .i64, .int .i64, .int .i64]) false), (5, .val (.int .i64) false)]
noncomputable def Φ47 : LFams Bool := [(4, ⟨S47_4, laws_eqItemS_L4⟩)]
noncomputable def Γ47 : Env := [(66, s66)]
theorem env47 : EnvOk Try.prog Γ47 := (EnvOk.cons ok66 Try.func66 (by kernel_rfl) (by decide) EnvOk.nil)
theorem ok47 : FnOk Try.prog 47 s47 := by
  refine fn_ok (Θ := Θ) (Γ := Γ47) (Φ := Φ47) (c := c47) Try.func47 (by kernel_rfl) (by kernel_rfl) tab env47 (by kernel_rfl) (by kernel_rfl) (by kernel_rfl) (fun n => by kernel_rfl) ?_
  intro x y h
  obtain ⟨n, h⟩ := lim_some h
  have e : run Θ Γ47 Try.f47 c47 i47 o47 (Φ47.at n) x = laws_eqItemS_N n x := by kernel_rfl
  exact ⟨n, e.trans h⟩
/- 26 loop.example/g00492/laws.eqVac -/
noncomputable def i26 : Args := [{ mode := 1, cells := [(.int .i64, false), ((.slice [.int .i64]), false), ((.slice [.int .i64, .int .i64, .int .i64, .int .i64, .int .i64]), false), ((.slice [.int .i64, .int .i64, .int .i64, .int .i64, .int .i64]), false), ((.slice [.int .i64, .int .i64, .int .i64, .int .i64, .int .i64]), false), ((.slice [.int .i64]), false)] }, { mode := 1, cells := [(.int .i64, false), ((.slice [.int .i64]), false), ((.slice [.int .i64, .int .i64, .int .i64, .int .i64, .int .i64]), false), ((.slice [.int .i64, .int .i64, .int .i64, .int .i64, .int .i64]), false), ((.slice [.int .i64, .int .i64, .int .i64, .int .i64, .int .i64]), false), ((.slice [.int .i64]), false)] }]
noncomputable def o26 : Args := [{ mode := 0, cells := [(.bool, false)] }]
noncomputable def s26 : FSpec := ⟨i26, o26, laws_eqVac⟩
noncomputable def c26 : Code := match Try.f26.body with | some c => c | none => .skip
noncomputable def Φ26 : LFams Bool := []
noncomputable def Γ26 : Env := [(25, s25), (47, s47), (48, s48)]
theorem env26 : EnvOk Try.prog Γ26 := (EnvOk.cons ok25 Try.func25 (by kernel_rfl) (by decide) (EnvOk.cons ok47 Try.func47 (by kernel_rfl) (by decide) (EnvOk.cons ok48 Try.func48 (by kernel_rfl) (by decide) EnvOk.nil)))
theorem ok26 : FnOk Try.prog 26 s26 := by
  refine fn_ok (Θ := Θ) (Γ := Γ26) (Φ := Φ26) (c := c26) Try.func26 (by kernel_rfl) (by kernel_rfl) tab env26 (by kernel_rfl) (by kernel_rfl) (by kernel_rfl) (fun n => by kernel_rfl) ?_
  intro x y h
  have e : run Θ Γ26 Try.f26 c26 i26 o26 (Φ26.at 0) x = laws_eqVac x := by kernel_rfl
  exact ⟨0, e.trans h⟩
/- 8 loop.example/g00492/laws.eqBase -/
noncomputable def i8 : Args := [{ mode := 1, cells := [((.slice [.bool, (.slice [.int .u8])]), false), ((.slice [.int .i64, (.slice [.int .u8])]), false), (.int .i64, false), (.bool, false), (.int .i64, false), ((.slice [.bool, .bool, (.slice [.int .i64, .int .i64, .int .i64, .int .i64, .int .i64])]), false), (.int .i64, false), (.int .i64, false), (.int .i64, false), (.int .i64, false), (.int .i64, false), (.int .i64, false), ((.slice [.int .i64]), false), (.int .i64, false), (.int .i64, false), ((.slice [.int .i64]), false), ((.slice [.int .i64, .int .i64, .int .i64, .int .i64, .int .i64]), false), ((.slice [.int .i64, .int .i64, .int .i64, .int .i64, .int .i64]), false), ((.slice [.int .i64, .int .i64, .int .i64, .int .i64, .int .i64]), false), ((.slice [.int .i64]), false)] }, { mode := 1, cells := [((.slice [.bool, (.slice [.int .u8])]), false), ((.slice [.int .i64, (.slice [.int .u8])]), false), (.int .i64, false), (.bool, false), (.int .i64, false), ((.slice [.bool, .bool, (.slice [.int .i64, .int .i64, .int .i64, .int .i64, .int .i64])]), false), (.int .i64, false), (.int .i64, false), (.int .i64, false), (.int .i64, false), (.int .i64, false), (.int .i64, false), ((.slice [.int .i64]), false), (.int .i64, false), (.int .i64, false), ((.slice [.int .i64]), false), ((.slice [.int .i64, .int .i64, .int .i64, .int .i64, .int .i64]), false), ((.slice [.int .i64, .int .i64, .int .i64, .int .i64, .int .i64]), false), ((.slice [.int .i64, .int .i64, .int .i64, .int .i64, .int .i64]), false), ((.slice [.int .i64]), false)] }]
noncomputable def o8 : Args := [{ mode := 0, cells := [(.bool, false)] }]
noncomputable def s8 : FSpec := ⟨i8, o8, laws_eqBase⟩
noncomputable def c8 : Code := match Try.f8.body with | some c => c | none => .skip
noncomputable def Φ8 : LFams Bool := []
noncomputable def Γ8 : Env := [(22, s22), (23, s23), (24, s24), (25, s25), (26, s26)]
theorem env8 : EnvOk Try.prog Γ8 := (EnvOk.cons ok22 Try.func22 (by kernel_rfl) (by decide) (EnvOk.cons ok23 Try.func23 (by kernel_rfl) (by decide) (EnvOk.cons ok24 Try.func24 (by kernel_rfl) (by decide) (EnvOk.cons ok25 Try.func25 (by kernel_rfl) (by decide) (EnvOk.cons ok26 Try.func26 (by kernel_rfl) (by decide) EnvOk.nil)))))
theorem ok8 : FnOk Try.prog 8 s8 := by
  refine fn_ok (Θ := Θ) (Γ := Γ8) (Φ := Φ8) (c := c8) Try.func8 (by kernel_rfl) (by kernel_rfl) tab env8 (by kernel_rfl) (by kernel_rfl) (by kernel_rfl) (fun n => by kernel_rfl) ?_
  intro x y h
  have e : run Θ Γ8 Try.f8 c8 i8 o8 (Φ8.at 0) x = laws_eqBase x := by kernel_rfl
  exact ⟨0, e.trans h⟩
/- 3 loop.example/g00492/laws.FnExactWaits -/
noncomputable def i3 : Args := [{ mode := 1, cells := [((.slice [.bool, (.slice [.int .u8])]), false), ((.slice [.int .i64, (.slice [.int .u8])]), false), (.int .i64, false), (.bool, false), (.int .i64, false), ((.slice [.bool, .bool, (.slice [.int .i64, .int .i64, .int .i64, .int .i64, .int .i64])]), false), (.int .i64, false), (.int .i64, false), (.int .i64, false), (.int .i64, false), (.int .i64, false), (.int .i64, false), ((.slice [.int .i64]), false), (.int .i64, false), (.int .i64, false), ((.slice [.int .i64]), false), ((.slice [.int .i64, .int .i64, .int .i64, .int .i64, .int .i64]), false), ((.slice [.int .i64, .int .i64, .int .i64, .int .i64, .int .i64]), false), ((.slice [.int .i64, .int .i64, .int .i64, .int .i64, .int .i64]), false), ((.slice [.int .i64]), false)] }]
noncomputable def o3 : Args := [{ mode := 0, cells := [(.bool, false)] }]
noncomputable def s3 : FSpec := ⟨i3, o3, laws_FnExactWaits⟩
noncomputable def c3 : Code := match Try.f3.body with | some c => c | none => .skip
noncomputable def Φ3 : LFams Bool := []
noncomputable def Γ3 : Env := [(4, s4), (5, s5), (6, s6), (7, s7), (8, s8)]
theorem env3 : EnvOk Try.prog Γ3 := (EnvOk.cons ok4 Try.func4 (by kernel_rfl) (by decide) (EnvOk.cons ok5 Try.func5 (by kernel_rfl) (by decide) (EnvOk.cons ok6 Try.func6 (by kernel_rfl) (by decide) (EnvOk.cons ok7 Try.func7 (by kernel_rfl) (by decide) (EnvOk.cons ok8 Try.func8 (by kernel_rfl) (by decide) EnvOk.nil)))))
theorem ok3 : FnOk Try.prog 3 s3 := by
  refine fn_ok (Θ := Θ) (Γ := Γ3) (Φ := Φ3) (c := c3) Try.func3 (by kernel_rfl) (by kernel_rfl) tab env3 (by kernel_rfl) (by kernel_rfl) (by kernel_rfl) (fun n => by kernel_rfl) ?_
  intro x y h
  have e : run Θ Γ3 Try.f3 c3 i3 o3 (Φ3.at 0) x = laws_FnExactWaits x := by kernel_rfl
  exact ⟨0, e.trans h⟩
end Go.Proofs.W.Con
