/- Contracts of the seat's functions: what each answers, for all arguments. -/
import Derived.Test.YtfffnioddgeohaaGreatA4
import Derived.Test.YtfffnioddgeohaaGreatA2
import Derived.Test.YtfffnioddgeohaaGreatA1
import Derived.Test.YtfffnioddgeohaaGreatProg
import Derived.KernelRfl
import Derived.Test.YtfffnioddgeohaaGreatA3
set_option linter.unusedVariables false
set_option linter.unusedSimpArgs false
set_option linter.deprecated false
section
/- The seat's types, for the abstract machine. -/
namespace Go.AE.Tryz
open Go.Proofs
def tyL : List (TypeId × TyD) := [
  (1, { size := 1, bytes := 8, agg := false, zero := [.dead] }),
  (2, { size := 1, bytes := 8, agg := false, zero := [.int .i64 0], ik := some .i64 }),
  (3, { size := 1, bytes := 8, agg := false, zero := [.int .i64 0], ik := some .i64 }),
  (4, { size := 1, bytes := 1, agg := false, zero := [.bool false] }),
  (5, { size := 1, bytes := 1, agg := false, zero := [.int .u8 0], ik := some .u8 }),
  (7, { size := 4, bytes := 24, agg := true, zero := [.int .i64 0, .int .i64 0, .bool false, .int .u8 0], fields := [(0, 1, 2), (1, 1, 3), (2, 1, 4), (3, 1, 6)] }),
  (9, { size := 1, bytes := 16, agg := false, zero := [.str ⟨#[]⟩], isStr := true }),
  (12, { size := 1, bytes := 8, agg := false, zero := [.int .u64 0], ik := some .u64 }),
  (13, { size := 2, bytes := 24, agg := true, zero := [.str ⟨#[]⟩, .int .u64 0], fields := [(0, 1, 9), (1, 1, 12)] }),
  (15, { size := 1, bytes := 8, agg := false, zero := [.dead] }),
  (16, { size := 1, bytes := 8, agg := false, zero := [.dead] }),
  (17, { size := 1, bytes := 8, agg := false, zero := [.dead] }),
  (18, { size := 1, bytes := 8, agg := true, zero := [.dead], fields := [(0, 1, 17)] }),
  (21, { size := 1, bytes := 4, agg := false, zero := [.int .i32 0], ik := some .i32 }),
  (22, { size := 1, bytes := 24, agg := false, zero := [.nil], elem := some 5 }),
  (23, { size := 1, bytes := 8, agg := false, zero := [.dead] }),
  (24, { size := 1, bytes := 8, agg := false, zero := [.dead] }),
  (25, { size := 1, bytes := 8, agg := false, zero := [.dead] }),
  (26, { size := 1, bytes := 8, agg := false, zero := [.int .u64 0], ik := some .u64 }),
  (27, { size := 1, bytes := 24, agg := false, zero := [.nil], elem := some 155 }),
  (28, { size := 1, bytes := 24, agg := false, zero := [.nil], elem := some 87 }),
  (29, { size := 1, bytes := 24, agg := false, zero := [.nil], elem := some 99 }),
  (30, { size := 1, bytes := 24, agg := false, zero := [.nil], elem := some 4 }),
  (31, { size := 1, bytes := 24, agg := false, zero := [.nil], elem := some 2 }),
  (32, { size := 2, bytes := 48, agg := true, zero := [.nil, .nil], fields := [(0, 1, 30), (1, 1, 31)] }),
  (33, { size := 2, bytes := 48, agg := true, zero := [.nil, .nil], fields := [(0, 1, 30), (1, 1, 31)] }),
  (34, { size := 1, bytes := 24, agg := false, zero := [.nil], elem := some 273 }),
  (35, { size := 1, bytes := 24, agg := false, zero := [.nil], elem := some 169 }),
  (36, { size := 3, bytes := 56, agg := true, zero := [.nil, .nil, .int .i64 0], fields := [(0, 1, 34), (1, 1, 35), (2, 1, 2)] }),
  (37, { size := 3, bytes := 56, agg := true, zero := [.nil, .nil, .int .i64 0], fields := [(0, 1, 34), (1, 1, 35), (2, 1, 2)] }),
  (38, { size := 2, bytes := 48, agg := true, zero := [.nil, .nil], fields := [(0, 1, 31), (1, 1, 30)] }),
  (39, { size := 2, bytes := 48, agg := true, zero := [.nil, .nil], fields := [(0, 1, 31), (1, 1, 30)] }),
  (40, { size := 1, bytes := 24, agg := false, zero := [.nil], elem := some 176 }),
  (41, { size := 3, bytes := 72, agg := true, zero := [.nil, .nil, .nil], fields := [(0, 2, 39), (2, 1, 40)] }),
  (42, { size := 3, bytes := 72, agg := true, zero := [.nil, .nil, .nil], fields := [(0, 2, 39), (2, 1, 40)] }),
  (43, { size := 1, bytes := 24, agg := false, zero := [.nil], elem := some 147 }),
  (44, { size := 1, bytes := 24, agg := false, zero := [.nil], elem := some 184 }),
  (45, { size := 1, bytes := 24, agg := false, zero := [.nil], elem := some 188 }),
  (46, { size := 17, bytes := 376, agg := true, zero := [.int .i64 0, .nil, .nil, .nil, .nil, .nil, .nil, .nil, .int .i64 0, .nil, .nil, .nil, .nil, .nil, .nil, .nil, .nil], fields := [(0, 1, 2), (1, 1, 27), (2, 1, 28), (3, 1, 29), (4, 2, 33), (6, 3, 37), (9, 3, 42), (12, 1, 43), (13, 1, 44), (14, 1, 45), (15, 1, 31), (16, 1, 31)] }),
  (47, { size := 17, bytes := 376, agg := true, zero := [.int .i64 0, .nil, .nil, .nil, .nil, .nil, .nil, .nil, .int .i64 0, .nil, .nil, .nil, .nil, .nil, .nil, .nil, .nil], fields := [(0, 1, 2), (1, 1, 27), (2, 1, 28), (3, 1, 29), (4, 2, 33), (6, 3, 37), (9, 3, 42), (12, 1, 43), (13, 1, 44), (14, 1, 45), (15, 1, 31), (16, 1, 31)] }),
  (49, { size := 1, bytes := 8, agg := false, zero := [.dead] }),
  (50, { size := 1, bytes := 8, agg := false, zero := [.dead] }),
  (52, { size := 1, bytes := 8, agg := false, zero := [.dead] }),
  (53, { size := 1, bytes := 8, agg := false, zero := [.dead] }),
  (54, { size := 1, bytes := 8, agg := false, zero := [.dead] }),
  (55, { size := 1, bytes := 8, agg := false, zero := [.dead] }),
  (56, { size := 1, bytes := 8, agg := false, zero := [.dead] }),
  (57, { size := 1, bytes := 8, agg := false, zero := [.dead] }),
  (58, { size := 1, bytes := 24, agg := false, zero := [.nil], elem := some 203 }),
  (59, { size := 1, bytes := 24, agg := false, zero := [.nil], elem := some 228 }),
  (60, { size := 1, bytes := 24, agg := false, zero := [.nil], elem := some 230 }),
  (61, { size := 2, bytes := 48, agg := true, zero := [.nil, .nil], fields := [(0, 1, 30), (1, 1, 31)] }),
  (62, { size := 1, bytes := 24, agg := false, zero := [.nil], elem := some 301 }),
  (63, { size := 1, bytes := 24, agg := false, zero := [.nil], elem := some 303 }),
  (64, { size := 3, bytes := 56, agg := true, zero := [.nil, .nil, .int .i64 0], fields := [(0, 1, 62), (1, 1, 63), (2, 1, 2)] }),
  (65, { size := 3, bytes := 56, agg := true, zero := [.nil, .nil, .int .i64 0], fields := [(0, 1, 62), (1, 1, 63), (2, 1, 2)] }),
  (66, { size := 2, bytes := 48, agg := true, zero := [.nil, .nil], fields := [(0, 1, 31), (1, 1, 30)] }),
  (67, { size := 1, bytes := 24, agg := false, zero := [.nil], elem := some 307 }),
  (68, { size := 3, bytes := 72, agg := true, zero := [.nil, .nil, .nil], fields := [(0, 2, 66), (2, 1, 67)] }),
  (69, { size := 3, bytes := 72, agg := true, zero := [.nil, .nil, .nil], fields := [(0, 2, 66), (2, 1, 67)] }),
  (70, { size := 1, bytes := 24, agg := false, zero := [.nil], elem := some 237 }),
  (71, { size := 1, bytes := 24, agg := false, zero := [.nil], elem := some 210 }),
  (72, { size := 1, bytes := 24, agg := false, zero := [.nil], elem := some 240 }),
  (73, { size := 17, bytes := 376, agg := true, zero := [.int .i64 0, .nil, .nil, .nil, .nil, .nil, .nil, .nil, .int .i64 0, .nil, .nil, .nil, .nil, .nil, .nil, .nil, .nil], fields := [(0, 1, 2), (1, 1, 58), (2, 1, 59), (3, 1, 60), (4, 2, 61), (6, 3, 65), (9, 3, 69), (12, 1, 70), (13, 1, 71), (14, 1, 72), (15, 1, 31), (16, 1, 31)] }),
  (74, { size := 17, bytes := 376, agg := true, zero := [.int .i64 0, .nil, .nil, .nil, .nil, .nil, .nil, .nil, .int .i64 0, .nil, .nil, .nil, .nil, .nil, .nil, .nil, .nil], fields := [(0, 1, 2), (1, 1, 58), (2, 1, 59), (3, 1, 60), (4, 2, 61), (6, 3, 65), (9, 3, 69), (12, 1, 70), (13, 1, 71), (14, 1, 72), (15, 1, 31), (16, 1, 31)] }),
  (75, { size := 1, bytes := 8, agg := false, zero := [.dead] }),
  (76, { size := 1, bytes := 8, agg := false, zero := [.dead] }),
  (77, { size := 1, bytes := 8, agg := false, zero := [.dead] }),
  (78, { size := 1, bytes := 8, agg := false, zero := [.dead] }),
  (79, { size := 1, bytes := 8, agg := false, zero := [.dead] }),
  (80, { size := 1, bytes := 8, agg := false, zero := [.dead] }),
  (81, { size := 3, bytes := 40, agg := true, zero := [.nil, .int .i64 0, .int .u64 0], fields := [(0, 1, 22), (1, 1, 3), (2, 1, 26)] }),
  (82, { size := 3, bytes := 40, agg := true, zero := [.nil, .int .i64 0, .int .u64 0], fields := [(0, 1, 22), (1, 1, 3), (2, 1, 26)] }),
  (84, { size := 1, bytes := 8, agg := false, zero := [.dead] }),
  (85, { size := 1, bytes := 8, agg := false, zero := [.dead] }),
  (86, { size := 5, bytes := 40, agg := true, zero := [.int .i64 0, .int .i64 0, .int .i64 0, .int .i64 0, .int .i64 0], fields := [(0, 1, 2), (1, 1, 2), (2, 1, 2), (3, 1, 2), (4, 1, 2)] }),
  (87, { size := 5, bytes := 40, agg := true, zero := [.int .i64 0, .int .i64 0, .int .i64 0, .int .i64 0, .int .i64 0], fields := [(0, 1, 2), (1, 1, 2), (2, 1, 2), (3, 1, 2), (4, 1, 2)] }),
  (88, { size := 1, bytes := 8, agg := false, zero := [.dead] }),
  (89, { size := 1, bytes := 8, agg := false, zero := [.int .u64 0], ik := some .u64 }),
  (90, { size := 1, bytes := 8, agg := false, zero := [.dead] }),
  (91, { size := 1, bytes := 8, agg := false, zero := [.dead] }),
  (92, { size := 1, bytes := 8, agg := false, zero := [.dead] }),
  (93, { size := 1, bytes := 8, agg := false, zero := [.dead] }),
  (94, { size := 1, bytes := 8, agg := false, zero := [.dead] }),
  (95, { size := 1, bytes := 8, agg := false, zero := [.dead] }),
  (97, { size := 1, bytes := 8, agg := false, zero := [.dead] }),
  (98, { size := 4, bytes := 32, agg := true, zero := [.int .i64 0, .int .i64 0, .int .i64 0, .int .i64 0], fields := [(0, 1, 2), (1, 1, 2), (2, 1, 2), (3, 1, 2)] }),
  (99, { size := 4, bytes := 32, agg := true, zero := [.int .i64 0, .int .i64 0, .int .i64 0, .int .i64 0], fields := [(0, 1, 2), (1, 1, 2), (2, 1, 2), (3, 1, 2)] }),
  (101, { size := 1, bytes := 8, agg := false, zero := [.dead] }),
  (102, { size := 1, bytes := 8, agg := false, zero := [.dead] }),
  (103, { size := 1, bytes := 8, agg := false, zero := [.dead] }),
  (104, { size := 1, bytes := 8, agg := false, zero := [.dead] }),
  (105, { size := 1, bytes := 8, agg := false, zero := [.dead] }),
  (106, { size := 1, bytes := 8, agg := false, zero := [.dead] }),
  (107, { size := 1, bytes := 8, agg := false, zero := [.dead] }),
  (108, { size := 1, bytes := 8, agg := false, zero := [.dead] }),
  (109, { size := 1, bytes := 8, agg := false, zero := [.dead] }),
  (110, { size := 1, bytes := 8, agg := false, zero := [.dead] }),
  (111, { size := 1, bytes := 8, agg := false, zero := [.dead] }),
  (112, { size := 1, bytes := 8, agg := false, zero := [.dead] }),
  (114, { size := 1, bytes := 8, agg := false, zero := [.dead] }),
  (115, { size := 1, bytes := 8, agg := false, zero := [.dead] }),
  (116, { size := 1, bytes := 8, agg := false, zero := [.dead] }),
  (117, { size := 1, bytes := 8, agg := false, zero := [.dead] }),
  (118, { size := 1, bytes := 8, agg := false, zero := [.dead] }),
  (119, { size := 1, bytes := 8, agg := false, zero := [.dead] }),
  (120, { size := 1, bytes := 8, agg := false, zero := [.dead] }),
  (121, { size := 1, bytes := 8, agg := false, zero := [.dead] }),
  (122, { size := 1, bytes := 8, agg := false, zero := [.dead] }),
  (123, { size := 1, bytes := 8, agg := false, zero := [.dead] }),
  (124, { size := 1, bytes := 8, agg := false, zero := [.dead] }),
  (125, { size := 1, bytes := 8, agg := false, zero := [.dead] }),
  (126, { size := 1, bytes := 8, agg := false, zero := [.dead] }),
  (127, { size := 1, bytes := 8, agg := false, zero := [.dead] }),
  (128, { size := 1, bytes := 8, agg := false, zero := [.dead] }),
  (129, { size := 1, bytes := 8, agg := false, zero := [.dead] }),
  (130, { size := 1, bytes := 8, agg := false, zero := [.dead] }),
  (131, { size := 1, bytes := 8, agg := false, zero := [.dead] }),
  (132, { size := 1, bytes := 8, agg := false, zero := [.dead] }),
  (133, { size := 1, bytes := 8, agg := false, zero := [.dead] }),
  (134, { size := 1, bytes := 8, agg := false, zero := [.dead] }),
  (135, { size := 1, bytes := 8, agg := false, zero := [.dead] }),
  (136, { size := 1, bytes := 8, agg := false, zero := [.dead] }),
  (137, { size := 1, bytes := 8, agg := false, zero := [.dead] }),
  (138, { size := 1, bytes := 8, agg := false, zero := [.dead] }),
  (139, { size := 1, bytes := 8, agg := false, zero := [.dead] }),
  (140, { size := 1, bytes := 8, agg := false, zero := [.dead] }),
  (141, { size := 1, bytes := 8, agg := false, zero := [.dead] }),
  (142, { size := 1, bytes := 8, agg := false, zero := [.dead] }),
  (143, { size := 1, bytes := 8, agg := false, zero := [.dead] }),
  (144, { size := 1, bytes := 8, agg := false, zero := [.dead] }),
  (145, { size := 1, bytes := 8, agg := false, zero := [.dead] }),
  (146, { size := 9, bytes := 72, agg := true, zero := [.int .i64 0, .int .i64 0, .int .i64 0, .int .i64 0, .int .i64 0, .int .i64 0, .int .i64 0, .int .i64 0, .int .i64 0], fields := [(0, 1, 2), (1, 1, 2), (2, 1, 2), (3, 1, 2), (4, 1, 2), (5, 1, 2), (6, 1, 2), (7, 1, 2), (8, 1, 2)] }),
  (147, { size := 9, bytes := 72, agg := true, zero := [.int .i64 0, .int .i64 0, .int .i64 0, .int .i64 0, .int .i64 0, .int .i64 0, .int .i64 0, .int .i64 0, .int .i64 0], fields := [(0, 1, 2), (1, 1, 2), (2, 1, 2), (3, 1, 2), (4, 1, 2), (5, 1, 2), (6, 1, 2), (7, 1, 2), (8, 1, 2)] }),
  (148, { size := 1, bytes := 8, agg := false, zero := [.dead] }),
  (149, { size := 19, bytes := 392, agg := true, zero := [.int .i64 0, .nil, .nil, .nil, .nil, .nil, .nil, .nil, .int .i64 0, .nil, .nil, .nil, .nil, .nil, .nil, .nil, .nil, .int .i64 0, .bool false], fields := [(0, 17, 47), (17, 1, 2), (18, 1, 4)] }),
  (150, { size := 19, bytes := 392, agg := true, zero := [.int .i64 0, .nil, .nil, .nil, .nil, .nil, .nil, .nil, .int .i64 0, .nil, .nil, .nil, .nil, .nil, .nil, .nil, .nil, .int .i64 0, .bool false], fields := [(0, 17, 47), (17, 1, 2), (18, 1, 4)] }),
  (151, { size := 1, bytes := 8, agg := false, zero := [.dead] }),
  (152, { size := 1, bytes := 8, agg := false, zero := [.dead] }),
  (154, { size := 1, bytes := 8, agg := false, zero := [.dead] }),
  (155, { size := 1, bytes := 24, agg := false, zero := [.nil], elem := some 158 }),
  (156, { size := 1, bytes := 8, agg := false, zero := [.dead] }),
  (157, { size := 3, bytes := 24, agg := true, zero := [.int .i64 0, .int .i64 0, .int .i64 0], fields := [(0, 1, 2), (1, 1, 2), (2, 1, 2)] }),
  (158, { size := 3, bytes := 24, agg := true, zero := [.int .i64 0, .int .i64 0, .int .i64 0], fields := [(0, 1, 2), (1, 1, 2), (2, 1, 2)] }),
  (159, { size := 1, bytes := 8, agg := false, zero := [.dead] }),
  (160, { size := 1, bytes := 8, agg := false, zero := [.dead] }),
  (161, { size := 1, bytes := 8, agg := false, zero := [.dead] }),
  (162, { size := 1, bytes := 8, agg := false, zero := [.dead] }),
  (163, { size := 1, bytes := 8, agg := false, zero := [.dead] }),
  (164, { size := 1, bytes := 8, agg := false, zero := [.dead] }),
  (165, { size := 1, bytes := 8, agg := false, zero := [.dead] }),
  (166, { size := 1, bytes := 8, agg := false, zero := [.dead] }),
  (167, { size := 1, bytes := 8, agg := false, zero := [.dead] }),
  (168, { size := 5, bytes := 40, agg := true, zero := [.int .i64 0, .int .i64 0, .int .i64 0, .int .i64 0, .bool false], fields := [(0, 1, 2), (1, 1, 2), (2, 1, 2), (3, 1, 2), (4, 1, 4)] }),
  (169, { size := 5, bytes := 40, agg := true, zero := [.int .i64 0, .int .i64 0, .int .i64 0, .int .i64 0, .bool false], fields := [(0, 1, 2), (1, 1, 2), (2, 1, 2), (3, 1, 2), (4, 1, 4)] }),
  (170, { size := 1, bytes := 8, agg := false, zero := [.dead] }),
  (171, { size := 1, bytes := 8, agg := false, zero := [.dead] }),
  (172, { size := 1, bytes := 8, agg := false, zero := [.dead] }),
  (173, { size := 2, bytes := 16, agg := true, zero := [.int .i64 0, .int .i64 0], fields := [(0, 1, 2), (1, 1, 2)] }),
  (174, { size := 2, bytes := 16, agg := true, zero := [.int .i64 0, .int .i64 0], fields := [(0, 1, 2), (1, 1, 2)] }),
  (175, { size := 5, bytes := 40, agg := true, zero := [.int .i64 0, .int .i64 0, .int .i64 0, .int .i64 0, .bool false], fields := [(0, 2, 174), (2, 1, 2), (3, 1, 2), (4, 1, 4)] }),
  (176, { size := 5, bytes := 40, agg := true, zero := [.int .i64 0, .int .i64 0, .int .i64 0, .int .i64 0, .bool false], fields := [(0, 2, 174), (2, 1, 2), (3, 1, 2), (4, 1, 4)] }),
  (177, { size := 1, bytes := 8, agg := false, zero := [.dead] }),
  (178, { size := 1, bytes := 8, agg := false, zero := [.dead] }),
  (179, { size := 1, bytes := 8, agg := false, zero := [.dead] }),
  (180, { size := 1, bytes := 8, agg := false, zero := [.dead] }),
  (181, { size := 1, bytes := 8, agg := false, zero := [.dead] }),
  (182, { size := 1, bytes := 8, agg := false, zero := [.dead] }),
  (183, { size := 5, bytes := 56, agg := true, zero := [.int .i64 0, .int .i64 0, .int .i64 0, .nil, .int .i64 0], fields := [(0, 1, 2), (1, 1, 2), (2, 1, 2), (3, 1, 31), (4, 1, 2)] }),
  (184, { size := 5, bytes := 56, agg := true, zero := [.int .i64 0, .int .i64 0, .int .i64 0, .nil, .int .i64 0], fields := [(0, 1, 2), (1, 1, 2), (2, 1, 2), (3, 1, 31), (4, 1, 2)] }),
  (185, { size := 1, bytes := 8, agg := false, zero := [.dead] }),
  (186, { size := 1, bytes := 8, agg := false, zero := [.dead] }),
  (187, { size := 4, bytes := 32, agg := true, zero := [.int .i64 0, .int .i64 0, .int .i64 0, .int .i64 0], fields := [(0, 1, 2), (1, 1, 2), (2, 1, 2), (3, 1, 2)] }),
  (188, { size := 4, bytes := 32, agg := true, zero := [.int .i64 0, .int .i64 0, .int .i64 0, .int .i64 0], fields := [(0, 1, 2), (1, 1, 2), (2, 1, 2), (3, 1, 2)] }),
  (189, { size := 1, bytes := 8, agg := false, zero := [.dead] }),
  (190, { size := 1, bytes := 8, agg := false, zero := [.dead] }),
  (191, { size := 1, bytes := 8, agg := false, zero := [.dead] }),
  (192, { size := 1, bytes := 8, agg := false, zero := [.dead] }),
  (193, { size := 1, bytes := 8, agg := false, zero := [.dead] }),
  (195, { size := 1, bytes := 8, agg := false, zero := [.dead] }),
  (196, { size := 1, bytes := 8, agg := false, zero := [.dead] }),
  (198, { size := 1, bytes := 8, agg := false, zero := [.dead] }),
  (199, { size := 1, bytes := 8, agg := false, zero := [.dead] }),
  (200, { size := 1, bytes := 8, agg := false, zero := [.dead] }),
  (201, { size := 1, bytes := 8, agg := false, zero := [.dead] }),
  (202, { size := 1, bytes := 8, agg := false, zero := [.dead] }),
  (203, { size := 1, bytes := 24, agg := false, zero := [.nil], elem := some 299 }),
  (204, { size := 1, bytes := 8, agg := false, zero := [.dead] }),
  (205, { size := 1, bytes := 8, agg := false, zero := [.dead] }),
  (206, { size := 1, bytes := 8, agg := false, zero := [.dead] }),
  (207, { size := 1, bytes := 8, agg := false, zero := [.dead] }),
  (208, { size := 1, bytes := 8, agg := false, zero := [.dead] }),
  (209, { size := 1, bytes := 8, agg := false, zero := [.dead] }),
  (210, { size := 5, bytes := 56, agg := true, zero := [.int .i64 0, .int .i64 0, .int .i64 0, .nil, .int .i64 0], fields := [(0, 1, 2), (1, 1, 2), (2, 1, 2), (3, 1, 31), (4, 1, 2)] }),
  (211, { size := 1, bytes := 8, agg := false, zero := [.dead] }),
  (212, { size := 1, bytes := 8, agg := false, zero := [.dead] }),
  (213, { size := 1, bytes := 8, agg := false, zero := [.dead] }),
  (214, { size := 1, bytes := 8, agg := false, zero := [.dead] }),
  (215, { size := 1, bytes := 8, agg := false, zero := [.dead] }),
  (216, { size := 1, bytes := 8, agg := false, zero := [.dead] }),
  (217, { size := 1, bytes := 8, agg := false, zero := [.dead] }),
  (218, { size := 1, bytes := 8, agg := false, zero := [.dead] }),
  (219, { size := 1, bytes := 8, agg := false, zero := [.dead] }),
  (220, { size := 1, bytes := 8, agg := false, zero := [.dead] }),
  (221, { size := 1, bytes := 8, agg := false, zero := [.dead] }),
  (223, { size := 1, bytes := 8, agg := false, zero := [.dead] }),
  (224, { size := 1, bytes := 8, agg := false, zero := [.dead] }),
  (225, { size := 1, bytes := 8, agg := false, zero := [.dead] }),
  (226, { size := 1, bytes := 8, agg := false, zero := [.dead] }),
  (227, { size := 1, bytes := 8, agg := false, zero := [.dead] }),
  (228, { size := 5, bytes := 40, agg := true, zero := [.int .i64 0, .int .i64 0, .int .i64 0, .int .i64 0, .int .i64 0], fields := [(0, 1, 2), (1, 1, 2), (2, 1, 2), (3, 1, 2), (4, 1, 2)] }),
  (229, { size := 1, bytes := 8, agg := false, zero := [.dead] }),
  (230, { size := 4, bytes := 32, agg := true, zero := [.int .i64 0, .int .i64 0, .int .i64 0, .int .i64 0], fields := [(0, 1, 2), (1, 1, 2), (2, 1, 2), (3, 1, 2)] }),
  (231, { size := 1, bytes := 8, agg := false, zero := [.dead] }),
  (232, { size := 1, bytes := 8, agg := false, zero := [.dead] }),
  (233, { size := 1, bytes := 8, agg := false, zero := [.dead] }),
  (234, { size := 1, bytes := 8, agg := false, zero := [.dead] }),
  (235, { size := 1, bytes := 8, agg := false, zero := [.dead] }),
  (236, { size := 1, bytes := 8, agg := false, zero := [.dead] }),
  (237, { size := 9, bytes := 72, agg := true, zero := [.int .i64 0, .int .i64 0, .int .i64 0, .int .i64 0, .int .i64 0, .int .i64 0, .int .i64 0, .int .i64 0, .int .i64 0], fields := [(0, 1, 2), (1, 1, 2), (2, 1, 2), (3, 1, 2), (4, 1, 2), (5, 1, 2), (6, 1, 2), (7, 1, 2), (8, 1, 2)] }),
  (238, { size := 1, bytes := 8, agg := false, zero := [.dead] }),
  (239, { size := 1, bytes := 8, agg := false, zero := [.dead] }),
  (240, { size := 4, bytes := 32, agg := true, zero := [.int .i64 0, .int .i64 0, .int .i64 0, .int .i64 0], fields := [(0, 1, 2), (1, 1, 2), (2, 1, 2), (3, 1, 2)] }),
  (241, { size := 1, bytes := 8, agg := false, zero := [.dead] }),
  (242, { size := 1, bytes := 8, agg := false, zero := [.dead] }),
  (243, { size := 1, bytes := 8, agg := false, zero := [.dead] }),
  (244, { size := 1, bytes := 8, agg := false, zero := [.dead] }),
  (245, { size := 1, bytes := 8, agg := false, zero := [.dead] }),
  (246, { size := 1, bytes := 8, agg := false, zero := [.dead] }),
  (247, { size := 1, bytes := 8, agg := false, zero := [.dead] }),
  (248, { size := 1, bytes := 8, agg := false, zero := [.dead] }),
  (249, { size := 1, bytes := 8, agg := false, zero := [.dead] }),
  (250, { size := 1, bytes := 8, agg := false, zero := [.dead] }),
  (251, { size := 1, bytes := 8, agg := false, zero := [.dead] }),
  (252, { size := 1, bytes := 8, agg := false, zero := [.dead] }),
  (253, { size := 1, bytes := 8, agg := false, zero := [.dead] }),
  (254, { size := 1, bytes := 8, agg := false, zero := [.dead] }),
  (255, { size := 1, bytes := 8, agg := false, zero := [.dead] }),
  (256, { size := 1, bytes := 8, agg := false, zero := [.dead] }),
  (257, { size := 1, bytes := 8, agg := false, zero := [.dead] }),
  (258, { size := 1, bytes := 8, agg := false, zero := [.dead] }),
  (259, { size := 1, bytes := 8, agg := false, zero := [.dead] }),
  (260, { size := 1, bytes := 8, agg := false, zero := [.dead] }),
  (261, { size := 1, bytes := 8, agg := false, zero := [.dead] }),
  (262, { size := 1, bytes := 8, agg := false, zero := [.dead] }),
  (263, { size := 1, bytes := 8, agg := false, zero := [.dead] }),
  (264, { size := 1, bytes := 8, agg := false, zero := [.dead] }),
  (265, { size := 1, bytes := 8, agg := false, zero := [.dead] }),
  (266, { size := 1, bytes := 8, agg := false, zero := [.dead] }),
  (267, { size := 1, bytes := 8, agg := false, zero := [.dead] }),
  (268, { size := 1, bytes := 8, agg := false, zero := [.dead] }),
  (269, { size := 1, bytes := 8, agg := false, zero := [.dead] }),
  (270, { size := 1, bytes := 8, agg := false, zero := [.dead] }),
  (271, { size := 1, bytes := 8, agg := false, zero := [.dead] }),
  (272, { size := 3, bytes := 24, agg := true, zero := [.int .i64 0, .int .i64 0, .int .i64 0], fields := [(0, 1, 2), (1, 1, 2), (2, 1, 2)] }),
  (273, { size := 3, bytes := 24, agg := true, zero := [.int .i64 0, .int .i64 0, .int .i64 0], fields := [(0, 1, 2), (1, 1, 2), (2, 1, 2)] }),
  (274, { size := 1, bytes := 8, agg := false, zero := [.dead] }),
  (275, { size := 1, bytes := 8, agg := false, zero := [.dead] }),
  (276, { size := 1, bytes := 8, agg := false, zero := [.dead] }),
  (277, { size := 1, bytes := 8, agg := false, zero := [.dead] }),
  (278, { size := 1, bytes := 8, agg := false, zero := [.dead] }),
  (279, { size := 1, bytes := 8, agg := false, zero := [.dead] }),
  (280, { size := 1, bytes := 8, agg := false, zero := [.dead] }),
  (281, { size := 1, bytes := 8, agg := false, zero := [.dead] }),
  (282, { size := 1, bytes := 8, agg := false, zero := [.dead] }),
  (283, { size := 1, bytes := 8, agg := false, zero := [.dead] }),
  (284, { size := 1, bytes := 8, agg := false, zero := [.dead] }),
  (285, { size := 1, bytes := 8, agg := false, zero := [.dead] }),
  (286, { size := 1, bytes := 8, agg := false, zero := [.dead] }),
  (287, { size := 1, bytes := 8, agg := false, zero := [.dead] }),
  (288, { size := 1, bytes := 8, agg := false, zero := [.dead] }),
  (289, { size := 1, bytes := 8, agg := false, zero := [.dead] }),
  (290, { size := 1, bytes := 8, agg := false, zero := [.dead] }),
  (291, { size := 1, bytes := 8, agg := false, zero := [.dead] }),
  (292, { size := 1, bytes := 8, agg := false, zero := [.dead] }),
  (293, { size := 1, bytes := 8, agg := false, zero := [.dead] }),
  (294, { size := 1, bytes := 8, agg := false, zero := [.dead] }),
  (295, { size := 1, bytes := 8, agg := false, zero := [.dead] }),
  (296, { size := 1, bytes := 8, agg := false, zero := [.dead] }),
  (297, { size := 1, bytes := 8, agg := false, zero := [.dead] }),
  (298, { size := 1, bytes := 8, agg := false, zero := [.dead] }),
  (299, { size := 3, bytes := 24, agg := true, zero := [.int .i64 0, .int .i64 0, .int .i64 0], fields := [(0, 1, 2), (1, 1, 2), (2, 1, 2)] }),
  (300, { size := 1, bytes := 8, agg := false, zero := [.dead] }),
  (301, { size := 3, bytes := 24, agg := true, zero := [.int .i64 0, .int .i64 0, .int .i64 0], fields := [(0, 1, 2), (1, 1, 2), (2, 1, 2)] }),
  (302, { size := 1, bytes := 8, agg := false, zero := [.dead] }),
  (303, { size := 5, bytes := 40, agg := true, zero := [.int .i64 0, .int .i64 0, .int .i64 0, .int .i64 0, .bool false], fields := [(0, 1, 2), (1, 1, 2), (2, 1, 2), (3, 1, 2), (4, 1, 4)] }),
  (304, { size := 1, bytes := 8, agg := false, zero := [.dead] }),
  (305, { size := 2, bytes := 16, agg := true, zero := [.int .i64 0, .int .i64 0], fields := [(0, 1, 2), (1, 1, 2)] }),
  (306, { size := 5, bytes := 40, agg := true, zero := [.int .i64 0, .int .i64 0, .int .i64 0, .int .i64 0, .bool false], fields := [(0, 2, 305), (2, 1, 2), (3, 1, 2), (4, 1, 4)] }),
  (307, { size := 5, bytes := 40, agg := true, zero := [.int .i64 0, .int .i64 0, .int .i64 0, .int .i64 0, .bool false], fields := [(0, 2, 305), (2, 1, 2), (3, 1, 2), (4, 1, 4)] }),
  (308, { size := 1, bytes := 8, agg := false, zero := [.dead] }),
  (309, { size := 1, bytes := 8, agg := false, zero := [.dead] }),
  (310, { size := 1, bytes := 8, agg := false, zero := [.dead] }),
  (311, { size := 1, bytes := 8, agg := false, zero := [.dead] }),
  (312, { size := 1, bytes := 8, agg := false, zero := [.dead] }),
  (313, { size := 1, bytes := 8, agg := false, zero := [.dead] }),
  (314, { size := 1, bytes := 8, agg := false, zero := [.dead] }),
  (315, { size := 1, bytes := 8, agg := false, zero := [.dead] }),
  (316, { size := 1, bytes := 8, agg := false, zero := [.dead] }),
  (317, { size := 1, bytes := 8, agg := false, zero := [.dead] }),
  (319, { size := 1, bytes := 8, agg := false, zero := [.dead] }),
  (320, { size := 1, bytes := 8, agg := false, zero := [.dead] }),
  (321, { size := 1, bytes := 8, agg := false, zero := [.dead] }),
  (322, { size := 1, bytes := 8, agg := false, zero := [.dead] }),
  (323, { size := 1, bytes := 8, agg := false, zero := [.dead] }),
  (325, { size := 1, bytes := 8, agg := false, zero := [.dead] }),
  (327, { size := 1, bytes := 8, agg := false, zero := [.dead] }),
  (328, { size := 1, bytes := 8, agg := false, zero := [.dead] }),
  (329, { size := 1, bytes := 8, agg := false, zero := [.dead] }),
  (330, { size := 1, bytes := 8, agg := false, zero := [.dead] }),
  (331, { size := 1, bytes := 8, agg := false, zero := [.dead] }),
  (332, { size := 1, bytes := 8, agg := false, zero := [.dead] }),
  (333, { size := 1, bytes := 8, agg := false, zero := [.dead] }),
  (334, { size := 1, bytes := 8, agg := false, zero := [.dead] }),
  (335, { size := 1, bytes := 8, agg := false, zero := [.dead] }),
  (336, { size := 1, bytes := 8, agg := false, zero := [.dead] }),
  (337, { size := 1, bytes := 8, agg := false, zero := [.dead] }),
  (338, { size := 1, bytes := 8, agg := false, zero := [.dead] }),
  (339, { size := 1, bytes := 8, agg := false, zero := [.dead] }),
  (340, { size := 1, bytes := 8, agg := false, zero := [.dead] }),
  (341, { size := 1, bytes := 8, agg := false, zero := [.dead] }),
  (342, { size := 1, bytes := 8, agg := false, zero := [.dead] }),
  (343, { size := 1, bytes := 8, agg := false, zero := [.dead] }),
  (344, { size := 1, bytes := 8, agg := false, zero := [.dead] }),
  (345, { size := 1, bytes := 8, agg := false, zero := [.dead] }),
  (346, { size := 1, bytes := 8, agg := false, zero := [.dead] }),
  (348, { size := 1, bytes := 8, agg := false, zero := [.dead] }),
  (349, { size := 1, bytes := 8, agg := false, zero := [.dead] }),
  (350, { size := 1, bytes := 8, agg := false, zero := [.dead] }),
  (351, { size := 1, bytes := 8, agg := false, zero := [.dead] }),
  (352, { size := 1, bytes := 8, agg := false, zero := [.dead] }),
  (353, { size := 1, bytes := 8, agg := false, zero := [.dead] }),
  (354, { size := 1, bytes := 8, agg := false, zero := [.dead] }),
  (355, { size := 1, bytes := 8, agg := false, zero := [.dead] }),
  (356, { size := 1, bytes := 8, agg := false, zero := [.dead] }),
  (357, { size := 1, bytes := 8, agg := false, zero := [.dead] }),
  (358, { size := 1, bytes := 8, agg := false, zero := [.dead] }),
  (359, { size := 1, bytes := 8, agg := false, zero := [.dead] }),
  (361, { size := 1, bytes := 8, agg := false, zero := [.dead] }),
  (362, { size := 1, bytes := 8, agg := false, zero := [.dead] }),
  (363, { size := 1, bytes := 8, agg := false, zero := [.dead] }),
  (364, { size := 1, bytes := 8, agg := false, zero := [.dead] }),
  (366, { size := 1, bytes := 8, agg := false, zero := [.dead] }),
  (367, { size := 1, bytes := 8, agg := false, zero := [.dead] }),
  (369, { size := 1, bytes := 8, agg := false, zero := [.dead] }),
  (371, { size := 1, bytes := 8, agg := false, zero := [.dead] }),
  (373, { size := 1, bytes := 8, agg := false, zero := [.dead] }),
  (374, { size := 1, bytes := 8, agg := false, zero := [.dead] }),
  (376, { size := 1, bytes := 8, agg := false, zero := [.dead] }),
  (377, { size := 1, bytes := 8, agg := false, zero := [.dead] }),
  (378, { size := 1, bytes := 8, agg := false, zero := [.dead] }),
  (379, { size := 1, bytes := 8, agg := false, zero := [.dead] }),
  (380, { size := 1, bytes := 8, agg := false, zero := [.dead] }),
  (381, { size := 1, bytes := 8, agg := false, zero := [.dead] }),
  (382, { size := 1, bytes := 8, agg := false, zero := [.dead] }),
  (383, { size := 1, bytes := 8, agg := false, zero := [.dead] }),
  (384, { size := 1, bytes := 8, agg := false, zero := [.dead] }),
  (386, { size := 1, bytes := 8, agg := false, zero := [.dead] }),
  (387, { size := 1, bytes := 24, agg := false, zero := [.nil], elem := some 3 }),
  (388, { size := 1, bytes := 24, agg := false, zero := [.nil], elem := some 34 }),
  (389, { size := 1, bytes := 8, agg := false, zero := [.dead] }),
  (391, { size := 1, bytes := 8, agg := false, zero := [.dead] }),
  (392, { size := 1, bytes := 8, agg := false, zero := [.dead] }),
  (393, { size := 1, bytes := 8, agg := false, zero := [.dead] }),
  (394, { size := 1, bytes := 8, agg := false, zero := [.dead] }),
  (395, { size := 4, bytes := 40, agg := true, zero := [.dead, .dead, .dead, .str ⟨#[]⟩], fields := [(0, 1, 17), (1, 1, 17), (2, 1, 17), (3, 1, 9)] }),
  (398, { size := 0, bytes := 0, agg := true, zero := [], fields := [(0, 0, 397)] }),
  (400, { size := 1, bytes := 8, agg := false, zero := [.dead] }),
  (401, { size := 1, bytes := 4, agg := false, zero := [.int .u32 0], ik := some .u32 }),
  (404, { size := 1, bytes := 8, agg := false, zero := [.dead] }),
  (405, { size := 1, bytes := 8, agg := false, zero := [.dead] }),
  (408, { size := 11, bytes := 48, agg := true, zero := [.int .u64 0, .int .u64 0, .int .u32 0, .int .u8 0, .int .u8 0, .int .u8 0, .int .u8 0, .dead, .dead, .int .i32 0, .int .i32 0], fields := [(0, 1, 12), (1, 1, 12), (2, 1, 401), (3, 1, 402), (4, 1, 5), (5, 1, 5), (6, 1, 403), (7, 1, 404), (8, 1, 405), (9, 1, 406), (10, 1, 407)] }),
  (410, { size := 1, bytes := 8, agg := false, zero := [.dead] })]
def tyT (t : TypeId) : Option TyD := (tyL.find? fun p => p.1 == t).map (·.2)
def lvs : TypeId → Option (List Lf)
  | 174 => some [.i .i64, .i .i64]
  | _ => none
def eqL (ls : Option (List Lf)) (xs ys : List AV) : Option Bool := match ls with | some ls => if xs.map lfOf = ls.map some ∧ ys.map lfOf = ls.map some then some (cellsEq xs ys) else none | none => none
def eqT : TypeId → AV → AV → Option Bool
  | 4, .bool a, .bool b => some (a == b)
  | t, .agg xs, .agg ys => eqL (lvs t) xs ys
  | _, _, _ => none
noncomputable def ctx0 : Ctx := { P := Go.Proofs.Tryz.prog, ty := tyT, eqA := fun _ _ _ => none }
noncomputable def ctx : Ctx := { P := Go.Proofs.Tryz.prog, ty := tyT, eqA := eqT }
theorem tys : ∀ t d, tyT t = some d → tyOk Go.Proofs.Tryz.prog t d = true := by
  have hall : (tyL.all fun p => tyOk Go.Proofs.Tryz.prog p.1 p.2) = true := by kernel_rfl
  intro t d h
  unfold tyT at h
  rw [Option.map_eq_some_iff] at h
  obtain ⟨p, h1, rfl⟩ := h
  have h2 := List.find?_some h1
  simp only [beq_iff_eq] at h2
  subst h2
  exact List.all_eq_true.1 hall p (List.mem_of_find?_eq_some h1)
theorem ok0 : ctx0.Ok where
  mix := by kernel_rfl
  tys := tys
  eqs := by intro t x y b h; cases h
@[simp] theorem ty1 : ctx.ty 1 = some { size := 1, bytes := 8, agg := false, zero := [.dead] } := by kernel_rfl
@[simp] theorem ty2 : ctx.ty 2 = some { size := 1, bytes := 8, agg := false, zero := [.int .i64 0], ik := some .i64 } := by kernel_rfl
@[simp] theorem ty3 : ctx.ty 3 = some { size := 1, bytes := 8, agg := false, zero := [.int .i64 0], ik := some .i64 } := by kernel_rfl
@[simp] theorem ty4 : ctx.ty 4 = some { size := 1, bytes := 1, agg := false, zero := [.bool false] } := by kernel_rfl
@[simp] theorem ty5 : ctx.ty 5 = some { size := 1, bytes := 1, agg := false, zero := [.int .u8 0], ik := some .u8 } := by kernel_rfl
@[simp] theorem ty7 : ctx.ty 7 = some { size := 4, bytes := 24, agg := true, zero := [.int .i64 0, .int .i64 0, .bool false, .int .u8 0], fields := [(0, 1, 2), (1, 1, 3), (2, 1, 4), (3, 1, 6)] } := by kernel_rfl
@[simp] theorem ty9 : ctx.ty 9 = some { size := 1, bytes := 16, agg := false, zero := [.str ⟨#[]⟩], isStr := true } := by kernel_rfl
@[simp] theorem ty12 : ctx.ty 12 = some { size := 1, bytes := 8, agg := false, zero := [.int .u64 0], ik := some .u64 } := by kernel_rfl
@[simp] theorem ty13 : ctx.ty 13 = some { size := 2, bytes := 24, agg := true, zero := [.str ⟨#[]⟩, .int .u64 0], fields := [(0, 1, 9), (1, 1, 12)] } := by kernel_rfl
@[simp] theorem ty15 : ctx.ty 15 = some { size := 1, bytes := 8, agg := false, zero := [.dead] } := by kernel_rfl
@[simp] theorem ty16 : ctx.ty 16 = some { size := 1, bytes := 8, agg := false, zero := [.dead] } := by kernel_rfl
@[simp] theorem ty17 : ctx.ty 17 = some { size := 1, bytes := 8, agg := false, zero := [.dead] } := by kernel_rfl
@[simp] theorem ty18 : ctx.ty 18 = some { size := 1, bytes := 8, agg := true, zero := [.dead], fields := [(0, 1, 17)] } := by kernel_rfl
@[simp] theorem ty21 : ctx.ty 21 = some { size := 1, bytes := 4, agg := false, zero := [.int .i32 0], ik := some .i32 } := by kernel_rfl
@[simp] theorem ty22 : ctx.ty 22 = some { size := 1, bytes := 24, agg := false, zero := [.nil], elem := some 5 } := by kernel_rfl
@[simp] theorem ty23 : ctx.ty 23 = some { size := 1, bytes := 8, agg := false, zero := [.dead] } := by kernel_rfl
@[simp] theorem ty24 : ctx.ty 24 = some { size := 1, bytes := 8, agg := false, zero := [.dead] } := by kernel_rfl
@[simp] theorem ty25 : ctx.ty 25 = some { size := 1, bytes := 8, agg := false, zero := [.dead] } := by kernel_rfl
@[simp] theorem ty26 : ctx.ty 26 = some { size := 1, bytes := 8, agg := false, zero := [.int .u64 0], ik := some .u64 } := by kernel_rfl
@[simp] theorem ty27 : ctx.ty 27 = some { size := 1, bytes := 24, agg := false, zero := [.nil], elem := some 155 } := by kernel_rfl
@[simp] theorem ty28 : ctx.ty 28 = some { size := 1, bytes := 24, agg := false, zero := [.nil], elem := some 87 } := by kernel_rfl
@[simp] theorem ty29 : ctx.ty 29 = some { size := 1, bytes := 24, agg := false, zero := [.nil], elem := some 99 } := by kernel_rfl
@[simp] theorem ty30 : ctx.ty 30 = some { size := 1, bytes := 24, agg := false, zero := [.nil], elem := some 4 } := by kernel_rfl
@[simp] theorem ty31 : ctx.ty 31 = some { size := 1, bytes := 24, agg := false, zero := [.nil], elem := some 2 } := by kernel_rfl
@[simp] theorem ty32 : ctx.ty 32 = some { size := 2, bytes := 48, agg := true, zero := [.nil, .nil], fields := [(0, 1, 30), (1, 1, 31)] } := by kernel_rfl
@[simp] theorem ty33 : ctx.ty 33 = some { size := 2, bytes := 48, agg := true, zero := [.nil, .nil], fields := [(0, 1, 30), (1, 1, 31)] } := by kernel_rfl
@[simp] theorem ty34 : ctx.ty 34 = some { size := 1, bytes := 24, agg := false, zero := [.nil], elem := some 273 } := by kernel_rfl
@[simp] theorem ty35 : ctx.ty 35 = some { size := 1, bytes := 24, agg := false, zero := [.nil], elem := some 169 } := by kernel_rfl
@[simp] theorem ty36 : ctx.ty 36 = some { size := 3, bytes := 56, agg := true, zero := [.nil, .nil, .int .i64 0], fields := [(0, 1, 34), (1, 1, 35), (2, 1, 2)] } := by kernel_rfl
@[simp] theorem ty37 : ctx.ty 37 = some { size := 3, bytes := 56, agg := true, zero := [.nil, .nil, .int .i64 0], fields := [(0, 1, 34), (1, 1, 35), (2, 1, 2)] } := by kernel_rfl
@[simp] theorem ty38 : ctx.ty 38 = some { size := 2, bytes := 48, agg := true, zero := [.nil, .nil], fields := [(0, 1, 31), (1, 1, 30)] } := by kernel_rfl
@[simp] theorem ty39 : ctx.ty 39 = some { size := 2, bytes := 48, agg := true, zero := [.nil, .nil], fields := [(0, 1, 31), (1, 1, 30)] } := by kernel_rfl
@[simp] theorem ty40 : ctx.ty 40 = some { size := 1, bytes := 24, agg := false, zero := [.nil], elem := some 176 } := by kernel_rfl
@[simp] theorem ty41 : ctx.ty 41 = some { size := 3, bytes := 72, agg := true, zero := [.nil, .nil, .nil], fields := [(0, 2, 39), (2, 1, 40)] } := by kernel_rfl
@[simp] theorem ty42 : ctx.ty 42 = some { size := 3, bytes := 72, agg := true, zero := [.nil, .nil, .nil], fields := [(0, 2, 39), (2, 1, 40)] } := by kernel_rfl
@[simp] theorem ty43 : ctx.ty 43 = some { size := 1, bytes := 24, agg := false, zero := [.nil], elem := some 147 } := by kernel_rfl
@[simp] theorem ty44 : ctx.ty 44 = some { size := 1, bytes := 24, agg := false, zero := [.nil], elem := some 184 } := by kernel_rfl
@[simp] theorem ty45 : ctx.ty 45 = some { size := 1, bytes := 24, agg := false, zero := [.nil], elem := some 188 } := by kernel_rfl
@[simp] theorem ty46 : ctx.ty 46 = some { size := 17, bytes := 376, agg := true, zero := [.int .i64 0, .nil, .nil, .nil, .nil, .nil, .nil, .nil, .int .i64 0, .nil, .nil, .nil, .nil, .nil, .nil, .nil, .nil], fields := [(0, 1, 2), (1, 1, 27), (2, 1, 28), (3, 1, 29), (4, 2, 33), (6, 3, 37), (9, 3, 42), (12, 1, 43), (13, 1, 44), (14, 1, 45), (15, 1, 31), (16, 1, 31)] } := by kernel_rfl
@[simp] theorem ty47 : ctx.ty 47 = some { size := 17, bytes := 376, agg := true, zero := [.int .i64 0, .nil, .nil, .nil, .nil, .nil, .nil, .nil, .int .i64 0, .nil, .nil, .nil, .nil, .nil, .nil, .nil, .nil], fields := [(0, 1, 2), (1, 1, 27), (2, 1, 28), (3, 1, 29), (4, 2, 33), (6, 3, 37), (9, 3, 42), (12, 1, 43), (13, 1, 44), (14, 1, 45), (15, 1, 31), (16, 1, 31)] } := by kernel_rfl
@[simp] theorem ty49 : ctx.ty 49 = some { size := 1, bytes := 8, agg := false, zero := [.dead] } := by kernel_rfl
@[simp] theorem ty50 : ctx.ty 50 = some { size := 1, bytes := 8, agg := false, zero := [.dead] } := by kernel_rfl
@[simp] theorem ty52 : ctx.ty 52 = some { size := 1, bytes := 8, agg := false, zero := [.dead] } := by kernel_rfl
@[simp] theorem ty53 : ctx.ty 53 = some { size := 1, bytes := 8, agg := false, zero := [.dead] } := by kernel_rfl
@[simp] theorem ty54 : ctx.ty 54 = some { size := 1, bytes := 8, agg := false, zero := [.dead] } := by kernel_rfl
@[simp] theorem ty55 : ctx.ty 55 = some { size := 1, bytes := 8, agg := false, zero := [.dead] } := by kernel_rfl
@[simp] theorem ty56 : ctx.ty 56 = some { size := 1, bytes := 8, agg := false, zero := [.dead] } := by kernel_rfl
@[simp] theorem ty57 : ctx.ty 57 = some { size := 1, bytes := 8, agg := false, zero := [.dead] } := by kernel_rfl
@[simp] theorem ty58 : ctx.ty 58 = some { size := 1, bytes := 24, agg := false, zero := [.nil], elem := some 203 } := by kernel_rfl
@[simp] theorem ty59 : ctx.ty 59 = some { size := 1, bytes := 24, agg := false, zero := [.nil], elem := some 228 } := by kernel_rfl
@[simp] theorem ty60 : ctx.ty 60 = some { size := 1, bytes := 24, agg := false, zero := [.nil], elem := some 230 } := by kernel_rfl
@[simp] theorem ty61 : ctx.ty 61 = some { size := 2, bytes := 48, agg := true, zero := [.nil, .nil], fields := [(0, 1, 30), (1, 1, 31)] } := by kernel_rfl
@[simp] theorem ty62 : ctx.ty 62 = some { size := 1, bytes := 24, agg := false, zero := [.nil], elem := some 301 } := by kernel_rfl
@[simp] theorem ty63 : ctx.ty 63 = some { size := 1, bytes := 24, agg := false, zero := [.nil], elem := some 303 } := by kernel_rfl
@[simp] theorem ty64 : ctx.ty 64 = some { size := 3, bytes := 56, agg := true, zero := [.nil, .nil, .int .i64 0], fields := [(0, 1, 62), (1, 1, 63), (2, 1, 2)] } := by kernel_rfl
@[simp] theorem ty65 : ctx.ty 65 = some { size := 3, bytes := 56, agg := true, zero := [.nil, .nil, .int .i64 0], fields := [(0, 1, 62), (1, 1, 63), (2, 1, 2)] } := by kernel_rfl
@[simp] theorem ty66 : ctx.ty 66 = some { size := 2, bytes := 48, agg := true, zero := [.nil, .nil], fields := [(0, 1, 31), (1, 1, 30)] } := by kernel_rfl
@[simp] theorem ty67 : ctx.ty 67 = some { size := 1, bytes := 24, agg := false, zero := [.nil], elem := some 307 } := by kernel_rfl
@[simp] theorem ty68 : ctx.ty 68 = some { size := 3, bytes := 72, agg := true, zero := [.nil, .nil, .nil], fields := [(0, 2, 66), (2, 1, 67)] } := by kernel_rfl
@[simp] theorem ty69 : ctx.ty 69 = some { size := 3, bytes := 72, agg := true, zero := [.nil, .nil, .nil], fields := [(0, 2, 66), (2, 1, 67)] } := by kernel_rfl
@[simp] theorem ty70 : ctx.ty 70 = some { size := 1, bytes := 24, agg := false, zero := [.nil], elem := some 237 } := by kernel_rfl
@[simp] theorem ty71 : ctx.ty 71 = some { size := 1, bytes := 24, agg := false, zero := [.nil], elem := some 210 } := by kernel_rfl
@[simp] theorem ty72 : ctx.ty 72 = some { size := 1, bytes := 24, agg := false, zero := [.nil], elem := some 240 } := by kernel_rfl
@[simp] theorem ty73 : ctx.ty 73 = some { size := 17, bytes := 376, agg := true, zero := [.int .i64 0, .nil, .nil, .nil, .nil, .nil, .nil, .nil, .int .i64 0, .nil, .nil, .nil, .nil, .nil, .nil, .nil, .nil], fields := [(0, 1, 2), (1, 1, 58), (2, 1, 59), (3, 1, 60), (4, 2, 61), (6, 3, 65), (9, 3, 69), (12, 1, 70), (13, 1, 71), (14, 1, 72), (15, 1, 31), (16, 1, 31)] } := by kernel_rfl
@[simp] theorem ty74 : ctx.ty 74 = some { size := 17, bytes := 376, agg := true, zero := [.int .i64 0, .nil, .nil, .nil, .nil, .nil, .nil, .nil, .int .i64 0, .nil, .nil, .nil, .nil, .nil, .nil, .nil, .nil], fields := [(0, 1, 2), (1, 1, 58), (2, 1, 59), (3, 1, 60), (4, 2, 61), (6, 3, 65), (9, 3, 69), (12, 1, 70), (13, 1, 71), (14, 1, 72), (15, 1, 31), (16, 1, 31)] } := by kernel_rfl
@[simp] theorem ty75 : ctx.ty 75 = some { size := 1, bytes := 8, agg := false, zero := [.dead] } := by kernel_rfl
@[simp] theorem ty76 : ctx.ty 76 = some { size := 1, bytes := 8, agg := false, zero := [.dead] } := by kernel_rfl
@[simp] theorem ty77 : ctx.ty 77 = some { size := 1, bytes := 8, agg := false, zero := [.dead] } := by kernel_rfl
@[simp] theorem ty78 : ctx.ty 78 = some { size := 1, bytes := 8, agg := false, zero := [.dead] } := by kernel_rfl
@[simp] theorem ty79 : ctx.ty 79 = some { size := 1, bytes := 8, agg := false, zero := [.dead] } := by kernel_rfl
@[simp] theorem ty80 : ctx.ty 80 = some { size := 1, bytes := 8, agg := false, zero := [.dead] } := by kernel_rfl
@[simp] theorem ty81 : ctx.ty 81 = some { size := 3, bytes := 40, agg := true, zero := [.nil, .int .i64 0, .int .u64 0], fields := [(0, 1, 22), (1, 1, 3), (2, 1, 26)] } := by kernel_rfl
@[simp] theorem ty82 : ctx.ty 82 = some { size := 3, bytes := 40, agg := true, zero := [.nil, .int .i64 0, .int .u64 0], fields := [(0, 1, 22), (1, 1, 3), (2, 1, 26)] } := by kernel_rfl
@[simp] theorem ty84 : ctx.ty 84 = some { size := 1, bytes := 8, agg := false, zero := [.dead] } := by kernel_rfl
@[simp] theorem ty85 : ctx.ty 85 = some { size := 1, bytes := 8, agg := false, zero := [.dead] } := by kernel_rfl
@[simp] theorem ty86 : ctx.ty 86 = some { size := 5, bytes := 40, agg := true, zero := [.int .i64 0, .int .i64 0, .int .i64 0, .int .i64 0, .int .i64 0], fields := [(0, 1, 2), (1, 1, 2), (2, 1, 2), (3, 1, 2), (4, 1, 2)] } := by kernel_rfl
@[simp] theorem ty87 : ctx.ty 87 = some { size := 5, bytes := 40, agg := true, zero := [.int .i64 0, .int .i64 0, .int .i64 0, .int .i64 0, .int .i64 0], fields := [(0, 1, 2), (1, 1, 2), (2, 1, 2), (3, 1, 2), (4, 1, 2)] } := by kernel_rfl
@[simp] theorem ty88 : ctx.ty 88 = some { size := 1, bytes := 8, agg := false, zero := [.dead] } := by kernel_rfl
@[simp] theorem ty89 : ctx.ty 89 = some { size := 1, bytes := 8, agg := false, zero := [.int .u64 0], ik := some .u64 } := by kernel_rfl
@[simp] theorem ty90 : ctx.ty 90 = some { size := 1, bytes := 8, agg := false, zero := [.dead] } := by kernel_rfl
@[simp] theorem ty91 : ctx.ty 91 = some { size := 1, bytes := 8, agg := false, zero := [.dead] } := by kernel_rfl
@[simp] theorem ty92 : ctx.ty 92 = some { size := 1, bytes := 8, agg := false, zero := [.dead] } := by kernel_rfl
@[simp] theorem ty93 : ctx.ty 93 = some { size := 1, bytes := 8, agg := false, zero := [.dead] } := by kernel_rfl
@[simp] theorem ty94 : ctx.ty 94 = some { size := 1, bytes := 8, agg := false, zero := [.dead] } := by kernel_rfl
@[simp] theorem ty95 : ctx.ty 95 = some { size := 1, bytes := 8, agg := false, zero := [.dead] } := by kernel_rfl
@[simp] theorem ty97 : ctx.ty 97 = some { size := 1, bytes := 8, agg := false, zero := [.dead] } := by kernel_rfl
@[simp] theorem ty98 : ctx.ty 98 = some { size := 4, bytes := 32, agg := true, zero := [.int .i64 0, .int .i64 0, .int .i64 0, .int .i64 0], fields := [(0, 1, 2), (1, 1, 2), (2, 1, 2), (3, 1, 2)] } := by kernel_rfl
@[simp] theorem ty99 : ctx.ty 99 = some { size := 4, bytes := 32, agg := true, zero := [.int .i64 0, .int .i64 0, .int .i64 0, .int .i64 0], fields := [(0, 1, 2), (1, 1, 2), (2, 1, 2), (3, 1, 2)] } := by kernel_rfl
@[simp] theorem ty101 : ctx.ty 101 = some { size := 1, bytes := 8, agg := false, zero := [.dead] } := by kernel_rfl
@[simp] theorem ty102 : ctx.ty 102 = some { size := 1, bytes := 8, agg := false, zero := [.dead] } := by kernel_rfl
@[simp] theorem ty103 : ctx.ty 103 = some { size := 1, bytes := 8, agg := false, zero := [.dead] } := by kernel_rfl
@[simp] theorem ty104 : ctx.ty 104 = some { size := 1, bytes := 8, agg := false, zero := [.dead] } := by kernel_rfl
@[simp] theorem ty105 : ctx.ty 105 = some { size := 1, bytes := 8, agg := false, zero := [.dead] } := by kernel_rfl
@[simp] theorem ty106 : ctx.ty 106 = some { size := 1, bytes := 8, agg := false, zero := [.dead] } := by kernel_rfl
@[simp] theorem ty107 : ctx.ty 107 = some { size := 1, bytes := 8, agg := false, zero := [.dead] } := by kernel_rfl
@[simp] theorem ty108 : ctx.ty 108 = some { size := 1, bytes := 8, agg := false, zero := [.dead] } := by kernel_rfl
@[simp] theorem ty109 : ctx.ty 109 = some { size := 1, bytes := 8, agg := false, zero := [.dead] } := by kernel_rfl
@[simp] theorem ty110 : ctx.ty 110 = some { size := 1, bytes := 8, agg := false, zero := [.dead] } := by kernel_rfl
@[simp] theorem ty111 : ctx.ty 111 = some { size := 1, bytes := 8, agg := false, zero := [.dead] } := by kernel_rfl
@[simp] theorem ty112 : ctx.ty 112 = some { size := 1, bytes := 8, agg := false, zero := [.dead] } := by kernel_rfl
@[simp] theorem ty114 : ctx.ty 114 = some { size := 1, bytes := 8, agg := false, zero := [.dead] } := by kernel_rfl
@[simp] theorem ty115 : ctx.ty 115 = some { size := 1, bytes := 8, agg := false, zero := [.dead] } := by kernel_rfl
@[simp] theorem ty116 : ctx.ty 116 = some { size := 1, bytes := 8, agg := false, zero := [.dead] } := by kernel_rfl
@[simp] theorem ty117 : ctx.ty 117 = some { size := 1, bytes := 8, agg := false, zero := [.dead] } := by kernel_rfl
@[simp] theorem ty118 : ctx.ty 118 = some { size := 1, bytes := 8, agg := false, zero := [.dead] } := by kernel_rfl
@[simp] theorem ty119 : ctx.ty 119 = some { size := 1, bytes := 8, agg := false, zero := [.dead] } := by kernel_rfl
@[simp] theorem ty120 : ctx.ty 120 = some { size := 1, bytes := 8, agg := false, zero := [.dead] } := by kernel_rfl
@[simp] theorem ty121 : ctx.ty 121 = some { size := 1, bytes := 8, agg := false, zero := [.dead] } := by kernel_rfl
@[simp] theorem ty122 : ctx.ty 122 = some { size := 1, bytes := 8, agg := false, zero := [.dead] } := by kernel_rfl
@[simp] theorem ty123 : ctx.ty 123 = some { size := 1, bytes := 8, agg := false, zero := [.dead] } := by kernel_rfl
@[simp] theorem ty124 : ctx.ty 124 = some { size := 1, bytes := 8, agg := false, zero := [.dead] } := by kernel_rfl
@[simp] theorem ty125 : ctx.ty 125 = some { size := 1, bytes := 8, agg := false, zero := [.dead] } := by kernel_rfl
@[simp] theorem ty126 : ctx.ty 126 = some { size := 1, bytes := 8, agg := false, zero := [.dead] } := by kernel_rfl
@[simp] theorem ty127 : ctx.ty 127 = some { size := 1, bytes := 8, agg := false, zero := [.dead] } := by kernel_rfl
@[simp] theorem ty128 : ctx.ty 128 = some { size := 1, bytes := 8, agg := false, zero := [.dead] } := by kernel_rfl
@[simp] theorem ty129 : ctx.ty 129 = some { size := 1, bytes := 8, agg := false, zero := [.dead] } := by kernel_rfl
@[simp] theorem ty130 : ctx.ty 130 = some { size := 1, bytes := 8, agg := false, zero := [.dead] } := by kernel_rfl
@[simp] theorem ty131 : ctx.ty 131 = some { size := 1, bytes := 8, agg := false, zero := [.dead] } := by kernel_rfl
@[simp] theorem ty132 : ctx.ty 132 = some { size := 1, bytes := 8, agg := false, zero := [.dead] } := by kernel_rfl
@[simp] theorem ty133 : ctx.ty 133 = some { size := 1, bytes := 8, agg := false, zero := [.dead] } := by kernel_rfl
@[simp] theorem ty134 : ctx.ty 134 = some { size := 1, bytes := 8, agg := false, zero := [.dead] } := by kernel_rfl
@[simp] theorem ty135 : ctx.ty 135 = some { size := 1, bytes := 8, agg := false, zero := [.dead] } := by kernel_rfl
@[simp] theorem ty136 : ctx.ty 136 = some { size := 1, bytes := 8, agg := false, zero := [.dead] } := by kernel_rfl
@[simp] theorem ty137 : ctx.ty 137 = some { size := 1, bytes := 8, agg := false, zero := [.dead] } := by kernel_rfl
@[simp] theorem ty138 : ctx.ty 138 = some { size := 1, bytes := 8, agg := false, zero := [.dead] } := by kernel_rfl
@[simp] theorem ty139 : ctx.ty 139 = some { size := 1, bytes := 8, agg := false, zero := [.dead] } := by kernel_rfl
@[simp] theorem ty140 : ctx.ty 140 = some { size := 1, bytes := 8, agg := false, zero := [.dead] } := by kernel_rfl
@[simp] theorem ty141 : ctx.ty 141 = some { size := 1, bytes := 8, agg := false, zero := [.dead] } := by kernel_rfl
@[simp] theorem ty142 : ctx.ty 142 = some { size := 1, bytes := 8, agg := false, zero := [.dead] } := by kernel_rfl
@[simp] theorem ty143 : ctx.ty 143 = some { size := 1, bytes := 8, agg := false, zero := [.dead] } := by kernel_rfl
@[simp] theorem ty144 : ctx.ty 144 = some { size := 1, bytes := 8, agg := false, zero := [.dead] } := by kernel_rfl
@[simp] theorem ty145 : ctx.ty 145 = some { size := 1, bytes := 8, agg := false, zero := [.dead] } := by kernel_rfl
@[simp] theorem ty146 : ctx.ty 146 = some { size := 9, bytes := 72, agg := true, zero := [.int .i64 0, .int .i64 0, .int .i64 0, .int .i64 0, .int .i64 0, .int .i64 0, .int .i64 0, .int .i64 0, .int .i64 0], fields := [(0, 1, 2), (1, 1, 2), (2, 1, 2), (3, 1, 2), (4, 1, 2), (5, 1, 2), (6, 1, 2), (7, 1, 2), (8, 1, 2)] } := by kernel_rfl
@[simp] theorem ty147 : ctx.ty 147 = some { size := 9, bytes := 72, agg := true, zero := [.int .i64 0, .int .i64 0, .int .i64 0, .int .i64 0, .int .i64 0, .int .i64 0, .int .i64 0, .int .i64 0, .int .i64 0], fields := [(0, 1, 2), (1, 1, 2), (2, 1, 2), (3, 1, 2), (4, 1, 2), (5, 1, 2), (6, 1, 2), (7, 1, 2), (8, 1, 2)] } := by kernel_rfl
@[simp] theorem ty148 : ctx.ty 148 = some { size := 1, bytes := 8, agg := false, zero := [.dead] } := by kernel_rfl
@[simp] theorem ty149 : ctx.ty 149 = some { size := 19, bytes := 392, agg := true, zero := [.int .i64 0, .nil, .nil, .nil, .nil, .nil, .nil, .nil, .int .i64 0, .nil, .nil, .nil, .nil, .nil, .nil, .nil, .nil, .int .i64 0, .bool false], fields := [(0, 17, 47), (17, 1, 2), (18, 1, 4)] } := by kernel_rfl
@[simp] theorem ty150 : ctx.ty 150 = some { size := 19, bytes := 392, agg := true, zero := [.int .i64 0, .nil, .nil, .nil, .nil, .nil, .nil, .nil, .int .i64 0, .nil, .nil, .nil, .nil, .nil, .nil, .nil, .nil, .int .i64 0, .bool false], fields := [(0, 17, 47), (17, 1, 2), (18, 1, 4)] } := by kernel_rfl
@[simp] theorem ty151 : ctx.ty 151 = some { size := 1, bytes := 8, agg := false, zero := [.dead] } := by kernel_rfl
@[simp] theorem ty152 : ctx.ty 152 = some { size := 1, bytes := 8, agg := false, zero := [.dead] } := by kernel_rfl
@[simp] theorem ty154 : ctx.ty 154 = some { size := 1, bytes := 8, agg := false, zero := [.dead] } := by kernel_rfl
@[simp] theorem ty155 : ctx.ty 155 = some { size := 1, bytes := 24, agg := false, zero := [.nil], elem := some 158 } := by kernel_rfl
@[simp] theorem ty156 : ctx.ty 156 = some { size := 1, bytes := 8, agg := false, zero := [.dead] } := by kernel_rfl
@[simp] theorem ty157 : ctx.ty 157 = some { size := 3, bytes := 24, agg := true, zero := [.int .i64 0, .int .i64 0, .int .i64 0], fields := [(0, 1, 2), (1, 1, 2), (2, 1, 2)] } := by kernel_rfl
@[simp] theorem ty158 : ctx.ty 158 = some { size := 3, bytes := 24, agg := true, zero := [.int .i64 0, .int .i64 0, .int .i64 0], fields := [(0, 1, 2), (1, 1, 2), (2, 1, 2)] } := by kernel_rfl
@[simp] theorem ty159 : ctx.ty 159 = some { size := 1, bytes := 8, agg := false, zero := [.dead] } := by kernel_rfl
@[simp] theorem ty160 : ctx.ty 160 = some { size := 1, bytes := 8, agg := false, zero := [.dead] } := by kernel_rfl
@[simp] theorem ty161 : ctx.ty 161 = some { size := 1, bytes := 8, agg := false, zero := [.dead] } := by kernel_rfl
@[simp] theorem ty162 : ctx.ty 162 = some { size := 1, bytes := 8, agg := false, zero := [.dead] } := by kernel_rfl
@[simp] theorem ty163 : ctx.ty 163 = some { size := 1, bytes := 8, agg := false, zero := [.dead] } := by kernel_rfl
@[simp] theorem ty164 : ctx.ty 164 = some { size := 1, bytes := 8, agg := false, zero := [.dead] } := by kernel_rfl
@[simp] theorem ty165 : ctx.ty 165 = some { size := 1, bytes := 8, agg := false, zero := [.dead] } := by kernel_rfl
@[simp] theorem ty166 : ctx.ty 166 = some { size := 1, bytes := 8, agg := false, zero := [.dead] } := by kernel_rfl
@[simp] theorem ty167 : ctx.ty 167 = some { size := 1, bytes := 8, agg := false, zero := [.dead] } := by kernel_rfl
@[simp] theorem ty168 : ctx.ty 168 = some { size := 5, bytes := 40, agg := true, zero := [.int .i64 0, .int .i64 0, .int .i64 0, .int .i64 0, .bool false], fields := [(0, 1, 2), (1, 1, 2), (2, 1, 2), (3, 1, 2), (4, 1, 4)] } := by kernel_rfl
@[simp] theorem ty169 : ctx.ty 169 = some { size := 5, bytes := 40, agg := true, zero := [.int .i64 0, .int .i64 0, .int .i64 0, .int .i64 0, .bool false], fields := [(0, 1, 2), (1, 1, 2), (2, 1, 2), (3, 1, 2), (4, 1, 4)] } := by kernel_rfl
@[simp] theorem ty170 : ctx.ty 170 = some { size := 1, bytes := 8, agg := false, zero := [.dead] } := by kernel_rfl
@[simp] theorem ty171 : ctx.ty 171 = some { size := 1, bytes := 8, agg := false, zero := [.dead] } := by kernel_rfl
@[simp] theorem ty172 : ctx.ty 172 = some { size := 1, bytes := 8, agg := false, zero := [.dead] } := by kernel_rfl
@[simp] theorem ty173 : ctx.ty 173 = some { size := 2, bytes := 16, agg := true, zero := [.int .i64 0, .int .i64 0], fields := [(0, 1, 2), (1, 1, 2)] } := by kernel_rfl
@[simp] theorem ty174 : ctx.ty 174 = some { size := 2, bytes := 16, agg := true, zero := [.int .i64 0, .int .i64 0], fields := [(0, 1, 2), (1, 1, 2)] } := by kernel_rfl
@[simp] theorem ty175 : ctx.ty 175 = some { size := 5, bytes := 40, agg := true, zero := [.int .i64 0, .int .i64 0, .int .i64 0, .int .i64 0, .bool false], fields := [(0, 2, 174), (2, 1, 2), (3, 1, 2), (4, 1, 4)] } := by kernel_rfl
@[simp] theorem ty176 : ctx.ty 176 = some { size := 5, bytes := 40, agg := true, zero := [.int .i64 0, .int .i64 0, .int .i64 0, .int .i64 0, .bool false], fields := [(0, 2, 174), (2, 1, 2), (3, 1, 2), (4, 1, 4)] } := by kernel_rfl
@[simp] theorem ty177 : ctx.ty 177 = some { size := 1, bytes := 8, agg := false, zero := [.dead] } := by kernel_rfl
@[simp] theorem ty178 : ctx.ty 178 = some { size := 1, bytes := 8, agg := false, zero := [.dead] } := by kernel_rfl
@[simp] theorem ty179 : ctx.ty 179 = some { size := 1, bytes := 8, agg := false, zero := [.dead] } := by kernel_rfl
@[simp] theorem ty180 : ctx.ty 180 = some { size := 1, bytes := 8, agg := false, zero := [.dead] } := by kernel_rfl
@[simp] theorem ty181 : ctx.ty 181 = some { size := 1, bytes := 8, agg := false, zero := [.dead] } := by kernel_rfl
@[simp] theorem ty182 : ctx.ty 182 = some { size := 1, bytes := 8, agg := false, zero := [.dead] } := by kernel_rfl
@[simp] theorem ty183 : ctx.ty 183 = some { size := 5, bytes := 56, agg := true, zero := [.int .i64 0, .int .i64 0, .int .i64 0, .nil, .int .i64 0], fields := [(0, 1, 2), (1, 1, 2), (2, 1, 2), (3, 1, 31), (4, 1, 2)] } := by kernel_rfl
@[simp] theorem ty184 : ctx.ty 184 = some { size := 5, bytes := 56, agg := true, zero := [.int .i64 0, .int .i64 0, .int .i64 0, .nil, .int .i64 0], fields := [(0, 1, 2), (1, 1, 2), (2, 1, 2), (3, 1, 31), (4, 1, 2)] } := by kernel_rfl
@[simp] theorem ty185 : ctx.ty 185 = some { size := 1, bytes := 8, agg := false, zero := [.dead] } := by kernel_rfl
@[simp] theorem ty186 : ctx.ty 186 = some { size := 1, bytes := 8, agg := false, zero := [.dead] } := by kernel_rfl
@[simp] theorem ty187 : ctx.ty 187 = some { size := 4, bytes := 32, agg := true, zero := [.int .i64 0, .int .i64 0, .int .i64 0, .int .i64 0], fields := [(0, 1, 2), (1, 1, 2), (2, 1, 2), (3, 1, 2)] } := by kernel_rfl
@[simp] theorem ty188 : ctx.ty 188 = some { size := 4, bytes := 32, agg := true, zero := [.int .i64 0, .int .i64 0, .int .i64 0, .int .i64 0], fields := [(0, 1, 2), (1, 1, 2), (2, 1, 2), (3, 1, 2)] } := by kernel_rfl
@[simp] theorem ty189 : ctx.ty 189 = some { size := 1, bytes := 8, agg := false, zero := [.dead] } := by kernel_rfl
@[simp] theorem ty190 : ctx.ty 190 = some { size := 1, bytes := 8, agg := false, zero := [.dead] } := by kernel_rfl
@[simp] theorem ty191 : ctx.ty 191 = some { size := 1, bytes := 8, agg := false, zero := [.dead] } := by kernel_rfl
@[simp] theorem ty192 : ctx.ty 192 = some { size := 1, bytes := 8, agg := false, zero := [.dead] } := by kernel_rfl
@[simp] theorem ty193 : ctx.ty 193 = some { size := 1, bytes := 8, agg := false, zero := [.dead] } := by kernel_rfl
@[simp] theorem ty195 : ctx.ty 195 = some { size := 1, bytes := 8, agg := false, zero := [.dead] } := by kernel_rfl
@[simp] theorem ty196 : ctx.ty 196 = some { size := 1, bytes := 8, agg := false, zero := [.dead] } := by kernel_rfl
@[simp] theorem ty198 : ctx.ty 198 = some { size := 1, bytes := 8, agg := false, zero := [.dead] } := by kernel_rfl
@[simp] theorem ty199 : ctx.ty 199 = some { size := 1, bytes := 8, agg := false, zero := [.dead] } := by kernel_rfl
@[simp] theorem ty200 : ctx.ty 200 = some { size := 1, bytes := 8, agg := false, zero := [.dead] } := by kernel_rfl
@[simp] theorem ty201 : ctx.ty 201 = some { size := 1, bytes := 8, agg := false, zero := [.dead] } := by kernel_rfl
@[simp] theorem ty202 : ctx.ty 202 = some { size := 1, bytes := 8, agg := false, zero := [.dead] } := by kernel_rfl
@[simp] theorem ty203 : ctx.ty 203 = some { size := 1, bytes := 24, agg := false, zero := [.nil], elem := some 299 } := by kernel_rfl
@[simp] theorem ty204 : ctx.ty 204 = some { size := 1, bytes := 8, agg := false, zero := [.dead] } := by kernel_rfl
@[simp] theorem ty205 : ctx.ty 205 = some { size := 1, bytes := 8, agg := false, zero := [.dead] } := by kernel_rfl
@[simp] theorem ty206 : ctx.ty 206 = some { size := 1, bytes := 8, agg := false, zero := [.dead] } := by kernel_rfl
@[simp] theorem ty207 : ctx.ty 207 = some { size := 1, bytes := 8, agg := false, zero := [.dead] } := by kernel_rfl
@[simp] theorem ty208 : ctx.ty 208 = some { size := 1, bytes := 8, agg := false, zero := [.dead] } := by kernel_rfl
@[simp] theorem ty209 : ctx.ty 209 = some { size := 1, bytes := 8, agg := false, zero := [.dead] } := by kernel_rfl
@[simp] theorem ty210 : ctx.ty 210 = some { size := 5, bytes := 56, agg := true, zero := [.int .i64 0, .int .i64 0, .int .i64 0, .nil, .int .i64 0], fields := [(0, 1, 2), (1, 1, 2), (2, 1, 2), (3, 1, 31), (4, 1, 2)] } := by kernel_rfl
@[simp] theorem ty211 : ctx.ty 211 = some { size := 1, bytes := 8, agg := false, zero := [.dead] } := by kernel_rfl
@[simp] theorem ty212 : ctx.ty 212 = some { size := 1, bytes := 8, agg := false, zero := [.dead] } := by kernel_rfl
@[simp] theorem ty213 : ctx.ty 213 = some { size := 1, bytes := 8, agg := false, zero := [.dead] } := by kernel_rfl
@[simp] theorem ty214 : ctx.ty 214 = some { size := 1, bytes := 8, agg := false, zero := [.dead] } := by kernel_rfl
@[simp] theorem ty215 : ctx.ty 215 = some { size := 1, bytes := 8, agg := false, zero := [.dead] } := by kernel_rfl
@[simp] theorem ty216 : ctx.ty 216 = some { size := 1, bytes := 8, agg := false, zero := [.dead] } := by kernel_rfl
@[simp] theorem ty217 : ctx.ty 217 = some { size := 1, bytes := 8, agg := false, zero := [.dead] } := by kernel_rfl
@[simp] theorem ty218 : ctx.ty 218 = some { size := 1, bytes := 8, agg := false, zero := [.dead] } := by kernel_rfl
@[simp] theorem ty219 : ctx.ty 219 = some { size := 1, bytes := 8, agg := false, zero := [.dead] } := by kernel_rfl
@[simp] theorem ty220 : ctx.ty 220 = some { size := 1, bytes := 8, agg := false, zero := [.dead] } := by kernel_rfl
@[simp] theorem ty221 : ctx.ty 221 = some { size := 1, bytes := 8, agg := false, zero := [.dead] } := by kernel_rfl
@[simp] theorem ty223 : ctx.ty 223 = some { size := 1, bytes := 8, agg := false, zero := [.dead] } := by kernel_rfl
@[simp] theorem ty224 : ctx.ty 224 = some { size := 1, bytes := 8, agg := false, zero := [.dead] } := by kernel_rfl
@[simp] theorem ty225 : ctx.ty 225 = some { size := 1, bytes := 8, agg := false, zero := [.dead] } := by kernel_rfl
@[simp] theorem ty226 : ctx.ty 226 = some { size := 1, bytes := 8, agg := false, zero := [.dead] } := by kernel_rfl
@[simp] theorem ty227 : ctx.ty 227 = some { size := 1, bytes := 8, agg := false, zero := [.dead] } := by kernel_rfl
@[simp] theorem ty228 : ctx.ty 228 = some { size := 5, bytes := 40, agg := true, zero := [.int .i64 0, .int .i64 0, .int .i64 0, .int .i64 0, .int .i64 0], fields := [(0, 1, 2), (1, 1, 2), (2, 1, 2), (3, 1, 2), (4, 1, 2)] } := by kernel_rfl
@[simp] theorem ty229 : ctx.ty 229 = some { size := 1, bytes := 8, agg := false, zero := [.dead] } := by kernel_rfl
@[simp] theorem ty230 : ctx.ty 230 = some { size := 4, bytes := 32, agg := true, zero := [.int .i64 0, .int .i64 0, .int .i64 0, .int .i64 0], fields := [(0, 1, 2), (1, 1, 2), (2, 1, 2), (3, 1, 2)] } := by kernel_rfl
@[simp] theorem ty231 : ctx.ty 231 = some { size := 1, bytes := 8, agg := false, zero := [.dead] } := by kernel_rfl
@[simp] theorem ty232 : ctx.ty 232 = some { size := 1, bytes := 8, agg := false, zero := [.dead] } := by kernel_rfl
@[simp] theorem ty233 : ctx.ty 233 = some { size := 1, bytes := 8, agg := false, zero := [.dead] } := by kernel_rfl
@[simp] theorem ty234 : ctx.ty 234 = some { size := 1, bytes := 8, agg := false, zero := [.dead] } := by kernel_rfl
@[simp] theorem ty235 : ctx.ty 235 = some { size := 1, bytes := 8, agg := false, zero := [.dead] } := by kernel_rfl
@[simp] theorem ty236 : ctx.ty 236 = some { size := 1, bytes := 8, agg := false, zero := [.dead] } := by kernel_rfl
@[simp] theorem ty237 : ctx.ty 237 = some { size := 9, bytes := 72, agg := true, zero := [.int .i64 0, .int .i64 0, .int .i64 0, .int .i64 0, .int .i64 0, .int .i64 0, .int .i64 0, .int .i64 0, .int .i64 0], fields := [(0, 1, 2), (1, 1, 2), (2, 1, 2), (3, 1, 2), (4, 1, 2), (5, 1, 2), (6, 1, 2), (7, 1, 2), (8, 1, 2)] } := by kernel_rfl
@[simp] theorem ty238 : ctx.ty 238 = some { size := 1, bytes := 8, agg := false, zero := [.dead] } := by kernel_rfl
@[simp] theorem ty239 : ctx.ty 239 = some { size := 1, bytes := 8, agg := false, zero := [.dead] } := by kernel_rfl
@[simp] theorem ty240 : ctx.ty 240 = some { size := 4, bytes := 32, agg := true, zero := [.int .i64 0, .int .i64 0, .int .i64 0, .int .i64 0], fields := [(0, 1, 2), (1, 1, 2), (2, 1, 2), (3, 1, 2)] } := by kernel_rfl
@[simp] theorem ty241 : ctx.ty 241 = some { size := 1, bytes := 8, agg := false, zero := [.dead] } := by kernel_rfl
@[simp] theorem ty242 : ctx.ty 242 = some { size := 1, bytes := 8, agg := false, zero := [.dead] } := by kernel_rfl
@[simp] theorem ty243 : ctx.ty 243 = some { size := 1, bytes := 8, agg := false, zero := [.dead] } := by kernel_rfl
@[simp] theorem ty244 : ctx.ty 244 = some { size := 1, bytes := 8, agg := false, zero := [.dead] } := by kernel_rfl
@[simp] theorem ty245 : ctx.ty 245 = some { size := 1, bytes := 8, agg := false, zero := [.dead] } := by kernel_rfl
@[simp] theorem ty246 : ctx.ty 246 = some { size := 1, bytes := 8, agg := false, zero := [.dead] } := by kernel_rfl
@[simp] theorem ty247 : ctx.ty 247 = some { size := 1, bytes := 8, agg := false, zero := [.dead] } := by kernel_rfl
@[simp] theorem ty248 : ctx.ty 248 = some { size := 1, bytes := 8, agg := false, zero := [.dead] } := by kernel_rfl
@[simp] theorem ty249 : ctx.ty 249 = some { size := 1, bytes := 8, agg := false, zero := [.dead] } := by kernel_rfl
@[simp] theorem ty250 : ctx.ty 250 = some { size := 1, bytes := 8, agg := false, zero := [.dead] } := by kernel_rfl
@[simp] theorem ty251 : ctx.ty 251 = some { size := 1, bytes := 8, agg := false, zero := [.dead] } := by kernel_rfl
@[simp] theorem ty252 : ctx.ty 252 = some { size := 1, bytes := 8, agg := false, zero := [.dead] } := by kernel_rfl
@[simp] theorem ty253 : ctx.ty 253 = some { size := 1, bytes := 8, agg := false, zero := [.dead] } := by kernel_rfl
@[simp] theorem ty254 : ctx.ty 254 = some { size := 1, bytes := 8, agg := false, zero := [.dead] } := by kernel_rfl
@[simp] theorem ty255 : ctx.ty 255 = some { size := 1, bytes := 8, agg := false, zero := [.dead] } := by kernel_rfl
@[simp] theorem ty256 : ctx.ty 256 = some { size := 1, bytes := 8, agg := false, zero := [.dead] } := by kernel_rfl
@[simp] theorem ty257 : ctx.ty 257 = some { size := 1, bytes := 8, agg := false, zero := [.dead] } := by kernel_rfl
@[simp] theorem ty258 : ctx.ty 258 = some { size := 1, bytes := 8, agg := false, zero := [.dead] } := by kernel_rfl
@[simp] theorem ty259 : ctx.ty 259 = some { size := 1, bytes := 8, agg := false, zero := [.dead] } := by kernel_rfl
@[simp] theorem ty260 : ctx.ty 260 = some { size := 1, bytes := 8, agg := false, zero := [.dead] } := by kernel_rfl
@[simp] theorem ty261 : ctx.ty 261 = some { size := 1, bytes := 8, agg := false, zero := [.dead] } := by kernel_rfl
@[simp] theorem ty262 : ctx.ty 262 = some { size := 1, bytes := 8, agg := false, zero := [.dead] } := by kernel_rfl
@[simp] theorem ty263 : ctx.ty 263 = some { size := 1, bytes := 8, agg := false, zero := [.dead] } := by kernel_rfl
@[simp] theorem ty264 : ctx.ty 264 = some { size := 1, bytes := 8, agg := false, zero := [.dead] } := by kernel_rfl
@[simp] theorem ty265 : ctx.ty 265 = some { size := 1, bytes := 8, agg := false, zero := [.dead] } := by kernel_rfl
@[simp] theorem ty266 : ctx.ty 266 = some { size := 1, bytes := 8, agg := false, zero := [.dead] } := by kernel_rfl
@[simp] theorem ty267 : ctx.ty 267 = some { size := 1, bytes := 8, agg := false, zero := [.dead] } := by kernel_rfl
@[simp] theorem ty268 : ctx.ty 268 = some { size := 1, bytes := 8, agg := false, zero := [.dead] } := by kernel_rfl
@[simp] theorem ty269 : ctx.ty 269 = some { size := 1, bytes := 8, agg := false, zero := [.dead] } := by kernel_rfl
@[simp] theorem ty270 : ctx.ty 270 = some { size := 1, bytes := 8, agg := false, zero := [.dead] } := by kernel_rfl
@[simp] theorem ty271 : ctx.ty 271 = some { size := 1, bytes := 8, agg := false, zero := [.dead] } := by kernel_rfl
@[simp] theorem ty272 : ctx.ty 272 = some { size := 3, bytes := 24, agg := true, zero := [.int .i64 0, .int .i64 0, .int .i64 0], fields := [(0, 1, 2), (1, 1, 2), (2, 1, 2)] } := by kernel_rfl
@[simp] theorem ty273 : ctx.ty 273 = some { size := 3, bytes := 24, agg := true, zero := [.int .i64 0, .int .i64 0, .int .i64 0], fields := [(0, 1, 2), (1, 1, 2), (2, 1, 2)] } := by kernel_rfl
@[simp] theorem ty274 : ctx.ty 274 = some { size := 1, bytes := 8, agg := false, zero := [.dead] } := by kernel_rfl
@[simp] theorem ty275 : ctx.ty 275 = some { size := 1, bytes := 8, agg := false, zero := [.dead] } := by kernel_rfl
@[simp] theorem ty276 : ctx.ty 276 = some { size := 1, bytes := 8, agg := false, zero := [.dead] } := by kernel_rfl
@[simp] theorem ty277 : ctx.ty 277 = some { size := 1, bytes := 8, agg := false, zero := [.dead] } := by kernel_rfl
@[simp] theorem ty278 : ctx.ty 278 = some { size := 1, bytes := 8, agg := false, zero := [.dead] } := by kernel_rfl
@[simp] theorem ty279 : ctx.ty 279 = some { size := 1, bytes := 8, agg := false, zero := [.dead] } := by kernel_rfl
@[simp] theorem ty280 : ctx.ty 280 = some { size := 1, bytes := 8, agg := false, zero := [.dead] } := by kernel_rfl
@[simp] theorem ty281 : ctx.ty 281 = some { size := 1, bytes := 8, agg := false, zero := [.dead] } := by kernel_rfl
@[simp] theorem ty282 : ctx.ty 282 = some { size := 1, bytes := 8, agg := false, zero := [.dead] } := by kernel_rfl
@[simp] theorem ty283 : ctx.ty 283 = some { size := 1, bytes := 8, agg := false, zero := [.dead] } := by kernel_rfl
@[simp] theorem ty284 : ctx.ty 284 = some { size := 1, bytes := 8, agg := false, zero := [.dead] } := by kernel_rfl
@[simp] theorem ty285 : ctx.ty 285 = some { size := 1, bytes := 8, agg := false, zero := [.dead] } := by kernel_rfl
@[simp] theorem ty286 : ctx.ty 286 = some { size := 1, bytes := 8, agg := false, zero := [.dead] } := by kernel_rfl
@[simp] theorem ty287 : ctx.ty 287 = some { size := 1, bytes := 8, agg := false, zero := [.dead] } := by kernel_rfl
@[simp] theorem ty288 : ctx.ty 288 = some { size := 1, bytes := 8, agg := false, zero := [.dead] } := by kernel_rfl
@[simp] theorem ty289 : ctx.ty 289 = some { size := 1, bytes := 8, agg := false, zero := [.dead] } := by kernel_rfl
@[simp] theorem ty290 : ctx.ty 290 = some { size := 1, bytes := 8, agg := false, zero := [.dead] } := by kernel_rfl
@[simp] theorem ty291 : ctx.ty 291 = some { size := 1, bytes := 8, agg := false, zero := [.dead] } := by kernel_rfl
@[simp] theorem ty292 : ctx.ty 292 = some { size := 1, bytes := 8, agg := false, zero := [.dead] } := by kernel_rfl
@[simp] theorem ty293 : ctx.ty 293 = some { size := 1, bytes := 8, agg := false, zero := [.dead] } := by kernel_rfl
@[simp] theorem ty294 : ctx.ty 294 = some { size := 1, bytes := 8, agg := false, zero := [.dead] } := by kernel_rfl
@[simp] theorem ty295 : ctx.ty 295 = some { size := 1, bytes := 8, agg := false, zero := [.dead] } := by kernel_rfl
@[simp] theorem ty296 : ctx.ty 296 = some { size := 1, bytes := 8, agg := false, zero := [.dead] } := by kernel_rfl
@[simp] theorem ty297 : ctx.ty 297 = some { size := 1, bytes := 8, agg := false, zero := [.dead] } := by kernel_rfl
@[simp] theorem ty298 : ctx.ty 298 = some { size := 1, bytes := 8, agg := false, zero := [.dead] } := by kernel_rfl
@[simp] theorem ty299 : ctx.ty 299 = some { size := 3, bytes := 24, agg := true, zero := [.int .i64 0, .int .i64 0, .int .i64 0], fields := [(0, 1, 2), (1, 1, 2), (2, 1, 2)] } := by kernel_rfl
@[simp] theorem ty300 : ctx.ty 300 = some { size := 1, bytes := 8, agg := false, zero := [.dead] } := by kernel_rfl
@[simp] theorem ty301 : ctx.ty 301 = some { size := 3, bytes := 24, agg := true, zero := [.int .i64 0, .int .i64 0, .int .i64 0], fields := [(0, 1, 2), (1, 1, 2), (2, 1, 2)] } := by kernel_rfl
@[simp] theorem ty302 : ctx.ty 302 = some { size := 1, bytes := 8, agg := false, zero := [.dead] } := by kernel_rfl
@[simp] theorem ty303 : ctx.ty 303 = some { size := 5, bytes := 40, agg := true, zero := [.int .i64 0, .int .i64 0, .int .i64 0, .int .i64 0, .bool false], fields := [(0, 1, 2), (1, 1, 2), (2, 1, 2), (3, 1, 2), (4, 1, 4)] } := by kernel_rfl
@[simp] theorem ty304 : ctx.ty 304 = some { size := 1, bytes := 8, agg := false, zero := [.dead] } := by kernel_rfl
@[simp] theorem ty305 : ctx.ty 305 = some { size := 2, bytes := 16, agg := true, zero := [.int .i64 0, .int .i64 0], fields := [(0, 1, 2), (1, 1, 2)] } := by kernel_rfl
@[simp] theorem ty306 : ctx.ty 306 = some { size := 5, bytes := 40, agg := true, zero := [.int .i64 0, .int .i64 0, .int .i64 0, .int .i64 0, .bool false], fields := [(0, 2, 305), (2, 1, 2), (3, 1, 2), (4, 1, 4)] } := by kernel_rfl
@[simp] theorem ty307 : ctx.ty 307 = some { size := 5, bytes := 40, agg := true, zero := [.int .i64 0, .int .i64 0, .int .i64 0, .int .i64 0, .bool false], fields := [(0, 2, 305), (2, 1, 2), (3, 1, 2), (4, 1, 4)] } := by kernel_rfl
@[simp] theorem ty308 : ctx.ty 308 = some { size := 1, bytes := 8, agg := false, zero := [.dead] } := by kernel_rfl
@[simp] theorem ty309 : ctx.ty 309 = some { size := 1, bytes := 8, agg := false, zero := [.dead] } := by kernel_rfl
@[simp] theorem ty310 : ctx.ty 310 = some { size := 1, bytes := 8, agg := false, zero := [.dead] } := by kernel_rfl
@[simp] theorem ty311 : ctx.ty 311 = some { size := 1, bytes := 8, agg := false, zero := [.dead] } := by kernel_rfl
@[simp] theorem ty312 : ctx.ty 312 = some { size := 1, bytes := 8, agg := false, zero := [.dead] } := by kernel_rfl
@[simp] theorem ty313 : ctx.ty 313 = some { size := 1, bytes := 8, agg := false, zero := [.dead] } := by kernel_rfl
@[simp] theorem ty314 : ctx.ty 314 = some { size := 1, bytes := 8, agg := false, zero := [.dead] } := by kernel_rfl
@[simp] theorem ty315 : ctx.ty 315 = some { size := 1, bytes := 8, agg := false, zero := [.dead] } := by kernel_rfl
@[simp] theorem ty316 : ctx.ty 316 = some { size := 1, bytes := 8, agg := false, zero := [.dead] } := by kernel_rfl
@[simp] theorem ty317 : ctx.ty 317 = some { size := 1, bytes := 8, agg := false, zero := [.dead] } := by kernel_rfl
@[simp] theorem ty319 : ctx.ty 319 = some { size := 1, bytes := 8, agg := false, zero := [.dead] } := by kernel_rfl
@[simp] theorem ty320 : ctx.ty 320 = some { size := 1, bytes := 8, agg := false, zero := [.dead] } := by kernel_rfl
@[simp] theorem ty321 : ctx.ty 321 = some { size := 1, bytes := 8, agg := false, zero := [.dead] } := by kernel_rfl
@[simp] theorem ty322 : ctx.ty 322 = some { size := 1, bytes := 8, agg := false, zero := [.dead] } := by kernel_rfl
@[simp] theorem ty323 : ctx.ty 323 = some { size := 1, bytes := 8, agg := false, zero := [.dead] } := by kernel_rfl
@[simp] theorem ty325 : ctx.ty 325 = some { size := 1, bytes := 8, agg := false, zero := [.dead] } := by kernel_rfl
@[simp] theorem ty327 : ctx.ty 327 = some { size := 1, bytes := 8, agg := false, zero := [.dead] } := by kernel_rfl
@[simp] theorem ty328 : ctx.ty 328 = some { size := 1, bytes := 8, agg := false, zero := [.dead] } := by kernel_rfl
@[simp] theorem ty329 : ctx.ty 329 = some { size := 1, bytes := 8, agg := false, zero := [.dead] } := by kernel_rfl
@[simp] theorem ty330 : ctx.ty 330 = some { size := 1, bytes := 8, agg := false, zero := [.dead] } := by kernel_rfl
@[simp] theorem ty331 : ctx.ty 331 = some { size := 1, bytes := 8, agg := false, zero := [.dead] } := by kernel_rfl
@[simp] theorem ty332 : ctx.ty 332 = some { size := 1, bytes := 8, agg := false, zero := [.dead] } := by kernel_rfl
@[simp] theorem ty333 : ctx.ty 333 = some { size := 1, bytes := 8, agg := false, zero := [.dead] } := by kernel_rfl
@[simp] theorem ty334 : ctx.ty 334 = some { size := 1, bytes := 8, agg := false, zero := [.dead] } := by kernel_rfl
@[simp] theorem ty335 : ctx.ty 335 = some { size := 1, bytes := 8, agg := false, zero := [.dead] } := by kernel_rfl
@[simp] theorem ty336 : ctx.ty 336 = some { size := 1, bytes := 8, agg := false, zero := [.dead] } := by kernel_rfl
@[simp] theorem ty337 : ctx.ty 337 = some { size := 1, bytes := 8, agg := false, zero := [.dead] } := by kernel_rfl
@[simp] theorem ty338 : ctx.ty 338 = some { size := 1, bytes := 8, agg := false, zero := [.dead] } := by kernel_rfl
@[simp] theorem ty339 : ctx.ty 339 = some { size := 1, bytes := 8, agg := false, zero := [.dead] } := by kernel_rfl
@[simp] theorem ty340 : ctx.ty 340 = some { size := 1, bytes := 8, agg := false, zero := [.dead] } := by kernel_rfl
@[simp] theorem ty341 : ctx.ty 341 = some { size := 1, bytes := 8, agg := false, zero := [.dead] } := by kernel_rfl
@[simp] theorem ty342 : ctx.ty 342 = some { size := 1, bytes := 8, agg := false, zero := [.dead] } := by kernel_rfl
@[simp] theorem ty343 : ctx.ty 343 = some { size := 1, bytes := 8, agg := false, zero := [.dead] } := by kernel_rfl
@[simp] theorem ty344 : ctx.ty 344 = some { size := 1, bytes := 8, agg := false, zero := [.dead] } := by kernel_rfl
@[simp] theorem ty345 : ctx.ty 345 = some { size := 1, bytes := 8, agg := false, zero := [.dead] } := by kernel_rfl
@[simp] theorem ty346 : ctx.ty 346 = some { size := 1, bytes := 8, agg := false, zero := [.dead] } := by kernel_rfl
@[simp] theorem ty348 : ctx.ty 348 = some { size := 1, bytes := 8, agg := false, zero := [.dead] } := by kernel_rfl
@[simp] theorem ty349 : ctx.ty 349 = some { size := 1, bytes := 8, agg := false, zero := [.dead] } := by kernel_rfl
@[simp] theorem ty350 : ctx.ty 350 = some { size := 1, bytes := 8, agg := false, zero := [.dead] } := by kernel_rfl
@[simp] theorem ty351 : ctx.ty 351 = some { size := 1, bytes := 8, agg := false, zero := [.dead] } := by kernel_rfl
@[simp] theorem ty352 : ctx.ty 352 = some { size := 1, bytes := 8, agg := false, zero := [.dead] } := by kernel_rfl
@[simp] theorem ty353 : ctx.ty 353 = some { size := 1, bytes := 8, agg := false, zero := [.dead] } := by kernel_rfl
@[simp] theorem ty354 : ctx.ty 354 = some { size := 1, bytes := 8, agg := false, zero := [.dead] } := by kernel_rfl
@[simp] theorem ty355 : ctx.ty 355 = some { size := 1, bytes := 8, agg := false, zero := [.dead] } := by kernel_rfl
@[simp] theorem ty356 : ctx.ty 356 = some { size := 1, bytes := 8, agg := false, zero := [.dead] } := by kernel_rfl
@[simp] theorem ty357 : ctx.ty 357 = some { size := 1, bytes := 8, agg := false, zero := [.dead] } := by kernel_rfl
@[simp] theorem ty358 : ctx.ty 358 = some { size := 1, bytes := 8, agg := false, zero := [.dead] } := by kernel_rfl
@[simp] theorem ty359 : ctx.ty 359 = some { size := 1, bytes := 8, agg := false, zero := [.dead] } := by kernel_rfl
@[simp] theorem ty361 : ctx.ty 361 = some { size := 1, bytes := 8, agg := false, zero := [.dead] } := by kernel_rfl
@[simp] theorem ty362 : ctx.ty 362 = some { size := 1, bytes := 8, agg := false, zero := [.dead] } := by kernel_rfl
@[simp] theorem ty363 : ctx.ty 363 = some { size := 1, bytes := 8, agg := false, zero := [.dead] } := by kernel_rfl
@[simp] theorem ty364 : ctx.ty 364 = some { size := 1, bytes := 8, agg := false, zero := [.dead] } := by kernel_rfl
@[simp] theorem ty366 : ctx.ty 366 = some { size := 1, bytes := 8, agg := false, zero := [.dead] } := by kernel_rfl
@[simp] theorem ty367 : ctx.ty 367 = some { size := 1, bytes := 8, agg := false, zero := [.dead] } := by kernel_rfl
@[simp] theorem ty369 : ctx.ty 369 = some { size := 1, bytes := 8, agg := false, zero := [.dead] } := by kernel_rfl
@[simp] theorem ty371 : ctx.ty 371 = some { size := 1, bytes := 8, agg := false, zero := [.dead] } := by kernel_rfl
@[simp] theorem ty373 : ctx.ty 373 = some { size := 1, bytes := 8, agg := false, zero := [.dead] } := by kernel_rfl
@[simp] theorem ty374 : ctx.ty 374 = some { size := 1, bytes := 8, agg := false, zero := [.dead] } := by kernel_rfl
@[simp] theorem ty376 : ctx.ty 376 = some { size := 1, bytes := 8, agg := false, zero := [.dead] } := by kernel_rfl
@[simp] theorem ty377 : ctx.ty 377 = some { size := 1, bytes := 8, agg := false, zero := [.dead] } := by kernel_rfl
@[simp] theorem ty378 : ctx.ty 378 = some { size := 1, bytes := 8, agg := false, zero := [.dead] } := by kernel_rfl
@[simp] theorem ty379 : ctx.ty 379 = some { size := 1, bytes := 8, agg := false, zero := [.dead] } := by kernel_rfl
@[simp] theorem ty380 : ctx.ty 380 = some { size := 1, bytes := 8, agg := false, zero := [.dead] } := by kernel_rfl
@[simp] theorem ty381 : ctx.ty 381 = some { size := 1, bytes := 8, agg := false, zero := [.dead] } := by kernel_rfl
@[simp] theorem ty382 : ctx.ty 382 = some { size := 1, bytes := 8, agg := false, zero := [.dead] } := by kernel_rfl
@[simp] theorem ty383 : ctx.ty 383 = some { size := 1, bytes := 8, agg := false, zero := [.dead] } := by kernel_rfl
@[simp] theorem ty384 : ctx.ty 384 = some { size := 1, bytes := 8, agg := false, zero := [.dead] } := by kernel_rfl
@[simp] theorem ty386 : ctx.ty 386 = some { size := 1, bytes := 8, agg := false, zero := [.dead] } := by kernel_rfl
@[simp] theorem ty387 : ctx.ty 387 = some { size := 1, bytes := 24, agg := false, zero := [.nil], elem := some 3 } := by kernel_rfl
@[simp] theorem ty388 : ctx.ty 388 = some { size := 1, bytes := 24, agg := false, zero := [.nil], elem := some 34 } := by kernel_rfl
@[simp] theorem ty389 : ctx.ty 389 = some { size := 1, bytes := 8, agg := false, zero := [.dead] } := by kernel_rfl
@[simp] theorem ty391 : ctx.ty 391 = some { size := 1, bytes := 8, agg := false, zero := [.dead] } := by kernel_rfl
@[simp] theorem ty392 : ctx.ty 392 = some { size := 1, bytes := 8, agg := false, zero := [.dead] } := by kernel_rfl
@[simp] theorem ty393 : ctx.ty 393 = some { size := 1, bytes := 8, agg := false, zero := [.dead] } := by kernel_rfl
@[simp] theorem ty394 : ctx.ty 394 = some { size := 1, bytes := 8, agg := false, zero := [.dead] } := by kernel_rfl
@[simp] theorem ty395 : ctx.ty 395 = some { size := 4, bytes := 40, agg := true, zero := [.dead, .dead, .dead, .str ⟨#[]⟩], fields := [(0, 1, 17), (1, 1, 17), (2, 1, 17), (3, 1, 9)] } := by kernel_rfl
@[simp] theorem ty398 : ctx.ty 398 = some { size := 0, bytes := 0, agg := true, zero := [], fields := [(0, 0, 397)] } := by kernel_rfl
@[simp] theorem ty400 : ctx.ty 400 = some { size := 1, bytes := 8, agg := false, zero := [.dead] } := by kernel_rfl
@[simp] theorem ty401 : ctx.ty 401 = some { size := 1, bytes := 4, agg := false, zero := [.int .u32 0], ik := some .u32 } := by kernel_rfl
@[simp] theorem ty404 : ctx.ty 404 = some { size := 1, bytes := 8, agg := false, zero := [.dead] } := by kernel_rfl
@[simp] theorem ty405 : ctx.ty 405 = some { size := 1, bytes := 8, agg := false, zero := [.dead] } := by kernel_rfl
@[simp] theorem ty408 : ctx.ty 408 = some { size := 11, bytes := 48, agg := true, zero := [.int .u64 0, .int .u64 0, .int .u32 0, .int .u8 0, .int .u8 0, .int .u8 0, .int .u8 0, .dead, .dead, .int .i32 0, .int .i32 0], fields := [(0, 1, 12), (1, 1, 12), (2, 1, 401), (3, 1, 402), (4, 1, 5), (5, 1, 5), (6, 1, 403), (7, 1, 404), (8, 1, 405), (9, 1, 406), (10, 1, 407)] } := by kernel_rfl
@[simp] theorem ty410 : ctx.ty 410 = some { size := 1, bytes := 8, agg := false, zero := [.dead] } := by kernel_rfl
@[simp] theorem el22 : elemOf ctx 22 = some { size := 1, bytes := 1, agg := false, zero := [.int .u8 0], ik := some .u8 } := by kernel_rfl
@[simp] theorem el27 : elemOf ctx 27 = some { size := 1, bytes := 24, agg := false, zero := [.nil], elem := some 158 } := by kernel_rfl
@[simp] theorem el28 : elemOf ctx 28 = some { size := 5, bytes := 40, agg := true, zero := [.int .i64 0, .int .i64 0, .int .i64 0, .int .i64 0, .int .i64 0], fields := [(0, 1, 2), (1, 1, 2), (2, 1, 2), (3, 1, 2), (4, 1, 2)] } := by kernel_rfl
@[simp] theorem el29 : elemOf ctx 29 = some { size := 4, bytes := 32, agg := true, zero := [.int .i64 0, .int .i64 0, .int .i64 0, .int .i64 0], fields := [(0, 1, 2), (1, 1, 2), (2, 1, 2), (3, 1, 2)] } := by kernel_rfl
@[simp] theorem el30 : elemOf ctx 30 = some { size := 1, bytes := 1, agg := false, zero := [.bool false] } := by kernel_rfl
@[simp] theorem el31 : elemOf ctx 31 = some { size := 1, bytes := 8, agg := false, zero := [.int .i64 0], ik := some .i64 } := by kernel_rfl
@[simp] theorem el34 : elemOf ctx 34 = some { size := 3, bytes := 24, agg := true, zero := [.int .i64 0, .int .i64 0, .int .i64 0], fields := [(0, 1, 2), (1, 1, 2), (2, 1, 2)] } := by kernel_rfl
@[simp] theorem el35 : elemOf ctx 35 = some { size := 5, bytes := 40, agg := true, zero := [.int .i64 0, .int .i64 0, .int .i64 0, .int .i64 0, .bool false], fields := [(0, 1, 2), (1, 1, 2), (2, 1, 2), (3, 1, 2), (4, 1, 4)] } := by kernel_rfl
@[simp] theorem el40 : elemOf ctx 40 = some { size := 5, bytes := 40, agg := true, zero := [.int .i64 0, .int .i64 0, .int .i64 0, .int .i64 0, .bool false], fields := [(0, 2, 174), (2, 1, 2), (3, 1, 2), (4, 1, 4)] } := by kernel_rfl
@[simp] theorem el43 : elemOf ctx 43 = some { size := 9, bytes := 72, agg := true, zero := [.int .i64 0, .int .i64 0, .int .i64 0, .int .i64 0, .int .i64 0, .int .i64 0, .int .i64 0, .int .i64 0, .int .i64 0], fields := [(0, 1, 2), (1, 1, 2), (2, 1, 2), (3, 1, 2), (4, 1, 2), (5, 1, 2), (6, 1, 2), (7, 1, 2), (8, 1, 2)] } := by kernel_rfl
@[simp] theorem el44 : elemOf ctx 44 = some { size := 5, bytes := 56, agg := true, zero := [.int .i64 0, .int .i64 0, .int .i64 0, .nil, .int .i64 0], fields := [(0, 1, 2), (1, 1, 2), (2, 1, 2), (3, 1, 31), (4, 1, 2)] } := by kernel_rfl
@[simp] theorem el45 : elemOf ctx 45 = some { size := 4, bytes := 32, agg := true, zero := [.int .i64 0, .int .i64 0, .int .i64 0, .int .i64 0], fields := [(0, 1, 2), (1, 1, 2), (2, 1, 2), (3, 1, 2)] } := by kernel_rfl
@[simp] theorem el58 : elemOf ctx 58 = some { size := 1, bytes := 24, agg := false, zero := [.nil], elem := some 299 } := by kernel_rfl
@[simp] theorem el59 : elemOf ctx 59 = some { size := 5, bytes := 40, agg := true, zero := [.int .i64 0, .int .i64 0, .int .i64 0, .int .i64 0, .int .i64 0], fields := [(0, 1, 2), (1, 1, 2), (2, 1, 2), (3, 1, 2), (4, 1, 2)] } := by kernel_rfl
@[simp] theorem el60 : elemOf ctx 60 = some { size := 4, bytes := 32, agg := true, zero := [.int .i64 0, .int .i64 0, .int .i64 0, .int .i64 0], fields := [(0, 1, 2), (1, 1, 2), (2, 1, 2), (3, 1, 2)] } := by kernel_rfl
@[simp] theorem el62 : elemOf ctx 62 = some { size := 3, bytes := 24, agg := true, zero := [.int .i64 0, .int .i64 0, .int .i64 0], fields := [(0, 1, 2), (1, 1, 2), (2, 1, 2)] } := by kernel_rfl
@[simp] theorem el63 : elemOf ctx 63 = some { size := 5, bytes := 40, agg := true, zero := [.int .i64 0, .int .i64 0, .int .i64 0, .int .i64 0, .bool false], fields := [(0, 1, 2), (1, 1, 2), (2, 1, 2), (3, 1, 2), (4, 1, 4)] } := by kernel_rfl
@[simp] theorem el67 : elemOf ctx 67 = some { size := 5, bytes := 40, agg := true, zero := [.int .i64 0, .int .i64 0, .int .i64 0, .int .i64 0, .bool false], fields := [(0, 2, 305), (2, 1, 2), (3, 1, 2), (4, 1, 4)] } := by kernel_rfl
@[simp] theorem el70 : elemOf ctx 70 = some { size := 9, bytes := 72, agg := true, zero := [.int .i64 0, .int .i64 0, .int .i64 0, .int .i64 0, .int .i64 0, .int .i64 0, .int .i64 0, .int .i64 0, .int .i64 0], fields := [(0, 1, 2), (1, 1, 2), (2, 1, 2), (3, 1, 2), (4, 1, 2), (5, 1, 2), (6, 1, 2), (7, 1, 2), (8, 1, 2)] } := by kernel_rfl
@[simp] theorem el71 : elemOf ctx 71 = some { size := 5, bytes := 56, agg := true, zero := [.int .i64 0, .int .i64 0, .int .i64 0, .nil, .int .i64 0], fields := [(0, 1, 2), (1, 1, 2), (2, 1, 2), (3, 1, 31), (4, 1, 2)] } := by kernel_rfl
@[simp] theorem el72 : elemOf ctx 72 = some { size := 4, bytes := 32, agg := true, zero := [.int .i64 0, .int .i64 0, .int .i64 0, .int .i64 0], fields := [(0, 1, 2), (1, 1, 2), (2, 1, 2), (3, 1, 2)] } := by kernel_rfl
@[simp] theorem el155 : elemOf ctx 155 = some { size := 3, bytes := 24, agg := true, zero := [.int .i64 0, .int .i64 0, .int .i64 0], fields := [(0, 1, 2), (1, 1, 2), (2, 1, 2)] } := by kernel_rfl
@[simp] theorem el203 : elemOf ctx 203 = some { size := 3, bytes := 24, agg := true, zero := [.int .i64 0, .int .i64 0, .int .i64 0], fields := [(0, 1, 2), (1, 1, 2), (2, 1, 2)] } := by kernel_rfl
@[simp] theorem el387 : elemOf ctx 387 = some { size := 1, bytes := 8, agg := false, zero := [.int .i64 0], ik := some .i64 } := by kernel_rfl
@[simp] theorem el388 : elemOf ctx 388 = some { size := 1, bytes := 24, agg := false, zero := [.nil], elem := some 273 } := by kernel_rfl
@[simp] theorem eq4 (a b) : ctx.eqA 4 (.bool a) (.bool b) = some (a == b) := rfl
@[simp] theorem eq174 (xs ys) : ctx.eqA 174 (.agg xs) (.agg ys) = eqL (some [.i .i64, .i .i64]) xs ys := rfl
@[simp] theorem eqL_some (ls xs ys) : eqL (some ls) xs ys = if xs.map lfOf = ls.map some ∧ ys.map lfOf = ls.map some then some (cellsEq xs ys) else none := rfl
theorem okC : ctx.Ok where
  mix := by kernel_rfl
  tys := tys
  eqs := by
    intro t x y b h
    change eqT t x y = some b at h
    unfold eqT at h
    split at h
    · cases h; exact eq_bool (by kernel_rfl)
    · rename_i xs ys _
      unfold lvs at h
      split at h
      · rw [eqL_some] at h
        split at h
        · rename_i hk
          cases h; exact eq_struct ok0 (by kernel_rfl) (by kernel_rfl) (by kernel_rfl) hk.1 hk.2
        · cases h
      · cases h
    · cases h
end Go.AE.Tryz
end

section
/- Contracts of the smallest functions. -/
set_option maxRecDepth 8000
set_option maxHeartbeats 2000000
namespace Go.AE.Tryz
open Go.Proofs
open List (map_take map_drop map_tail)

theorem wrap_pred {n : Nat} (h : n ≤ LIM) : IntKind.i64.wrap ((n : Int) - 1) = (n : Int) - 1 := by
  simp only [LIM] at h
  rw [i64_ok (by omega)]
theorem wrap_succ {i n : Nat} (h : i < n) (hn : n ≤ LIM) : IntKind.i64.wrap ((i : Int) + 1) = ((i + 1 : Nat) : Int) := by
  simp only [LIM] at hn
  rw [i64_ok (by omega)]; omega
theorem c_within {x lo hi : Int} : PC ctx.P 106 [.int .i64 x, .int .i64 lo, .int .i64 hi] (.bool (inR x lo hi)) := by
  refine PC.o okC Tryz.func106 rfl (.bool _) fun h nx hnx => ?_
  try simp [-map_take, -map_drop, -map_tail, rgs, inR]
  repeat' first | done | ((with_reducible refine guardS_split ?_ ?_) <;> intro qb <;> (have qp := qb; try simp only [psq] at qp) <;> simp [-map_take, -map_drop, -map_tail, rgs, inR, qb])
end Go.AE.Tryz
end

section
/- Contracts of the program's copies of rows as new rows. -/
set_option maxRecDepth 8000
set_option maxHeartbeats 2000000
namespace Go.AE.Tryz
open Go.Proofs

theorem f_cloneInsS {p : Bool} {xs : List Inn} (hl : xs.length ≤ MLIM) : FC ctx.P 99 [.view p 3 (xs.map innC)] (.ref 0 3 0 (xs.map innC).length) [.row 3 (xs.map innC)] := by
  refine FC.o1 okC Tryz.func99 rfl (fz_mapR innC_fz xs) fun h nx hnx => ?_
  simp
  refine nil_eq (rows := xs.map innC) rfl rfl rfl (.inl ⟨_, _, rfl⟩) fun b hb => ?_
  simp [nextS]
  refine condS_split ?_ ?_ <;> intro hb2 <;> simp [resultsA, resA]
  · exact fin1_nil (by simp) (by simp; omega) (hb hb2)
  · refine app_end rfl rfl (by decide) (by decide) (by simp; rfl) (by simp; rfl) (by simp) (by simpa using hl) (by simp [innC, hanC]) ?_
    simp [resultsA, resA]
    exact fin1_ref (by simp [Nat.add_assoc]) (by simp; omega) (by omega) (by simp) rfl (by simp)

theorem f_cloneNodeS {p : Bool} {xs : List Nod} (hl : xs.length ≤ MLIM) : FC ctx.P 257 [.view p 5 (xs.map nodC)] (.ref 0 5 0 (xs.map nodC).length) [.row 5 (xs.map nodC)] := by
  refine FC.o1 okC Tryz.func257 rfl (fz_mapR nodC_fz xs) fun h nx hnx => ?_
  simp
  refine nil_eq (rows := xs.map nodC) rfl rfl rfl (.inl ⟨_, _, rfl⟩) fun b hb => ?_
  simp [nextS]
  refine condS_split ?_ ?_ <;> intro hb2 <;> simp [resultsA, resA]
  · exact fin1_nil (by simp) (by simp; omega) (hb hb2)
  · refine app_end rfl rfl (by decide) (by decide) (by simp; rfl) (by simp; rfl) (by simp) (by simpa using hl) (by simp [nodC, hanC]) ?_
    simp [resultsA, resA]
    exact fin1_ref (by simp [Nat.add_assoc]) (by simp; omega) (by omega) (by simp) rfl (by simp)

theorem f_cloneEventS {p : Bool} {xs : List Evt} (hl : xs.length ≤ MLIM) : FC ctx.P 258 [.view p 4 (xs.map evtC)] (.ref 0 4 0 (xs.map evtC).length) [.row 4 (xs.map evtC)] := by
  refine FC.o1 okC Tryz.func258 rfl (fz_mapR evtC_fz xs) fun h nx hnx => ?_
  simp
  refine nil_eq (rows := xs.map evtC) rfl rfl rfl (.inl ⟨_, _, rfl⟩) fun b hb => ?_
  simp [nextS]
  refine condS_split ?_ ?_ <;> intro hb2 <;> simp [resultsA, resA]
  · exact fin1_nil (by simp) (by simp; omega) (hb hb2)
  · refine app_end rfl rfl (by decide) (by decide) (by simp; rfl) (by simp; rfl) (by simp) (by simpa using hl) (by simp [evtC, hanC]) ?_
    simp [resultsA, resA]
    exact fin1_ref (by simp [Nat.add_assoc]) (by simp; omega) (by omega) (by simp) rfl (by simp)

theorem f_cloneTwigS {p : Bool} {xs : List Twg} (hl : xs.length ≤ MLIM) : FC ctx.P 345 [.view p 3 (xs.map twgC)] (.ref 0 3 0 (xs.map twgC).length) [.row 3 (xs.map twgC)] := by
  refine FC.o1 okC Tryz.func345 rfl (fz_mapR twgC_fz xs) fun h nx hnx => ?_
  simp
  refine nil_eq (rows := xs.map twgC) rfl rfl rfl (.inl ⟨_, _, rfl⟩) fun b hb => ?_
  simp [nextS]
  refine condS_split ?_ ?_ <;> intro hb2 <;> simp [resultsA, resA]
  · exact fin1_nil (by simp) (by simp; omega) (hb hb2)
  · refine app_end rfl rfl (by decide) (by decide) (by simp; rfl) (by simp; rfl) (by simp) (by simpa using hl) (by simp [twgC, hanC]) ?_
    simp [resultsA, resA]
    exact fin1_ref (by simp [Nat.add_assoc]) (by simp; omega) (by omega) (by simp) rfl (by simp)

theorem f_cloneTimerS {p : Bool} {xs : List Tmr} (hl : xs.length ≤ MLIM) : FC ctx.P 294 [.view p 5 (xs.map tmrC)] (.ref 0 5 0 (xs.map tmrC).length) [.row 5 (xs.map tmrC)] := by
  refine FC.o1 okC Tryz.func294 rfl (fz_mapR tmrC_fz xs) fun h nx hnx => ?_
  simp
  refine nil_eq (rows := xs.map tmrC) rfl rfl rfl (.inl ⟨_, _, rfl⟩) fun b hb => ?_
  simp [nextS]
  refine condS_split ?_ ?_ <;> intro hb2 <;> simp [resultsA, resA]
  · exact fin1_nil (by simp) (by simp; omega) (hb hb2)
  · refine app_end rfl rfl (by decide) (by decide) (by simp; rfl) (by simp; rfl) (by simp) (by simpa using hl) (by simp [tmrC, hanC]) ?_
    simp [resultsA, resA]
    exact fin1_ref (by simp [Nat.add_assoc]) (by simp; omega) (by omega) (by simp) rfl (by simp)

theorem f_cloneAfterS {p : Bool} {xs : List Afr} (hl : xs.length ≤ MLIM) : FC ctx.P 347 [.view p 5 (xs.map afrC)] (.ref 0 5 0 (xs.map afrC).length) [.row 5 (xs.map afrC)] := by
  refine FC.o1 okC Tryz.func347 rfl (fz_mapR afrC_fz xs) fun h nx hnx => ?_
  simp
  refine nil_eq (rows := xs.map afrC) rfl rfl rfl (.inl ⟨_, _, rfl⟩) fun b hb => ?_
  simp [nextS]
  refine condS_split ?_ ?_ <;> intro hb2 <;> simp [resultsA, resA]
  · exact fin1_nil (by simp) (by simp; omega) (hb hb2)
  · refine app_end rfl rfl (by decide) (by decide) (by simp; rfl) (by simp; rfl) (by simp) (by simpa using hl) (by simp [afrC, hanC]) ?_
    simp [resultsA, resA]
    exact fin1_ref (by simp [Nat.add_assoc]) (by simp; omega) (by omega) (by simp) rfl (by simp)

theorem f_cloneTaskS {p : Bool} {xs : List Tsk} (hl : xs.length ≤ MLIM) : FC ctx.P 262 [.view p 9 (xs.map tskC)] (.ref 0 9 0 (xs.map tskC).length) [.row 9 (xs.map tskC)] := by
  refine FC.o1 okC Tryz.func262 rfl (fz_mapR tskC_fz xs) fun h nx hnx => ?_
  simp
  refine nil_eq (rows := xs.map tskC) rfl rfl rfl (.inl ⟨_, _, rfl⟩) fun b hb => ?_
  simp [nextS]
  refine condS_split ?_ ?_ <;> intro hb2 <;> simp [resultsA, resA]
  · exact fin1_nil (by simp) (by simp; omega) (hb hb2)
  · refine app_end rfl rfl (by decide) (by decide) (by simp; rfl) (by simp; rfl) (by simp) (by simpa using hl) (by simp [tskC, hanC]) ?_
    simp [resultsA, resA]
    exact fin1_ref (by simp [Nat.add_assoc]) (by simp; omega) (by omega) (by simp) rfl (by simp)

theorem f_cloneSightS {p : Bool} {xs : List Sgt} (hl : xs.length ≤ MLIM) : FC ctx.P 264 [.view p 4 (xs.map sgtC)] (.ref 0 4 0 (xs.map sgtC).length) [.row 4 (xs.map sgtC)] := by
  refine FC.o1 okC Tryz.func264 rfl (fz_mapR sgtC_fz xs) fun h nx hnx => ?_
  simp
  refine nil_eq (rows := xs.map sgtC) rfl rfl rfl (.inl ⟨_, _, rfl⟩) fun b hb => ?_
  simp [nextS]
  refine condS_split ?_ ?_ <;> intro hb2 <;> simp [resultsA, resA]
  · exact fin1_nil (by simp) (by simp; omega) (hb hb2)
  · refine app_end rfl rfl (by decide) (by decide) (by simp; rfl) (by simp; rfl) (by simp) (by simpa using hl) (by simp [sgtC, hanC]) ?_
    simp [resultsA, resA]
    exact fin1_ref (by simp [Nat.add_assoc]) (by simp; omega) (by omega) (by simp) rfl (by simp)

theorem f_cloneInt64S {p : Bool} {xs : List Int} (hl : xs.length ≤ MLIM) : FC ctx.P 265 [.view p 1 (xs.map iv)] (.ref 0 1 0 (xs.map iv).length) [.row 1 (xs.map iv)] := by
  refine FC.o1 okC Tryz.func265 rfl (fz_mapR iv_fz xs) fun h nx hnx => ?_
  simp
  refine nil_eq (rows := xs.map iv) rfl rfl rfl (.inl ⟨_, _, rfl⟩) fun b hb => ?_
  simp [nextS]
  refine condS_split ?_ ?_ <;> intro hb2 <;> simp [resultsA, resA]
  · exact fin1_nil (by simp) (by simp; omega) (hb hb2)
  · refine app_end rfl rfl (by decide) (by decide) (by simp; rfl) (by simp; rfl) (by simp) (by simpa using hl) (by simp [iv, hanC]) ?_
    simp [resultsA, resA]
    exact fin1_ref (by simp [Nat.add_assoc]) (by simp; omega) (by omega) (by simp) rfl (by simp)

theorem f_cloneBoolS {p : Bool} {xs : List Bool} (hl : xs.length ≤ MLIM) : FC ctx.P 344 [.view p 1 (xs.map bv)] (.ref 0 1 0 (xs.map bv).length) [.row 1 (xs.map bv)] := by
  refine FC.o1 okC Tryz.func344 rfl (fz_mapR bv_fz xs) fun h nx hnx => ?_
  simp
  refine nil_eq (rows := xs.map bv) rfl rfl rfl (.inl ⟨_, _, rfl⟩) fun b hb => ?_
  simp [nextS]
  refine condS_split ?_ ?_ <;> intro hb2 <;> simp [resultsA, resA]
  · exact fin1_nil (by simp) (by simp; omega) (hb hb2)
  · refine app_end rfl rfl (by decide) (by decide) (by simp; rfl) (by simp; rfl) (by simp) (by simpa using hl) (by simp [bv, hanC]) ?_
    simp [resultsA, resA]
    exact fin1_ref (by simp [Nat.add_assoc]) (by simp; omega) (by omega) (by simp) rfl (by simp)

end Go.AE.Tryz
end

section
/- Contracts of the program's copies of a world's parts as new rows. -/
set_option maxRecDepth 8000
set_option maxHeartbeats 2000000
namespace Go.AE.Tryz
open Go.Proofs
open List (map_take map_drop map_tail)

theorem f_cloneSlots {F : Nat → Bool} {s : Slt} (h1 : s.ages.length ≤ MLIM) (h2 : s.used.length ≤ MLIM) : FC ctx.P 346 [.agg (sltV F s)] (.agg [.ref 0 1 0 s.ages.length, .ref 1 1 0 s.used.length]) [.row 1 (s.ages.map iv), .row 1 (s.used.map bv)] := by
  refine FC.o okC Tryz.func346 rfl ((.one _ (.agg _ fun c hc => by simp at hc; rcases hc with rfl | rfl <;> first | exact .ref _ _ _ _ (by simp) | exact .fz _ (.int _ _)))) ((fun e he => by simp at he; rcases he with rfl | rfl <;> first | exact fz_mapR iv_fz _ | exact fz_mapR bv_fz _ | exact fz_mapR twgC_fz _ | exact fz_mapR tmrC_fz _ | exact fz_mapR afrC_fz _)) fun h nx hnx => ?_
  try simp [-map_take, -map_drop, -map_tail, rgs, sltV]
  repeat' first | done | ((first | ((with_reducible show doCall _ _ _ 265 _ _); refine call_fc (f_cloneInt64S h1) ?_) | ((with_reducible show doCall _ _ _ 344 _ _); refine call_fc (f_cloneBoolS h2) ?_) | (with_reducible refine go_draw (i := 1) [(0, [], []), (1, [], []), (3, [], []), (4, [], []), (2, [.tmp 6], []), (5, [], []), (6, [], []), (7, [], [])] (by kernel_rfl) ?_)) <;> simp [-map_take, -map_drop, -map_tail, rgs, sltV]) | fail
  exact finF2 (i := nx + 10) (j := nx + 11) keepA (by omega) (by omega) (by omega) (by simp) (by simp) (by simp)

theorem f_cloneSpread {F : Nat → Bool} {s : Spr} (h1 : s.told.length ≤ MLIM) (h2 : s.work.length ≤ MLIM) : FC ctx.P 259 [.agg (sprV F s)] (.agg [.ref 0 1 0 s.told.length, .ref 1 1 0 s.work.length]) [.row 1 (s.told.map bv), .row 1 (s.work.map iv)] := by
  refine FC.o okC Tryz.func259 rfl ((.one _ (.agg _ fun c hc => by simp at hc; rcases hc with rfl | rfl <;> first | exact .ref _ _ _ _ (by simp) | exact .fz _ (.int _ _)))) ((fun e he => by simp at he; rcases he with rfl | rfl <;> first | exact fz_mapR iv_fz _ | exact fz_mapR bv_fz _ | exact fz_mapR twgC_fz _ | exact fz_mapR tmrC_fz _ | exact fz_mapR afrC_fz _)) fun h nx hnx => ?_
  try simp [-map_take, -map_drop, -map_tail, rgs, sprV]
  repeat' first | done | ((first | ((with_reducible show doCall _ _ _ 344 _ _); refine call_fc (f_cloneBoolS h1) ?_) | ((with_reducible show doCall _ _ _ 265 _ _); refine call_fc (f_cloneInt64S h2) ?_) | (with_reducible refine go_draw (i := 1) [(0, [], []), (1, [], []), (3, [], []), (4, [], []), (2, [.tmp 6], []), (5, [], []), (6, [], []), (7, [], [])] (by kernel_rfl) ?_)) <;> simp [-map_take, -map_drop, -map_tail, rgs, sprV]) | fail
  exact finF2 (i := nx + 10) (j := nx + 11) keepA (by omega) (by omega) (by omega) (by simp) (by simp) (by simp)

theorem f_cloneTimers {F : Nat → Bool} {s : Tms} (h1 : s.heap.length ≤ MLIM) (h2 : s.list.length ≤ MLIM) : FC ctx.P 260 [.agg (tmsV F s)] (.agg [.ref 0 3 0 s.heap.length, .ref 1 5 0 s.list.length, .int .i64 s.next]) [.row 3 (s.heap.map twgC), .row 5 (s.list.map tmrC)] := by
  refine FC.o okC Tryz.func260 rfl ((.one _ (.agg _ fun c hc => by simp at hc; rcases hc with rfl | rfl | rfl <;> first | exact .ref _ _ _ _ (by simp) | exact .fz _ (.int _ _)))) ((fun e he => by simp at he; rcases he with rfl | rfl <;> first | exact fz_mapR iv_fz _ | exact fz_mapR bv_fz _ | exact fz_mapR twgC_fz _ | exact fz_mapR tmrC_fz _ | exact fz_mapR afrC_fz _)) fun h nx hnx => ?_
  try simp [-map_take, -map_drop, -map_tail, rgs, tmsV]
  repeat' first | done | ((first | ((with_reducible show doCall _ _ _ 345 _ _); refine call_fc (f_cloneTwigS h1) ?_) | ((with_reducible show doCall _ _ _ 294 _ _); refine call_fc (f_cloneTimerS h2) ?_) | (with_reducible refine go_draw (i := 1) [(0, [], []), (1, [], []), (3, [], []), (4, [], []), (6, [], []), (7, [], []), (2, [.tmp 6, .tmp 9], []), (5, [.tmp 9], []), (8, [], []), (9, [], [])] (by kernel_rfl) ?_)) <;> simp [-map_take, -map_drop, -map_tail, rgs, tmsV]) | fail
  exact finF2 (i := nx + 12) (j := nx + 13) keepA (by omega) (by omega) (by omega) (by simp) (by simp) (by simp)

theorem f_cloneAfters {F : Nat → Bool} {s : Afs} (h1 : s.slots.ages.length ≤ MLIM) (h2 : s.slots.used.length ≤ MLIM) (h3 : s.list.length ≤ MLIM) : FC ctx.P 261 [.agg (afsV F s)] (.agg [.ref 0 1 0 s.slots.ages.length, .ref 1 1 0 s.slots.used.length, .ref 2 5 0 s.list.length]) [.row 1 (s.slots.ages.map iv), .row 1 (s.slots.used.map bv), .row 5 (s.list.map afrC)] := by
  refine FC.o okC Tryz.func261 rfl ((.one _ (.agg _ fun c hc => by simp at hc; rcases hc with rfl | rfl | rfl <;> first | exact .ref _ _ _ _ (by simp) | exact .fz _ (.int _ _)))) ((fun e he => by simp at he; rcases he with rfl | rfl | rfl <;> first | exact fz_mapR iv_fz _ | exact fz_mapR bv_fz _ | exact fz_mapR twgC_fz _ | exact fz_mapR tmrC_fz _ | exact fz_mapR afrC_fz _)) fun h nx hnx => ?_
  try simp [-map_take, -map_drop, -map_tail, rgs, afsV, sltV]
  repeat' first | done | ((first | ((with_reducible show doCall _ _ _ 346 _ _); refine call_fc (f_cloneSlots (s := s.slots) (F := F) h1 h2) ?_) | ((with_reducible show doCall _ _ _ 347 _ _); refine call_fc (f_cloneAfterS h3) ?_) | (with_reducible refine go_draw (i := 1) [(0, [], []), (1, [], []), (3, [], []), (4, [], []), (2, [.tmp 6], []), (5, [], []), (6, [], []), (7, [], [])] (by kernel_rfl) ?_)) <;> simp [-map_take, -map_drop, -map_tail, rgs, afsV, sltV]) | fail
  exact finF3 (i := nx + 10) (j := nx + 11) (l := nx + 12) keepA (by omega) (by omega) (by omega) (by omega) (by omega) (by omega) (by simp) (by simp) (by simp) (by simp)

theorem f_cloneGroup {r : Bool} {g : Grp} (hm : g.waits.length ≤ MLIM) : FC ctx.P 263 [.agg (grpV r g)] (.agg (grpR g 0)) [.row 1 (g.waits.map iv)] := by
  refine FC.o okC Tryz.func263 rfl ((by simp only [grpR]; exact .one _ (.agg _ fun c hc => by simp at hc; rcases hc with rfl | rfl | rfl | rfl | rfl <;> first | exact .ref _ _ _ _ (by simp) | exact .fz _ (.int _ _)))) ((fun e he => by simp at he; subst he; exact fz_mapR iv_fz _)) fun h nx hnx => ?_
  try simp [-map_take, -map_drop, -map_tail, rgs, grpV]
  repeat' first | done | (((with_reducible show doCall _ _ _ 265 _ _); refine call_fc (f_cloneInt64S hm) ?_) <;> simp [-map_take, -map_drop, -map_tail, rgs, grpV]) | fail
  exact finF1 (i := nx + 7) keepA (by omega) (by simp) (by simp [grpR])

end Go.AE.Tryz
end

section
/- Contracts of the program's copies of worlds as new rows. -/
set_option maxRecDepth 8000
set_option maxHeartbeats 4000000
namespace Go.AE.Tryz
open Go.Proofs
open List (map_take map_drop map_tail)
theorem w_clonedProgs {p r : Bool} {xs : List (List Inn)} (hm : xs.length ≤ MLIM) (hi : ∀ x ∈ xs, x.length ≤ MLIM) : AC ctx.P 27 [.view p 1 (xs.map (prgV r))] (fun _ _ => True)
    (fun h nx v h' nx' => KeepB nx h' h ∧ ∃ id is, v = .ref id 1 0 xs.length ∧ h' id = some (.row 1 (List.zipWith prgR xs is)) ∧ is.length = xs.length ∧ nx ≤ id ∧ id < nx' ∧ id ∉ is ∧ Subs h' 3 (fun x : List Inn => x.map innC) xs is nx nx') := by
  have hlim : xs.length ≤ LIM := by simp only [MLIM, LIM] at *; omega
  refine AC.o okC Tryz.func27 rfl fun h nx hfr hnx hpre => ?_
  try simp [-map_take, -map_drop, -map_tail, rgs]
  repeat' first | done | (((with_reducible show lenS _ _ _ _ _ _); refine lenS_slice rfl fun _ => ?_) <;> simp [-map_take, -map_drop, -map_tail, rgs]) | fail
  refine go_upP (h0 := h) (nx0 := nx) [3, 5, 9, 10, 11, 12, 13, 14, 15, 16, 17, 18] (xs.length) (fun (i : Nat) a => [(9, .int .i64 i), (3, .ref a.1 1 0 i)]) (fun i (a : Nat × List Nat) h' n' => a.2.length = i ∧ h' a.1 = some (.row 1 (List.zipWith prgR xs a.2)) ∧ Subs h' 3 (fun x : List Inn => x.map innC) xs a.2 nx n' ∧ nx ≤ a.1 ∧ a.1 < n' ∧ a.1 ∉ a.2) ((nx + 1, [])) (by simp) ?_ keepA (by omega) ?_
  · simp [Subs.nil]
  · intro i a tm h' n' hle hJ hE hn' next hnx
    try dsimp only at hJ
    have hK : KeepB nx h' h := KeepB.sub hE keepA (by omega)
    simp [-map_take, -map_drop, -map_tail]
    obtain ⟨g2, hJ, hS, g0, g1, g3⟩ := hJ
    obtain ⟨id, is⟩ := a
    dsimp only at g2 hJ hS g0 g1 g3 ⊢
    subst g2
    have k1 : ∀ k, (id = n' + k) = False := fun k => by simp only [eq_iff_iff, iff_false]; omega
    by_cases hlt : is.length < xs.length
    · try simp [-map_take, -map_drop, -map_tail, rgs, prgV, k1, hJ, hlt]
      repeat' first | done | ((first | ((with_reducible show iaddrS _ _ _ _ _ _ _); refine iaddr_map rfl omA omA ?_) | ((with_reducible show doCall _ _ _ 99 _ _); refine call_fc (f_cloneInsS (hi _ (gt_mem (by omega) (by omega)))) ?_) | ((with_reducible show appS _ _ _ _ _ _ _ _); refine app_end rfl rfl (by decide) (by decide) (by (simp [-map_take, -map_drop, -map_tail, rgs, prgV, k1, hJ, hlt]; rfl)) (by (simp [-map_take, -map_drop, -map_tail, rgs, prgV, k1, hJ, hlt]; rfl)) (by (simp; omega)) (by (simp only [MLIM, LIM] at *; simp; omega)) (by simp [iv, bv]) ?_)) <;> simp [-map_take, -map_drop, -map_tail, rgs, prgV, k1, hJ, hlt]) | fail
      refine hnx.go (n' + 8, is ++ [n' + 10]) (by omega) (by simp [wrap_succ hlt hlim]) (by simp) keepA (by first | omega | (simp; omega)) ?_
      dsimp only
      refine ⟨by simp, ?_, hS.snoc (fun k hk => ?_) ?_ (by omega) (by omega) (by omega), by omega, by omega, ?_⟩
      · rw [zip_snoc hlt, upd_same]; rfl
      · have := hS.hi k hk
        have hne : k ≠ id := fun e => g3 (e ▸ hk)
        rw [upd_ne _ _ _ _ (by omega), upd_ne _ _ _ _ hne, upd_ne _ _ _ _ (by omega), upd_ne _ _ _ _ (by omega)]
      · rw [upd_ne _ _ _ _ (by omega), upd_ne _ _ _ _ (by omega), upd_ne _ _ _ _ (by omega), upd_same]
      · intro hm
        rcases List.mem_append.1 hm with hm | hm
        · have := hS.hi _ hm; omega
        · simp at hm
    · try simp [-map_take, -map_drop, -map_tail, rgs, k1, hJ, hlt]
      have he : is.length = xs.length := by omega
      exact ⟨keepA, id, ⟨rfl, he⟩, is, hJ, he, g0, by omega, g3, hS.keep (fun _ _ => rfl) (Nat.le_refl _) (by omega)⟩
theorem w_clonedA {F : Nat → Bool} {w : Wld} (hs : wldsz w ≤ 1048576) : AC ctx.P 124 [.agg (wldV F w)] (fun _ _ => True)
    (fun h nx v h' nx' => KeepB nx h' h ∧ ∃ X, v = .agg (wldR X w) ∧ WV h' X w ∧ ∀ id ∈ X.ids, nx ≤ id ∧ id < nx') := by
  simp only [wldsz, afssz, tmssz, sprsz, sltsz] at hs
  have hm : MLIM = 1099511627776 := rfl
  have hL : LIM = 140737488355328 := rfl
  have hlim : w.groups.length ≤ LIM := by omega
  refine AC.ghost ?_
  refine AC.o okC Tryz.func124 rfl fun h nx hfr hnx hpre => ?_
  try simp [-map_take, -map_drop, -map_tail, rgs, wldV]
  repeat' first | done | ((with_reducible refine go_draw (i := 2) [(0, [], []), (1, [], []), (3, [], []), (4, [], []), (6, [], []), (7, [], []), (2, [.tmp 10, .tmp 13], []), (9, [], []), (5, [.tmp 13], []), (8, [], []), (10, [], []), (11, [], []), (12, [], []), (13, [], []), (14, [], [])] (by kernel_rfl) ?_) <;> simp [-map_take, -map_drop, -map_tail, rgs, wldV]) | fail
  refine call_ac (w_clonedProgs (by omega) (fun x hx => by have := lsum_mem (·.length) hx; omega)) trivial ?_
  rintro r h1 n1 ⟨hK1, ip, isp, rfl, hrow1, hlen1, hlo1, hhi1, hni1, hS1⟩ hle1 hfr1
  dsimp only at hK1 hlo1 hle1 hS1
  have g0 := hK1 nx (by omega)
  have g1 := hK1 (nx + 1) (by omega)
  have g3 := hK1 (nx + 3) (by omega)
  simp at g0 g1 g3
  have k0 : ∀ k, (nx = n1 + k) = False := fun k => by simp only [eq_iff_iff, iff_false]; omega
  have k3 : ∀ k, (nx + 3 = n1 + k) = False := fun k => by simp only [eq_iff_iff, iff_false]; omega
  have k1 : ∀ k, (nx + 1 = n1 + k) = False := fun k => by simp only [eq_iff_iff, iff_false]; omega
  have j0 : (nx = n1) = False := by simp only [eq_iff_iff, iff_false]; omega
  have j1 : (nx + 1 = n1) = False := by simp only [eq_iff_iff, iff_false]; omega
  have j3 : (nx + 3 = n1) = False := by simp only [eq_iff_iff, iff_false]; omega
  try simp [-map_take, -map_drop, -map_tail, rgs, wldV, g0, g1, g3, k0, k1, k3, j0, j1, j3]
  repeat' first | done | ((first | ((with_reducible show lenS _ _ _ _ _ _); refine lenS_slice rfl fun _ => ?_) | ((with_reducible show doCall _ _ _ 257 _ _); refine call_fc (f_cloneNodeS (by omega)) ?_) | ((with_reducible show doCall _ _ _ 258 _ _); refine call_fc (f_cloneEventS (by omega)) ?_) | ((with_reducible show doCall _ _ _ 259 _ _); refine call_fc (f_cloneSpread (s := w.spread) (F := F) (by omega) (by omega)) ?_) | ((with_reducible show doCall _ _ _ 260 _ _); refine call_fc (f_cloneTimers (s := w.timers) (F := F) (by omega) (by omega)) ?_) | ((with_reducible show doCall _ _ _ 261 _ _); refine call_fc (f_cloneAfters (s := w.afters) (F := F) (by omega) (by omega) (by omega)) ?_) | ((with_reducible show doCall _ _ _ 262 _ _); refine call_fc (f_cloneTaskS (by omega)) ?_) | (with_reducible refine go_draw (i := 3) [(0, [], []), (1, [], []), (3, [], []), (4, [], []), (6, [], []), (7, [], []), (2, [.tmp 22, .tmp 25], []), (9, [], []), (5, [.tmp 25], []), (8, [], []), (10, [], []), (11, [], []), (12, [], []), (13, [], []), (14, [], [])] (by kernel_rfl) ?_)) <;> simp [-map_take, -map_drop, -map_tail, rgs, wldV, g0, g1, g3, k0, k1, k3, j0, j1, j3]) | fail
  generalize hH : upd _ (nx + 3) (some (Ent.obj [.int .i64 w.now, .ref ip 1 0 w.progs.length, .ref n1 5 0 w.tree.length, .ref (n1 + 1) 4 0 w.events.length, .ref (n1 + 17) 1 0 w.spread.told.length, .ref (n1 + 18) 1 0 w.spread.work.length, .ref (n1 + 19) 3 0 w.timers.heap.length, .ref (n1 + 20) 5 0 w.timers.list.length, .int .i64 w.timers.next, .ref (n1 + 21) 1 0 w.afters.slots.ages.length, .ref (n1 + 22) 1 0 w.afters.slots.used.length, .ref (n1 + 23) 5 0 w.afters.list.length, .ref (n1 + 31) 9 0 w.tasks.length, .nil, .view (F 14) 4 (w.sights.map sgtC), .view (F 15) 1 (w.began.map iv), .view (F 16) 1 (w.rang.map iv)])) = H2
  have o2 : H2 (nx + 3) = some (Ent.obj [.int .i64 w.now, .ref ip 1 0 w.progs.length, .ref n1 5 0 w.tree.length, .ref (n1 + 1) 4 0 w.events.length, .ref (n1 + 17) 1 0 w.spread.told.length, .ref (n1 + 18) 1 0 w.spread.work.length, .ref (n1 + 19) 3 0 w.timers.heap.length, .ref (n1 + 20) 5 0 w.timers.list.length, .int .i64 w.timers.next, .ref (n1 + 21) 1 0 w.afters.slots.ages.length, .ref (n1 + 22) 1 0 w.afters.slots.used.length, .ref (n1 + 23) 5 0 w.afters.list.length, .ref (n1 + 31) 9 0 w.tasks.length, .nil, .view (F 14) 4 (w.sights.map sgtC), .view (F 15) 1 (w.began.map iv), .view (F 16) 1 (w.rang.map iv)]) := by rw [← hH, upd_same]
  have a2 : H2 nx = some (Ent.obj (wldV F w)) := by
    rw [← hH]
    repeat rw [upd_ne _ _ _ _ (by omega)]
    rw [g0]; rfl
  have z2 : H2 (nx + 1) = h1 (nx + 1) := by
    rw [← hH]
    repeat rw [upd_ne _ _ _ _ (by omega)]
  rw [g1] at z2
  have hK2 : KeepB nx H2 h := fun j hj => by
    rw [← hH]
    repeat rw [upd_ne _ _ _ _ (by omega)]
    rw [hK1 j (by omega)]
    repeat rw [upd_ne _ _ _ _ (by omega)]
  have q0 : H2 ip = some (.row 1 (List.zipWith prgR w.progs isp)) := by
    rw [← hH]
    repeat rw [upd_ne _ _ _ _ (by omega)]
    exact hrow1
  have qs : ∀ i ∈ isp, H2 i = h1 i := fun i hi => by
    have := hS1.lo i hi
    have := hS1.hi i hi
    rw [← hH]
    repeat rw [upd_ne _ _ _ _ (by omega)]
  have q1 : H2 n1 = some (.row 5 (w.tree.map nodC)) := by
    rw [← hH]
    repeat (first | exact upd_same .. | rw [upd_ne _ _ _ _ (by omega)])
  have q2 : H2 (n1 + 1) = some (.row 4 (w.events.map evtC)) := by
    rw [← hH]
    repeat (first | exact upd_same .. | rw [upd_ne _ _ _ _ (by omega)])
  have q3 : H2 (n1 + 17) = some (.row 1 (w.spread.told.map bv)) := by
    rw [← hH]
    repeat (first | exact upd_same .. | rw [upd_ne _ _ _ _ (by omega)])
  have q4 : H2 (n1 + 18) = some (.row 1 (w.spread.work.map iv)) := by
    rw [← hH]
    repeat (first | exact upd_same .. | rw [upd_ne _ _ _ _ (by omega)])
  have q5 : H2 (n1 + 19) = some (.row 3 (w.timers.heap.map twgC)) := by
    rw [← hH]
    repeat (first | exact upd_same .. | rw [upd_ne _ _ _ _ (by omega)])
  have q6 : H2 (n1 + 20) = some (.row 5 (w.timers.list.map tmrC)) := by
    rw [← hH]
    repeat (first | exact upd_same .. | rw [upd_ne _ _ _ _ (by omega)])
  have q7 : H2 (n1 + 21) = some (.row 1 (w.afters.slots.ages.map iv)) := by
    rw [← hH]
    repeat (first | exact upd_same .. | rw [upd_ne _ _ _ _ (by omega)])
  have q8 : H2 (n1 + 22) = some (.row 1 (w.afters.slots.used.map bv)) := by
    rw [← hH]
    repeat (first | exact upd_same .. | rw [upd_ne _ _ _ _ (by omega)])
  have q9 : H2 (n1 + 23) = some (.row 5 (w.afters.list.map afrC)) := by
    rw [← hH]
    repeat (first | exact upd_same .. | rw [upd_ne _ _ _ _ (by omega)])
  have q10 : H2 (n1 + 31) = some (.row 9 (w.tasks.map tskC)) := by
    rw [← hH]
    repeat (first | exact upd_same .. | rw [upd_ne _ _ _ _ (by omega)])
  clear hH
  refine go_upP (h0 := h) (nx0 := nx) [5, 39, 40, 41, 42, 43, 44, 45, 46, 47, 48, 49, 50] (w.groups.length) (fun (i : Nat) a => [(39, .int .i64 i)]) (fun i (a : Nat × List Nat) h' n' => a.2.length = i ∧ h' (nx + 3) = some (Ent.obj [.int .i64 w.now, .ref ip 1 0 w.progs.length, .ref n1 5 0 w.tree.length, .ref (n1 + 1) 4 0 w.events.length, .ref (n1 + 17) 1 0 w.spread.told.length, .ref (n1 + 18) 1 0 w.spread.work.length, .ref (n1 + 19) 3 0 w.timers.heap.length, .ref (n1 + 20) 5 0 w.timers.list.length, .int .i64 w.timers.next, .ref (n1 + 21) 1 0 w.afters.slots.ages.length, .ref (n1 + 22) 1 0 w.afters.slots.used.length, .ref (n1 + 23) 5 0 w.afters.list.length, .ref (n1 + 31) 9 0 w.tasks.length, (if i = 0 then .nil else .ref a.1 5 0 i), .view (F 14) 4 (w.sights.map sgtC), .view (F 15) 1 (w.began.map iv), .view (F 16) 1 (w.rang.map iv)]) ∧ (0 < i → h' a.1 = some (.row 5 (List.zipWith grpR w.groups a.2)) ∧ n1 + 36 ≤ a.1 ∧ a.1 < n' ∧ a.1 ∉ a.2) ∧ Subs h' 1 (fun x : Grp => x.waits.map iv) w.groups a.2 (n1 + 36) n' ∧ n1 + 36 ≤ n' ∧ ∀ j, j < n1 + 36 → j ≠ nx + 3 → h' j = H2 j) ((0, [])) (by simp) ?_ keepA (by omega) ?_
  · simp [Subs.nil, o2]
  · intro i a tm h' n' hle hJ hE hn' next hnx
    try dsimp only at hJ
    have hK : KeepB nx h' h := KeepB.sub hE keepA (by omega)
    simp [-map_take, -map_drop, -map_tail]
    obtain ⟨id, is⟩ := a
    obtain ⟨e0, hO, hR, hS, hn2, hF⟩ := hJ
    dsimp only at e0 hO hR hS hn2 hF ⊢
    subst e0
    have aN := hF nx (by omega) (by omega)
    rw [a2] at aN
    have zN := hF (nx + 1) (by omega) (by omega)
    rw [z2] at zN
    have k5 : ∀ k, (nx = n' + k) = False := fun k => by simp only [eq_iff_iff, iff_false]; omega
    have k6 : ∀ k, (nx + 3 = n' + k) = False := fun k => by simp only [eq_iff_iff, iff_false]; omega
    have k7 : ∀ k, (nx + 1 = n' + k) = False := fun k => by simp only [eq_iff_iff, iff_false]; omega
    have k8 : (nx = n') = False := by simp only [eq_iff_iff, iff_false]; omega
    have k9 : (nx + 1 = n') = False := by simp only [eq_iff_iff, iff_false]; omega
    have kA : (nx + 2 = n') = False := by simp only [eq_iff_iff, iff_false]; omega
    have kB : (nx + 3 = n') = False := by simp only [eq_iff_iff, iff_false]; omega
    by_cases hlt : is.length < w.groups.length
    · by_cases h0 : is.length = 0
      · have hc : (gt w.groups (is.length : Int)).waits.length ≤ MLIM := by have := lsum_mem (·.waits.length) (gt_mem (show (0:Int) ≤ (is.length : Int) by omega) (show (is.length : Int) < w.groups.length by omega)); omega
        rw [if_pos h0] at hO
        try simp [-map_take, -map_drop, -map_tail, rgs, hO, aN, wldV, grpV, grpR, hlt, k5, k6, k7, k8, k9, kA, kB]
        repeat' first | done | ((first | ((with_reducible show iaddrS _ _ _ _ _ _ _); refine iaddr_map rfl omA omA ?_) | ((with_reducible show doCall _ _ _ 263 _ _); refine call_fc (f_cloneGroup (r := F 13) (g := gt w.groups (is.length : Int)) hc) ?_) | (with_reducible refine go_draw (i := 8) [(0, [], []), (1, [], [4]), (2, [], []), (3, [.tmp 43], []), (4, [], []), (5, [], []), (6, [], []), (7, [], [])] (by kernel_rfl) ?_)) <;> simp [-map_take, -map_drop, -map_tail, rgs, hO, aN, wldV, grpV, grpR, hlt, k5, k6, k7, k8, k9, kA, kB]) | fail
        refine app_nil rfl (by decide) (by decide) (by simp; rfl) (by simp [MLIM]) (by simp) ?_
        try simp [-map_take, -map_drop, -map_tail, rgs, hO, aN, wldV, grpV, grpR, hlt, k5, k6, k7, k8, k9, kA, kB]
        refine hnx.go (n' + 10, is ++ [n' + 13]) (by omega) (by simp [wrap_succ hlt hlim]) (by simp) keepA (by first | omega | (simp; omega)) ?_
        dsimp only
        refine ⟨by simp, ?_, fun _ => ⟨?_, by omega, by omega, ?_⟩, hS.snoc (fun k hk => ?_) ?_ (by omega) (by omega) (by omega), by omega, fun j hj hj2 => ?_⟩
        · rw [upd_same, if_neg (by omega)]
          try simp
          try exact List.eq_nil_of_length_eq_zero h0
        · rw [zip_snoc hlt]
          repeat (first | rw [upd_ne _ _ _ _ (by omega)] | rw [upd_same])
          simp [grpR]
          right; exact List.eq_nil_of_length_eq_zero h0
        · intro hm
          rcases List.mem_append.1 hm with hm | hm
          · have := hS.hi _ hm; omega
          · simp at hm
        · have := hS.hi k hk
          have := hS.lo k hk
          repeat rw [upd_ne _ _ _ _ (by omega)]
        · repeat (first | rw [upd_ne _ _ _ _ (by omega)] | rw [upd_same])
        · repeat rw [upd_ne _ _ _ _ (by omega)]
          exact hF j hj hj2
      · have hc : (gt w.groups (is.length : Int)).waits.length ≤ MLIM := by have := lsum_mem (·.waits.length) (gt_mem (show (0:Int) ≤ (is.length : Int) by omega) (show (is.length : Int) < w.groups.length by omega)); omega
        rw [if_neg h0] at hO
        obtain ⟨hR1, hR2, hR3, hR4⟩ := hR (by omega)
        have m1 : ∀ k, (id = n' + k) = False := fun k => by simp only [eq_iff_iff, iff_false]; omega
        have m2 : ∀ k, (nx + k = id) = (nx + k = id) := fun k => rfl
        have m3 : (nx + 3 = id) = False := by simp only [eq_iff_iff, iff_false]; omega
        have m4 : (nx = id) = False := by simp only [eq_iff_iff, iff_false]; omega
        try simp [-map_take, -map_drop, -map_tail, rgs, hO, hR1, aN, wldV, grpV, grpR, hlt, k5, k6, k7, k8, k9, kA, kB, m1, m3, m4]
        repeat' first | done | ((first | ((with_reducible show iaddrS _ _ _ _ _ _ _); refine iaddr_map rfl omA omA ?_) | ((with_reducible show doCall _ _ _ 263 _ _); refine call_fc (f_cloneGroup (r := F 13) (g := gt w.groups (is.length : Int)) hc) ?_) | ((with_reducible show appS _ _ _ _ _ _ _ _); refine app_end rfl rfl (by decide) (by decide) (by (simp [-map_take, -map_drop, -map_tail, rgs, hO, hR1, aN, wldV, grpV, grpR, hlt, k5, k6, k7, k8, k9, kA, kB, m1, m3, m4]; rfl)) (by (simp [-map_take, -map_drop, -map_tail, rgs, hO, hR1, aN, wldV, grpV, grpR, hlt, k5, k6, k7, k8, k9, kA, kB, m1, m3, m4]; rfl)) (by (simp; omega)) (by (simp only [MLIM, LIM] at *; simp; omega)) (by simp [iv, bv]) ?_) | (with_reducible refine go_draw (i := 8) [(0, [], []), (1, [], [4]), (2, [], []), (3, [.tmp 43], []), (4, [], []), (5, [], []), (6, [], []), (7, [], [])] (by kernel_rfl) ?_)) <;> simp [-map_take, -map_drop, -map_tail, rgs, hO, hR1, aN, wldV, grpV, grpR, hlt, k5, k6, k7, k8, k9, kA, kB, m1, m3, m4]) | fail
        refine hnx.go (n' + 10, is ++ [n' + 13]) (by omega) (by simp [wrap_succ hlt hlim]) (by simp) keepA (by first | omega | (simp; omega)) ?_
        dsimp only
        refine ⟨by simp, ?_, fun _ => ⟨?_, by omega, by omega, ?_⟩, hS.snoc (fun k hk => ?_) ?_ (by omega) (by omega) (by omega), by omega, fun j hj hj2 => ?_⟩
        · rw [upd_same, if_neg (by omega)]
          try simp
          try exact List.eq_nil_of_length_eq_zero h0
        · rw [zip_snoc hlt]
          repeat (first | rw [upd_ne _ _ _ _ (by omega)] | rw [upd_same])
          simp [grpR]
        · intro hm
          rcases List.mem_append.1 hm with hm | hm
          · have := hS.hi _ hm; omega
          · simp at hm
        · have := hS.hi k hk
          have := hS.lo k hk
          have hne : k ≠ id := fun e => hR4 (e ▸ hk)
          repeat rw [upd_ne _ _ _ _ (by omega)]
        · repeat (first | rw [upd_ne _ _ _ _ (by omega)] | rw [upd_same])
        · repeat rw [upd_ne _ _ _ _ (by omega)]
          exact hF j hj hj2
    · have he : is.length = w.groups.length := by omega
      have key : ∀ (HF : Heap) (id nn gl : Nat), gl = w.groups.length → (∀ j, j < n1 + 36 → j ≠ nx + 3 → j ≠ nx + 1 → HF j = H2 j) → (∀ k ∈ is, HF k = h' k) → HF id = some (.row 5 (List.zipWith grpR w.groups is)) → HF (n' + 16) = some (.row 4 (w.sights.map sgtC)) → HF (n' + 17) = some (.row 1 (w.began.map iv)) → HF (n' + 18) = some (.row 1 (w.rang.map iv)) →
          n1 + 36 ≤ id → id ∉ is → (id < n' ∨ n' + 18 < id) → id < nn → n' + 21 ≤ nn → KeepB nx HF h ∧ ∃ X, AV.agg [.int .i64 w.now, .ref ip 1 0 w.progs.length, .ref n1 5 0 w.tree.length, .ref (n1 + 1) 4 0 w.events.length, .ref (n1 + 17) 1 0 w.spread.told.length, .ref (n1 + 18) 1 0 w.spread.work.length, .ref (n1 + 19) 3 0 w.timers.heap.length, .ref (n1 + 20) 5 0 w.timers.list.length, .int .i64 w.timers.next, .ref (n1 + 21) 1 0 w.afters.slots.ages.length, .ref (n1 + 22) 1 0 w.afters.slots.used.length, .ref (n1 + 23) 5 0 w.afters.list.length, .ref (n1 + 31) 9 0 w.tasks.length, .ref id 5 0 gl, .ref (n' + 16) 4 0 w.sights.length, .ref (n' + 17) 1 0 w.began.length, .ref (n' + 18) 1 0 w.rang.length] = AV.agg (wldR X w) ∧ WV HF X w ∧ ∀ i ∈ X.ids, nx ≤ i ∧ i < nn := by
        intro HF id nn gl hgl c1 c2 c3 c4 c5 c6 c7 c8 c9 c10 c11
        subst hgl
        have t0 := (c1 ip (by omega) (by omega) (by omega)).trans q0
        have t1 := (c1 n1 (by omega) (by omega) (by omega)).trans q1
        have t2 := (c1 (n1 + 1) (by omega) (by omega) (by omega)).trans q2
        have t3 := (c1 (n1 + 17) (by omega) (by omega) (by omega)).trans q3
        have t4 := (c1 (n1 + 18) (by omega) (by omega) (by omega)).trans q4
        have t5 := (c1 (n1 + 19) (by omega) (by omega) (by omega)).trans q5
        have t6 := (c1 (n1 + 20) (by omega) (by omega) (by omega)).trans q6
        have t7 := (c1 (n1 + 21) (by omega) (by omega) (by omega)).trans q7
        have t8 := (c1 (n1 + 22) (by omega) (by omega) (by omega)).trans q8
        have t9 := (c1 (n1 + 23) (by omega) (by omega) (by omega)).trans q9
        have t10 := (c1 (n1 + 31) (by omega) (by omega) (by omega)).trans q10
        have nn1 : ∀ t, t < nx + 20 ∨ n1 ≤ t → t ∉ isp := fun t ht hm => by have := hS1.lo t hm; have := hS1.hi t hm; omega
        have nn2 : ∀ t, t < n1 + 36 ∨ n' ≤ t → t ∉ is := fun t ht hm => by have := hS.lo t hm; have := hS.hi t hm; omega
        refine ⟨fun j hj => (c1 j (by omega) (by omega) (by omega)).trans (hK2 j hj), WI.ofL [ip, n1, n1 + 1, n1 + 17, n1 + 18, n1 + 19, n1 + 20, n1 + 21, n1 + 22, n1 + 23, n1 + 31, id, n' + 16, n' + 17, n' + 18] isp is, rfl,
          WV.ofM (a := nx + 20) (b := n1) (c := n1 + 36) (d := n') t0 t1 t2 t3 t4 t5 t6 t7 t8 t9 t10 c3 c4 c5 c6 hlen1 he (hS1.keep (fun i hi => ?_) (Nat.le_refl _) (Nat.le_refl _)) (hS.keep c2 (Nat.le_refl _) (Nat.le_refl _)) (fun x hx y hy => ?_) ?_ (fun t ht => ?_), fun i hi => ?_⟩
        · have := hS1.lo i hi
          have := hS1.hi i hi
          rw [c1 i (by omega) (by omega) (by omega), qs i hi]
        · have := hS1.hi x hx
          have := hS.lo y hy
          omega
        · simp only [List.nodup_cons, List.mem_cons, List.not_mem_nil, or_false, not_or, List.nodup_nil, and_true, not_false_eq_true]
          omega
        · simp only [List.mem_cons, List.not_mem_nil, or_false] at ht
          rcases ht with rfl | rfl | rfl | rfl | rfl | rfl | rfl | rfl | rfl | rfl | rfl | rfl | rfl | rfl | rfl
          · exact ⟨hni1, nn2 _ (by omega)⟩
          all_goals first
          | exact ⟨nn1 _ (by omega), nn2 _ (by omega)⟩
          | exact ⟨nn1 _ (by omega), c8⟩
        · rw [WI.ofL_ids] at hi
          rcases List.mem_append.1 hi with hi | hi
          · simp only [List.mem_cons, List.not_mem_nil, or_false] at hi
            omega
          · rcases List.mem_append.1 hi with hi | hi
            · have := hS1.lo i hi; have := hS1.hi i hi; omega
            · have := hS.lo i hi; have := hS.hi i hi; omega
      by_cases hg : w.groups = []
      · have h0 : is.length = 0 := by rw [he, hg]; rfl
        rw [if_pos h0] at hO
        try simp [-map_take, -map_drop, -map_tail, rgs, hO, aN, zN, wldV, he, hlt, k5, k6, k7, k8, k9, kA, kB]
        repeat' first | done | ((first | ((with_reducible show doCall _ _ _ 264 _ _); refine call_fc (f_cloneSightS (by omega)) ?_) | ((with_reducible show doCall _ _ _ 265 _ _); refine call_fc (f_cloneInt64S (by omega)) ?_) | (with_reducible refine go_draw (i := 10) [(0, [], []), (1, [], []), (3, [], []), (4, [], []), (6, [], []), (7, [], []), (2, [.tmp 54, .tmp 57], []), (9, [], []), (5, [.tmp 57], []), (8, [], []), (10, [], []), (11, [], []), (12, [], []), (13, [], []), (14, [], [])] (by kernel_rfl) ?_)) <;> simp [-map_take, -map_drop, -map_tail, rgs, hO, aN, zN, wldV, he, hlt, k5, k6, k7, k8, k9, kA, kB]) | fail
        refine .nilR (i := 13) (sz := 5) rfl (by decide) (.done ?_)
        have hz : List.zipWith grpR w.groups is = [] := by rw [hg]; rfl
        have hl : w.groups.length = 0 := by rw [hg]; rfl
        refine key _ (n' + 21) (n' + 21 + 1) 0 hl.symm ?_ ?_ ?_ ?_ ?_ ?_ (by omega) (fun hm => by have := hS.hi _ hm; omega) (by omega) (by omega) (by omega)
        · intro j hj h3 h1
          repeat rw [upd_ne _ _ _ _ (by omega)]
          exact hF j hj h3
        · intro k hk
          have := hS.lo k hk
          have := hS.hi k hk
          repeat rw [upd_ne _ _ _ _ (by omega)]
        · rw [hz]; exact upd_same ..
        · repeat (first | exact upd_same .. | rw [upd_ne _ _ _ _ (by omega)])
        · repeat (first | exact upd_same .. | rw [upd_ne _ _ _ _ (by omega)])
        · repeat (first | exact upd_same .. | rw [upd_ne _ _ _ _ (by omega)])
      · have h0 : ¬ is.length = 0 := by rw [he]; simpa using hg
        rw [if_neg h0] at hO
        obtain ⟨hR1, hR2, hR3, hR4⟩ := hR (by omega)
        try simp [-map_take, -map_drop, -map_tail, rgs, hO, aN, zN, wldV, he, hlt, k5, k6, k7, k8, k9, kA, kB]
        repeat' first | done | ((first | ((with_reducible show doCall _ _ _ 264 _ _); refine call_fc (f_cloneSightS (by omega)) ?_) | ((with_reducible show doCall _ _ _ 265 _ _); refine call_fc (f_cloneInt64S (by omega)) ?_) | (with_reducible refine go_draw (i := 10) [(0, [], []), (1, [], []), (3, [], []), (4, [], []), (6, [], []), (7, [], []), (2, [.tmp 54, .tmp 57], []), (9, [], []), (5, [.tmp 57], []), (8, [], []), (10, [], []), (11, [], []), (12, [], []), (13, [], []), (14, [], [])] (by kernel_rfl) ?_)) <;> simp [-map_take, -map_drop, -map_tail, rgs, hO, aN, zN, wldV, he, hlt, k5, k6, k7, k8, k9, kA, kB]) | fail
        refine .done (key _ id (n' + 21) _ rfl ?_ ?_ ?_ ?_ ?_ ?_ (by omega) hR4 (by omega) (by omega) (by omega))
        · intro j hj h3 h1
          repeat rw [upd_ne _ _ _ _ (by omega)]
          exact hF j hj h3
        · intro k hk
          have := hS.lo k hk
          have := hS.hi k hk
          repeat rw [upd_ne _ _ _ _ (by omega)]
        · repeat rw [upd_ne _ _ _ _ (by omega)]
          exact hR1
        · repeat (first | exact upd_same .. | rw [upd_ne _ _ _ _ (by omega)])
        · repeat (first | exact upd_same .. | rw [upd_ne _ _ _ _ (by omega)])
        · repeat (first | exact upd_same .. | rw [upd_ne _ _ _ _ (by omega)])
end Go.AE.Tryz
end

section
/- Contracts of what is generic. -/
set_option maxRecDepth 8000
set_option maxHeartbeats 2000000
namespace Go.AE.Tryz
open Go.Proofs
open List (map_take map_drop map_tail)

theorem c_size_Ins {p : Bool} {xs : List Inn} : PC ctx.P 212 [.view p 3 (xs.map innC)] (.int .i64 xs.length) := by
  refine PC.o okC Tryz.func212 rfl (.int _ _) fun h nx hnx => ?_
  try simp [-map_take, -map_drop, -map_tail, rgs]
  repeat' first | done | (((with_reducible show lenS _ _ _ _ _ _); refine lenS_slice rfl fun _ => ?_) <;> simp [-map_take, -map_drop, -map_tail, rgs]) | fail

theorem c_IndexFunc_Ins {p : Bool} {xs : List Inn} {q : Inn → Bool} {fv : AV} (hq : ∀ x ∈ xs, FV ctx.P fv [.agg (innC x)] (.bool (q x))) :
    PC ctx.P 325 [.view p 3 (xs.map innC), fv] (.int .i64 (idxI q xs 0)) := by
  refine PC.lim (n := xs.length) (x := .view p 3 (xs.map innC)) (by simp) (.here (by simp)) ⟨_, Tryz.func325, by kernel_rfl, by kernel_rfl⟩ fun hlim => ?_
  refine PC.o okC Tryz.func325 rfl (.int _ _) fun h nx hnx => ?_
  try simp [-map_take, -map_drop, -map_tail, rgs]
  repeat' first | done | (((with_reducible show lenS _ _ _ _ _ _); refine lenS_slice rfl fun _ => ?_) <;> simp [-map_take, -map_drop, -map_tail, rgs]) | fail
  refine go_upP [4, 5, 8, 9, 10, 11, 12, 13, 14, 15, 16, 17, 18] (xs.length) (fun (i : Nat) a => [(8, .int .i64 i)]) (fun i_ a_ h_ _ => (fun i (_ : Unit) _ => idxI q (xs.drop i) i = idxI q xs 0) i_ a_ h_) (()) (by simp) ?_ keep_rfl (Nat.le_refl _) ?_
  · simp
  · intro i a tm h' n' hle hJ hE hn' next hnx
    try dsimp only at hJ
    have hK : KeepB nx h' h := KeepB.sub hE keepA (by omega)
    simp [-map_take, -map_drop, -map_tail]
    repeat' first | done | ((first | ((with_reducible show iaddrS _ _ _ _ _ _ _); refine iaddr_map rfl omA omA ?_) | (refine call_fv (hq _ (gt_mem (by omega) (by omega))) ?_)) <;> simp [-map_take, -map_drop, -map_tail, rgs, innC]) | ((with_reducible refine condS_split ?_ ?_) <;> intro qb <;> (have qp := qb; try simp only [psq] at qp) <;> simp [-map_take, -map_drop, -map_tail, rgs, innC, qb])
    all_goals
      first
      | (have hlt : i < xs.length := (by first | omega | (simp at *; omega))
         rw [drop_gt hlt] at hJ
         first
         | (refine hnx.go (()) ?_ ?_ ?_ ?_ ?_ ?_; omega; (simp [wrap_succ hlt hlim]); (simp); exact keepA; (first | omega | (simp; omega)); (try dsimp only); clear hnx; first | ((try simp only [List.drop_length, Int.toNat_natCast, idxI] at hJ ⊢); grind) | (simp_all [idxI]; done) | (simp_all; omega))
         | (refine ⟨?_, keepA⟩; clear hnx; first | ((try simp only [List.drop_length, Int.toNat_natCast, idxI] at hJ ⊢); grind) | (simp_all [idxI]; done) | (simp_all; omega)))
      | (obtain rfl : i = xs.length := (by first | omega | (simp at *; omega))
         refine ⟨?_, keepA⟩; clear hnx; first | ((try simp only [List.drop_length, Int.toNat_natCast, idxI] at hJ ⊢); grind) | (simp_all [idxI]; done) | (simp_all; omega))

theorem c_ContainsFunc_Ins {p : Bool} {xs : List Inn} {q : Inn → Bool} {fv : AV} (hq : ∀ x ∈ xs, FV ctx.P fv [.agg (innC x)] (.bool (q x))) :
    PC ctx.P 219 [.view p 3 (xs.map innC), fv] (.bool (xs.any q)) := by
  refine PC.o okC Tryz.func219 rfl (.bool _) fun h nx hnx => ?_
  try simp [-map_take, -map_drop, -map_tail, rgs, idxI_any q xs 0 (Int.le_refl 0)]
  repeat' first | done | (((with_reducible show doCall _ _ _ 325 _ _); refine call_pc (c_IndexFunc_Ins hq) ?_) <;> simp [-map_take, -map_drop, -map_tail, rgs, idxI_any q xs 0 (Int.le_refl 0)]) | fail


theorem c_size_Node {p : Bool} {xs : List Nod} : PC ctx.P 132 [.view p 5 (xs.map nodC)] (.int .i64 xs.length) := by
  refine PC.o okC Tryz.func132 rfl (.int _ _) fun h nx hnx => ?_
  try simp [-map_take, -map_drop, -map_tail, rgs]
  repeat' first | done | (((with_reducible show lenS _ _ _ _ _ _); refine lenS_slice rfl fun _ => ?_) <;> simp [-map_take, -map_drop, -map_tail, rgs]) | fail

theorem c_isIn_Node {p : Bool} {n : Int} {xs : List Nod} : PC ctx.P 113 [.int .i64 n, .view p 5 (xs.map nodC)] (.bool (isIn n xs)) := by
  refine PC.lim (n := xs.length) (x := .view p 5 (xs.map nodC)) (by simp) (.here (by simp)) ⟨_, Tryz.func113, by kernel_rfl, by kernel_rfl⟩ fun hlim => ?_
  refine PC.o okC Tryz.func113 rfl (.bool _) fun h nx hnx => ?_
  try simp [-map_take, -map_drop, -map_tail, rgs, wrap_pred hlim, isIn]
  repeat' first | done | ((first | ((with_reducible show doCall _ _ _ 132 _ _); refine call_pc (c_size_Node) ?_) | ((with_reducible show doCall _ _ _ 106 _ _); refine call_pc (c_within) ?_)) <;> simp [-map_take, -map_drop, -map_tail, rgs, wrap_pred hlim, isIn]) | fail




theorem c_size_Event {p : Bool} {xs : List Evt} : PC ctx.P 255 [.view p 4 (xs.map evtC)] (.int .i64 xs.length) := by
  refine PC.o okC Tryz.func255 rfl (.int _ _) fun h nx hnx => ?_
  try simp [-map_take, -map_drop, -map_tail, rgs]
  repeat' first | done | (((with_reducible show lenS _ _ _ _ _ _); refine lenS_slice rfl fun _ => ?_) <;> simp [-map_take, -map_drop, -map_tail, rgs]) | fail


theorem c_IndexFunc_Event {p : Bool} {xs : List Evt} {q : Evt → Bool} {fv : AV} (hq : ∀ x ∈ xs, FV ctx.P fv [.agg (evtC x)] (.bool (q x))) :
    PC ctx.P 329 [.view p 4 (xs.map evtC), fv] (.int .i64 (idxI q xs 0)) := by
  refine PC.lim (n := xs.length) (x := .view p 4 (xs.map evtC)) (by simp) (.here (by simp)) ⟨_, Tryz.func329, by kernel_rfl, by kernel_rfl⟩ fun hlim => ?_
  refine PC.o okC Tryz.func329 rfl (.int _ _) fun h nx hnx => ?_
  try simp [-map_take, -map_drop, -map_tail, rgs]
  repeat' first | done | (((with_reducible show lenS _ _ _ _ _ _); refine lenS_slice rfl fun _ => ?_) <;> simp [-map_take, -map_drop, -map_tail, rgs]) | fail
  refine go_upP [4, 5, 8, 9, 10, 11, 12, 13, 14, 15, 16, 17, 18] (xs.length) (fun (i : Nat) a => [(8, .int .i64 i)]) (fun i_ a_ h_ _ => (fun i (_ : Unit) _ => idxI q (xs.drop i) i = idxI q xs 0) i_ a_ h_) (()) (by simp) ?_ keep_rfl (Nat.le_refl _) ?_
  · simp
  · intro i a tm h' n' hle hJ hE hn' next hnx
    try dsimp only at hJ
    have hK : KeepB nx h' h := KeepB.sub hE keepA (by omega)
    simp [-map_take, -map_drop, -map_tail]
    repeat' first | done | ((first | ((with_reducible show iaddrS _ _ _ _ _ _ _); refine iaddr_map rfl omA omA ?_) | (refine call_fv (hq _ (gt_mem (by omega) (by omega))) ?_)) <;> simp [-map_take, -map_drop, -map_tail, rgs, evtC]) | ((with_reducible refine condS_split ?_ ?_) <;> intro qb <;> (have qp := qb; try simp only [psq] at qp) <;> simp [-map_take, -map_drop, -map_tail, rgs, evtC, qb])
    all_goals
      first
      | (have hlt : i < xs.length := (by first | omega | (simp at *; omega))
         rw [drop_gt hlt] at hJ
         first
         | (refine hnx.go (()) ?_ ?_ ?_ ?_ ?_ ?_; omega; (simp [wrap_succ hlt hlim]); (simp); exact keepA; (first | omega | (simp; omega)); (try dsimp only); clear hnx; first | ((try simp only [List.drop_length, Int.toNat_natCast, idxI] at hJ ⊢); grind) | (simp_all [idxI]; done) | (simp_all; omega))
         | (refine ⟨?_, keepA⟩; clear hnx; first | ((try simp only [List.drop_length, Int.toNat_natCast, idxI] at hJ ⊢); grind) | (simp_all [idxI]; done) | (simp_all; omega)))
      | (obtain rfl : i = xs.length := (by first | omega | (simp at *; omega))
         refine ⟨?_, keepA⟩; clear hnx; first | ((try simp only [List.drop_length, Int.toNat_natCast, idxI] at hJ ⊢); grind) | (simp_all [idxI]; done) | (simp_all; omega))

theorem c_ContainsFunc_Event {p : Bool} {xs : List Evt} {q : Evt → Bool} {fv : AV} (hq : ∀ x ∈ xs, FV ctx.P fv [.agg (evtC x)] (.bool (q x))) :
    PC ctx.P 226 [.view p 4 (xs.map evtC), fv] (.bool (xs.any q)) := by
  refine PC.o okC Tryz.func226 rfl (.bool _) fun h nx hnx => ?_
  try simp [-map_take, -map_drop, -map_tail, rgs, idxI_any q xs 0 (Int.le_refl 0)]
  repeat' first | done | (((with_reducible show doCall _ _ _ 329 _ _); refine call_pc (c_IndexFunc_Event hq) ?_) <;> simp [-map_take, -map_drop, -map_tail, rgs, idxI_any q xs 0 (Int.le_refl 0)]) | fail

theorem c_allf_Event {x : Evt} {q : Evt → Bool} {fv : AV} (hq : FV ctx.P fv [.agg (evtC x)] (.bool (q x))) : PC ctx.P 227 [.agg (evtC x), .vptr [fv]] (.bool (!q x)) := by
  refine PC.o okC Tryz.func227 rfl (.bool _) fun h nx hnx => ?_
  try simp [-map_take, -map_drop, -map_tail, rgs]
  repeat' first | done | ((refine call_fv (hq) ?_) <;> simp [-map_take, -map_drop, -map_tail, rgs]) | fail
theorem c_all_Event {p : Bool} {xs : List Evt} {q : Evt → Bool} {fv : AV} (hf : IsF fv) (hq : ∀ x ∈ xs, FV ctx.P fv [.agg (evtC x)] (.bool (q x))) :
    PC ctx.P 104 [.view p 4 (xs.map evtC), fv] (.bool (xs.all q)) := by
  refine PC.o okC Tryz.func104 rfl (.bool _) fun h nx hnx => ?_
  have hc := c_ContainsFunc_Event (p := p) (q := fun x => !q x) (xs := xs) (fv := .fn 227 [.vptr [fv]]) fun x hx => c_allf_Event (hq x hx)
  cases hf
  all_goals simp
  · refine call_pcB (hc) (by exact .bool _) (by repeat' first | exact Bors.nil | refine Bors.cons ?_ ?_ | exact Bor.same _ | refine Bor.fn1 ?_ | refine Bor.ptr0 (by (simp; rfl)) ?_) ?_
    simp [resultsA, resA, List.all_eq_not_any_not]
  · refine call_pcB (hc) (by exact .bool _) (by repeat' first | exact Bors.nil | refine Bors.cons ?_ ?_ | exact Bor.same _ | refine Bor.fn1 ?_ | refine Bor.ptr0 (by (simp; rfl)) ?_) ?_
    simp [resultsA, resA, List.all_eq_not_any_not]

theorem c_size_Twig {p : Bool} {xs : List Twg} : PC ctx.P 392 [.view p 3 (xs.map twgC)] (.int .i64 xs.length) := by
  refine PC.o okC Tryz.func392 rfl (.int _ _) fun h nx hnx => ?_
  try simp [-map_take, -map_drop, -map_tail, rgs]
  repeat' first | done | (((with_reducible show lenS _ _ _ _ _ _); refine lenS_slice rfl fun _ => ?_) <;> simp [-map_take, -map_drop, -map_tail, rgs]) | fail


theorem c_IndexFunc_Twig {p : Bool} {xs : List Twg} {q : Twg → Bool} {fv : AV} (hq : ∀ x ∈ xs, FV ctx.P fv [.agg (twgC x)] (.bool (q x))) :
    PC ctx.P 332 [.view p 3 (xs.map twgC), fv] (.int .i64 (idxI q xs 0)) := by
  refine PC.lim (n := xs.length) (x := .view p 3 (xs.map twgC)) (by simp) (.here (by simp)) ⟨_, Tryz.func332, by kernel_rfl, by kernel_rfl⟩ fun hlim => ?_
  refine PC.o okC Tryz.func332 rfl (.int _ _) fun h nx hnx => ?_
  try simp [-map_take, -map_drop, -map_tail, rgs]
  repeat' first | done | (((with_reducible show lenS _ _ _ _ _ _); refine lenS_slice rfl fun _ => ?_) <;> simp [-map_take, -map_drop, -map_tail, rgs]) | fail
  refine go_upP [4, 5, 8, 9, 10, 11, 12, 13, 14, 15, 16, 17, 18] (xs.length) (fun (i : Nat) a => [(8, .int .i64 i)]) (fun i_ a_ h_ _ => (fun i (_ : Unit) _ => idxI q (xs.drop i) i = idxI q xs 0) i_ a_ h_) (()) (by simp) ?_ keep_rfl (Nat.le_refl _) ?_
  · simp
  · intro i a tm h' n' hle hJ hE hn' next hnx
    try dsimp only at hJ
    have hK : KeepB nx h' h := KeepB.sub hE keepA (by omega)
    simp [-map_take, -map_drop, -map_tail]
    repeat' first | done | ((first | ((with_reducible show iaddrS _ _ _ _ _ _ _); refine iaddr_map rfl omA omA ?_) | (refine call_fv (hq _ (gt_mem (by omega) (by omega))) ?_)) <;> simp [-map_take, -map_drop, -map_tail, rgs, twgC]) | ((with_reducible refine condS_split ?_ ?_) <;> intro qb <;> (have qp := qb; try simp only [psq] at qp) <;> simp [-map_take, -map_drop, -map_tail, rgs, twgC, qb])
    all_goals
      first
      | (have hlt : i < xs.length := (by first | omega | (simp at *; omega))
         rw [drop_gt hlt] at hJ
         first
         | (refine hnx.go (()) ?_ ?_ ?_ ?_ ?_ ?_; omega; (simp [wrap_succ hlt hlim]); (simp); exact keepA; (first | omega | (simp; omega)); (try dsimp only); clear hnx; first | ((try simp only [List.drop_length, Int.toNat_natCast, idxI] at hJ ⊢); grind) | (simp_all [idxI]; done) | (simp_all; omega))
         | (refine ⟨?_, keepA⟩; clear hnx; first | ((try simp only [List.drop_length, Int.toNat_natCast, idxI] at hJ ⊢); grind) | (simp_all [idxI]; done) | (simp_all; omega)))
      | (obtain rfl : i = xs.length := (by first | omega | (simp at *; omega))
         refine ⟨?_, keepA⟩; clear hnx; first | ((try simp only [List.drop_length, Int.toNat_natCast, idxI] at hJ ⊢); grind) | (simp_all [idxI]; done) | (simp_all; omega))

theorem c_ContainsFunc_Twig {p : Bool} {xs : List Twg} {q : Twg → Bool} {fv : AV} (hq : ∀ x ∈ xs, FV ctx.P fv [.agg (twgC x)] (.bool (q x))) :
    PC ctx.P 229 [.view p 3 (xs.map twgC), fv] (.bool (xs.any q)) := by
  refine PC.o okC Tryz.func229 rfl (.bool _) fun h nx hnx => ?_
  try simp [-map_take, -map_drop, -map_tail, rgs, idxI_any q xs 0 (Int.le_refl 0)]
  repeat' first | done | (((with_reducible show doCall _ _ _ 332 _ _); refine call_pc (c_IndexFunc_Twig hq) ?_) <;> simp [-map_take, -map_drop, -map_tail, rgs, idxI_any q xs 0 (Int.le_refl 0)]) | fail




theorem c_IndexFunc_Timer {p : Bool} {xs : List Tmr} {q : Tmr → Bool} {fv : AV} (hq : ∀ x ∈ xs, FV ctx.P fv [.agg (tmrC x)] (.bool (q x))) :
    PC ctx.P 333 [.view p 5 (xs.map tmrC), fv] (.int .i64 (idxI q xs 0)) := by
  refine PC.lim (n := xs.length) (x := .view p 5 (xs.map tmrC)) (by simp) (.here (by simp)) ⟨_, Tryz.func333, by kernel_rfl, by kernel_rfl⟩ fun hlim => ?_
  refine PC.o okC Tryz.func333 rfl (.int _ _) fun h nx hnx => ?_
  try simp [-map_take, -map_drop, -map_tail, rgs]
  repeat' first | done | (((with_reducible show lenS _ _ _ _ _ _); refine lenS_slice rfl fun _ => ?_) <;> simp [-map_take, -map_drop, -map_tail, rgs]) | fail
  refine go_upP [4, 5, 8, 9, 10, 11, 12, 13, 14, 15, 16, 17, 18] (xs.length) (fun (i : Nat) a => [(8, .int .i64 i)]) (fun i_ a_ h_ _ => (fun i (_ : Unit) _ => idxI q (xs.drop i) i = idxI q xs 0) i_ a_ h_) (()) (by simp) ?_ keep_rfl (Nat.le_refl _) ?_
  · simp
  · intro i a tm h' n' hle hJ hE hn' next hnx
    try dsimp only at hJ
    have hK : KeepB nx h' h := KeepB.sub hE keepA (by omega)
    simp [-map_take, -map_drop, -map_tail]
    repeat' first | done | ((first | ((with_reducible show iaddrS _ _ _ _ _ _ _); refine iaddr_map rfl omA omA ?_) | (refine call_fv (hq _ (gt_mem (by omega) (by omega))) ?_)) <;> simp [-map_take, -map_drop, -map_tail, rgs, tmrC]) | ((with_reducible refine condS_split ?_ ?_) <;> intro qb <;> (have qp := qb; try simp only [psq] at qp) <;> simp [-map_take, -map_drop, -map_tail, rgs, tmrC, qb])
    all_goals
      first
      | (have hlt : i < xs.length := (by first | omega | (simp at *; omega))
         rw [drop_gt hlt] at hJ
         first
         | (refine hnx.go (()) ?_ ?_ ?_ ?_ ?_ ?_; omega; (simp [wrap_succ hlt hlim]); (simp); exact keepA; (first | omega | (simp; omega)); (try dsimp only); clear hnx; first | ((try simp only [List.drop_length, Int.toNat_natCast, idxI] at hJ ⊢); grind) | (simp_all [idxI]; done) | (simp_all; omega))
         | (refine ⟨?_, keepA⟩; clear hnx; first | ((try simp only [List.drop_length, Int.toNat_natCast, idxI] at hJ ⊢); grind) | (simp_all [idxI]; done) | (simp_all; omega)))
      | (obtain rfl : i = xs.length := (by first | omega | (simp at *; omega))
         refine ⟨?_, keepA⟩; clear hnx; first | ((try simp only [List.drop_length, Int.toNat_natCast, idxI] at hJ ⊢); grind) | (simp_all [idxI]; done) | (simp_all; omega))

theorem c_ContainsFunc_Timer {p : Bool} {xs : List Tmr} {q : Tmr → Bool} {fv : AV} (hq : ∀ x ∈ xs, FV ctx.P fv [.agg (tmrC x)] (.bool (q x))) :
    PC ctx.P 232 [.view p 5 (xs.map tmrC), fv] (.bool (xs.any q)) := by
  refine PC.o okC Tryz.func232 rfl (.bool _) fun h nx hnx => ?_
  try simp [-map_take, -map_drop, -map_tail, rgs, idxI_any q xs 0 (Int.le_refl 0)]
  repeat' first | done | (((with_reducible show doCall _ _ _ 333 _ _); refine call_pc (c_IndexFunc_Timer hq) ?_) <;> simp [-map_take, -map_drop, -map_tail, rgs, idxI_any q xs 0 (Int.le_refl 0)]) | fail

theorem c_allf_Timer {x : Tmr} {q : Tmr → Bool} {fv : AV} (hq : FV ctx.P fv [.agg (tmrC x)] (.bool (q x))) : PC ctx.P 233 [.agg (tmrC x), .vptr [fv]] (.bool (!q x)) := by
  refine PC.o okC Tryz.func233 rfl (.bool _) fun h nx hnx => ?_
  try simp [-map_take, -map_drop, -map_tail, rgs]
  repeat' first | done | ((refine call_fv (hq) ?_) <;> simp [-map_take, -map_drop, -map_tail, rgs]) | fail
theorem c_all_Timer {p : Bool} {xs : List Tmr} {q : Tmr → Bool} {fv : AV} (hf : IsF fv) (hq : ∀ x ∈ xs, FV ctx.P fv [.agg (tmrC x)] (.bool (q x))) :
    PC ctx.P 108 [.view p 5 (xs.map tmrC), fv] (.bool (xs.all q)) := by
  refine PC.o okC Tryz.func108 rfl (.bool _) fun h nx hnx => ?_
  have hc := c_ContainsFunc_Timer (p := p) (q := fun x => !q x) (xs := xs) (fv := .fn 233 [.vptr [fv]]) fun x hx => c_allf_Timer (hq x hx)
  cases hf
  all_goals simp
  · refine call_pcB (hc) (by exact .bool _) (by repeat' first | exact Bors.nil | refine Bors.cons ?_ ?_ | exact Bor.same _ | refine Bor.fn1 ?_ | refine Bor.ptr0 (by (simp; rfl)) ?_) ?_
    simp [resultsA, resA, List.all_eq_not_any_not]
  · refine call_pcB (hc) (by exact .bool _) (by repeat' first | exact Bors.nil | refine Bors.cons ?_ ?_ | exact Bor.same _ | refine Bor.fn1 ?_ | refine Bor.ptr0 (by (simp; rfl)) ?_) ?_
    simp [resultsA, resA, List.all_eq_not_any_not]

theorem c_size_After {p : Bool} {xs : List Afr} : PC ctx.P 235 [.view p 5 (xs.map afrC)] (.int .i64 xs.length) := by
  refine PC.o okC Tryz.func235 rfl (.int _ _) fun h nx hnx => ?_
  try simp [-map_take, -map_drop, -map_tail, rgs]
  repeat' first | done | (((with_reducible show lenS _ _ _ _ _ _); refine lenS_slice rfl fun _ => ?_) <;> simp [-map_take, -map_drop, -map_tail, rgs]) | fail


theorem c_IndexFunc_After {p : Bool} {xs : List Afr} {q : Afr → Bool} {fv : AV} (hq : ∀ x ∈ xs, FV ctx.P fv [.agg (afrC x)] (.bool (q x))) :
    PC ctx.P 338 [.view p 5 (xs.map afrC), fv] (.int .i64 (idxI q xs 0)) := by
  refine PC.lim (n := xs.length) (x := .view p 5 (xs.map afrC)) (by simp) (.here (by simp)) ⟨_, Tryz.func338, by kernel_rfl, by kernel_rfl⟩ fun hlim => ?_
  refine PC.o okC Tryz.func338 rfl (.int _ _) fun h nx hnx => ?_
  try simp [-map_take, -map_drop, -map_tail, rgs]
  repeat' first | done | (((with_reducible show lenS _ _ _ _ _ _); refine lenS_slice rfl fun _ => ?_) <;> simp [-map_take, -map_drop, -map_tail, rgs]) | fail
  refine go_upP [4, 5, 8, 9, 10, 11, 12, 13, 14, 15, 16, 17, 18] (xs.length) (fun (i : Nat) a => [(8, .int .i64 i)]) (fun i_ a_ h_ _ => (fun i (_ : Unit) _ => idxI q (xs.drop i) i = idxI q xs 0) i_ a_ h_) (()) (by simp) ?_ keep_rfl (Nat.le_refl _) ?_
  · simp
  · intro i a tm h' n' hle hJ hE hn' next hnx
    try dsimp only at hJ
    have hK : KeepB nx h' h := KeepB.sub hE keepA (by omega)
    simp [-map_take, -map_drop, -map_tail]
    repeat' first | done | ((first | ((with_reducible show iaddrS _ _ _ _ _ _ _); refine iaddr_map rfl omA omA ?_) | (refine call_fv (hq _ (gt_mem (by omega) (by omega))) ?_)) <;> simp [-map_take, -map_drop, -map_tail, rgs, afrC]) | ((with_reducible refine condS_split ?_ ?_) <;> intro qb <;> (have qp := qb; try simp only [psq] at qp) <;> simp [-map_take, -map_drop, -map_tail, rgs, afrC, qb])
    all_goals
      first
      | (have hlt : i < xs.length := (by first | omega | (simp at *; omega))
         rw [drop_gt hlt] at hJ
         first
         | (refine hnx.go (()) ?_ ?_ ?_ ?_ ?_ ?_; omega; (simp [wrap_succ hlt hlim]); (simp); exact keepA; (first | omega | (simp; omega)); (try dsimp only); clear hnx; first | ((try simp only [List.drop_length, Int.toNat_natCast, idxI] at hJ ⊢); grind) | (simp_all [idxI]; done) | (simp_all; omega))
         | (refine ⟨?_, keepA⟩; clear hnx; first | ((try simp only [List.drop_length, Int.toNat_natCast, idxI] at hJ ⊢); grind) | (simp_all [idxI]; done) | (simp_all; omega)))
      | (obtain rfl : i = xs.length := (by first | omega | (simp at *; omega))
         refine ⟨?_, keepA⟩; clear hnx; first | ((try simp only [List.drop_length, Int.toNat_natCast, idxI] at hJ ⊢); grind) | (simp_all [idxI]; done) | (simp_all; omega))

theorem c_ContainsFunc_After {p : Bool} {xs : List Afr} {q : Afr → Bool} {fv : AV} (hq : ∀ x ∈ xs, FV ctx.P fv [.agg (afrC x)] (.bool (q x))) :
    PC ctx.P 240 [.view p 5 (xs.map afrC), fv] (.bool (xs.any q)) := by
  refine PC.o okC Tryz.func240 rfl (.bool _) fun h nx hnx => ?_
  try simp [-map_take, -map_drop, -map_tail, rgs, idxI_any q xs 0 (Int.le_refl 0)]
  repeat' first | done | (((with_reducible show doCall _ _ _ 338 _ _); refine call_pc (c_IndexFunc_After hq) ?_) <;> simp [-map_take, -map_drop, -map_tail, rgs, idxI_any q xs 0 (Int.le_refl 0)]) | fail

theorem c_allf_After {x : Afr} {q : Afr → Bool} {fv : AV} (hq : FV ctx.P fv [.agg (afrC x)] (.bool (q x))) : PC ctx.P 241 [.agg (afrC x), .vptr [fv]] (.bool (!q x)) := by
  refine PC.o okC Tryz.func241 rfl (.bool _) fun h nx hnx => ?_
  try simp [-map_take, -map_drop, -map_tail, rgs]
  repeat' first | done | ((refine call_fv (hq) ?_) <;> simp [-map_take, -map_drop, -map_tail, rgs]) | fail
theorem c_all_After {p : Bool} {xs : List Afr} {q : Afr → Bool} {fv : AV} (hf : IsF fv) (hq : ∀ x ∈ xs, FV ctx.P fv [.agg (afrC x)] (.bool (q x))) :
    PC ctx.P 111 [.view p 5 (xs.map afrC), fv] (.bool (xs.all q)) := by
  refine PC.o okC Tryz.func111 rfl (.bool _) fun h nx hnx => ?_
  have hc := c_ContainsFunc_After (p := p) (q := fun x => !q x) (xs := xs) (fv := .fn 241 [.vptr [fv]]) fun x hx => c_allf_After (hq x hx)
  cases hf
  all_goals simp
  · refine call_pcB (hc) (by exact .bool _) (by repeat' first | exact Bors.nil | refine Bors.cons ?_ ?_ | exact Bor.same _ | refine Bor.fn1 ?_ | refine Bor.ptr0 (by (simp; rfl)) ?_) ?_
    simp [resultsA, resA, List.all_eq_not_any_not]
  · refine call_pcB (hc) (by exact .bool _) (by repeat' first | exact Bors.nil | refine Bors.cons ?_ ?_ | exact Bor.same _ | refine Bor.fn1 ?_ | refine Bor.ptr0 (by (simp; rfl)) ?_) ?_
    simp [resultsA, resA, List.all_eq_not_any_not]

theorem c_size_Task {p : Bool} {xs : List Tsk} : PC ctx.P 312 [.view p 9 (xs.map tskC)] (.int .i64 xs.length) := by
  refine PC.o okC Tryz.func312 rfl (.int _ _) fun h nx hnx => ?_
  try simp [-map_take, -map_drop, -map_tail, rgs]
  repeat' first | done | (((with_reducible show lenS _ _ _ _ _ _); refine lenS_slice rfl fun _ => ?_) <;> simp [-map_take, -map_drop, -map_tail, rgs]) | fail

theorem c_isIn_Task {p : Bool} {n : Int} {xs : List Tsk} : PC ctx.P 211 [.int .i64 n, .view p 9 (xs.map tskC)] (.bool (isIn n xs)) := by
  refine PC.lim (n := xs.length) (x := .view p 9 (xs.map tskC)) (by simp) (.here (by simp)) ⟨_, Tryz.func211, by kernel_rfl, by kernel_rfl⟩ fun hlim => ?_
  refine PC.o okC Tryz.func211 rfl (.bool _) fun h nx hnx => ?_
  try simp [-map_take, -map_drop, -map_tail, rgs, wrap_pred hlim, isIn]
  repeat' first | done | ((first | ((with_reducible show doCall _ _ _ 312 _ _); refine call_pc (c_size_Task) ?_) | ((with_reducible show doCall _ _ _ 106 _ _); refine call_pc (c_within) ?_)) <;> simp [-map_take, -map_drop, -map_tail, rgs, wrap_pred hlim, isIn]) | fail

theorem c_IndexFunc_Task {p : Bool} {xs : List Tsk} {q : Tsk → Bool} {fv : AV} (hq : ∀ x ∈ xs, FV ctx.P fv [.agg (tskC x)] (.bool (q x))) :
    PC ctx.P 340 [.view p 9 (xs.map tskC), fv] (.int .i64 (idxI q xs 0)) := by
  refine PC.lim (n := xs.length) (x := .view p 9 (xs.map tskC)) (by simp) (.here (by simp)) ⟨_, Tryz.func340, by kernel_rfl, by kernel_rfl⟩ fun hlim => ?_
  refine PC.o okC Tryz.func340 rfl (.int _ _) fun h nx hnx => ?_
  try simp [-map_take, -map_drop, -map_tail, rgs]
  repeat' first | done | (((with_reducible show lenS _ _ _ _ _ _); refine lenS_slice rfl fun _ => ?_) <;> simp [-map_take, -map_drop, -map_tail, rgs]) | fail
  refine go_upP [4, 5, 8, 9, 10, 11, 12, 13, 14, 15, 16, 17, 18] (xs.length) (fun (i : Nat) a => [(8, .int .i64 i)]) (fun i_ a_ h_ _ => (fun i (_ : Unit) _ => idxI q (xs.drop i) i = idxI q xs 0) i_ a_ h_) (()) (by simp) ?_ keep_rfl (Nat.le_refl _) ?_
  · simp
  · intro i a tm h' n' hle hJ hE hn' next hnx
    try dsimp only at hJ
    have hK : KeepB nx h' h := KeepB.sub hE keepA (by omega)
    simp [-map_take, -map_drop, -map_tail]
    repeat' first | done | ((first | ((with_reducible show iaddrS _ _ _ _ _ _ _); refine iaddr_map rfl omA omA ?_) | (refine call_fv (hq _ (gt_mem (by omega) (by omega))) ?_)) <;> simp [-map_take, -map_drop, -map_tail, rgs, tskC]) | ((with_reducible refine condS_split ?_ ?_) <;> intro qb <;> (have qp := qb; try simp only [psq] at qp) <;> simp [-map_take, -map_drop, -map_tail, rgs, tskC, qb])
    all_goals
      first
      | (have hlt : i < xs.length := (by first | omega | (simp at *; omega))
         rw [drop_gt hlt] at hJ
         first
         | (refine hnx.go (()) ?_ ?_ ?_ ?_ ?_ ?_; omega; (simp [wrap_succ hlt hlim]); (simp); exact keepA; (first | omega | (simp; omega)); (try dsimp only); clear hnx; first | ((try simp only [List.drop_length, Int.toNat_natCast, idxI] at hJ ⊢); grind) | (simp_all [idxI]; done) | (simp_all; omega))
         | (refine ⟨?_, keepA⟩; clear hnx; first | ((try simp only [List.drop_length, Int.toNat_natCast, idxI] at hJ ⊢); grind) | (simp_all [idxI]; done) | (simp_all; omega)))
      | (obtain rfl : i = xs.length := (by first | omega | (simp at *; omega))
         refine ⟨?_, keepA⟩; clear hnx; first | ((try simp only [List.drop_length, Int.toNat_natCast, idxI] at hJ ⊢); grind) | (simp_all [idxI]; done) | (simp_all; omega))

theorem c_ContainsFunc_Task {p : Bool} {xs : List Tsk} {q : Tsk → Bool} {fv : AV} (hq : ∀ x ∈ xs, FV ctx.P fv [.agg (tskC x)] (.bool (q x))) :
    PC ctx.P 242 [.view p 9 (xs.map tskC), fv] (.bool (xs.any q)) := by
  refine PC.o okC Tryz.func242 rfl (.bool _) fun h nx hnx => ?_
  try simp [-map_take, -map_drop, -map_tail, rgs, idxI_any q xs 0 (Int.le_refl 0)]
  repeat' first | done | (((with_reducible show doCall _ _ _ 340 _ _); refine call_pc (c_IndexFunc_Task hq) ?_) <;> simp [-map_take, -map_drop, -map_tail, rgs, idxI_any q xs 0 (Int.le_refl 0)]) | fail

theorem c_allf_Task {x : Tsk} {q : Tsk → Bool} {fv : AV} (hq : FV ctx.P fv [.agg (tskC x)] (.bool (q x))) : PC ctx.P 245 [.agg (tskC x), .vptr [fv]] (.bool (!q x)) := by
  refine PC.o okC Tryz.func245 rfl (.bool _) fun h nx hnx => ?_
  try simp [-map_take, -map_drop, -map_tail, rgs]
  repeat' first | done | ((refine call_fv (hq) ?_) <;> simp [-map_take, -map_drop, -map_tail, rgs]) | fail
theorem c_all_Task {p : Bool} {xs : List Tsk} {q : Tsk → Bool} {fv : AV} (hf : IsF fv) (hq : ∀ x ∈ xs, FV ctx.P fv [.agg (tskC x)] (.bool (q x))) :
    PC ctx.P 115 [.view p 9 (xs.map tskC), fv] (.bool (xs.all q)) := by
  refine PC.o okC Tryz.func115 rfl (.bool _) fun h nx hnx => ?_
  have hc := c_ContainsFunc_Task (p := p) (q := fun x => !q x) (xs := xs) (fv := .fn 245 [.vptr [fv]]) fun x hx => c_allf_Task (hq x hx)
  cases hf
  all_goals simp
  · refine call_pcB (hc) (by exact .bool _) (by repeat' first | exact Bors.nil | refine Bors.cons ?_ ?_ | exact Bor.same _ | refine Bor.fn1 ?_ | refine Bor.ptr0 (by (simp; rfl)) ?_) ?_
    simp [resultsA, resA, List.all_eq_not_any_not]
  · refine call_pcB (hc) (by exact .bool _) (by repeat' first | exact Bors.nil | refine Bors.cons ?_ ?_ | exact Bor.same _ | refine Bor.fn1 ?_ | refine Bor.ptr0 (by (simp; rfl)) ?_) ?_
    simp [resultsA, resA, List.all_eq_not_any_not]

theorem c_size_Group {p : Bool} {pg : Bool} {xs : List Grp} : PC ctx.P 247 [.view p 5 (xs.map (grpV pg))] (.int .i64 xs.length) := by
  refine PC.o okC Tryz.func247 rfl (.int _ _) fun h nx hnx => ?_
  try simp [-map_take, -map_drop, -map_tail, rgs]
  repeat' first | done | (((with_reducible show lenS _ _ _ _ _ _); refine lenS_slice rfl fun _ => ?_) <;> simp [-map_take, -map_drop, -map_tail, rgs]) | fail

theorem c_isIn_Group {p : Bool} {pg : Bool} {n : Int} {xs : List Grp} : PC ctx.P 248 [.int .i64 n, .view p 5 (xs.map (grpV pg))] (.bool (isIn n xs)) := by
  refine PC.lim (n := xs.length) (x := .view p 5 (xs.map (grpV pg))) (by simp) (.here (by simp)) ⟨_, Tryz.func248, by kernel_rfl, by kernel_rfl⟩ fun hlim => ?_
  refine PC.o okC Tryz.func248 rfl (.bool _) fun h nx hnx => ?_
  try simp [-map_take, -map_drop, -map_tail, rgs, wrap_pred hlim, isIn]
  repeat' first | done | ((first | ((with_reducible show doCall _ _ _ 247 _ _); refine call_pc (c_size_Group) ?_) | ((with_reducible show doCall _ _ _ 106 _ _); refine call_pc (c_within) ?_)) <;> simp [-map_take, -map_drop, -map_tail, rgs, wrap_pred hlim, isIn]) | fail

theorem c_IndexFunc_Group {p : Bool} {pg : Bool} {xs : List Grp} {q : Grp → Bool} {fv : AV} (hq : ∀ x ∈ xs, FV ctx.P fv [.agg (grpV pg x)] (.bool (q x))) :
    PC ctx.P 342 [.view p 5 (xs.map (grpV pg)), fv] (.int .i64 (idxI q xs 0)) := by
  refine PC.lim (n := xs.length) (x := .view p 5 (xs.map (grpV pg))) (by simp) (.here (by simp)) ⟨_, Tryz.func342, by kernel_rfl, by kernel_rfl⟩ fun hlim => ?_
  refine PC.o okC Tryz.func342 rfl (.int _ _) fun h nx hnx => ?_
  try simp [-map_take, -map_drop, -map_tail, rgs]
  repeat' first | done | (((with_reducible show lenS _ _ _ _ _ _); refine lenS_slice rfl fun _ => ?_) <;> simp [-map_take, -map_drop, -map_tail, rgs]) | fail
  refine go_upP [4, 5, 8, 9, 10, 11, 12, 13, 14, 15, 16, 17, 18] (xs.length) (fun (i : Nat) a => [(8, .int .i64 i)]) (fun i_ a_ h_ _ => (fun i (_ : Unit) _ => idxI q (xs.drop i) i = idxI q xs 0) i_ a_ h_) (()) (by simp) ?_ keep_rfl (Nat.le_refl _) ?_
  · simp
  · intro i a tm h' n' hle hJ hE hn' next hnx
    try dsimp only at hJ
    have hK : KeepB nx h' h := KeepB.sub hE keepA (by omega)
    simp [-map_take, -map_drop, -map_tail]
    repeat' first | done | ((first | ((with_reducible show iaddrS _ _ _ _ _ _ _); refine iaddr_map rfl omA omA ?_) | (refine call_fv (hq _ (gt_mem (by omega) (by omega))) ?_)) <;> simp [-map_take, -map_drop, -map_tail, rgs, grpV]) | ((with_reducible refine condS_split ?_ ?_) <;> intro qb <;> (have qp := qb; try simp only [psq] at qp) <;> simp [-map_take, -map_drop, -map_tail, rgs, grpV, qb])
    all_goals
      first
      | (have hlt : i < xs.length := (by first | omega | (simp at *; omega))
         rw [drop_gt hlt] at hJ
         first
         | (refine hnx.go (()) ?_ ?_ ?_ ?_ ?_ ?_; omega; (simp [wrap_succ hlt hlim]); (simp); exact keepA; (first | omega | (simp; omega)); (try dsimp only); clear hnx; first | ((try simp only [List.drop_length, Int.toNat_natCast, idxI] at hJ ⊢); grind) | (simp_all [idxI]; done) | (simp_all; omega))
         | (refine ⟨?_, keepA⟩; clear hnx; first | ((try simp only [List.drop_length, Int.toNat_natCast, idxI] at hJ ⊢); grind) | (simp_all [idxI]; done) | (simp_all; omega)))
      | (obtain rfl : i = xs.length := (by first | omega | (simp at *; omega))
         refine ⟨?_, keepA⟩; clear hnx; first | ((try simp only [List.drop_length, Int.toNat_natCast, idxI] at hJ ⊢); grind) | (simp_all [idxI]; done) | (simp_all; omega))

theorem c_ContainsFunc_Group {p : Bool} {pg : Bool} {xs : List Grp} {q : Grp → Bool} {fv : AV} (hq : ∀ x ∈ xs, FV ctx.P fv [.agg (grpV pg x)] (.bool (q x))) :
    PC ctx.P 249 [.view p 5 (xs.map (grpV pg)), fv] (.bool (xs.any q)) := by
  refine PC.o okC Tryz.func249 rfl (.bool _) fun h nx hnx => ?_
  try simp [-map_take, -map_drop, -map_tail, rgs, idxI_any q xs 0 (Int.le_refl 0)]
  repeat' first | done | (((with_reducible show doCall _ _ _ 342 _ _); refine call_pc (c_IndexFunc_Group hq) ?_) <;> simp [-map_take, -map_drop, -map_tail, rgs, idxI_any q xs 0 (Int.le_refl 0)]) | fail

theorem c_allf_Group {pg : Bool} {x : Grp} {q : Grp → Bool} {fv : AV} (hq : FV ctx.P fv [.agg (grpV pg x)] (.bool (q x))) : PC ctx.P 250 [.agg (grpV pg x), .vptr [fv]] (.bool (!q x)) := by
  refine PC.o okC Tryz.func250 rfl (.bool _) fun h nx hnx => ?_
  try simp [-map_take, -map_drop, -map_tail, rgs]
  repeat' first | done | ((refine call_fv (hq) ?_) <;> simp [-map_take, -map_drop, -map_tail, rgs]) | fail
theorem c_all_Group {p : Bool} {pg : Bool} {xs : List Grp} {q : Grp → Bool} {fv : AV} (hf : IsF fv) (hq : ∀ x ∈ xs, FV ctx.P fv [.agg (grpV pg x)] (.bool (q x))) :
    PC ctx.P 117 [.view p 5 (xs.map (grpV pg)), fv] (.bool (xs.all q)) := by
  refine PC.o okC Tryz.func117 rfl (.bool _) fun h nx hnx => ?_
  have hc := c_ContainsFunc_Group (p := p) (q := fun x => !q x) (xs := xs) (fv := .fn 250 [.vptr [fv]]) fun x hx => c_allf_Group (hq x hx)
  cases hf
  all_goals simp
  · refine call_pcB (hc) (by exact .bool _) (by repeat' first | exact Bors.nil | refine Bors.cons ?_ ?_ | exact Bor.same _ | refine Bor.fn1 ?_ | refine Bor.ptr0 (by (simp; rfl)) ?_) ?_
    simp [resultsA, resA, List.all_eq_not_any_not]
  · refine call_pcB (hc) (by exact .bool _) (by repeat' first | exact Bors.nil | refine Bors.cons ?_ ?_ | exact Bor.same _ | refine Bor.fn1 ?_ | refine Bor.ptr0 (by (simp; rfl)) ?_) ?_
    simp [resultsA, resA, List.all_eq_not_any_not]



theorem c_IndexFunc_Sight {p : Bool} {xs : List Sgt} {q : Sgt → Bool} {fv : AV} (hq : ∀ x ∈ xs, FV ctx.P fv [.agg (sgtC x)] (.bool (q x))) :
    PC ctx.P 343 [.view p 4 (xs.map sgtC), fv] (.int .i64 (idxI q xs 0)) := by
  refine PC.lim (n := xs.length) (x := .view p 4 (xs.map sgtC)) (by simp) (.here (by simp)) ⟨_, Tryz.func343, by kernel_rfl, by kernel_rfl⟩ fun hlim => ?_
  refine PC.o okC Tryz.func343 rfl (.int _ _) fun h nx hnx => ?_
  try simp [-map_take, -map_drop, -map_tail, rgs]
  repeat' first | done | (((with_reducible show lenS _ _ _ _ _ _); refine lenS_slice rfl fun _ => ?_) <;> simp [-map_take, -map_drop, -map_tail, rgs]) | fail
  refine go_upP [4, 5, 8, 9, 10, 11, 12, 13, 14, 15, 16, 17, 18] (xs.length) (fun (i : Nat) a => [(8, .int .i64 i)]) (fun i_ a_ h_ _ => (fun i (_ : Unit) _ => idxI q (xs.drop i) i = idxI q xs 0) i_ a_ h_) (()) (by simp) ?_ keep_rfl (Nat.le_refl _) ?_
  · simp
  · intro i a tm h' n' hle hJ hE hn' next hnx
    try dsimp only at hJ
    have hK : KeepB nx h' h := KeepB.sub hE keepA (by omega)
    simp [-map_take, -map_drop, -map_tail]
    repeat' first | done | ((first | ((with_reducible show iaddrS _ _ _ _ _ _ _); refine iaddr_map rfl omA omA ?_) | (refine call_fv (hq _ (gt_mem (by omega) (by omega))) ?_)) <;> simp [-map_take, -map_drop, -map_tail, rgs, sgtC]) | ((with_reducible refine condS_split ?_ ?_) <;> intro qb <;> (have qp := qb; try simp only [psq] at qp) <;> simp [-map_take, -map_drop, -map_tail, rgs, sgtC, qb])
    all_goals
      first
      | (have hlt : i < xs.length := (by first | omega | (simp at *; omega))
         rw [drop_gt hlt] at hJ
         first
         | (refine hnx.go (()) ?_ ?_ ?_ ?_ ?_ ?_; omega; (simp [wrap_succ hlt hlim]); (simp); exact keepA; (first | omega | (simp; omega)); (try dsimp only); clear hnx; first | ((try simp only [List.drop_length, Int.toNat_natCast, idxI] at hJ ⊢); grind) | (simp_all [idxI]; done) | (simp_all; omega))
         | (refine ⟨?_, keepA⟩; clear hnx; first | ((try simp only [List.drop_length, Int.toNat_natCast, idxI] at hJ ⊢); grind) | (simp_all [idxI]; done) | (simp_all; omega)))
      | (obtain rfl : i = xs.length := (by first | omega | (simp at *; omega))
         refine ⟨?_, keepA⟩; clear hnx; first | ((try simp only [List.drop_length, Int.toNat_natCast, idxI] at hJ ⊢); grind) | (simp_all [idxI]; done) | (simp_all; omega))

theorem c_ContainsFunc_Sight {p : Bool} {xs : List Sgt} {q : Sgt → Bool} {fv : AV} (hq : ∀ x ∈ xs, FV ctx.P fv [.agg (sgtC x)] (.bool (q x))) :
    PC ctx.P 253 [.view p 4 (xs.map sgtC), fv] (.bool (xs.any q)) := by
  refine PC.o okC Tryz.func253 rfl (.bool _) fun h nx hnx => ?_
  try simp [-map_take, -map_drop, -map_tail, rgs, idxI_any q xs 0 (Int.le_refl 0)]
  repeat' first | done | (((with_reducible show doCall _ _ _ 343 _ _); refine call_pc (c_IndexFunc_Sight hq) ?_) <;> simp [-map_take, -map_drop, -map_tail, rgs, idxI_any q xs 0 (Int.le_refl 0)]) | fail

theorem c_allf_Sight {x : Sgt} {q : Sgt → Bool} {fv : AV} (hq : FV ctx.P fv [.agg (sgtC x)] (.bool (q x))) : PC ctx.P 254 [.agg (sgtC x), .vptr [fv]] (.bool (!q x)) := by
  refine PC.o okC Tryz.func254 rfl (.bool _) fun h nx hnx => ?_
  try simp [-map_take, -map_drop, -map_tail, rgs]
  repeat' first | done | ((refine call_fv (hq) ?_) <;> simp [-map_take, -map_drop, -map_tail, rgs]) | fail
theorem c_all_Sight {p : Bool} {xs : List Sgt} {q : Sgt → Bool} {fv : AV} (hf : IsF fv) (hq : ∀ x ∈ xs, FV ctx.P fv [.agg (sgtC x)] (.bool (q x))) :
    PC ctx.P 119 [.view p 4 (xs.map sgtC), fv] (.bool (xs.all q)) := by
  refine PC.o okC Tryz.func119 rfl (.bool _) fun h nx hnx => ?_
  have hc := c_ContainsFunc_Sight (p := p) (q := fun x => !q x) (xs := xs) (fv := .fn 254 [.vptr [fv]]) fun x hx => c_allf_Sight (hq x hx)
  cases hf
  all_goals simp
  · refine call_pcB (hc) (by exact .bool _) (by repeat' first | exact Bors.nil | refine Bors.cons ?_ ?_ | exact Bor.same _ | refine Bor.fn1 ?_ | refine Bor.ptr0 (by (simp; rfl)) ?_) ?_
    simp [resultsA, resA, List.all_eq_not_any_not]
  · refine call_pcB (hc) (by exact .bool _) (by repeat' first | exact Bors.nil | refine Bors.cons ?_ ?_ | exact Bor.same _ | refine Bor.fn1 ?_ | refine Bor.ptr0 (by (simp; rfl)) ?_) ?_
    simp [resultsA, resA, List.all_eq_not_any_not]

theorem c_size_int64 {p : Bool} {xs : List Int} : PC ctx.P 335 [.view p 1 (xs.map iv)] (.int .i64 xs.length) := by
  refine PC.o okC Tryz.func335 rfl (.int _ _) fun h nx hnx => ?_
  try simp [-map_take, -map_drop, -map_tail, rgs]
  repeat' first | done | (((with_reducible show lenS _ _ _ _ _ _); refine lenS_slice rfl fun _ => ?_) <;> simp [-map_take, -map_drop, -map_tail, rgs]) | fail

theorem c_isIn_int64 {p : Bool} {n : Int} {xs : List Int} : PC ctx.P 337 [.int .i64 n, .view p 1 (xs.map iv)] (.bool (isIn n xs)) := by
  refine PC.lim (n := xs.length) (x := .view p 1 (xs.map iv)) (by simp) (.here (by simp)) ⟨_, Tryz.func337, by kernel_rfl, by kernel_rfl⟩ fun hlim => ?_
  refine PC.o okC Tryz.func337 rfl (.bool _) fun h nx hnx => ?_
  try simp [-map_take, -map_drop, -map_tail, rgs, wrap_pred hlim, isIn]
  repeat' first | done | ((first | ((with_reducible show doCall _ _ _ 335 _ _); refine call_pc (c_size_int64) ?_) | ((with_reducible show doCall _ _ _ 106 _ _); refine call_pc (c_within) ?_)) <;> simp [-map_take, -map_drop, -map_tail, rgs, wrap_pred hlim, isIn]) | fail

theorem c_IndexFunc_int64 {p : Bool} {xs : List Int} {q : Int → Bool} {fv : AV} (hq : ∀ x ∈ xs, FV ctx.P fv [.int .i64 x] (.bool (q x))) :
    PC ctx.P 328 [.view p 1 (xs.map iv), fv] (.int .i64 (idxI q xs 0)) := by
  refine PC.lim (n := xs.length) (x := .view p 1 (xs.map iv)) (by simp) (.here (by simp)) ⟨_, Tryz.func328, by kernel_rfl, by kernel_rfl⟩ fun hlim => ?_
  refine PC.o okC Tryz.func328 rfl (.int _ _) fun h nx hnx => ?_
  try simp [-map_take, -map_drop, -map_tail, rgs]
  repeat' first | done | (((with_reducible show lenS _ _ _ _ _ _); refine lenS_slice rfl fun _ => ?_) <;> simp [-map_take, -map_drop, -map_tail, rgs]) | fail
  refine go_upP [4, 5, 8, 9, 10, 11, 12, 13, 14, 15, 16, 17, 18] (xs.length) (fun (i : Nat) a => [(8, .int .i64 i)]) (fun i_ a_ h_ _ => (fun i (_ : Unit) _ => idxI q (xs.drop i) i = idxI q xs 0) i_ a_ h_) (()) (by simp) ?_ keep_rfl (Nat.le_refl _) ?_
  · simp
  · intro i a tm h' n' hle hJ hE hn' next hnx
    try dsimp only at hJ
    have hK : KeepB nx h' h := KeepB.sub hE keepA (by omega)
    simp [-map_take, -map_drop, -map_tail]
    repeat' first | done | ((first | ((with_reducible show iaddrS _ _ _ _ _ _ _); refine iaddr_map rfl omA omA ?_) | (refine call_fv (hq _ (gt_mem (by omega) (by omega))) ?_)) <;> simp [-map_take, -map_drop, -map_tail, rgs, iv]) | ((with_reducible refine condS_split ?_ ?_) <;> intro qb <;> (have qp := qb; try simp only [psq] at qp) <;> simp [-map_take, -map_drop, -map_tail, rgs, iv, qb])
    all_goals
      first
      | (have hlt : i < xs.length := (by first | omega | (simp at *; omega))
         rw [drop_gt hlt] at hJ
         first
         | (refine hnx.go (()) ?_ ?_ ?_ ?_ ?_ ?_; omega; (simp [wrap_succ hlt hlim]); (simp); exact keepA; (first | omega | (simp; omega)); (try dsimp only); clear hnx; first | ((try simp only [List.drop_length, Int.toNat_natCast, idxI] at hJ ⊢); grind) | (simp_all [idxI]; done) | (simp_all; omega))
         | (refine ⟨?_, keepA⟩; clear hnx; first | ((try simp only [List.drop_length, Int.toNat_natCast, idxI] at hJ ⊢); grind) | (simp_all [idxI]; done) | (simp_all; omega)))
      | (obtain rfl : i = xs.length := (by first | omega | (simp at *; omega))
         refine ⟨?_, keepA⟩; clear hnx; first | ((try simp only [List.drop_length, Int.toNat_natCast, idxI] at hJ ⊢); grind) | (simp_all [idxI]; done) | (simp_all; omega))

theorem c_ContainsFunc_int64 {p : Bool} {xs : List Int} {q : Int → Bool} {fv : AV} (hq : ∀ x ∈ xs, FV ctx.P fv [.int .i64 x] (.bool (q x))) :
    PC ctx.P 224 [.view p 1 (xs.map iv), fv] (.bool (xs.any q)) := by
  refine PC.o okC Tryz.func224 rfl (.bool _) fun h nx hnx => ?_
  try simp [-map_take, -map_drop, -map_tail, rgs, idxI_any q xs 0 (Int.le_refl 0)]
  repeat' first | done | (((with_reducible show doCall _ _ _ 328 _ _); refine call_pc (c_IndexFunc_int64 hq) ?_) <;> simp [-map_take, -map_drop, -map_tail, rgs, idxI_any q xs 0 (Int.le_refl 0)]) | fail

theorem c_allf_int64 {x : Int} {q : Int → Bool} {fv : AV} (hq : FV ctx.P fv [.int .i64 x] (.bool (q x))) : PC ctx.P 256 [.int .i64 x, .vptr [fv]] (.bool (!q x)) := by
  refine PC.o okC Tryz.func256 rfl (.bool _) fun h nx hnx => ?_
  try simp [-map_take, -map_drop, -map_tail, rgs]
  repeat' first | done | ((refine call_fv (hq) ?_) <;> simp [-map_take, -map_drop, -map_tail, rgs]) | fail
theorem c_all_int64 {p : Bool} {xs : List Int} {q : Int → Bool} {fv : AV} (hf : IsF fv) (hq : ∀ x ∈ xs, FV ctx.P fv [.int .i64 x] (.bool (q x))) :
    PC ctx.P 121 [.view p 1 (xs.map iv), fv] (.bool (xs.all q)) := by
  refine PC.o okC Tryz.func121 rfl (.bool _) fun h nx hnx => ?_
  have hc := c_ContainsFunc_int64 (p := p) (q := fun x => !q x) (xs := xs) (fv := .fn 256 [.vptr [fv]]) fun x hx => c_allf_int64 (hq x hx)
  cases hf
  all_goals simp
  · refine call_pcB (hc) (by exact .bool _) (by repeat' first | exact Bors.nil | refine Bors.cons ?_ ?_ | exact Bor.same _ | refine Bor.fn1 ?_ | refine Bor.ptr0 (by (simp; rfl)) ?_) ?_
    simp [resultsA, resA, List.all_eq_not_any_not]
  · refine call_pcB (hc) (by exact .bool _) (by repeat' first | exact Bors.nil | refine Bors.cons ?_ ?_ | exact Bor.same _ | refine Bor.fn1 ?_ | refine Bor.ptr0 (by (simp; rfl)) ?_) ?_
    simp [resultsA, resA, List.all_eq_not_any_not]

theorem c_size_bool {p : Bool} {xs : List Bool} : PC ctx.P 353 [.view p 1 (xs.map bv)] (.int .i64 xs.length) := by
  refine PC.o okC Tryz.func353 rfl (.int _ _) fun h nx hnx => ?_
  try simp [-map_take, -map_drop, -map_tail, rgs]
  repeat' first | done | (((with_reducible show lenS _ _ _ _ _ _); refine lenS_slice rfl fun _ => ?_) <;> simp [-map_take, -map_drop, -map_tail, rgs]) | fail

theorem c_isIn_bool {p : Bool} {n : Int} {xs : List Bool} : PC ctx.P 271 [.int .i64 n, .view p 1 (xs.map bv)] (.bool (isIn n xs)) := by
  refine PC.lim (n := xs.length) (x := .view p 1 (xs.map bv)) (by simp) (.here (by simp)) ⟨_, Tryz.func271, by kernel_rfl, by kernel_rfl⟩ fun hlim => ?_
  refine PC.o okC Tryz.func271 rfl (.bool _) fun h nx hnx => ?_
  try simp [-map_take, -map_drop, -map_tail, rgs, wrap_pred hlim, isIn]
  repeat' first | done | ((first | ((with_reducible show doCall _ _ _ 353 _ _); refine call_pc (c_size_bool) ?_) | ((with_reducible show doCall _ _ _ 106 _ _); refine call_pc (c_within) ?_)) <;> simp [-map_take, -map_drop, -map_tail, rgs, wrap_pred hlim, isIn]) | fail




theorem c_size_Prog {p : Bool} {pg : Bool} {xs : List (List Inn)} : PC ctx.P 341 [.view p 1 (xs.map (prgV pg))] (.int .i64 xs.length) := by
  refine PC.o okC Tryz.func341 rfl (.int _ _) fun h nx hnx => ?_
  try simp [-map_take, -map_drop, -map_tail, rgs]
  repeat' first | done | (((with_reducible show lenS _ _ _ _ _ _); refine lenS_slice rfl fun _ => ?_) <;> simp [-map_take, -map_drop, -map_tail, rgs]) | fail

theorem c_isIn_Prog {p : Bool} {pg : Bool} {n : Int} {xs : List (List Inn)} : PC ctx.P 246 [.int .i64 n, .view p 1 (xs.map (prgV pg))] (.bool (isIn n xs)) := by
  refine PC.lim (n := xs.length) (x := .view p 1 (xs.map (prgV pg))) (by simp) (.here (by simp)) ⟨_, Tryz.func246, by kernel_rfl, by kernel_rfl⟩ fun hlim => ?_
  refine PC.o okC Tryz.func246 rfl (.bool _) fun h nx hnx => ?_
  try simp [-map_take, -map_drop, -map_tail, rgs, wrap_pred hlim, isIn]
  repeat' first | done | ((first | ((with_reducible show doCall _ _ _ 341 _ _); refine call_pc (c_size_Prog) ?_) | ((with_reducible show doCall _ _ _ 106 _ _); refine call_pc (c_within) ?_)) <;> simp [-map_take, -map_drop, -map_tail, rgs, wrap_pred hlim, isIn]) | fail

theorem c_IndexFunc_Prog {p : Bool} {pg : Bool} {xs : List (List Inn)} {q : (List Inn) → Bool} {fv : AV} (hq : ∀ x ∈ xs, FV ctx.P fv [.view pg 3 (x.map innC)] (.bool (q x))) :
    PC ctx.P 324 [.view p 1 (xs.map (prgV pg)), fv] (.int .i64 (idxI q xs 0)) := by
  refine PC.lim (n := xs.length) (x := .view p 1 (xs.map (prgV pg))) (by simp) (.here (by simp)) ⟨_, Tryz.func324, by kernel_rfl, by kernel_rfl⟩ fun hlim => ?_
  refine PC.o okC Tryz.func324 rfl (.int _ _) fun h nx hnx => ?_
  try simp [-map_take, -map_drop, -map_tail, rgs]
  repeat' first | done | (((with_reducible show lenS _ _ _ _ _ _); refine lenS_slice rfl fun _ => ?_) <;> simp [-map_take, -map_drop, -map_tail, rgs]) | fail
  refine go_upP [4, 5, 8, 9, 10, 11, 12, 13, 14, 15, 16, 17, 18] (xs.length) (fun (i : Nat) a => [(8, .int .i64 i)]) (fun i_ a_ h_ _ => (fun i (_ : Unit) _ => idxI q (xs.drop i) i = idxI q xs 0) i_ a_ h_) (()) (by simp) ?_ keep_rfl (Nat.le_refl _) ?_
  · simp
  · intro i a tm h' n' hle hJ hE hn' next hnx
    try dsimp only at hJ
    have hK : KeepB nx h' h := KeepB.sub hE keepA (by omega)
    simp [-map_take, -map_drop, -map_tail]
    repeat' first | done | ((first | ((with_reducible show iaddrS _ _ _ _ _ _ _); refine iaddr_map rfl omA omA ?_) | (refine call_fv (hq _ (gt_mem (by omega) (by omega))) ?_)) <;> simp [-map_take, -map_drop, -map_tail, rgs, prgV]) | ((with_reducible refine condS_split ?_ ?_) <;> intro qb <;> (have qp := qb; try simp only [psq] at qp) <;> simp [-map_take, -map_drop, -map_tail, rgs, prgV, qb])
    all_goals
      first
      | (have hlt : i < xs.length := (by first | omega | (simp at *; omega))
         rw [drop_gt hlt] at hJ
         first
         | (refine hnx.go (()) ?_ ?_ ?_ ?_ ?_ ?_; omega; (simp [wrap_succ hlt hlim]); (simp); exact keepA; (first | omega | (simp; omega)); (try dsimp only); clear hnx; first | ((try simp only [List.drop_length, Int.toNat_natCast, idxI] at hJ ⊢); grind) | (simp_all [idxI]; done) | (simp_all; omega))
         | (refine ⟨?_, keepA⟩; clear hnx; first | ((try simp only [List.drop_length, Int.toNat_natCast, idxI] at hJ ⊢); grind) | (simp_all [idxI]; done) | (simp_all; omega)))
      | (obtain rfl : i = xs.length := (by first | omega | (simp at *; omega))
         refine ⟨?_, keepA⟩; clear hnx; first | ((try simp only [List.drop_length, Int.toNat_natCast, idxI] at hJ ⊢); grind) | (simp_all [idxI]; done) | (simp_all; omega))

theorem c_ContainsFunc_Prog {p : Bool} {pg : Bool} {xs : List (List Inn)} {q : (List Inn) → Bool} {fv : AV} (hq : ∀ x ∈ xs, FV ctx.P fv [.view pg 3 (x.map innC)] (.bool (q x))) :
    PC ctx.P 217 [.view p 1 (xs.map (prgV pg)), fv] (.bool (xs.any q)) := by
  refine PC.o okC Tryz.func217 rfl (.bool _) fun h nx hnx => ?_
  try simp [-map_take, -map_drop, -map_tail, rgs, idxI_any q xs 0 (Int.le_refl 0)]
  repeat' first | done | (((with_reducible show doCall _ _ _ 324 _ _); refine call_pc (c_IndexFunc_Prog hq) ?_) <;> simp [-map_take, -map_drop, -map_tail, rgs, idxI_any q xs 0 (Int.le_refl 0)]) | fail

theorem c_allf_Prog {pg : Bool} {x : (List Inn)} {q : (List Inn) → Bool} {fv : AV} (hq : FV ctx.P fv [.view pg 3 (x.map innC)] (.bool (q x))) : PC ctx.P 218 [.view pg 3 (x.map innC), .vptr [fv]] (.bool (!q x)) := by
  refine PC.o okC Tryz.func218 rfl (.bool _) fun h nx hnx => ?_
  try simp [-map_take, -map_drop, -map_tail, rgs]
  repeat' first | done | ((refine call_fv (hq) ?_) <;> simp [-map_take, -map_drop, -map_tail, rgs]) | fail
theorem c_all_Prog {p : Bool} {pg : Bool} {xs : List (List Inn)} {q : (List Inn) → Bool} {fv : AV} (hf : IsF fv) (hq : ∀ x ∈ xs, FV ctx.P fv [.view pg 3 (x.map innC)] (.bool (q x))) :
    PC ctx.P 100 [.view p 1 (xs.map (prgV pg)), fv] (.bool (xs.all q)) := by
  refine PC.o okC Tryz.func100 rfl (.bool _) fun h nx hnx => ?_
  have hc := c_ContainsFunc_Prog (p := p) (q := fun x => !q x) (xs := xs) (fv := .fn 218 [.vptr [fv]]) fun x hx => c_allf_Prog (hq x hx)
  cases hf
  all_goals simp
  · refine call_pcB (hc) (by exact .bool _) (by repeat' first | exact Bors.nil | refine Bors.cons ?_ ?_ | exact Bor.same _ | refine Bor.fn1 ?_ | refine Bor.ptr0 (by (simp; rfl)) ?_) ?_
    simp [resultsA, resA, List.all_eq_not_any_not]
  · refine call_pcB (hc) (by exact .bool _) (by repeat' first | exact Bors.nil | refine Bors.cons ?_ ?_ | exact Bor.same _ | refine Bor.fn1 ?_ | refine Bor.ptr0 (by (simp; rfl)) ?_) ?_
    simp [resultsA, resA, List.all_eq_not_any_not]






end Go.AE.Tryz
end

section
/- Contracts of the program's readers: slots, times, heaps, timers. -/
set_option maxRecDepth 8000
set_option maxHeartbeats 2000000
namespace Go.AE.Tryz
open Go.Proofs
open List (map_take map_drop map_tail)

theorem c_SlotsOk1 {x : Int} : PC ctx.P 336 [.int .i64 x] (.bool (!inR x 0 1000000)) := by
  refine PC.o okC Tryz.func336 rfl (.bool _) fun h nx hnx => ?_
  try simp [-map_take, -map_drop, -map_tail, rgs]
  repeat' first | done | (((with_reducible show doCall _ _ _ 106 _ _); refine call_pc (c_within) ?_) <;> simp [-map_take, -map_drop, -map_tail, rgs]) | fail
theorem c_SlotsOk {F : Nat → Bool} {s : Slt} : PC ctx.P 234 [.agg (sltV F s)] (.bool (sltOk s)) := by
  refine PC.o okC Tryz.func234 rfl (.bool _) fun h nx hnx => ?_
  try simp [-map_take, -map_drop, -map_tail, rgs, sltV, sltOk]
  repeat' first | done | ((first | ((with_reducible show lenS _ _ _ _ _ _); refine lenS_slice rfl fun _ => ?_) | ((with_reducible show doCall _ _ _ 335 _ _); refine call_pc (c_size_int64) ?_) | ((with_reducible show doCall _ _ _ 106 _ _); refine call_pc (c_within) ?_) | ((with_reducible show doCall _ _ _ 224 _ _); refine call_pc (c_ContainsFunc_int64 (q := fun a => !inR a 0 1000000) (fun x _ => c_SlotsOk1)) ?_)) <;> simp [-map_take, -map_drop, -map_tail, rgs, sltV, sltOk]) | ((with_reducible refine guardS_split ?_ ?_) <;> intro qb <;> (have qp := qb; try simp only [psq] at qp) <;> simp [-map_take, -map_drop, -map_tail, rgs, sltV, sltOk, qb])

theorem c_used {F : Nat → Bool} {s : Slt} : PC ctx.P 236 [.agg (sltV F s)] (.int .i64 (cntB id s.used)) := by
  refine PC.lim (n := s.used.length) (x := .agg (sltV F s)) (by simp) (.agg (x := .view (F 9) 1 (s.used.map bv)) (by simp [sltV]) (.here (by simp))) ⟨_, Tryz.func236, by kernel_rfl, by kernel_rfl⟩ fun hlim => ?_
  refine PC.o okC Tryz.func236 rfl (.int _ _) fun h nx hnx => ?_
  try simp [-map_take, -map_drop, -map_tail, rgs, sltV]
  repeat' first | done | (((with_reducible show lenS _ _ _ _ _ _); refine lenS_slice rfl fun _ => ?_) <;> simp [-map_take, -map_drop, -map_tail, rgs, sltV]) | fail
  refine go_upP [3, 5, 9, 10, 11, 12, 13, 14, 15, 16] (s.used.length) (fun (i : Nat) a => [(9, .int .i64 i), (3, .int .i64 a)]) (fun i_ a_ h_ _ => (fun i (a : Int) _ => a + cntB id (s.used.drop i) = cntB id s.used ∧ 0 ≤ a ∧ a ≤ i) i_ a_ h_) (0) (by simp) ?_ keep_rfl (Nat.le_refl _) ?_
  · simp
  · intro i a tm h' n' hle hJ hE hn' next hnx
    try dsimp only at hJ
    have hK : KeepB nx h' h := KeepB.sub hE keepA (by omega)
    simp [-map_take, -map_drop, -map_tail]
    repeat' first | done | (((with_reducible show iaddrS _ _ _ _ _ _ _); refine iaddr_map rfl omA omA ?_) <;> simp [-map_take, -map_drop, -map_tail, rgs, bv]) | ((with_reducible refine condS_split ?_ ?_) <;> intro qb <;> (have qp := qb; try simp only [psq] at qp) <;> simp [-map_take, -map_drop, -map_tail, rgs, bv, qb])
    · rw [drop_gt (by omega)] at hJ
      refine hnx.go (a + 1) (by omega) (by simp [wrap_succ (i := i) (n := s.used.length) (by omega) hlim, i64_ok (x := a + 1) (by simp only [LIM] at hlim; omega)]) (by simp) keepA (by first | omega | (simp; omega)) ?_
      try dsimp only
      simp [cntB, qb] at hJ ⊢
      omega
    · rw [drop_gt (by omega)] at hJ
      refine hnx.go (a) (by omega) (by simp [wrap_succ (i := i) (n := s.used.length) (by omega) hlim]) (by simp) keepA (by first | omega | (simp; omega)) ?_
      try dsimp only
      simp [cntB, qb] at hJ ⊢
      omega
    · refine ⟨?_, by simp [hK]⟩
      rw [List.drop_eq_nil_of_le (by omega)] at hJ
      simp [cntB] at hJ ⊢
      omega

theorem c_holds {F : Nat → Bool} {s : Slt} {x : Han} (hl : s.used.length = s.ages.length) : PC ctx.P 238 [.agg (sltV F s), .agg (hanC x)] (.bool (sltHolds s x)) := by
  refine PC.o okC Tryz.func238 rfl (.bool _) fun h nx hnx => ?_
  try simp [-map_take, -map_drop, -map_tail, rgs, sltV, hanC, iv, bv, sltHolds]
  repeat' first | done | ((first | ((with_reducible show iaddrS _ _ _ _ _ _ _); refine iaddr_map rfl omA omA ?_) | ((with_reducible show doCall _ _ _ 337 _ _); refine call_pc (c_isIn_int64) ?_) | (with_reducible refine go_draw (i := 1) [(0, [], []), (1, [], []), (2, [], []), (3, [], []), (4, [], []), (5, [], []), (6, [], []), (7, [], []), (8, [], []), (9, [], []), (10, [], []), (11, [], []), (12, [], []), (13, [], []), (14, [], []), (15, [], []), (16, [], []), (17, [], []), (18, [], []), (19, [], []), (20, [], []), (21, [], []), (22, [], []), (23, [], []), (24, [], [])] (by kernel_rfl) ?_)) <;> simp [-map_take, -map_drop, -map_tail, rgs, sltV, hanC, iv, bv, sltHolds]) | ((with_reducible refine guardD_split ?_ ?_) <;> intro qb <;> (have qp := qb; try simp only [psq] at qp) <;> simp [-map_take, -map_drop, -map_tail, rgs, sltV, hanC, iv, bv, sltHolds, qb])

theorem c_IsDue {a b : Int} : PC ctx.P 135 [.int .i64 a, .int .i64 b] (.bool (isDue a b)) := by
  refine PC.o okC Tryz.func135 rfl (.bool _) fun h nx hnx => ?_
  try simp [-map_take, -map_drop, -map_tail, rgs, isDue, never]
  repeat' first | done | ((with_reducible refine guardS_split ?_ ?_) <;> intro qb <;> (have qp := qb; try simp only [psq] at qp) <;> simp [-map_take, -map_drop, -map_tail, rgs, isDue, never, qb])

theorem c_isNaN {a : Int} : PC ctx.P 411 [.int .i64 a] (.bool false) := by
  refine PC.o okC Tryz.func411 rfl (.bool _) fun h nx hnx => ?_
  try simp [-map_take, -map_drop, -map_tail, rgs]
theorem c_Compare {a b : Int} : PC ctx.P 395 [.int .i64 a, .int .i64 b] (.int .i64 (cmp2 a b)) := by
  refine PC.o okC Tryz.func395 rfl (.int _ _) fun h nx hnx => ?_
  try simp [-map_take, -map_drop, -map_tail, rgs, cmp2]
  repeat' first | done | (((with_reducible show doCall _ _ _ 411 _ _); refine call_pc (c_isNaN) ?_) <;> simp [-map_take, -map_drop, -map_tail, rgs, cmp2]) | ((with_reducible refine condS_split ?_ ?_) <;> intro qb <;> (have qp := qb; try simp only [psq] at qp) <;> simp [-map_take, -map_drop, -map_tail, rgs, cmp2, qb])
  all_goals omega
theorem c_Or {p : Bool} {xs : List Int} : PC ctx.P 394 [.view p 1 (xs.map iv)] (.int .i64 (orI xs)) := by
  refine PC.lim (n := xs.length) (x := .view p 1 (xs.map iv)) (by simp) (.here (by simp)) ⟨_, Tryz.func394, by kernel_rfl, by kernel_rfl⟩ fun hlim => ?_
  refine PC.o okC Tryz.func394 rfl (.int _ _) fun h nx hnx => ?_
  try simp [-map_take, -map_drop, -map_tail, rgs]
  repeat' first | done | (((with_reducible show lenS _ _ _ _ _ _); refine lenS_slice rfl fun _ => ?_) <;> simp [-map_take, -map_drop, -map_tail, rgs]) | fail
  refine go_upP [2, 5, 8, 9, 10, 11, 12, 13, 14, 15, 16] (xs.length) (fun (i : Nat) a => [(8, .int .i64 i)]) (fun i_ a_ h_ _ => (fun i (_ : Unit) _ => orI (xs.drop i) = orI xs) i_ a_ h_) (()) (by simp) ?_ keep_rfl (Nat.le_refl _) ?_
  · simp
  · intro i a tm h' n' hle hJ hE hn' next hnx
    try dsimp only at hJ
    have hK : KeepB nx h' h := KeepB.sub hE keepA (by omega)
    simp [-map_take, -map_drop, -map_tail]
    repeat' first | done | (((with_reducible show iaddrS _ _ _ _ _ _ _); refine iaddr_map rfl omA omA ?_) <;> simp [-map_take, -map_drop, -map_tail, rgs, iv]) | ((with_reducible refine condS_split ?_ ?_) <;> intro qb <;> (have qp := qb; try simp only [psq] at qp) <;> simp [-map_take, -map_drop, -map_tail, rgs, iv, qb])
    all_goals
      first
      | (have hlt : i < xs.length := (by first | omega | (simp at *; omega))
         rw [drop_gt hlt] at hJ
         first
         | (refine hnx.go (()) ?_ ?_ ?_ ?_ ?_ ?_; omega; (simp [wrap_succ hlt hlim]); (simp); exact keepA; (first | omega | (simp; omega)); (try dsimp only); clear hnx; first | ((try simp only [List.drop_length, Int.toNat_natCast, orI] at hJ ⊢); grind) | (simp_all [orI]; done) | (simp_all; omega))
         | (refine ⟨?_, keepA⟩; clear hnx; first | ((try simp only [List.drop_length, Int.toNat_natCast, orI] at hJ ⊢); grind) | (simp_all [orI]; done) | (simp_all; omega)))
      | (obtain rfl : i = xs.length := (by first | omega | (simp at *; omega))
         refine ⟨?_, keepA⟩; clear hnx; first | ((try simp only [List.drop_length, Int.toNat_natCast, orI] at hJ ⊢); grind) | (simp_all [orI]; done) | (simp_all; omega))
end Go.AE.Tryz
end

section
/- Contracts of the program's readers: heaps, timers, trees. -/
set_option maxRecDepth 8000
set_option maxHeartbeats 2000000
namespace Go.AE.Tryz
open Go.Proofs
open List (map_take map_drop map_tail)

theorem c_compare {a b : Twg} : PC ctx.P 348 [.agg (twgC a), .agg (twgC b)] (.int .i64 (twgCmp a b)) := by
  refine PC.o okC Tryz.func348 rfl (.int _ _) fun h nx hnx => ?_
  try simp [-map_take, -map_drop, -map_tail, rgs, twgC]
  repeat' first | done | ((first | ((with_reducible show doCall _ _ _ 395 _ _); refine call_pc (c_Compare) ?_) | ((with_reducible show doCall _ _ _ 394 _ _); refine call_pcB (c_Or (p := false) (xs := [cmp2 a.due b.due, cmp2 a.seq b.seq])) (by exact .int _ _) (by repeat' first | exact Bors.nil | refine Bors.cons ?_ ?_ | refine Bor.ref0 (by (simp [iv, bv]; done)) (by simp) (by simp)) ?_) | (with_reducible refine go_draw (i := 1) [(0, [], []), (1, [], []), (2, [], []), (3, [], []), (5, [], []), (6, [], []), (7, [], []), (8, [], []), (4, [.tmp 10, .tmp 12], []), (9, [], []), (10, [], []), (11, [], []), (12, [], [])] (by kernel_rfl) ?_)) <;> simp [-map_take, -map_drop, -map_tail, rgs, twgC]) | fail
  all_goals (try clear hnx)
  all_goals (simp_all [twgCmp]; done)
theorem c_parts {p : Bool} {l : List Twg} (hp : 0 < l.length) (h0 : 0 ≤ (gt l 0).lefts) (h1 : (gt l 0).lefts < l.length) :
    PC ctx.P 349 [.view p 3 (l.map twgC)] (.tup [.view p 3 ((l.tail.take (gt l 0).lefts.toNat).map twgC), .view p 3 ((l.drop ((gt l 0).lefts.toNat + 1)).map twgC)]) := by
  refine PC.lim (n := l.length) (x := .view p 3 (l.map twgC)) (by simp) (.here (by simp)) ⟨_, Tryz.func349, by kernel_rfl, by kernel_rfl⟩ fun hlim => ?_
  simp only [LIM] at hlim
  have q1 : (1 + (gt l 0).lefts).toNat = (gt l 0).lefts.toNat + 1 := by omega
  refine PC.o okC Tryz.func349 rfl (.tup _ (by simp [-List.map_take, -List.map_drop]; exact ⟨.vmap twgC_fz, .vmap twgC_fz⟩)) fun h nx hnx => ?_
  try simp [-map_take, -map_drop, -map_tail, rgs, twgC, i64_ok (x := 1 + (gt l 0).lefts) (by omega), q1]
  repeat' first | done | ((first | ((with_reducible show iaddrS _ _ _ _ _ _ _); refine iaddr_map rfl omA omA ?_) | ((with_reducible show sliceI _ _ _ _ _ _ _ _ _ _ _); refine sliceI_from rfl omA omA ?_) | ((with_reducible show sliceI _ _ _ _ _ _ _ _ _ _ _); refine sliceI_mid rfl omA omA omA ?_) | (with_reducible refine go_draw (i := 2) [(0, [], []), (1, [], []), (2, [], []), (3, [], []), (4, [], []), (5, [], []), (6, [], []), (7, [], [])] (by kernel_rfl) ?_)) <;> simp [-map_take, -map_drop, -map_tail, rgs, twgC, i64_ok (x := 1 + (gt l 0).lefts) (by omega), q1]) | fail
theorem c_seqAt1 {x : Twg} {s : Int} : PC ctx.P 391 [.agg (twgC x), .vptr [.int .i64 s]] (.bool (x.seq == s)) := by
  refine PC.o okC Tryz.func391 rfl (.bool _) fun h nx hnx => ?_
  try simp [-map_take, -map_drop, -map_tail, rgs, twgC]
theorem c_seqAt {p : Bool} {h : List Twg} {s : Int} : PC ctx.P 330 [.view p 3 (h.map twgC), .int .i64 s] (.int .i64 (seqAt h s)) := by
  refine PC.o okC Tryz.func330 rfl (.int _ _) fun h nx hnx => ?_
  try simp [-map_take, -map_drop, -map_tail, rgs, seqAt]
  repeat' first | done | (((with_reducible show doCall _ _ _ 332 _ _); refine call_pcB (c_IndexFunc_Twig (q := fun x => x.seq == s) (fv := .fn 391 [.vptr [.int .i64 s]]) (fun x _ => c_seqAt1)) (by exact .int _ _) (by repeat' first | exact Bors.nil | refine Bors.cons ?_ ?_ | exact Bor.same _ | refine Bor.fn1 ?_ | refine Bor.ptr0 (by (simp; rfl)) ?_) ?_) <;> simp [-map_take, -map_drop, -map_tail, rgs, seqAt]) | fail
theorem c_tmsAt1 {x : Tmr} {s : Int} : PC ctx.P 334 [.agg (tmrC x), .vptr [.int .i64 s]] (.bool (x.seq == s)) := by
  refine PC.o okC Tryz.func334 rfl (.bool _) fun h nx hnx => ?_
  try simp [-map_take, -map_drop, -map_tail, rgs, tmrC]
theorem c_tmsAt {F : Nat → Bool} {t : Tms} {s : Int} : PC ctx.P 231 [.agg (tmsV F t), .int .i64 s] (.int .i64 (tmsAt t.list s)) := by
  refine PC.o okC Tryz.func231 rfl (.int _ _) fun h nx hnx => ?_
  try simp [-map_take, -map_drop, -map_tail, rgs, tmsV, tmsAt]
  repeat' first | done | (((with_reducible show doCall _ _ _ 333 _ _); refine call_pcB (c_IndexFunc_Timer (q := fun x => x.seq == s) (fv := .fn 334 [.vptr [.int .i64 s]]) (fun x _ => c_tmsAt1)) (by exact .int _ _) (by repeat' first | exact Bors.nil | refine Bors.cons ?_ ?_ | exact Bor.same _ | refine Bor.fn1 ?_ | refine Bor.ptr0 (by (simp; rfl)) ?_) ?_) <;> simp [-map_take, -map_drop, -map_tail, rgs, tmsV, tmsAt]) | fail
theorem c_TimersOk1 {F : Nat → Bool} {t : Tms} {x : Twg} : PC ctx.P 230 [.agg (twgC x), .vptr (tmsV F t)] (.bool (decide (tmsAt t.list x.seq < 0) || (!(gt t.list (tmsAt t.list x.seq)).armed || (gt t.list (tmsAt t.list x.seq)).due != x.due))) := by
  have hat := tmsAt_lt t.list x.seq
  refine PC.o okC Tryz.func230 rfl (.bool _) fun h nx hnx => ?_
  try simp [-map_take, -map_drop, -map_tail, rgs, twgC, tmsV, tmrC]
  repeat' first | done | ((first | ((with_reducible show iaddrS _ _ _ _ _ _ _); refine iaddr_map rfl omA omA ?_) | ((with_reducible show doCall _ _ _ 231 _ _); refine call_pc (c_tmsAt (F := F) (t := t)) ?_) | (with_reducible refine go_draw (i := 2) [(0, [], []), (1, [], []), (2, [], []), (3, [], []), (4, [], []), (5, [], []), (6, [], []), (7, [], []), (8, [], []), (9, [], []), (10, [], []), (11, [], []), (12, [], []), (13, [], []), (14, [], []), (15, [], []), (16, [], []), (17, [], []), (18, [], []), (19, [], []), (20, [], []), (21, [], []), (22, [], [])] (by kernel_rfl) ?_)) <;> simp [-map_take, -map_drop, -map_tail, rgs, twgC, tmsV, tmrC]) | ((with_reducible refine guardD_split ?_ ?_) <;> intro qb <;> (have qp := qb; try simp only [psq] at qp) <;> simp [-map_take, -map_drop, -map_tail, rgs, twgC, tmsV, tmrC, qb])

theorem c_rank {p : Bool} {h0 : List Twg} {r : Nat} (hr : rk h0 = some r) : PC ctx.P 393 [.view p 3 (h0.map twgC)] (.int .i64 r) := by
  refine PC.lim (n := h0.length) (x := .view p 3 (h0.map twgC)) (by simp) (.here (by simp)) ⟨_, Tryz.func393, by kernel_rfl, by kernel_rfl⟩ fun hlim => ?_
  have hrl := rk_le hr
  simp only [LIM] at hlim
  refine PC.o okC Tryz.func393 rfl (.int _ _) fun h nx hnx => ?_
  try simp [-map_take, -map_drop, -map_tail, rgs]
  refine go_dnP [0, 3, 4, 5, 6, 7, 8, 9, 10, 11, 12, 13] (fun a => [(0, .view p 3 (a.1.map twgC)), (3, .int .i64 a.2)]) (fun a => a.1.length) (fun a_ h_ _ => (fun (a : List Twg × Int) _ => ∃ k : Nat, rk a.1 = some k ∧ a.2 + k = r ∧ 0 ≤ a.2) a_ h_) ((h0, 0)) (by simp) ?_ keep_rfl (Nat.le_refl _) ?_
  · exact ⟨r, hr, by simp, by simp⟩
  · intro a tm h' n' hJ hE hn' next hnx
    try dsimp only at hJ
    have hK : KeepB nx h' h := KeepB.sub hE keepA (by omega)
    obtain ⟨l, n⟩ := a
    obtain ⟨k, hk, hn, h0⟩ := hJ
    dsimp only at hk hn h0 ⊢
    rcases rk_cases hk with ⟨rfl, rfl⟩ | ⟨hp, hx0, hx1, b, hb, rfl⟩
    · try simp [-map_take, -map_drop, -map_tail, rgs]
      repeat' first | done | (((with_reducible show lenS _ _ _ _ _ _); refine lenS_slice rfl fun _ => ?_) <;> simp [-map_take, -map_drop, -map_tail, rgs]) | fail
      all_goals (first | exact ⟨by simpa using hn, hK⟩ | (simp at *; omega))
    · simp at hn h0
      try simp [-map_take, -map_drop, -map_tail, rgs]
      repeat' first | done | ((first | ((with_reducible show lenS _ _ _ _ _ _); refine lenS_slice rfl fun _ => ?_) | ((with_reducible show doCall _ _ _ 349 _ _); refine call_pc (c_parts hp hx0 hx1) ?_)) <;> simp [-map_take, -map_drop, -map_tail, rgs]) | ((with_reducible refine condS_split ?_ ?_) <;> intro qb <;> (have qp := qb; try simp only [psq] at qp) <;> simp [-map_take, -map_drop, -map_tail, rgs, qb])
      · refine hnx.go (l.drop ((gt l 0).lefts.toNat + 1), n + 1) (by simp; omega) (by simp [i64_ok (x := n + 1) (by omega)]) (by simp) keepA (by first | omega | (simp; omega)) ⟨b, hb, by simp; omega, by simp; omega⟩
      · omega
theorem c_isHeapN {p : Bool} : ∀ (n : Nat) (l : List Twg), l.length ≤ n → PC ctx.P 331 [.view p 3 (l.map twgC)] (.bool (rk l).isSome) := by
  intro n
  induction n with
  | zero =>
    intro l hl
    obtain rfl : l = [] := by simpa using hl
    refine PC.o okC Tryz.func331 rfl (.bool _) fun h nx hnx => ?_
    try simp [-map_take, -map_drop, -map_tail, rgs, rk_nil]
    repeat' first | done | (((with_reducible show lenS _ _ _ _ _ _); refine lenS_slice rfl fun _ => ?_) <;> simp [-map_take, -map_drop, -map_tail, rgs, rk_nil]) | fail
  | succ n ih =>
    intro l hl
    refine PC.lim (n := l.length) (x := .view p 3 (l.map twgC)) (by simp) (.here (by simp)) ⟨_, Tryz.func331, by kernel_rfl, by kernel_rfl⟩ fun hlim => ?_
    simp only [LIM] at hlim
    by_cases hp : 0 < l.length
    · have i1 := ih (l.tail.take (gt l 0).lefts.toNat) (by simp; omega)
      have i2 := ih (l.drop ((gt l 0).lefts.toNat + 1)) (by simp; omega)
      rw [rk_tail hp]
      cases ha : rk (l.tail.take (gt l 0).lefts.toNat) with
      | none =>
        rw [ha] at i1
        refine PC.o okC Tryz.func331 rfl (.bool _) fun h nx hnx => ?_
        try simp [-map_take, -map_drop, -map_tail, rgs, twgC, i64_ok (x := (l.length : Int) - 1) (by omega)]
        repeat' first | done | ((first | ((with_reducible show lenS _ _ _ _ _ _); refine lenS_slice rfl fun _ => ?_) | ((with_reducible show iaddrS _ _ _ _ _ _ _); refine iaddr_map rfl omA omA ?_) | ((with_reducible show doCall _ _ _ 392 _ _); refine call_pc (c_size_Twig) ?_) | ((with_reducible show doCall _ _ _ 106 _ _); refine call_pc (c_within) ?_) | ((with_reducible show doCall _ _ _ 349 _ _); refine call_pc (c_parts hp (by omega) (by omega)) ?_) | (refine call_pc (i1) ?_) | (with_reducible refine go_draw (i := 3) [(0, [], []), (1, [], []), (2, [], []), (3, [], []), (4, [], []), (5, [.tmp 10], []), (6, [], []), (7, [], []), (8, [], [])] (by kernel_rfl) ?_)) <;> simp [-map_take, -map_drop, -map_tail, rgs, twgC, i64_ok (x := (l.length : Int) - 1) (by omega)]) | ((with_reducible refine condS_split ?_ ?_) <;> intro qb <;> (have qp := qb; try simp only [psq] at qp) <;> simp [-map_take, -map_drop, -map_tail, rgs, twgC, i64_ok (x := (l.length : Int) - 1) (by omega), qb])
        all_goals (clear ih i1 i2 hnx; simp_all)
      | some a =>
        rw [ha] at i1
        cases hb : rk (l.drop ((gt l 0).lefts.toNat + 1)) with
        | none =>
          rw [hb] at i2
          refine PC.o okC Tryz.func331 rfl (.bool _) fun h nx hnx => ?_
          try simp [-map_take, -map_drop, -map_tail, rgs, twgC, i64_ok (x := (l.length : Int) - 1) (by omega)]
          repeat' first | done | ((first | ((with_reducible show lenS _ _ _ _ _ _); refine lenS_slice rfl fun _ => ?_) | ((with_reducible show iaddrS _ _ _ _ _ _ _); refine iaddr_map rfl omA omA ?_) | ((with_reducible show doCall _ _ _ 392 _ _); refine call_pc (c_size_Twig) ?_) | ((with_reducible show doCall _ _ _ 106 _ _); refine call_pc (c_within) ?_) | ((with_reducible show doCall _ _ _ 349 _ _); refine call_pc (c_parts hp (by omega) (by omega)) ?_) | (refine call_pc (i1) ?_) | (refine call_pc (i2) ?_) | (with_reducible refine go_draw (i := 3) [(0, [], []), (1, [], []), (2, [], []), (3, [], []), (4, [], []), (5, [.tmp 10], []), (6, [], []), (7, [], []), (8, [], [])] (by kernel_rfl) ?_)) <;> simp [-map_take, -map_drop, -map_tail, rgs, twgC, i64_ok (x := (l.length : Int) - 1) (by omega)]) | ((with_reducible refine condS_split ?_ ?_) <;> intro qb <;> (have qp := qb; try simp only [psq] at qp) <;> simp [-map_take, -map_drop, -map_tail, rgs, twgC, i64_ok (x := (l.length : Int) - 1) (by omega), qb])
          all_goals (clear ih i1 i2 hnx; simp_all)
        | some b =>
          rw [hb] at i2
          simp only [head_all]
          refine PC.o okC Tryz.func331 rfl (.bool _) fun h nx hnx => ?_
          try simp [-map_take, -map_drop, -map_tail, rgs, twgC, i64_ok (x := (l.length : Int) - 1) (by omega)]
          repeat' first | done | ((first | ((with_reducible show lenS _ _ _ _ _ _); refine lenS_slice rfl fun _ => ?_) | ((with_reducible show iaddrS _ _ _ _ _ _ _); refine iaddr_map rfl omA omA ?_) | ((with_reducible show doCall _ _ _ 392 _ _); refine call_pc (c_size_Twig) ?_) | ((with_reducible show doCall _ _ _ 106 _ _); refine call_pc (c_within) ?_) | ((with_reducible show doCall _ _ _ 349 _ _); refine call_pc (c_parts hp (by omega) (by omega)) ?_) | (refine call_pc (i1) ?_) | (refine call_pc (i2) ?_) | ((with_reducible show doCall _ _ _ 393 _ _); refine call_pc (c_rank ha) ?_) | ((with_reducible show doCall _ _ _ 393 _ _); refine call_pc (c_rank hb) ?_) | ((with_reducible show doCall _ _ _ 348 _ _); refine call_pc (c_compare (a := gt l 0)) ?_) | (with_reducible refine go_draw (i := 3) [(0, [], []), (1, [], []), (2, [], []), (3, [], []), (4, [], []), (5, [.tmp 10], []), (6, [], []), (7, [], []), (8, [], [])] (by kernel_rfl) ?_) | (with_reducible refine go_draw (i := 8) [(0, [], []), (1, [], []), (2, [], []), (3, [], []), (4, [], []), (5, [], []), (6, [], []), (7, [], []), (8, [], []), (9, [], []), (10, [], []), (11, [], []), (12, [], []), (13, [], []), (14, [], []), (15, [], []), (16, [], []), (17, [], []), (18, [], []), (19, [], []), (20, [], []), (21, [], []), (22, [], []), (23, [], []), (24, [], []), (25, [], []), (26, [], []), (27, [], []), (28, [], [])] (by kernel_rfl) ?_)) <;> simp [-map_take, -map_drop, -map_tail, rgs, twgC, i64_ok (x := (l.length : Int) - 1) (by omega)]) | ((first | (with_reducible refine guardD_split ?_ ?_) | (with_reducible refine condS_split ?_ ?_)) <;> intro qb <;> (have qp := qb; try simp only [psq] at qp) <;> simp [-map_take, -map_drop, -map_tail, rgs, twgC, i64_ok (x := (l.length : Int) - 1) (by omega), qb])
          all_goals clear ih i1 i2 hnx
          all_goals first | (simp_all; done) | (simp_all; omega) | grind | trace_state
    · obtain rfl : l = [] := by cases l <;> simp at hp ⊢
      refine PC.o okC Tryz.func331 rfl (.bool _) fun h nx hnx => ?_
      try simp [-map_take, -map_drop, -map_tail, rgs, rk_nil]
      repeat' first | done | (((with_reducible show lenS _ _ _ _ _ _); refine lenS_slice rfl fun _ => ?_) <;> simp [-map_take, -map_drop, -map_tail, rgs, rk_nil]) | fail
theorem c_isHeap {p : Bool} {l : List Twg} : PC ctx.P 331 [.view p 3 (l.map twgC)] (.bool (rk l).isSome) := c_isHeapN _ _ (Nat.le_refl _)
theorem c_HeapOk {p : Bool} {l : List Twg} : PC ctx.P 228 [.view p 3 (l.map twgC)] (.bool (heapOk l)) := by
  refine PC.lim (n := l.length) (x := .view p 3 (l.map twgC)) (by simp) (.here (by simp)) ⟨_, Tryz.func228, by kernel_rfl, by kernel_rfl⟩ fun hlim => ?_
  refine PC.o okC Tryz.func228 rfl (.bool _) fun h nx hnx => ?_
  try simp [-map_take, -map_drop, -map_tail, rgs]
  repeat' first | done | (((with_reducible show lenS _ _ _ _ _ _); refine lenS_slice rfl fun _ => ?_) <;> simp [-map_take, -map_drop, -map_tail, rgs]) | ((with_reducible refine condS_split ?_ ?_) <;> intro qb <;> (have qp := qb; try simp only [psq] at qp) <;> simp [-map_take, -map_drop, -map_tail, rgs, qb])
  · all_goals (try clear hnx)
    all_goals (simp_all [heapOk]; omega)
  · refine go_upP [2, 3, 4, 10, 11, 12, 13, 14, 15, 16, 17, 18, 19, 20, 21, 22] (l.length) (fun (i : Nat) a => [(10, .int .i64 i)]) (fun i_ a_ h_ _ => (fun i (_ : Unit) _ => allI (fun i x => !(decide (0 ≤ seqAt (l.take i.toNat) x.seq))) (l.drop i) i = allI (fun i x => !(decide (0 ≤ seqAt (l.take i.toNat) x.seq))) l 0) i_ a_ h_) (()) (by simp) ?_ keep_rfl (Nat.le_refl _) ?_
    · simp
    · intro i a tm h' n' hle hJ hE hn' next hnx
      try dsimp only at hJ
      have hK : KeepB nx h' h := KeepB.sub hE keepA (by omega)
      simp [-map_take, -map_drop, -map_tail]
      repeat' first | done | ((first | ((with_reducible show iaddrS _ _ _ _ _ _ _); refine iaddr_map rfl omA omA ?_) | ((with_reducible show sliceI _ _ _ _ _ _ _ _ _ _ _); refine sliceI_to rfl omA omA ?_) | ((with_reducible show doCall _ _ _ 330 _ _); refine call_pc (c_seqAt) ?_) | ((with_reducible show doCall _ _ _ 331 _ _); refine call_pc (c_isHeap) ?_) | (with_reducible refine go_draw (i := 6) [(0, [], []), (1, [], []), (2, [], []), (3, [], []), (4, [], []), (5, [], []), (6, [], [])] (by kernel_rfl) ?_)) <;> simp [-map_take, -map_drop, -map_tail, rgs, twgC]) | ((with_reducible refine condS_split ?_ ?_) <;> intro qb <;> (have qp := qb; try simp only [psq] at qp) <;> simp [-map_take, -map_drop, -map_tail, rgs, twgC, qb])
      all_goals
        first
        | (have hlt : i < l.length := (by first | omega | (simp at *; omega))
           rw [drop_gt hlt] at hJ
           first
           | (refine hnx.go (()) ?_ ?_ ?_ ?_ ?_ ?_; omega; (simp [wrap_succ hlt hlim]); (simp); exact keepA; (first | omega | (simp; omega)); (try dsimp only); clear hnx; first | ((try simp only [List.drop_length, Int.toNat_natCast, allI, heapOk] at hJ ⊢); grind) | (simp_all [allI, heapOk]; done) | (simp_all; omega))
           | (refine ⟨?_, keepA⟩; clear hnx; first | ((try simp only [List.drop_length, Int.toNat_natCast, allI, heapOk] at hJ ⊢); grind) | (simp_all [allI, heapOk]; done) | (simp_all; omega)))
        | (obtain rfl : i = l.length := (by first | omega | (simp at *; omega))
           refine ⟨?_, keepA⟩; clear hnx; first | ((try simp only [List.drop_length, Int.toNat_natCast, allI, heapOk] at hJ ⊢); grind) | (simp_all [allI, heapOk]; done) | (simp_all; omega))

theorem c_isNode {n : Nod} {i : Int} (h0 : 0 ≤ i) (h1 : i ≤ LIM) : PC ctx.P 131 [.agg (nodC n), .int .i64 i] (.bool (isNode n i)) := by
  simp only [LIM] at h1
  refine PC.o okC Tryz.func131 rfl (.bool _) fun h nx hnx => ?_
  try simp [-map_take, -map_drop, -map_tail, rgs, nodC, i64_ok (x := i) (by omega), i64_ok (x := i - 1) (by omega)]
  repeat' first | done | (((with_reducible show doCall _ _ _ 106 _ _); refine call_pc (c_within) ?_) <;> simp [-map_take, -map_drop, -map_tail, rgs, nodC, i64_ok (x := i) (by omega), i64_ok (x := i - 1) (by omega)]) | ((first | (with_reducible refine guardS_split ?_ ?_) | (with_reducible refine condS_split ?_ ?_)) <;> intro qb <;> (have qp := qb; try simp only [psq] at qp) <;> simp [-map_take, -map_drop, -map_tail, rgs, nodC, i64_ok (x := i) (by omega), i64_ok (x := i - 1) (by omega), qb])
  all_goals (try clear hnx)
  all_goals (simp_all [isNode, never]; done)
theorem c_TreeOk {p : Bool} {t : List Nod} : PC ctx.P 222 [.view p 5 (t.map nodC)] (.bool (treeOk t)) := by
  refine PC.lim (n := t.length) (x := .view p 5 (t.map nodC)) (by simp) (.here (by simp)) ⟨_, Tryz.func222, by kernel_rfl, by kernel_rfl⟩ fun hlim => ?_
  refine PC.o okC Tryz.func222 rfl (.bool _) fun h nx hnx => ?_
  try simp [-map_take, -map_drop, -map_tail, rgs]
  repeat' first | done | (((with_reducible show lenS _ _ _ _ _ _); refine lenS_slice rfl fun _ => ?_) <;> simp [-map_take, -map_drop, -map_tail, rgs]) | fail
  refine go_upP [2, 3, 4, 7, 8, 9, 10, 11, 12, 13, 14, 15, 16, 17, 18, 19, 20] (t.length) (fun (i : Nat) a => [(7, .int .i64 i)]) (fun i_ a_ h_ _ => (fun i (_ : Unit) _ => allI (fun i n => i != 60 && isNode n i) (t.drop i) i = treeOk t) i_ a_ h_) (()) (by simp) ?_ keep_rfl (Nat.le_refl _) ?_
  · simp [treeOk]
  · intro i a tm h' n' hle hJ hE hn' next hnx
    try dsimp only at hJ
    have hK : KeepB nx h' h := KeepB.sub hE keepA (by omega)
    simp [-map_take, -map_drop, -map_tail]
    repeat' first | done | ((first | ((with_reducible show iaddrS _ _ _ _ _ _ _); refine iaddr_map rfl omA omA ?_) | ((with_reducible show doCall _ _ _ 131 _ _); refine call_pc (c_isNode (by omega) (by omega)) ?_)) <;> simp [-map_take, -map_drop, -map_tail, rgs]) | ((first | (with_reducible refine guardS_split ?_ ?_) | (with_reducible refine condS_split ?_ ?_)) <;> intro qb <;> (have qp := qb; try simp only [psq] at qp) <;> simp [-map_take, -map_drop, -map_tail, rgs, qb])
    all_goals
      first
      | (have hlt : i < t.length := (by first | omega | (simp at *; omega))
         rw [drop_gt hlt] at hJ
         first
         | (refine hnx.go (()) ?_ ?_ ?_ ?_ ?_ ?_; omega; (simp [wrap_succ hlt hlim]); (simp); exact keepA; (first | omega | (simp; omega)); (try dsimp only); clear hnx; first | ((try simp only [List.drop_length, Int.toNat_natCast, allI] at hJ ⊢); grind) | (simp_all [allI]; done) | (simp_all; omega))
         | (refine ⟨?_, keepA⟩; clear hnx; first | ((try simp only [List.drop_length, Int.toNat_natCast, allI] at hJ ⊢); grind) | (simp_all [allI]; done) | (simp_all; omega)))
      | (obtain rfl : i = t.length := (by first | omega | (simp at *; omega))
         refine ⟨?_, keepA⟩; clear hnx; first | ((try simp only [List.drop_length, Int.toNat_natCast, allI] at hJ ⊢); grind) | (simp_all [allI]; done) | (simp_all; omega))
theorem c_Index {p : Bool} {xs : List Int} {n : Int} : PC ctx.P 352 [.view p 1 (xs.map iv), .int .i64 n] (.int .i64 (idxI (fun x => n == x) xs 0)) := by
  refine PC.lim (n := xs.length) (x := .view p 1 (xs.map iv)) (by simp) (.here (by simp)) ⟨_, Tryz.func352, by kernel_rfl, by kernel_rfl⟩ fun hlim => ?_
  refine PC.o okC Tryz.func352 rfl (.int _ _) fun h nx hnx => ?_
  try simp [-map_take, -map_drop, -map_tail, rgs]
  repeat' first | done | (((with_reducible show lenS _ _ _ _ _ _); refine lenS_slice rfl fun _ => ?_) <;> simp [-map_take, -map_drop, -map_tail, rgs]) | fail
  refine go_upP [4, 5, 8, 9, 10, 11, 12, 13, 14, 15, 16, 17, 18] (xs.length) (fun (i : Nat) a => [(8, .int .i64 i)]) (fun i_ a_ h_ _ => (fun i (_ : Unit) _ => idxI (fun x => n == x) (xs.drop i) i = idxI (fun x => n == x) xs 0) i_ a_ h_) (()) (by simp) ?_ keep_rfl (Nat.le_refl _) ?_
  · simp
  · intro i a tm h' n' hle hJ hE hn' next hnx
    try dsimp only at hJ
    have hK : KeepB nx h' h := KeepB.sub hE keepA (by omega)
    simp [-map_take, -map_drop, -map_tail]
    repeat' first | done | (((with_reducible show iaddrS _ _ _ _ _ _ _); refine iaddr_map rfl omA omA ?_) <;> simp [-map_take, -map_drop, -map_tail, rgs, iv]) | ((with_reducible refine condS_split ?_ ?_) <;> intro qb <;> (have qp := qb; try simp only [psq] at qp) <;> simp [-map_take, -map_drop, -map_tail, rgs, iv, qb])
    all_goals
      first
      | (have hlt : i < xs.length := (by first | omega | (simp at *; omega))
         rw [drop_gt hlt] at hJ
         first
         | (refine hnx.go (()) ?_ ?_ ?_ ?_ ?_ ?_; omega; (simp [wrap_succ hlt hlim]); (simp); exact keepA; (first | omega | (simp; omega)); (try dsimp only); clear hnx; first | ((try simp only [List.drop_length, Int.toNat_natCast, idxI] at hJ ⊢); grind) | (simp_all [idxI]; done) | (simp_all; omega))
         | (refine ⟨?_, keepA⟩; clear hnx; first | ((try simp only [List.drop_length, Int.toNat_natCast, idxI] at hJ ⊢); grind) | (simp_all [idxI]; done) | (simp_all; omega)))
      | (obtain rfl : i = xs.length := (by first | omega | (simp at *; omega))
         refine ⟨?_, keepA⟩; clear hnx; first | ((try simp only [List.drop_length, Int.toNat_natCast, idxI] at hJ ⊢); grind) | (simp_all [idxI]; done) | (simp_all; omega))
theorem c_Contains {p : Bool} {xs : List Int} {n : Int} : PC ctx.P 270 [.view p 1 (xs.map iv), .int .i64 n] (.bool (xs.contains n)) := by
  have e : decide (0 ≤ idxI (fun x => n == x) xs 0) = xs.contains n := by rw [idxI_any _ _ 0 (Int.le_refl 0), any_contains]
  refine PC.o okC Tryz.func270 rfl (.bool _) fun h nx hnx => ?_
  try simp [-map_take, -map_drop, -map_tail, rgs, e]
  repeat' first | done | (((with_reducible show doCall _ _ _ 352 _ _); refine call_pc (c_Index) ?_) <;> simp [-map_take, -map_drop, -map_tail, rgs, e]) | fail
theorem c_isEvent {p : Bool} {t : List Nod} {e : Evt} : PC ctx.P 327 [.agg (evtC e), .view p 5 (t.map nodC)] (.bool (isEvent t e)) := by
  refine PC.o okC Tryz.func327 rfl (.bool _) fun h nx hnx => ?_
  try simp [-map_take, -map_drop, -map_tail, rgs, evtC, nodC]
  repeat' first | done | ((first | ((with_reducible show iaddrS _ _ _ _ _ _ _); refine iaddr_map rfl omA omA ?_) | ((with_reducible show doCall _ _ _ 113 _ _); refine call_pc (c_isIn_Node) ?_) | ((with_reducible show doCall _ _ _ 106 _ _); refine call_pc (c_within) ?_) | ((with_reducible show doCall _ _ _ 135 _ _); refine call_pc (c_IsDue) ?_) | (with_reducible refine go_draw (i := 8) [(0, [], []), (1, [], []), (2, [], []), (3, [], []), (4, [], []), (5, [], []), (6, [], []), (7, [], []), (8, [], []), (9, [], []), (10, [], []), (11, [], []), (12, [], []), (13, [], []), (14, [], []), (15, [], []), (16, [], []), (17, [], []), (18, [], [])] (by kernel_rfl) ?_)) <;> simp [-map_take, -map_drop, -map_tail, rgs, evtC, nodC]) | ((first | (with_reducible refine guardD_split ?_ ?_) | (with_reducible refine guardS_split ?_ ?_) | (with_reducible refine condS_split ?_ ?_)) <;> intro qb <;> (have qp := qb; try simp only [psq] at qp) <;> simp [-map_take, -map_drop, -map_tail, rgs, evtC, nodC, qb])
  all_goals (try clear hnx)
  all_goals (simp_all [isEvent]; done)
theorem c_isSpread1 {p : Bool} {t : List Nod} {n : Int} : PC ctx.P 225 [.int .i64 n, .vptr [.view p 5 (t.map nodC)]] (.bool (!isIn n t)) := by
  refine PC.o okC Tryz.func225 rfl (.bool _) fun h nx hnx => ?_
  try simp [-map_take, -map_drop, -map_tail, rgs]
  repeat' first | done | (((with_reducible show doCall _ _ _ 113 _ _); refine call_pc (c_isIn_Node) ?_) <;> simp [-map_take, -map_drop, -map_tail, rgs]) | fail
theorem c_isSpread {F : Nat → Bool} {p : Bool} {t : List Nod} {s : Spr} : PC ctx.P 103 [.agg (sprV F s), .view p 5 (t.map nodC)] (.bool (isSpread s t)) := by
  refine PC.o okC Tryz.func103 rfl (.bool _) fun h nx hnx => ?_
  try simp [-map_take, -map_drop, -map_tail, rgs, sprV]
  repeat' first | done | ((first | ((with_reducible show lenS _ _ _ _ _ _); refine lenS_slice rfl fun _ => ?_) | ((with_reducible show doCall _ _ _ 224 _ _); refine call_pcB (c_ContainsFunc_int64 (q := fun n => !isIn n t) (fv := .fn 225 [.vptr [.view p 5 (t.map nodC)]]) (fun x _ => c_isSpread1)) (by exact .bool _) (by repeat' first | exact Bors.nil | refine Bors.cons ?_ ?_ | exact Bor.same _ | refine Bor.fn1 ?_ | refine Bor.ptr0 (by (simp; rfl)) ?_) ?_)) <;> simp [-map_take, -map_drop, -map_tail, rgs, sprV]) | ((with_reducible refine guardS_split ?_ ?_) <;> intro qb <;> (have qp := qb; try simp only [psq] at qp) <;> simp [-map_take, -map_drop, -map_tail, rgs, sprV, qb])
  all_goals (try clear hnx)
  all_goals first | (simp_all [isSpread]; done) | (simp_all [isSpread]; omega)
end Go.AE.Tryz
end

section
/- Contracts of the program's readers: tasks, groups, worlds. -/
set_option maxRecDepth 8000
set_option maxHeartbeats 2000000
namespace Go.AE.Tryz
open Go.Proofs
open List (map_take map_drop map_tail)

theorem c_hasNode {n : Int} : PC ctx.P 214 [.int .i64 n] (.bool (hasNode n)) := by
  refine PC.o okC Tryz.func214 rfl (.bool _) fun h nx hnx => ?_
  try simp [-map_take, -map_drop, -map_tail, rgs]
  repeat' first | done | (((with_reducible show doCall _ _ _ 106 _ _); refine call_pc (c_within) ?_) <;> simp [-map_take, -map_drop, -map_tail, rgs]) | ((with_reducible refine guardS_split ?_ ?_) <;> intro qb <;> (have qp := qb; try simp only [psq] at qp) <;> simp [-map_take, -map_drop, -map_tail, rgs, qb])
  all_goals (try clear hnx)
  all_goals (simp_all [hasNode]; done)
theorem c_hasB {n : Int} : PC ctx.P 326 [.int .i64 n] (.bool (hasB n)) := by
  refine PC.o okC Tryz.func326 rfl (.bool _) fun h nx hnx => ?_
  try simp [-map_take, -map_drop, -map_tail, rgs]
  repeat' first | done | ((with_reducible refine guardS_split ?_ ?_) <;> intro qb <;> (have qp := qb; try simp only [psq] at qp) <;> simp [-map_take, -map_drop, -map_tail, rgs, qb])
  all_goals (try clear hnx)
  all_goals first | (simp_all [hasB]; done) | (rw [Bool.eq_iff_iff]; simp_all [hasB]; done)
theorem c_InsOk {x : Inn} : PC ctx.P 221 [.agg (innC x)] (.bool (innOk x)) := by
  refine PC.o okC Tryz.func221 rfl (.bool _) fun h nx hnx => ?_
  try simp [-map_take, -map_drop, -map_tail, rgs, innC]
  repeat' first | done | ((first | ((with_reducible show doCall _ _ _ 214 _ _); refine call_pc (c_hasNode) ?_) | ((with_reducible show doCall _ _ _ 326 _ _); refine call_pc (c_hasB) ?_) | ((with_reducible show doCall _ _ _ 106 _ _); refine call_pc (c_within) ?_)) <;> simp [-map_take, -map_drop, -map_tail, rgs, innC]) | ((first | (with_reducible refine guardS_split ?_ ?_) | (with_reducible refine condS_split ?_ ?_)) <;> intro qb <;> (have qp := qb; try simp only [psq] at qp) <;> simp [-map_take, -map_drop, -map_tail, rgs, innC, qb])
  all_goals (try clear hnx)
  all_goals (simp_all [innOk]; done)
theorem c_ProgOk1 {x : Inn} : PC ctx.P 220 [.agg (innC x)] (.bool (!innOk x)) := by
  refine PC.o okC Tryz.func220 rfl (.bool _) fun h nx hnx => ?_
  try simp [-map_take, -map_drop, -map_tail, rgs]
  repeat' first | done | (((with_reducible show doCall _ _ _ 221 _ _); refine call_pc (c_InsOk) ?_) <;> simp [-map_take, -map_drop, -map_tail, rgs]) | fail
theorem c_ProgOk {p : Bool} {l : List Inn} : PC ctx.P 101 [.view p 3 (l.map innC)] (.bool (progOk l)) := by
  refine PC.o okC Tryz.func101 rfl (.bool _) fun h nx hnx => ?_
  try simp [-map_take, -map_drop, -map_tail, rgs]
  repeat' first | done | ((first | ((with_reducible show lenS _ _ _ _ _ _); refine lenS_slice rfl fun _ => ?_) | ((with_reducible show doCall _ _ _ 219 _ _); refine call_pc (c_ContainsFunc_Ins (q := fun x => !innOk x) (fun x _ => c_ProgOk1)) ?_)) <;> simp [-map_take, -map_drop, -map_tail, rgs]) | ((with_reducible refine guardS_split ?_ ?_) <;> intro qb <;> (have qp := qb; try simp only [psq] at qp) <;> simp [-map_take, -map_drop, -map_tail, rgs, qb])
  all_goals (try clear hnx)
  all_goals (simp_all [progOk]; omega)
theorem c_TaskOk {t : Tsk} : PC ctx.P 244 [.agg (tskC t)] (.bool (tskOk t)) := by
  refine PC.o okC Tryz.func244 rfl (.bool _) fun h nx hnx => ?_
  try simp [-map_take, -map_drop, -map_tail, rgs, tskC]
  repeat' first | done | ((first | ((with_reducible show doCall _ _ _ 106 _ _); refine call_pc (c_within) ?_) | (with_reducible refine go_draw (i := 3) [(0, [], []), (1, [], []), (2, [], []), (3, [], []), (4, [], []), (5, [.tmp 34], []), (6, [], []), (7, [], []), (8, [], []), (9, [], []), (10, [], []), (11, [], []), (12, [], []), (13, [], []), (14, [], []), (15, [], []), (16, [], [])] (by kernel_rfl) ?_)) <;> simp [-map_take, -map_drop, -map_tail, rgs, tskC]) | ((first | (with_reducible refine guardD_split ?_ ?_) | (with_reducible refine guardS_split ?_ ?_) | (with_reducible refine condS_split ?_ ?_)) <;> intro qb <;> (have qp := qb; try simp only [psq] at qp) <;> simp [-map_take, -map_drop, -map_tail, rgs, tskC, qb])
  all_goals (try clear hnx)
  all_goals first | (simp_all [tskOk]; done) | (simp only [tskOk]; grind)
theorem c_TasksOk1 {t : Tsk} : PC ctx.P 243 [.agg (tskC t)] (.bool (!tskOk t)) := by
  refine PC.o okC Tryz.func243 rfl (.bool _) fun h nx hnx => ?_
  try simp [-map_take, -map_drop, -map_tail, rgs]
  repeat' first | done | (((with_reducible show doCall _ _ _ 244 _ _); refine call_pc (c_TaskOk) ?_) <;> simp [-map_take, -map_drop, -map_tail, rgs]) | fail
theorem c_TasksOk {p : Bool} {l : List Tsk} : PC ctx.P 114 [.view p 9 (l.map tskC)] (.bool (tasksOk l)) := by
  refine PC.o okC Tryz.func114 rfl (.bool _) fun h nx hnx => ?_
  try simp [-map_take, -map_drop, -map_tail, rgs]
  repeat' first | done | ((first | ((with_reducible show lenS _ _ _ _ _ _); refine lenS_slice rfl fun _ => ?_) | ((with_reducible show doCall _ _ _ 242 _ _); refine call_pc (c_ContainsFunc_Task (q := fun x => !tskOk x) (fun x _ => c_TasksOk1)) ?_)) <;> simp [-map_take, -map_drop, -map_tail, rgs]) | ((with_reducible refine guardS_split ?_ ?_) <;> intro qb <;> (have qp := qb; try simp only [psq] at qp) <;> simp [-map_take, -map_drop, -map_tail, rgs, qb])
  all_goals (try clear hnx)
  all_goals (simp_all [tasksOk]; omega)
theorem c_isAfter {a b : Int} : PC ctx.P 237 [.int .i64 a, .int .i64 b] (.bool (isAfter a b)) := by
  refine PC.o okC Tryz.func237 rfl (.bool _) fun h nx hnx => ?_
  try simp [-map_take, -map_drop, -map_tail, rgs]
  repeat' first | done | (((with_reducible show doCall _ _ _ 106 _ _); refine call_pc (c_within) ?_) <;> simp [-map_take, -map_drop, -map_tail, rgs]) | ((with_reducible refine guardS_split ?_ ?_) <;> intro qb <;> (have qp := qb; try simp only [psq] at qp) <;> simp [-map_take, -map_drop, -map_tail, rgs, qb])
  all_goals (try clear hnx)
  all_goals (simp_all [isAfter]; done)
theorem c_afsAt1 {x : Afr} {h : Han} : PC ctx.P 339 [.agg (afrC x), .vptr (hanC h)] (.bool (x.han == h)) := by
  refine PC.o okC Tryz.func339 rfl (.bool _) fun h nx hnx => ?_
  try simp [-map_take, -map_drop, -map_tail, rgs, afrC, hanC, han_eq, lfOf, cellsEq, cellEq]
theorem c_afsAt {F : Nat → Bool} {a : Afs} {x : Han} : PC ctx.P 239 [.agg (afsV F a), .agg (hanC x)] (.int .i64 (afsAt a.list x)) := by
  refine PC.o okC Tryz.func239 rfl (.int _ _) fun h nx hnx => ?_
  try simp [-map_take, -map_drop, -map_tail, rgs, afsV, afsAt]
  repeat' first | done | (((with_reducible show doCall _ _ _ 338 _ _); refine call_pcB (c_IndexFunc_After (q := fun y => y.han == x) (fv := .fn 339 [.vptr (hanC x)]) (fun x _ => c_afsAt1)) (by exact .int _ _) (by repeat' first | exact Bors.nil | refine Bors.cons ?_ ?_ | exact Bor.same _ | refine Bor.fn1 ?_ | refine Bor.ptr0 (by (simp; rfl)) ?_) ?_) <;> simp [-map_take, -map_drop, -map_tail, rgs, afsV, afsAt]) | fail
theorem c_isTimer {F : Nat → Bool} {w : Wld} {t : Tmr} : PC ctx.P 109 [.agg (wldV F w), .agg (tmrC t)] (.bool (isTimer w t)) := by
  refine PC.o okC Tryz.func109 rfl (.bool _) fun h nx hnx => ?_
  try simp [-map_take, -map_drop, -map_tail, rgs, wldV, tmrC]
  repeat' first | done | ((first | ((with_reducible show doCall _ _ _ 113 _ _); refine call_pc (c_isIn_Node) ?_) | ((with_reducible show doCall _ _ _ 211 _ _); refine call_pc (c_isIn_Task) ?_)) <;> simp [-map_take, -map_drop, -map_tail, rgs, wldV, tmrC]) | ((with_reducible refine condS_split ?_ ?_) <;> intro qb <;> (have qp := qb; try simp only [psq] at qp) <;> simp [-map_take, -map_drop, -map_tail, rgs, wldV, tmrC, qb])
  all_goals (try clear hnx)
  all_goals (simp_all [isTimer]; done)
theorem c_isSight {F : Nat → Bool} {w : Wld} {s : Sgt} : PC ctx.P 120 [.agg (wldV F w), .agg (sgtC s)] (.bool (isSight w s)) := by
  refine PC.o okC Tryz.func120 rfl (.bool _) fun h nx hnx => ?_
  try simp [-map_take, -map_drop, -map_tail, rgs, wldV, sgtC]
  repeat' first | done | ((first | ((with_reducible show doCall _ _ _ 113 _ _); refine call_pc (c_isIn_Node) ?_) | ((with_reducible show doCall _ _ _ 106 _ _); refine call_pc (c_within) ?_) | ((with_reducible show doCall _ _ _ 255 _ _); refine call_pc (c_size_Event) ?_) | (with_reducible refine go_draw (i := 1) [(0, [], []), (1, [], []), (2, [], []), (3, [], []), (4, [], []), (5, [], []), (6, [], []), (7, [], []), (8, [], []), (9, [], []), (10, [], []), (11, [.tmp 12], []), (12, [], []), (13, [], []), (14, [], [])] (by kernel_rfl) ?_)) <;> simp [-map_take, -map_drop, -map_tail, rgs, wldV, sgtC]) | ((first | (with_reducible refine guardD_split ?_ ?_) | (with_reducible refine guardS_split ?_ ?_) | (with_reducible refine condS_split ?_ ?_)) <;> intro qb <;> (have qp := qb; try simp only [psq] at qp) <;> simp [-map_take, -map_drop, -map_tail, rgs, wldV, sgtC, qb])
  all_goals (try clear hnx)
  all_goals (simp_all [isSight]; done)
theorem c_isTask {F : Nat → Bool} {w : Wld} {t : Tsk} : PC ctx.P 116 [.agg (wldV F w), .agg (tskC t)] (.bool (isTask w t)) := by
  refine PC.lim (n := w.groups.length) (x := .agg (wldV F w)) (by simp) (.agg (x := .view (F 12) 5 (w.groups.map (grpV (F 13)))) (by simp [wldV]) (.here (by simp))) ⟨_, Tryz.func116, by kernel_rfl, by kernel_rfl⟩ fun hlim => ?_
  refine PC.o okC Tryz.func116 rfl (.bool _) fun h nx hnx => ?_
  try simp [-map_take, -map_drop, -map_tail, rgs, wldV, tskC, prgV, wrap_pred hlim]
  repeat' first | done | ((first | ((with_reducible show iaddrS _ _ _ _ _ _ _); refine iaddr_map rfl omA omA ?_) | ((with_reducible show doCall _ _ _ 246 _ _); refine call_pc (c_isIn_Prog) ?_) | ((with_reducible show doCall _ _ _ 212 _ _); refine call_pc (c_size_Ins) ?_) | ((with_reducible show doCall _ _ _ 247 _ _); refine call_pc (c_size_Group) ?_) | ((with_reducible show doCall _ _ _ 106 _ _); refine call_pc (c_within) ?_) | ((with_reducible show doCall _ _ _ 113 _ _); refine call_pc (c_isIn_Node) ?_) | ((with_reducible show doCall _ _ _ 248 _ _); refine call_pc (c_isIn_Group) ?_) | (with_reducible refine go_draw (i := 1) [(0, [], []), (1, [], []), (2, [], []), (3, [], []), (4, [], []), (5, [], []), (6, [], []), (7, [], []), (8, [], []), (9, [], []), (10, [], []), (11, [], []), (12, [], []), (13, [], []), (14, [], []), (15, [.tmp 12], []), (16, [], []), (17, [], []), (18, [], []), (19, [], []), (20, [], []), (21, [], []), (22, [], []), (23, [.tmp 24], []), (24, [], []), (25, [], []), (26, [], []), (27, [], [])] (by kernel_rfl) ?_)) <;> simp [-map_take, -map_drop, -map_tail, rgs, wldV, tskC, prgV, wrap_pred hlim]) | ((first | (with_reducible refine guardD_split ?_ ?_) | (with_reducible refine condS_split ?_ ?_)) <;> intro qb <;> (have qp := qb; try simp only [psq] at qp) <;> simp [-map_take, -map_drop, -map_tail, rgs, wldV, tskC, prgV, wrap_pred hlim, qb])
  all_goals (try clear hnx)
  all_goals (simp_all [isTask]; done)
theorem c_isGroup1 {F : Nat → Bool} {w : Wld} {n : Int} : PC ctx.P 252 [.int .i64 n, .vptr (wldV F w)] (.bool (!isIn n w.tasks)) := by
  refine PC.o okC Tryz.func252 rfl (.bool _) fun h nx hnx => ?_
  try simp [-map_take, -map_drop, -map_tail, rgs, wldV]
  repeat' first | done | (((with_reducible show doCall _ _ _ 211 _ _); refine call_pc (c_isIn_Task) ?_) <;> simp [-map_take, -map_drop, -map_tail, rgs, wldV]) | fail
theorem c_WorldOk1 {F : Nat → Bool} {w : Wld} {e : Evt} : PC ctx.P 105 [.agg (evtC e), .vptr (wldV F w)] (.bool (inR e.time 0 w.now)) := by
  refine PC.o okC Tryz.func105 rfl (.bool _) fun h nx hnx => ?_
  try simp [-map_take, -map_drop, -map_tail, rgs, wldV, evtC]
  repeat' first | done | (((with_reducible show doCall _ _ _ 106 _ _); refine call_pc (c_within) ?_) <;> simp [-map_take, -map_drop, -map_tail, rgs, wldV, evtC]) | fail
theorem c_WorldOk2 {F : Nat → Bool} {w : Wld} {x : Afr} : PC ctx.P 112 [.agg (afrC x), .vptr (wldV F w)] (.bool (isIn x.node w.tree)) := by
  refine PC.o okC Tryz.func112 rfl (.bool _) fun h nx hnx => ?_
  try simp [-map_take, -map_drop, -map_tail, rgs, wldV, afrC]
  repeat' first | done | (((with_reducible show doCall _ _ _ 113 _ _); refine call_pc (c_isIn_Node) ?_) <;> simp [-map_take, -map_drop, -map_tail, rgs, wldV, afrC]) | fail
theorem c_WorldOk3 {n : Int} : PC ctx.P 122 [.int .i64 n] (.bool (inR n 0 99)) := by
  refine PC.o okC Tryz.func122 rfl (.bool _) fun h nx hnx => ?_
  try simp [-map_take, -map_drop, -map_tail, rgs]
  repeat' first | done | (((with_reducible show doCall _ _ _ 106 _ _); refine call_pc (c_within) ?_) <;> simp [-map_take, -map_drop, -map_tail, rgs]) | fail
theorem c_WorldOk4 {n : Int} : PC ctx.P 123 [.int .i64 n] (.bool (inR n 0 99)) := by
  refine PC.o okC Tryz.func123 rfl (.bool _) fun h nx hnx => ?_
  try simp [-map_take, -map_drop, -map_tail, rgs]
  repeat' first | done | (((with_reducible show doCall _ _ _ 106 _ _); refine call_pc (c_within) ?_) <;> simp [-map_take, -map_drop, -map_tail, rgs]) | fail
end Go.AE.Tryz
end

section
/- Contracts of the program's readers: timers, chains, events. -/
set_option maxRecDepth 8000
set_option maxHeartbeats 2000000
namespace Go.AE.Tryz
open Go.Proofs
open List (map_take map_drop map_tail)

theorem c_TimersOk {F : Nat → Bool} {t : Tms} : PC ctx.P 107 [.agg (tmsV F t)] (.bool (tmsOk t)) := by
  refine PC.lim (n := t.list.length) (x := .agg (tmsV F t)) (by simp) (.agg (x := .view (F 7) 5 (t.list.map tmrC)) (by simp [tmsV]) (.here (by simp))) ⟨_, Tryz.func107, by kernel_rfl, by kernel_rfl⟩ fun hlim => ?_
  refine PC.o okC Tryz.func107 rfl (.bool _) fun h nx hnx => ?_
  try simp [-map_take, -map_drop, -map_tail, rgs, tmsV]
  repeat' first | done | ((first | ((with_reducible show lenS _ _ _ _ _ _); refine lenS_slice rfl fun _ => ?_) | ((with_reducible show doCall _ _ _ 106 _ _); refine call_pc (c_within) ?_) | ((with_reducible show doCall _ _ _ 228 _ _); refine call_pc (c_HeapOk) ?_)) <;> simp [-map_take, -map_drop, -map_tail, rgs, tmsV]) | ((first | (with_reducible refine guardS_split ?_ ?_) | (with_reducible refine condS_split ?_ ?_)) <;> intro qb <;> (have qp := qb; try simp only [psq] at qp) <;> simp [-map_take, -map_drop, -map_tail, rgs, tmsV, qb])
  · all_goals (try clear hnx)
    all_goals (simp_all [tmsOk]; done)
  · all_goals (try clear hnx)
    all_goals (simp_all [tmsOk]; omega)
  · all_goals (try clear hnx)
    all_goals (simp_all [tmsOk]; done)
  · refine go_upP [2, 3, 4, 6, 26, 27, 28, 29, 30, 31, 32, 33, 34, 35, 36, 37, 38, 39, 40, 41, 42, 43, 44, 45, 46, 47, 48, 49, 50, 51, 52, 53, 54, 55, 56, 57, 58, 59] (t.list.length) (fun (i : Nat) a => [(26, .int .i64 i), (3, .int .i64 a.1), (4, .int .i64 a.2)]) (fun i_ a_ h_ _ => (fun i (a : Int × Int) _ => tmsRise t.next (t.list.drop i) a.1 = tmsRise t.next t.list (-1) ∧ a.2 + cntB (·.armed) (t.list.drop i) = cntB (·.armed) t.list ∧ 0 ≤ a.2 ∧ a.2 ≤ i) i_ a_ h_) ((-1, 0)) (by simp) ?_ keep_rfl (Nat.le_refl _) ?_
    · simp
    · intro i a tm h' n' hle hJ hE hn' next hnx
      try dsimp only at hJ
      have hK : KeepB nx h' h := KeepB.sub hE keepA (by omega)
      simp [-map_take, -map_drop, -map_tail]
      have e1 : h' (nx) = some (.obj (tmsV F t)) := by have := hE (nx) (by omega); simpa [tmsV] using this
      have e1n : ∀ k, ((nx) = n' + k) = False := fun k => by simp only [eq_iff_iff, iff_false]; omega
      have e1m : ((nx) = n') = False := by simp only [eq_iff_iff, iff_false]; omega
      repeat' first | done | ((first | ((with_reducible show lenS _ _ _ _ _ _); refine lenS_slice rfl fun _ => ?_) | ((with_reducible show iaddrS _ _ _ _ _ _ _); refine iaddr_map rfl omA omA ?_) | ((with_reducible show doCall _ _ _ 106 _ _); refine call_pc (c_within) ?_) | ((with_reducible show doCall _ _ _ 229 _ _); refine call_pcB (c_ContainsFunc_Twig (q := fun h => decide (tmsAt t.list h.seq < 0) || (!(gt t.list (tmsAt t.list h.seq)).armed || (gt t.list (tmsAt t.list h.seq)).due != h.due)) (fv := .fn 230 [.vptr (tmsV F t)]) (fun x _ => c_TimersOk1)) (by exact .bool _) (by repeat' first | exact Bors.nil | refine Bors.cons ?_ ?_ | exact Bor.same _ | refine Bor.fn1 ?_ | refine Bor.ptr0 (by assumption) ?_) ?_)) <;> simp [-map_take, -map_drop, -map_tail, rgs, tmsV, tmrC, e1, e1n, e1m]) | ((first | (with_reducible refine guardS_split ?_ ?_) | (with_reducible refine condS_split ?_ ?_)) <;> intro qb <;> (have qp := qb; try simp only [psq] at qp) <;> simp [-map_take, -map_drop, -map_tail, rgs, tmsV, tmrC, e1, e1n, e1m, qb])
      all_goals
        first
        | (have hlt : i < t.list.length := (by omega)
           rw [drop_gt hlt] at hJ
           first
           | (refine ⟨?_, keepA⟩; clear hnx; (try simp only [tmsRise, tmsOk, cntB_cons, cntB_nil] at hJ ⊢); grind)
           | skip)
        | skip
      · simp only [LIM] at hlim
        refine hnx.go ((gt t.list (i : Int)).seq, a.2 + 1) ?_ ?_ ?_ ?_ ?_ ?_
        · omega
        · simp [i64_ok (x := (i : Int) + 1) (by omega), i64_ok (x := a.2 + 1) (by omega)]
        · simp
        · exact keepA
        · first | omega | (simp; omega)
        dsimp only
        simp only [tmsRise, cntB_cons] at hJ
        grind
      · simp only [LIM] at hlim
        refine hnx.go ((gt t.list (i : Int)).seq, a.2) ?_ ?_ ?_ ?_ ?_ ?_
        · omega
        · simp [i64_ok (x := (i : Int) + 1) (by omega)]
        · simp
        · exact keepA
        · first | omega | (simp; omega)
        dsimp only
        simp only [tmsRise, cntB_cons] at hJ
        grind
      all_goals
        obtain rfl : i = t.list.length := (by omega)
        refine ⟨?_, keepA⟩
        simp only [List.drop_length, tmsRise, tmsOk, cntB_nil] at hJ ⊢
        grind
theorem c_chain {p : Bool} {t : List Nod} {n : Int} (ht : treeOk t = true) (h0 : 0 ≤ n) (h1 : n < t.length) : PC ctx.P 269 [.view p 5 (t.map nodC), .int .i64 n] (.view true 1 ((chain t n).map iv)) := by
  have hl60 := treeOk_len ht
  refine PC.o okC Tryz.func269 rfl (.vmap iv_fz) fun h nx hnx => ?_
  try simp [-map_take, -map_drop, -map_tail, rgs]
  refine go_dnP (h0 := h) (nx0 := nx) [1, 5, 8, 9, 10, 11, 12, 13, 14, 15, 16, 17, 18, 19, 20, 21, 22, 23, 24, 25, 26, 27, 28, 29, 30] (fun a => [(1, .int .i64 a.1), (5, .ref a.2.2 1 0 (a.2.1.length + 1))]) (fun a => a.1.toNat) (fun (a : Int × List Int × Nat) h' n' => 0 ≤ a.1 ∧ a.1 < t.length ∧ nx ≤ a.2.2 ∧ h' a.2.2 = some (.row 1 ((a.2.1 ++ [a.1]).map iv)) ∧ a.2.1 ++ chain t a.1 = chain t n ∧ (a.2.1.length : Int) + a.1 ≤ n ∧ a.2.2 < n') ((n, [], nx + 2)) (by simp) ?_ keepA (by omega) ?_
  · simp [h0, h1, iv]
  · intro a tm h' n' hJ hE hn' next hnx
    try dsimp only at hJ
    have hK : KeepB nx h' h := KeepB.sub hE keepA (by omega)
    obtain ⟨m, pre, id⟩ := a
    obtain ⟨g0, g1, g2, g3, g4, g5, g6⟩ := hJ
    dsimp only at g0 g1 g2 g3 g4 g5 g6 ⊢
    have hs := chain_step ht g0 g1
    have hu := treeOk_up ht g0 g1
    have k1 : ∀ k, (id = n' + k) = False := fun k => by simp only [eq_iff_iff, iff_false]; omega
    try simp [-map_take, -map_drop, -map_tail, rgs, nodC, g3, k1, iv]
    repeat' first | done | ((first | ((with_reducible show iaddrS _ _ _ _ _ _ _); refine iaddr_map rfl omA omA ?_) | ((with_reducible show appS _ _ _ _ _ _ _ _); refine app_end rfl rfl (by decide) (by decide) (by (simp [-map_take, -map_drop, -map_tail, rgs, nodC, g3, k1, iv]; rfl)) (by (simp [-map_take, -map_drop, -map_tail, rgs, nodC, g3, k1, iv]; rfl)) (by (simp; done)) (by (simp only [MLIM, LIM] at *; simp; omega)) (by simp [iv, bv]) ?_)) <;> simp [-map_take, -map_drop, -map_tail, rgs, nodC, g3, k1, iv]) | ((first | (with_reducible refine guardS_split ?_ ?_) | (with_reducible refine condS_split ?_ ?_)) <;> intro qb <;> (have qp := qb; try simp only [psq] at qp) <;> simp [-map_take, -map_drop, -map_tail, rgs, nodC, g3, k1, iv, qb])
    · have hk : (gt t m).kind ≠ 0 := by omega
      have hu' := hu hk
      refine hnx.go ((gt t m).up, pre ++ [m], n' + 23) ?_ ?_ ?_ ?_ ?_ ?_
      · simp; omega
      · simp
      · simp
      · exact keepA
      · first | omega | (simp; omega)
      dsimp only
      refine ⟨by omega, by omega, by omega, by simp [iv], ?_, by simp; omega, by simp⟩
      rw [if_neg (by simp; omega)] at hs
      rw [← g4, hs]; simp
    all_goals
      refine ⟨?_, keepA⟩
      rw [if_pos (by simp; omega)] at hs
      rw [← g4, hs, List.take_of_length_le (by simp)]; simp [iv]

theorem c_firstOf {p q : Bool} {t : List Nod} {l : List Evt} {n : Int} (ht : treeOk t = true) (h0 : 0 ≤ n) (h1 : n < t.length) :
    PC ctx.P 133 [.view p 5 (t.map nodC), .view q 4 (l.map evtC), .int .i64 n] (.tup [.agg (evtC ((firstOf t l n).getD ⟨0, 0, 0, 0⟩)), .bool (firstOf t l n).isSome]) := by
  refine PC.lim (n := l.length) (x := .view q 4 (l.map evtC)) (by simp) (.here (by simp)) ⟨_, Tryz.func133, by kernel_rfl, by kernel_rfl⟩ fun hlim => ?_
  refine PC.o okC Tryz.func133 rfl (.tup _ (by simp; exact .agg _ (evtC_fz _))) fun h nx hnx => ?_
  try simp [-map_take, -map_drop, -map_tail, rgs]
  repeat' first | done | ((first | ((with_reducible show lenS _ _ _ _ _ _); refine lenS_slice rfl fun _ => ?_) | ((with_reducible show doCall _ _ _ 269 _ _); refine call_pc (c_chain ht h0 h1) ?_)) <;> simp [-map_take, -map_drop, -map_tail, rgs]) | fail
  refine go_upP [7, 10, 16, 17, 18, 19, 20, 21, 22, 23, 24, 25] (l.length) (fun (i : Nat) a => [(16, .int .i64 i)]) (fun i_ a_ h_ _ => (fun i (_ : Unit) _ => (l.drop i).find? (fun e => (chain t n).contains e.node) = firstOf t l n) i_ a_ h_) (()) (by simp) ?_ keep_rfl (Nat.le_refl _) ?_
  · simp [firstOf]
  · intro i a tm h' n' hle hJ hE hn' next hnx
    try dsimp only at hJ
    have hK : KeepB nx h' h := KeepB.sub hE keepA (by omega)
    simp [-map_take, -map_drop, -map_tail]
    have e1 : h' (nx) = some (.obj [.int .i64 0, .int .i64 0, .int .i64 0, .int .i64 0]) := by have := hE (nx) (by omega); simpa using this
    have e1n : ∀ k, ((nx) = n' + k) = False := fun k => by simp only [eq_iff_iff, iff_false]; omega
    have e1m : ((nx) = n') = False := by simp only [eq_iff_iff, iff_false]; omega
    try simp [-map_take, -map_drop, -map_tail, rgs, evtC, e1, e1n, e1m]
    repeat' first | done | ((first | ((with_reducible show iaddrS _ _ _ _ _ _ _); refine iaddr_map rfl omA omA ?_) | ((with_reducible show doCall _ _ _ 270 _ _); refine call_pc (c_Contains) ?_)) <;> simp [-map_take, -map_drop, -map_tail, rgs, evtC, e1, e1n, e1m]) | ((with_reducible refine condS_split ?_ ?_) <;> intro qb <;> (have qp := qb; try simp only [psq] at qp) <;> simp [-map_take, -map_drop, -map_tail, rgs, evtC, e1, e1n, e1m, qb])
    · have hf : firstOf t l n = some (gt l i) := by rw [drop_gt (xs := l) (i := i) (by omega), List.find?_cons] at hJ; simpa [qp] using hJ.symm
      refine ⟨by simp [hf], keepA⟩
    · have hf : (l.drop (i + 1)).find? (fun e => (chain t n).contains e.node) = firstOf t l n := by rw [drop_gt (xs := l) (i := i) (by omega), List.find?_cons] at hJ; simpa [qp] using hJ
      refine hnx.go () ?_ ?_ ?_ ?_ ?_ ?_
      · omega
      · simp [wrap_succ (show i < l.length by omega) hlim]
      · simp
      · exact keepA
      · first | omega | (simp; omega)
      exact hf
    · have hf : firstOf t l n = none := by rw [← hJ, List.drop_eq_nil_of_le (by omega)]; rfl
      refine ⟨by simp [hf], keepA⟩

theorem c_fits {p q : Bool} {t : List Nod} {l : List Evt} {e : Evt} (ht : treeOk t = true) : PC ctx.P 223 [.agg (evtC e), .view p 5 (t.map nodC), .view q 4 (l.map evtC)] (.bool (fits t l e)) := by
  refine PC.lim (n := l.length) (x := .view q 4 (l.map evtC)) (by simp) (.here (by simp)) ⟨_, Tryz.func223, by kernel_rfl, by kernel_rfl⟩ fun hlim => ?_
  by_cases hev : isEvent t e = true
  · have hb : 0 ≤ e.node ∧ e.node < t.length := by
      unfold isEvent at hev; split at hev
      · cases hev
      · rename_i h2; simpa [isIn_true] using h2
    refine PC.o okC Tryz.func223 rfl (.bool _) fun h nx hnx => ?_
    try simp [-map_take, -map_drop, -map_tail, rgs, evtC, wrap_pred hlim, hev]
    repeat' first | done | ((first | ((with_reducible show iaddrS _ _ _ _ _ _ _); refine iaddr_map rfl omA omA ?_) | ((with_reducible show doCall _ _ _ 327 _ _); refine call_pc (c_isEvent (e := e)) ?_) | ((with_reducible show doCall _ _ _ 133 _ _); refine call_pc (c_firstOf ht hb.1 hb.2) ?_) | (with_reducible refine go_draw (i := 1) [(0, [], []), (1, [], []), (2, [], []), (3, [], []), (4, [], []), (5, [], []), (6, [], []), (7, [], []), (8, [], []), (9, [], []), (10, [], []), (11, [], []), (12, [], []), (13, [], []), (14, [], []), (15, [], []), (16, [], []), (17, [], []), (18, [], []), (19, [], []), (20, [], [])] (by kernel_rfl) ?_)) <;> simp [-map_take, -map_drop, -map_tail, rgs, evtC, wrap_pred hlim, hev]) | ((first | (with_reducible refine guardD_split ?_ ?_) | (with_reducible refine condS_split ?_ ?_)) <;> intro qb <;> (have qp := qb; try simp only [psq] at qp) <;> simp [-map_take, -map_drop, -map_tail, rgs, evtC, wrap_pred hlim, hev, qb])
    all_goals (try clear hnx)
    all_goals (simp_all [fits]; done)
  · refine PC.o okC Tryz.func223 rfl (.bool _) fun h nx hnx => ?_
    try simp [-map_take, -map_drop, -map_tail, rgs, evtC, hev]
    repeat' first | done | ((first | ((with_reducible show doCall _ _ _ 327 _ _); refine call_pc (c_isEvent (e := e)) ?_) | (with_reducible refine go_draw (i := 1) [(0, [], []), (1, [], []), (2, [], []), (3, [], []), (4, [], []), (5, [], []), (6, [], []), (7, [], []), (8, [], []), (9, [], []), (10, [], []), (11, [], []), (12, [], []), (13, [], []), (14, [], []), (15, [], []), (16, [], []), (17, [], []), (18, [], []), (19, [], []), (20, [], [])] (by kernel_rfl) ?_)) <;> simp [-map_take, -map_drop, -map_tail, rgs, evtC, hev]) | fail
    all_goals (try clear hnx)
    all_goals (simp_all [fits]; done)
end Go.AE.Tryz
end

section
/- Contracts of the program's readers: events, worlds. -/
set_option maxRecDepth 8000
set_option maxHeartbeats 2000000
namespace Go.AE.Tryz
open Go.Proofs
open List (map_take map_drop map_tail)

theorem c_EventsOk {p q : Bool} {t : List Nod} {l : List Evt} : PC ctx.P 102 [.view p 5 (t.map nodC), .view q 4 (l.map evtC)] (.bool (eventsOk t l)) := by
  refine PC.lim (n := l.length) (x := .view q 4 (l.map evtC)) (by simp) (.here (by simp)) ⟨_, Tryz.func102, by kernel_rfl, by kernel_rfl⟩ fun hlim => ?_
  by_cases ht : treeOk t = true
  · refine PC.o okC Tryz.func102 rfl (.bool _) fun h nx hnx => ?_
    try simp [-map_take, -map_drop, -map_tail, rgs, ht]
    repeat' first | done | ((first | ((with_reducible show lenS _ _ _ _ _ _); refine lenS_slice rfl fun _ => ?_) | ((with_reducible show doCall _ _ _ 222 _ _); refine call_pc (c_TreeOk) ?_)) <;> simp [-map_take, -map_drop, -map_tail, rgs, ht]) | fail
    refine go_upP [4, 5, 6, 12, 13, 14, 15, 16, 17, 18, 19, 20, 21, 22, 23, 24] (l.length) (fun (i : Nat) a => [(12, .int .i64 i)]) (fun i_ a_ h_ _ => (fun i (_ : Unit) _ => allI (fun i e => fits t (l.take i.toNat) e) (l.drop i) i = allI (fun i e => fits t (l.take i.toNat) e) l 0) i_ a_ h_) (()) (by simp) ?_ keep_rfl (Nat.le_refl _) ?_
    · simp
    · intro i a tm h' n' hle hJ hE hn' next hnx
      try dsimp only at hJ
      have hK : KeepB nx h' h := KeepB.sub hE keepA (by omega)
      simp [-map_take, -map_drop, -map_tail]
      repeat' first | done | ((first | ((with_reducible show iaddrS _ _ _ _ _ _ _); refine iaddr_map rfl omA omA ?_) | ((with_reducible show sliceI _ _ _ _ _ _ _ _ _ _ _); refine sliceI_to rfl omA omA ?_) | ((with_reducible show doCall _ _ _ 223 _ _); refine call_pc (c_fits ht) ?_) | (with_reducible refine go_draw (i := 6) [(0, [], []), (1, [], []), (2, [], []), (3, [], []), (4, [], []), (5, [], []), (6, [], [])] (by kernel_rfl) ?_)) <;> simp [-map_take, -map_drop, -map_tail, rgs]) | ((with_reducible refine condS_split ?_ ?_) <;> intro qb <;> (have qp := qb; try simp only [psq] at qp) <;> simp [-map_take, -map_drop, -map_tail, rgs, qb])
      all_goals
        first
        | (have hlt : i < l.length := (by first | omega | (simp at *; omega))
           rw [drop_gt hlt] at hJ
           first
           | (refine hnx.go (()) ?_ ?_ ?_ ?_ ?_ ?_; omega; (simp [wrap_succ hlt hlim]); (simp); exact keepA; (first | omega | (simp; omega)); (try dsimp only); clear hnx; first | ((try simp only [List.drop_length, Int.toNat_natCast, allI, eventsOk] at hJ ⊢); grind) | (simp_all [allI, eventsOk]; done) | (simp_all; omega))
           | (refine ⟨?_, keepA⟩; clear hnx; first | ((try simp only [List.drop_length, Int.toNat_natCast, allI, eventsOk] at hJ ⊢); grind) | (simp_all [allI, eventsOk]; done) | (simp_all; omega)))
        | (obtain rfl : i = l.length := (by first | omega | (simp at *; omega))
           refine ⟨?_, keepA⟩; clear hnx; first | ((try simp only [List.drop_length, Int.toNat_natCast, allI, eventsOk] at hJ ⊢); grind) | (simp_all [allI, eventsOk]; done) | (simp_all; omega))
  · refine PC.o okC Tryz.func102 rfl (.bool _) fun h nx hnx => ?_
    try simp [-map_take, -map_drop, -map_tail, rgs, ht]
    repeat' first | done | (((with_reducible show doCall _ _ _ 222 _ _); refine call_pc (c_TreeOk) ?_) <;> simp [-map_take, -map_drop, -map_tail, rgs, ht]) | fail
    all_goals (try clear hnx)
    all_goals (simp_all [eventsOk]; done)
theorem c_AftersOk {F : Nat → Bool} {x : Afs} : PC ctx.P 110 [.agg (afsV F x)] (.bool (afsOk x)) := by
  refine PC.lim (n := x.list.length) (x := .agg (afsV F x)) (by simp) (.agg (x := .view (F 10) 5 (x.list.map afrC)) (by simp [afsV]) (.here (by simp))) ⟨_, Tryz.func110, by kernel_rfl, by kernel_rfl⟩ fun hlim => ?_
  by_cases hs : sltOk x.slots = true
  · have hl : x.slots.used.length = x.slots.ages.length := by simp [sltOk] at hs; omega
    refine PC.o okC Tryz.func110 rfl (.bool _) fun h nx hnx => ?_
    try simp [-map_take, -map_drop, -map_tail, rgs, afsV, hs]
    repeat' first | done | ((first | ((with_reducible show lenS _ _ _ _ _ _); refine lenS_slice rfl fun _ => ?_) | ((with_reducible show doCall _ _ _ 234 _ _); refine call_pc (c_SlotsOk (s := x.slots) (F := F)) ?_) | ((with_reducible show doCall _ _ _ 235 _ _); refine call_pc (c_size_After) ?_) | ((with_reducible show doCall _ _ _ 236 _ _); refine call_pc (c_used (s := x.slots) (F := F)) ?_) | (with_reducible refine go_draw (i := 1) [(0, [], []), (1, [], []), (2, [], []), (3, [], []), (4, [], []), (5, [], []), (6, [], []), (8, [], []), (9, [], []), (7, [.tmp 13], []), (10, [], []), (11, [], []), (12, [], [])] (by kernel_rfl) ?_)) <;> simp [-map_take, -map_drop, -map_tail, rgs, afsV, hs]) | ((with_reducible refine condS_split ?_ ?_) <;> intro qb <;> (have qp := qb; try simp only [psq] at qp) <;> simp [-map_take, -map_drop, -map_tail, rgs, afsV, hs, qb])
    · simp only [afsOk]; grind
    · refine go_upP [2, 3, 4, 21, 22, 23, 24, 25, 26, 27, 28, 29, 30, 31, 32, 33, 34, 35, 36, 37, 38, 39, 40, 41, 42, 43, 44, 45, 46, 47, 48] (x.list.length) (fun (i : Nat) a => [(21, .int .i64 i)]) (fun i_ a_ h_ _ => (fun i (_ : Unit) _ => allI (fun i y => isAfter y.node y.fn && (sltHolds x.slots y.han && afsAt x.list y.han == i)) (x.list.drop i) i = allI (fun i y => isAfter y.node y.fn && (sltHolds x.slots y.han && afsAt x.list y.han == i)) x.list 0) i_ a_ h_) (()) (by simp) ?_ keep_rfl (Nat.le_refl _) ?_
      · simp
      · intro i a tm h' n' hle hJ hE hn' next hnx
        try dsimp only at hJ
        have hK : KeepB nx h' h := KeepB.sub hE keepA (by omega)
        simp [-map_take, -map_drop, -map_tail]
        have e1 : h' (nx) = some (.obj (afsV F x)) := by have := hE (nx) (by omega); simpa [afsV] using this
        have e1n : ∀ k, ((nx) = n' + k) = False := fun k => by simp only [eq_iff_iff, iff_false]; omega
        have e1m : ((nx) = n') = False := by simp only [eq_iff_iff, iff_false]; omega
        repeat' first | done | ((first | ((with_reducible show iaddrS _ _ _ _ _ _ _); refine iaddr_map rfl omA omA ?_) | ((with_reducible show doCall _ _ _ 237 _ _); refine call_pc (c_isAfter) ?_) | ((with_reducible show doCall _ _ _ 238 _ _); refine call_pc (c_holds (s := x.slots) (F := F) (x := (gt x.list (i : Int)).han) hl) ?_) | ((with_reducible show doCall _ _ _ 239 _ _); refine call_pc (c_afsAt (a := x) (F := F) (x := (gt x.list (i : Int)).han)) ?_)) <;> simp [-map_take, -map_drop, -map_tail, rgs, afsV, afrC, e1, e1n, e1m]) | ((first | (with_reducible refine guardS_split ?_ ?_) | (with_reducible refine condS_split ?_ ?_)) <;> intro qb <;> (have qp := qb; try simp only [psq] at qp) <;> simp [-map_take, -map_drop, -map_tail, rgs, afsV, afrC, e1, e1n, e1m, qb])
        all_goals
          first
          | (have hlt : i < x.list.length := (by first | omega | (simp at *; omega))
             rw [drop_gt hlt] at hJ
             first
             | (refine hnx.go (()) ?_ ?_ ?_ ?_ ?_ ?_; omega; (simp [wrap_succ hlt hlim]); (simp); exact keepA; (first | omega | (simp; omega)); (try dsimp only); clear hnx; first | ((try simp only [List.drop_length, Int.toNat_natCast, allI, afsOk] at hJ ⊢); grind) | (simp_all [allI, afsOk]; done) | (simp_all; omega))
             | (refine ⟨?_, keepA⟩; clear hnx; first | ((try simp only [List.drop_length, Int.toNat_natCast, allI, afsOk] at hJ ⊢); grind) | (simp_all [allI, afsOk]; done) | (simp_all; omega)))
          | (obtain rfl : i = x.list.length := (by first | omega | (simp at *; omega))
             refine ⟨?_, keepA⟩; clear hnx; first | ((try simp only [List.drop_length, Int.toNat_natCast, allI, afsOk] at hJ ⊢); grind) | (simp_all [allI, afsOk]; done) | (simp_all; omega))
  · refine PC.o okC Tryz.func110 rfl (.bool _) fun h nx hnx => ?_
    try simp [-map_take, -map_drop, -map_tail, rgs, afsV, hs]
    repeat' first | done | ((first | ((with_reducible show doCall _ _ _ 234 _ _); refine call_pc (c_SlotsOk (s := x.slots) (F := F)) ?_) | (with_reducible refine go_draw (i := 1) [(0, [], []), (1, [], []), (2, [], []), (3, [], []), (4, [], []), (5, [], []), (6, [], []), (8, [], []), (9, [], []), (7, [.tmp 13], []), (10, [], []), (11, [], []), (12, [], [])] (by kernel_rfl) ?_)) <;> simp [-map_take, -map_drop, -map_tail, rgs, afsV, hs]) | fail
    all_goals (try clear hnx)
    all_goals (simp_all [afsOk]; done)
theorem c_GroupOk {p : Bool} {g : Grp} : PC ctx.P 251 [.agg (grpV p g)] (.bool (grpOk g)) := by
  refine PC.lim (n := g.waits.length) (x := .agg (grpV p g)) (by simp) (.agg (x := .view p 1 (g.waits.map iv)) (by simp [grpV]) (.here (by simp))) ⟨_, Tryz.func251, by kernel_rfl, by kernel_rfl⟩ fun hlim => ?_
  refine PC.o okC Tryz.func251 rfl (.bool _) fun h nx hnx => ?_
  try simp [-map_take, -map_drop, -map_tail, rgs, grpV]
  repeat' first | done | ((first | ((with_reducible show lenS _ _ _ _ _ _); refine lenS_slice rfl fun _ => ?_) | ((with_reducible show doCall _ _ _ 106 _ _); refine call_pc (c_within) ?_)) <;> simp [-map_take, -map_drop, -map_tail, rgs, grpV]) | ((first | (with_reducible refine guardS_split ?_ ?_) | (with_reducible refine condS_split ?_ ?_)) <;> intro qb <;> (have qp := qb; try simp only [psq] at qp) <;> simp [-map_take, -map_drop, -map_tail, rgs, grpV, qb])
  all_goals first | (clear hnx; simp only [grpOk]; grind) | skip
  all_goals
    refine go_upP [2, 3, 4, 58, 59, 60, 61, 62, 63, 64, 65, 66, 67, 68, 69, 70, 71, 72, 73, 74] (g.waits.length) (fun (i : Nat) a => [(58, .int .i64 i)]) (fun i_ a_ h_ _ => (fun i (_ : Unit) _ => allI (fun i n => inR n 0 59 && !(g.waits.take i.toNat).contains n) (g.waits.drop i) i = allI (fun i n => inR n 0 59 && !(g.waits.take i.toNat).contains n) g.waits 0) i_ a_ h_) (()) (by simp) ?_ keep_rfl (Nat.le_refl _) ?_
    · simp
    · intro i a tm h' n' hle hJ hE hn' next hnx
      try dsimp only at hJ
      have hK : KeepB nx h' h := KeepB.sub hE keepA (by omega)
      simp [-map_take, -map_drop, -map_tail]
      have e1 : h' (nx) = some (.obj (grpV p g)) := by have := hE (nx) (by omega); simpa [grpV] using this
      have e1n : ∀ k, ((nx) = n' + k) = False := fun k => by simp only [eq_iff_iff, iff_false]; omega
      have e1m : ((nx) = n') = False := by simp only [eq_iff_iff, iff_false]; omega
      repeat' first | done | ((first | ((with_reducible show iaddrS _ _ _ _ _ _ _); refine iaddr_map rfl omA omA ?_) | ((with_reducible show sliceS _ _ _ _ _ _ _ _); refine slice_to rfl omA omA ?_) | ((with_reducible show doCall _ _ _ 106 _ _); refine call_pc (c_within) ?_) | ((with_reducible show doCall _ _ _ 270 _ _); refine call_pc (c_Contains) ?_)) <;> simp [-map_take, -map_drop, -map_tail, rgs, grpV, iv, e1, e1n, e1m]) | ((first | (with_reducible refine guardS_split ?_ ?_) | (with_reducible refine condS_split ?_ ?_)) <;> intro qb <;> (have qp := qb; try simp only [psq] at qp) <;> simp [-map_take, -map_drop, -map_tail, rgs, grpV, iv, e1, e1n, e1m, qb])
      all_goals
        first
        | (have hlt : i < g.waits.length := (by first | omega | (simp at *; omega))
           rw [drop_gt hlt] at hJ
           first
           | (refine hnx.go (()) ?_ ?_ ?_ ?_ ?_ ?_; omega; (simp [wrap_succ hlt hlim]); (simp); exact keepA; (first | omega | (simp; omega)); (try dsimp only); clear hnx; first | ((try simp only [List.drop_length, Int.toNat_natCast, allI, grpOk] at hJ ⊢); grind) | (simp_all [allI, grpOk]; done) | (simp_all; omega))
           | (refine ⟨?_, keepA⟩; clear hnx; first | ((try simp only [List.drop_length, Int.toNat_natCast, allI, grpOk] at hJ ⊢); grind) | (simp_all [allI, grpOk]; done) | (simp_all; omega)))
        | (obtain rfl : i = g.waits.length := (by first | omega | (simp at *; omega))
           refine ⟨?_, keepA⟩; clear hnx; first | ((try simp only [List.drop_length, Int.toNat_natCast, allI, grpOk] at hJ ⊢); grind) | (simp_all [allI, grpOk]; done) | (simp_all; omega))
end Go.AE.Tryz
end

section
/- Contracts of the program's readers: worlds. -/
set_option maxRecDepth 8000
set_option maxHeartbeats 4000000
namespace Go.AE.Tryz
open Go.Proofs
open List (map_take map_drop map_tail)

theorem c_isGroup {F : Nat → Bool} {p : Bool} {w : Wld} {g : Grp} : PC ctx.P 118 [.agg (wldV F w), .agg (grpV p g)] (.bool (isGroup w g)) := by
  refine PC.o okC Tryz.func118 rfl (.bool _) fun h nx hnx => ?_
  try simp [-map_take, -map_drop, -map_tail, rgs, wldV, nodC]
  repeat' first | done | ((first | ((with_reducible show iaddrS _ _ _ _ _ _ _); refine iaddr_map rfl omA omA ?_) | ((with_reducible show doCall _ _ _ 251 _ _); refine call_pc (c_GroupOk (g := g) (p := p)) ?_) | ((with_reducible show doCall _ _ _ 113 _ _); refine call_pc (c_isIn_Node) ?_) | ((with_reducible show doCall _ _ _ 224 _ _); refine call_pcB (c_ContainsFunc_int64 (q := fun i => !isIn i w.tasks) (fv := .fn 252 [.vptr (wldV F w)]) (fun x _ => c_isGroup1)) (by exact .bool _) (by repeat' first | exact Bors.nil | refine Bors.cons ?_ ?_ | exact Bor.same _ | refine Bor.fn1 ?_ | refine Bor.ptr0 (by (simp; rfl)) ?_) ?_)) <;> simp [-map_take, -map_drop, -map_tail, rgs, wldV, nodC]) | ((with_reducible refine guardS_split ?_ ?_) <;> intro qb <;> (have qp := qb; try simp only [psq] at qp) <;> simp [-map_take, -map_drop, -map_tail, rgs, wldV, nodC, qb])
  all_goals (try clear hnx)
  all_goals (simp_all [isGroup]; done)
theorem c_WorldOk {F : Nat → Bool} {w : Wld} : PC ctx.P 28 [.agg (wldV F w)] (.bool (wldOk w)) := by
  refine PC.o okC Tryz.func28 rfl (.bool _) fun h nx hnx => ?_
  try simp [-map_take, -map_drop, -map_tail, rgs, wldV]
  repeat' first | done | ((first | ((with_reducible show lenS _ _ _ _ _ _); refine lenS_slice rfl fun _ => ?_) | ((with_reducible show doCall _ _ _ 100 _ _); refine call_pc (c_all_Prog (q := progOk) (.fn _ _) (fun x _ => c_ProgOk)) ?_) | ((with_reducible show doCall _ _ _ 102 _ _); refine call_pc (c_EventsOk) ?_) | ((with_reducible show doCall _ _ _ 103 _ _); refine call_pc (c_isSpread (s := w.spread) (F := F)) ?_) | ((with_reducible show doCall _ _ _ 104 _ _); refine call_pcB (c_all_Event (q := fun e => inR e.time 0 w.now) (fv := .fn 105 [.vptr (wldV F w)]) (.fn _ _) (fun x _ => c_WorldOk1)) (by exact .bool _) (by repeat' first | exact Bors.nil | refine Bors.cons ?_ ?_ | exact Bor.same _ | refine Bor.fn1 ?_ | refine Bor.ptr0 (by (simp; rfl)) ?_) ?_) | ((with_reducible show doCall _ _ _ 107 _ _); refine call_pc (c_TimersOk (t := w.timers) (F := F)) ?_) | ((with_reducible show doCall _ _ _ 108 _ _); refine call_pc (c_all_Timer (q := isTimer w) (.bnd _ _) (fun x _ => c_isTimer (F := F))) ?_) | ((with_reducible show doCall _ _ _ 110 _ _); refine call_pc (c_AftersOk (x := w.afters) (F := F)) ?_) | ((with_reducible show doCall _ _ _ 111 _ _); refine call_pcB (c_all_After (q := fun a => isIn a.node w.tree) (fv := .fn 112 [.vptr (wldV F w)]) (.fn _ _) (fun x _ => c_WorldOk2)) (by exact .bool _) (by repeat' first | exact Bors.nil | refine Bors.cons ?_ ?_ | exact Bor.same _ | refine Bor.fn1 ?_ | refine Bor.ptr0 (by (simp; rfl)) ?_) ?_) | ((with_reducible show doCall _ _ _ 114 _ _); refine call_pc (c_TasksOk) ?_) | ((with_reducible show doCall _ _ _ 115 _ _); refine call_pc (c_all_Task (q := isTask w) (.bnd _ _) (fun x _ => c_isTask (F := F))) ?_) | ((with_reducible show doCall _ _ _ 117 _ _); refine call_pc (c_all_Group (q := isGroup w) (.bnd _ _) (fun x _ => c_isGroup (F := F))) ?_) | ((with_reducible show doCall _ _ _ 119 _ _); refine call_pc (c_all_Sight (q := isSight w) (.bnd _ _) (fun x _ => c_isSight (F := F))) ?_) | ((with_reducible show doCall _ _ _ 121 _ _); refine call_pc (c_all_int64 (q := fun n => inR n 0 99) (.fn _ _) (fun x _ => c_WorldOk3)) ?_) | ((with_reducible show doCall _ _ _ 121 _ _); refine call_pc (c_all_int64 (q := fun n => inR n 0 99) (.fn _ _) (fun x _ => c_WorldOk4)) ?_)) <;> simp [-map_take, -map_drop, -map_tail, rgs, wldV]) | ((first | (with_reducible refine guardS_split ?_ ?_) | (with_reducible refine condS_split ?_ ?_)) <;> intro qb <;> (have qp := qb; try simp only [psq] at qp) <;> simp [-map_take, -map_drop, -map_tail, rgs, wldV, qb])
  all_goals (try clear hnx)
  all_goals first | (simp_all [wldOk]; done) | (simp_all [wldOk]; omega) | (simp only [wldOk]; grind)
end Go.AE.Tryz
end
