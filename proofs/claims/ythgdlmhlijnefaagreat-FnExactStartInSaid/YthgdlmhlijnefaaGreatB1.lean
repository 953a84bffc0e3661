/- Contracts of the seat's functions: what each answers, for all arguments. -/
import Derived.Test.YthgdlmhlijnefaaGreatA3
import Derived.Test.YthgdlmhlijnefaaGreatA2
import Derived.Test.YthgdlmhlijnefaaGreatA1
import Derived.Test.YthgdlmhlijnefaaGreatProg
import Derived.KernelRfl
section
/- The seat's types, for the abstract machine. -/
namespace Go.AE.Tryz
open Go.Proofs
def tyL : List (TypeId × TyD) := [
  (1, { size := 1, bytes := 8, agg := false, zero := [.dead] }),
  (2, { size := 1, bytes := 8, agg := false, zero := [.int .i64 0], ik := some .i64 }),
  (3, { size := 1, bytes := 8, agg := false, zero := [.int .i64 0], ik := some .i64 }),
  (4, { size := 1, bytes := 1, agg := false, zero := [.bool false] }),
  (5, { size := 1, bytes := 1, agg := false, zero := [.int .u8 0], ik := some .u8 }),
  (7, { size := 4, bytes := 24, agg := true, zero := [.int .i64 0, .int .i64 0, .bool false, .int .u8 0], fields := [(0, 1, 2), (1, 1, 3), (2, 1, 4), (3, 1, 6)] }),
  (9, { size := 1, bytes := 16, agg := false, zero := [.str ⟨#[]⟩], isStr := true }),
  (12, { size := 1, bytes := 8, agg := false, zero := [.int .u64 0], ik := some .u64 }),
  (13, { size := 2, bytes := 24, agg := true, zero := [.str ⟨#[]⟩, .int .u64 0], fields := [(0, 1, 9), (1, 1, 12)] }),
  (15, { size := 1, bytes := 8, agg := false, zero := [.dead] }),
  (16, { size := 1, bytes := 8, agg := false, zero := [.dead] }),
  (17, { size := 1, bytes := 8, agg := false, zero := [.dead] }),
  (18, { size := 1, bytes := 8, agg := true, zero := [.dead], fields := [(0, 1, 17)] }),
  (21, { size := 1, bytes := 4, agg := false, zero := [.int .i32 0], ik := some .i32 }),
  (22, { size := 1, bytes := 24, agg := false, zero := [.nil], elem := some 169 }),
  (23, { size := 1, bytes := 24, agg := false, zero := [.nil], elem := some 182 }),
  (24, { size := 1, bytes := 24, agg := false, zero := [.nil], elem := some 184 }),
  (25, { size := 1, bytes := 24, agg := false, zero := [.nil], elem := some 4 }),
  (26, { size := 1, bytes := 24, agg := false, zero := [.nil], elem := some 2 }),
  (27, { size := 2, bytes := 48, agg := true, zero := [.nil, .nil], fields := [(0, 1, 25), (1, 1, 26)] }),
  (28, { size := 2, bytes := 48, agg := true, zero := [.nil, .nil], fields := [(0, 1, 25), (1, 1, 26)] }),
  (29, { size := 1, bytes := 24, agg := false, zero := [.nil], elem := some 273 }),
  (30, { size := 1, bytes := 24, agg := false, zero := [.nil], elem := some 275 }),
  (31, { size := 3, bytes := 56, agg := true, zero := [.nil, .nil, .int .i64 0], fields := [(0, 1, 29), (1, 1, 30), (2, 1, 2)] }),
  (32, { size := 3, bytes := 56, agg := true, zero := [.nil, .nil, .int .i64 0], fields := [(0, 1, 29), (1, 1, 30), (2, 1, 2)] }),
  (33, { size := 2, bytes := 48, agg := true, zero := [.nil, .nil], fields := [(0, 1, 26), (1, 1, 25)] }),
  (34, { size := 2, bytes := 48, agg := true, zero := [.nil, .nil], fields := [(0, 1, 26), (1, 1, 25)] }),
  (35, { size := 1, bytes := 24, agg := false, zero := [.nil], elem := some 279 }),
  (36, { size := 3, bytes := 72, agg := true, zero := [.nil, .nil, .nil], fields := [(0, 2, 34), (2, 1, 35)] }),
  (37, { size := 3, bytes := 72, agg := true, zero := [.nil, .nil, .nil], fields := [(0, 2, 34), (2, 1, 35)] }),
  (38, { size := 1, bytes := 24, agg := false, zero := [.nil], elem := some 191 }),
  (39, { size := 1, bytes := 24, agg := false, zero := [.nil], elem := some 177 }),
  (40, { size := 1, bytes := 24, agg := false, zero := [.nil], elem := some 195 }),
  (41, { size := 17, bytes := 376, agg := true, zero := [.int .i64 0, .nil, .nil, .nil, .nil, .nil, .nil, .nil, .int .i64 0, .nil, .nil, .nil, .nil, .nil, .nil, .nil, .nil], fields := [(0, 1, 2), (1, 1, 22), (2, 1, 23), (3, 1, 24), (4, 2, 28), (6, 3, 32), (9, 3, 37), (12, 1, 38), (13, 1, 39), (14, 1, 40), (15, 1, 26), (16, 1, 26)] }),
  (42, { size := 17, bytes := 376, agg := true, zero := [.int .i64 0, .nil, .nil, .nil, .nil, .nil, .nil, .nil, .int .i64 0, .nil, .nil, .nil, .nil, .nil, .nil, .nil, .nil], fields := [(0, 1, 2), (1, 1, 22), (2, 1, 23), (3, 1, 24), (4, 2, 28), (6, 3, 32), (9, 3, 37), (12, 1, 38), (13, 1, 39), (14, 1, 40), (15, 1, 26), (16, 1, 26)] }),
  (43, { size := 1, bytes := 8, agg := false, zero := [.dead] }),
  (44, { size := 1, bytes := 8, agg := false, zero := [.dead] }),
  (45, { size := 1, bytes := 24, agg := false, zero := [.nil], elem := some 116 }),
  (46, { size := 1, bytes := 24, agg := false, zero := [.nil], elem := some 127 }),
  (47, { size := 1, bytes := 24, agg := false, zero := [.nil], elem := some 121 }),
  (48, { size := 2, bytes := 48, agg := true, zero := [.nil, .nil], fields := [(0, 1, 25), (1, 1, 26)] }),
  (49, { size := 1, bytes := 24, agg := false, zero := [.nil], elem := some 235 }),
  (50, { size := 1, bytes := 24, agg := false, zero := [.nil], elem := some 204 }),
  (51, { size := 3, bytes := 56, agg := true, zero := [.nil, .nil, .int .i64 0], fields := [(0, 1, 49), (1, 1, 50), (2, 1, 2)] }),
  (52, { size := 3, bytes := 56, agg := true, zero := [.nil, .nil, .int .i64 0], fields := [(0, 1, 49), (1, 1, 50), (2, 1, 2)] }),
  (53, { size := 2, bytes := 48, agg := true, zero := [.nil, .nil], fields := [(0, 1, 26), (1, 1, 25)] }),
  (54, { size := 1, bytes := 24, agg := false, zero := [.nil], elem := some 142 }),
  (55, { size := 3, bytes := 72, agg := true, zero := [.nil, .nil, .nil], fields := [(0, 2, 53), (2, 1, 54)] }),
  (56, { size := 3, bytes := 72, agg := true, zero := [.nil, .nil, .nil], fields := [(0, 2, 53), (2, 1, 54)] }),
  (57, { size := 1, bytes := 24, agg := false, zero := [.nil], elem := some 115 }),
  (58, { size := 1, bytes := 24, agg := false, zero := [.nil], elem := some 192 }),
  (59, { size := 1, bytes := 24, agg := false, zero := [.nil], elem := some 91 }),
  (60, { size := 17, bytes := 376, agg := true, zero := [.int .i64 0, .nil, .nil, .nil, .nil, .nil, .nil, .nil, .int .i64 0, .nil, .nil, .nil, .nil, .nil, .nil, .nil, .nil], fields := [(0, 1, 2), (1, 1, 45), (2, 1, 46), (3, 1, 47), (4, 2, 48), (6, 3, 52), (9, 3, 56), (12, 1, 57), (13, 1, 58), (14, 1, 59), (15, 1, 26), (16, 1, 26)] }),
  (61, { size := 17, bytes := 376, agg := true, zero := [.int .i64 0, .nil, .nil, .nil, .nil, .nil, .nil, .nil, .int .i64 0, .nil, .nil, .nil, .nil, .nil, .nil, .nil, .nil], fields := [(0, 1, 2), (1, 1, 45), (2, 1, 46), (3, 1, 47), (4, 2, 48), (6, 3, 52), (9, 3, 56), (12, 1, 57), (13, 1, 58), (14, 1, 59), (15, 1, 26), (16, 1, 26)] }),
  (62, { size := 1, bytes := 8, agg := false, zero := [.dead] }),
  (63, { size := 1, bytes := 8, agg := false, zero := [.dead] }),
  (64, { size := 1, bytes := 8, agg := false, zero := [.dead] }),
  (65, { size := 1, bytes := 8, agg := false, zero := [.dead] }),
  (66, { size := 1, bytes := 24, agg := false, zero := [.nil], elem := some 137 }),
  (67, { size := 1, bytes := 8, agg := false, zero := [.dead] }),
  (68, { size := 1, bytes := 8, agg := false, zero := [.dead] }),
  (69, { size := 1, bytes := 8, agg := false, zero := [.dead] }),
  (70, { size := 1, bytes := 8, agg := false, zero := [.dead] }),
  (72, { size := 1, bytes := 8, agg := false, zero := [.dead] }),
  (73, { size := 1, bytes := 8, agg := false, zero := [.dead] }),
  (74, { size := 1, bytes := 8, agg := false, zero := [.dead] }),
  (75, { size := 1, bytes := 8, agg := false, zero := [.dead] }),
  (76, { size := 1, bytes := 8, agg := false, zero := [.dead] }),
  (78, { size := 1, bytes := 8, agg := false, zero := [.dead] }),
  (79, { size := 1, bytes := 8, agg := false, zero := [.dead] }),
  (80, { size := 1, bytes := 8, agg := false, zero := [.dead] }),
  (81, { size := 1, bytes := 8, agg := false, zero := [.dead] }),
  (82, { size := 1, bytes := 8, agg := false, zero := [.dead] }),
  (83, { size := 1, bytes := 8, agg := false, zero := [.dead] }),
  (84, { size := 1, bytes := 8, agg := false, zero := [.dead] }),
  (85, { size := 1, bytes := 8, agg := false, zero := [.dead] }),
  (86, { size := 1, bytes := 8, agg := false, zero := [.dead] }),
  (87, { size := 1, bytes := 8, agg := false, zero := [.dead] }),
  (88, { size := 1, bytes := 8, agg := false, zero := [.dead] }),
  (89, { size := 1, bytes := 8, agg := false, zero := [.dead] }),
  (90, { size := 4, bytes := 32, agg := true, zero := [.int .i64 0, .int .i64 0, .int .i64 0, .int .i64 0], fields := [(0, 1, 2), (1, 1, 2), (2, 1, 2), (3, 1, 2)] }),
  (91, { size := 4, bytes := 32, agg := true, zero := [.int .i64 0, .int .i64 0, .int .i64 0, .int .i64 0], fields := [(0, 1, 2), (1, 1, 2), (2, 1, 2), (3, 1, 2)] }),
  (92, { size := 1, bytes := 8, agg := false, zero := [.dead] }),
  (93, { size := 1, bytes := 8, agg := false, zero := [.dead] }),
  (94, { size := 1, bytes := 8, agg := false, zero := [.dead] }),
  (95, { size := 1, bytes := 8, agg := false, zero := [.dead] }),
  (96, { size := 1, bytes := 8, agg := false, zero := [.dead] }),
  (97, { size := 1, bytes := 8, agg := false, zero := [.dead] }),
  (98, { size := 1, bytes := 8, agg := false, zero := [.dead] }),
  (99, { size := 1, bytes := 8, agg := false, zero := [.dead] }),
  (100, { size := 1, bytes := 8, agg := false, zero := [.dead] }),
  (101, { size := 1, bytes := 8, agg := false, zero := [.dead] }),
  (104, { size := 1, bytes := 8, agg := false, zero := [.dead] }),
  (105, { size := 1, bytes := 8, agg := false, zero := [.dead] }),
  (106, { size := 1, bytes := 8, agg := false, zero := [.dead] }),
  (107, { size := 1, bytes := 8, agg := false, zero := [.dead] }),
  (108, { size := 1, bytes := 8, agg := false, zero := [.dead] }),
  (109, { size := 1, bytes := 8, agg := false, zero := [.dead] }),
  (110, { size := 1, bytes := 8, agg := false, zero := [.dead] }),
  (111, { size := 1, bytes := 8, agg := false, zero := [.dead] }),
  (112, { size := 1, bytes := 8, agg := false, zero := [.dead] }),
  (113, { size := 1, bytes := 8, agg := false, zero := [.dead] }),
  (114, { size := 9, bytes := 72, agg := true, zero := [.int .i64 0, .int .i64 0, .int .i64 0, .int .i64 0, .int .i64 0, .int .i64 0, .int .i64 0, .int .i64 0, .int .i64 0], fields := [(0, 1, 2), (1, 1, 2), (2, 1, 2), (3, 1, 2), (4, 1, 2), (5, 1, 2), (6, 1, 2), (7, 1, 2), (8, 1, 2)] }),
  (115, { size := 9, bytes := 72, agg := true, zero := [.int .i64 0, .int .i64 0, .int .i64 0, .int .i64 0, .int .i64 0, .int .i64 0, .int .i64 0, .int .i64 0, .int .i64 0], fields := [(0, 1, 2), (1, 1, 2), (2, 1, 2), (3, 1, 2), (4, 1, 2), (5, 1, 2), (6, 1, 2), (7, 1, 2), (8, 1, 2)] }),
  (116, { size := 1, bytes := 24, agg := false, zero := [.nil], elem := some 119 }),
  (117, { size := 1, bytes := 8, agg := false, zero := [.dead] }),
  (118, { size := 3, bytes := 24, agg := true, zero := [.int .i64 0, .int .i64 0, .int .i64 0], fields := [(0, 1, 2), (1, 1, 2), (2, 1, 2)] }),
  (119, { size := 3, bytes := 24, agg := true, zero := [.int .i64 0, .int .i64 0, .int .i64 0], fields := [(0, 1, 2), (1, 1, 2), (2, 1, 2)] }),
  (120, { size := 4, bytes := 32, agg := true, zero := [.int .i64 0, .int .i64 0, .int .i64 0, .int .i64 0], fields := [(0, 1, 2), (1, 1, 2), (2, 1, 2), (3, 1, 2)] }),
  (121, { size := 4, bytes := 32, agg := true, zero := [.int .i64 0, .int .i64 0, .int .i64 0, .int .i64 0], fields := [(0, 1, 2), (1, 1, 2), (2, 1, 2), (3, 1, 2)] }),
  (122, { size := 1, bytes := 8, agg := false, zero := [.dead] }),
  (123, { size := 1, bytes := 8, agg := false, zero := [.dead] }),
  (124, { size := 1, bytes := 8, agg := false, zero := [.dead] }),
  (125, { size := 1, bytes := 8, agg := false, zero := [.dead] }),
  (126, { size := 5, bytes := 40, agg := true, zero := [.int .i64 0, .int .i64 0, .int .i64 0, .int .i64 0, .int .i64 0], fields := [(0, 1, 2), (1, 1, 2), (2, 1, 2), (3, 1, 2), (4, 1, 2)] }),
  (127, { size := 5, bytes := 40, agg := true, zero := [.int .i64 0, .int .i64 0, .int .i64 0, .int .i64 0, .int .i64 0], fields := [(0, 1, 2), (1, 1, 2), (2, 1, 2), (3, 1, 2), (4, 1, 2)] }),
  (128, { size := 1, bytes := 8, agg := false, zero := [.dead] }),
  (129, { size := 1, bytes := 8, agg := false, zero := [.dead] }),
  (130, { size := 1, bytes := 8, agg := false, zero := [.dead] }),
  (131, { size := 1, bytes := 8, agg := false, zero := [.dead] }),
  (133, { size := 1, bytes := 8, agg := false, zero := [.dead] }),
  (134, { size := 1, bytes := 8, agg := false, zero := [.dead] }),
  (135, { size := 1, bytes := 8, agg := false, zero := [.dead] }),
  (136, { size := 2, bytes := 16, agg := true, zero := [.int .i64 0, .int .i64 0], fields := [(0, 1, 2), (1, 1, 2)] }),
  (137, { size := 2, bytes := 16, agg := true, zero := [.int .i64 0, .int .i64 0], fields := [(0, 1, 2), (1, 1, 2)] }),
  (138, { size := 1, bytes := 8, agg := false, zero := [.dead] }),
  (139, { size := 2, bytes := 16, agg := true, zero := [.int .i64 0, .int .i64 0], fields := [(0, 1, 2), (1, 1, 2)] }),
  (140, { size := 2, bytes := 16, agg := true, zero := [.int .i64 0, .int .i64 0], fields := [(0, 1, 2), (1, 1, 2)] }),
  (141, { size := 5, bytes := 40, agg := true, zero := [.int .i64 0, .int .i64 0, .int .i64 0, .int .i64 0, .bool false], fields := [(0, 2, 140), (2, 1, 2), (3, 1, 2), (4, 1, 4)] }),
  (142, { size := 5, bytes := 40, agg := true, zero := [.int .i64 0, .int .i64 0, .int .i64 0, .int .i64 0, .bool false], fields := [(0, 2, 140), (2, 1, 2), (3, 1, 2), (4, 1, 4)] }),
  (143, { size := 1, bytes := 8, agg := false, zero := [.dead] }),
  (144, { size := 1, bytes := 8, agg := false, zero := [.dead] }),
  (145, { size := 1, bytes := 8, agg := false, zero := [.dead] }),
  (146, { size := 1, bytes := 8, agg := false, zero := [.dead] }),
  (147, { size := 1, bytes := 8, agg := false, zero := [.dead] }),
  (148, { size := 1, bytes := 8, agg := false, zero := [.dead] }),
  (149, { size := 1, bytes := 8, agg := false, zero := [.dead] }),
  (150, { size := 1, bytes := 8, agg := false, zero := [.dead] }),
  (151, { size := 1, bytes := 8, agg := false, zero := [.dead] }),
  (152, { size := 1, bytes := 8, agg := false, zero := [.dead] }),
  (153, { size := 1, bytes := 8, agg := false, zero := [.dead] }),
  (154, { size := 1, bytes := 8, agg := false, zero := [.dead] }),
  (155, { size := 1, bytes := 8, agg := false, zero := [.dead] }),
  (156, { size := 1, bytes := 8, agg := false, zero := [.dead] }),
  (157, { size := 1, bytes := 8, agg := false, zero := [.dead] }),
  (159, { size := 1, bytes := 8, agg := false, zero := [.dead] }),
  (160, { size := 1, bytes := 8, agg := false, zero := [.dead] }),
  (162, { size := 1, bytes := 8, agg := false, zero := [.dead] }),
  (163, { size := 1, bytes := 8, agg := false, zero := [.dead] }),
  (164, { size := 1, bytes := 8, agg := false, zero := [.dead] }),
  (165, { size := 1, bytes := 8, agg := false, zero := [.dead] }),
  (167, { size := 1, bytes := 8, agg := false, zero := [.dead] }),
  (168, { size := 1, bytes := 8, agg := false, zero := [.dead] }),
  (169, { size := 1, bytes := 24, agg := false, zero := [.nil], elem := some 271 }),
  (170, { size := 1, bytes := 8, agg := false, zero := [.dead] }),
  (171, { size := 1, bytes := 8, agg := false, zero := [.dead] }),
  (172, { size := 1, bytes := 8, agg := false, zero := [.dead] }),
  (173, { size := 1, bytes := 8, agg := false, zero := [.dead] }),
  (174, { size := 1, bytes := 8, agg := false, zero := [.dead] }),
  (175, { size := 1, bytes := 8, agg := false, zero := [.dead] }),
  (176, { size := 5, bytes := 56, agg := true, zero := [.int .i64 0, .int .i64 0, .int .i64 0, .nil, .int .i64 0], fields := [(0, 1, 2), (1, 1, 2), (2, 1, 2), (3, 1, 26), (4, 1, 2)] }),
  (177, { size := 5, bytes := 56, agg := true, zero := [.int .i64 0, .int .i64 0, .int .i64 0, .nil, .int .i64 0], fields := [(0, 1, 2), (1, 1, 2), (2, 1, 2), (3, 1, 26), (4, 1, 2)] }),
  (178, { size := 1, bytes := 8, agg := false, zero := [.dead] }),
  (179, { size := 1, bytes := 8, agg := false, zero := [.dead] }),
  (180, { size := 1, bytes := 8, agg := false, zero := [.dead] }),
  (181, { size := 1, bytes := 8, agg := false, zero := [.dead] }),
  (182, { size := 5, bytes := 40, agg := true, zero := [.int .i64 0, .int .i64 0, .int .i64 0, .int .i64 0, .int .i64 0], fields := [(0, 1, 2), (1, 1, 2), (2, 1, 2), (3, 1, 2), (4, 1, 2)] }),
  (183, { size := 1, bytes := 8, agg := false, zero := [.dead] }),
  (184, { size := 4, bytes := 32, agg := true, zero := [.int .i64 0, .int .i64 0, .int .i64 0, .int .i64 0], fields := [(0, 1, 2), (1, 1, 2), (2, 1, 2), (3, 1, 2)] }),
  (185, { size := 1, bytes := 8, agg := false, zero := [.dead] }),
  (186, { size := 1, bytes := 8, agg := false, zero := [.dead] }),
  (187, { size := 1, bytes := 8, agg := false, zero := [.dead] }),
  (188, { size := 1, bytes := 8, agg := false, zero := [.dead] }),
  (189, { size := 1, bytes := 8, agg := false, zero := [.dead] }),
  (190, { size := 1, bytes := 8, agg := false, zero := [.dead] }),
  (191, { size := 9, bytes := 72, agg := true, zero := [.int .i64 0, .int .i64 0, .int .i64 0, .int .i64 0, .int .i64 0, .int .i64 0, .int .i64 0, .int .i64 0, .int .i64 0], fields := [(0, 1, 2), (1, 1, 2), (2, 1, 2), (3, 1, 2), (4, 1, 2), (5, 1, 2), (6, 1, 2), (7, 1, 2), (8, 1, 2)] }),
  (192, { size := 5, bytes := 56, agg := true, zero := [.int .i64 0, .int .i64 0, .int .i64 0, .nil, .int .i64 0], fields := [(0, 1, 2), (1, 1, 2), (2, 1, 2), (3, 1, 26), (4, 1, 2)] }),
  (193, { size := 1, bytes := 8, agg := false, zero := [.dead] }),
  (194, { size := 1, bytes := 8, agg := false, zero := [.dead] }),
  (195, { size := 4, bytes := 32, agg := true, zero := [.int .i64 0, .int .i64 0, .int .i64 0, .int .i64 0], fields := [(0, 1, 2), (1, 1, 2), (2, 1, 2), (3, 1, 2)] }),
  (196, { size := 1, bytes := 8, agg := false, zero := [.dead] }),
  (197, { size := 1, bytes := 8, agg := false, zero := [.dead] }),
  (198, { size := 1, bytes := 8, agg := false, zero := [.dead] }),
  (199, { size := 1, bytes := 8, agg := false, zero := [.dead] }),
  (200, { size := 1, bytes := 8, agg := false, zero := [.dead] }),
  (201, { size := 1, bytes := 8, agg := false, zero := [.dead] }),
  (202, { size := 1, bytes := 8, agg := false, zero := [.dead] }),
  (203, { size := 5, bytes := 40, agg := true, zero := [.int .i64 0, .int .i64 0, .int .i64 0, .int .i64 0, .bool false], fields := [(0, 1, 2), (1, 1, 2), (2, 1, 2), (3, 1, 2), (4, 1, 4)] }),
  (204, { size := 5, bytes := 40, agg := true, zero := [.int .i64 0, .int .i64 0, .int .i64 0, .int .i64 0, .bool false], fields := [(0, 1, 2), (1, 1, 2), (2, 1, 2), (3, 1, 2), (4, 1, 4)] }),
  (205, { size := 1, bytes := 8, agg := false, zero := [.dead] }),
  (206, { size := 1, bytes := 8, agg := false, zero := [.dead] }),
  (207, { size := 1, bytes := 8, agg := false, zero := [.dead] }),
  (208, { size := 1, bytes := 8, agg := false, zero := [.dead] }),
  (209, { size := 1, bytes := 8, agg := false, zero := [.dead] }),
  (210, { size := 1, bytes := 8, agg := false, zero := [.dead] }),
  (211, { size := 1, bytes := 8, agg := false, zero := [.dead] }),
  (212, { size := 1, bytes := 8, agg := false, zero := [.dead] }),
  (213, { size := 1, bytes := 8, agg := false, zero := [.dead] }),
  (214, { size := 1, bytes := 8, agg := false, zero := [.dead] }),
  (215, { size := 1, bytes := 8, agg := false, zero := [.dead] }),
  (216, { size := 1, bytes := 8, agg := false, zero := [.dead] }),
  (217, { size := 1, bytes := 8, agg := false, zero := [.dead] }),
  (218, { size := 1, bytes := 8, agg := false, zero := [.dead] }),
  (219, { size := 1, bytes := 8, agg := false, zero := [.dead] }),
  (220, { size := 1, bytes := 8, agg := false, zero := [.dead] }),
  (221, { size := 1, bytes := 8, agg := false, zero := [.dead] }),
  (222, { size := 1, bytes := 8, agg := false, zero := [.dead] }),
  (223, { size := 1, bytes := 8, agg := false, zero := [.dead] }),
  (224, { size := 1, bytes := 8, agg := false, zero := [.dead] }),
  (225, { size := 1, bytes := 8, agg := false, zero := [.dead] }),
  (226, { size := 1, bytes := 8, agg := false, zero := [.dead] }),
  (227, { size := 1, bytes := 8, agg := false, zero := [.dead] }),
  (228, { size := 1, bytes := 8, agg := false, zero := [.dead] }),
  (229, { size := 1, bytes := 8, agg := false, zero := [.dead] }),
  (230, { size := 1, bytes := 8, agg := false, zero := [.dead] }),
  (231, { size := 1, bytes := 8, agg := false, zero := [.dead] }),
  (232, { size := 1, bytes := 8, agg := false, zero := [.dead] }),
  (233, { size := 1, bytes := 8, agg := false, zero := [.dead] }),
  (234, { size := 3, bytes := 24, agg := true, zero := [.int .i64 0, .int .i64 0, .int .i64 0], fields := [(0, 1, 2), (1, 1, 2), (2, 1, 2)] }),
  (235, { size := 3, bytes := 24, agg := true, zero := [.int .i64 0, .int .i64 0, .int .i64 0], fields := [(0, 1, 2), (1, 1, 2), (2, 1, 2)] }),
  (236, { size := 1, bytes := 8, agg := false, zero := [.dead] }),
  (237, { size := 1, bytes := 8, agg := false, zero := [.dead] }),
  (238, { size := 1, bytes := 8, agg := false, zero := [.dead] }),
  (239, { size := 1, bytes := 8, agg := false, zero := [.dead] }),
  (240, { size := 1, bytes := 8, agg := false, zero := [.dead] }),
  (241, { size := 1, bytes := 8, agg := false, zero := [.dead] }),
  (242, { size := 1, bytes := 8, agg := false, zero := [.dead] }),
  (243, { size := 1, bytes := 8, agg := false, zero := [.dead] }),
  (244, { size := 1, bytes := 8, agg := false, zero := [.dead] }),
  (245, { size := 1, bytes := 8, agg := false, zero := [.dead] }),
  (246, { size := 1, bytes := 8, agg := false, zero := [.dead] }),
  (247, { size := 1, bytes := 8, agg := false, zero := [.dead] }),
  (248, { size := 1, bytes := 8, agg := false, zero := [.dead] }),
  (249, { size := 1, bytes := 8, agg := false, zero := [.dead] }),
  (251, { size := 1, bytes := 8, agg := false, zero := [.dead] }),
  (252, { size := 1, bytes := 8, agg := false, zero := [.dead] }),
  (253, { size := 1, bytes := 8, agg := false, zero := [.dead] }),
  (255, { size := 1, bytes := 8, agg := false, zero := [.dead] }),
  (256, { size := 1, bytes := 8, agg := false, zero := [.dead] }),
  (257, { size := 1, bytes := 8, agg := false, zero := [.dead] }),
  (258, { size := 1, bytes := 8, agg := false, zero := [.dead] }),
  (260, { size := 1, bytes := 8, agg := false, zero := [.dead] }),
  (262, { size := 1, bytes := 8, agg := false, zero := [.dead] }),
  (263, { size := 1, bytes := 8, agg := false, zero := [.dead] }),
  (265, { size := 1, bytes := 8, agg := false, zero := [.dead] }),
  (267, { size := 1, bytes := 8, agg := false, zero := [.dead] }),
  (268, { size := 1, bytes := 8, agg := false, zero := [.dead] }),
  (269, { size := 1, bytes := 8, agg := false, zero := [.dead] }),
  (270, { size := 1, bytes := 8, agg := false, zero := [.dead] }),
  (271, { size := 3, bytes := 24, agg := true, zero := [.int .i64 0, .int .i64 0, .int .i64 0], fields := [(0, 1, 2), (1, 1, 2), (2, 1, 2)] }),
  (272, { size := 1, bytes := 8, agg := false, zero := [.dead] }),
  (273, { size := 3, bytes := 24, agg := true, zero := [.int .i64 0, .int .i64 0, .int .i64 0], fields := [(0, 1, 2), (1, 1, 2), (2, 1, 2)] }),
  (274, { size := 1, bytes := 8, agg := false, zero := [.dead] }),
  (275, { size := 5, bytes := 40, agg := true, zero := [.int .i64 0, .int .i64 0, .int .i64 0, .int .i64 0, .bool false], fields := [(0, 1, 2), (1, 1, 2), (2, 1, 2), (3, 1, 2), (4, 1, 4)] }),
  (276, { size := 1, bytes := 8, agg := false, zero := [.dead] }),
  (277, { size := 2, bytes := 16, agg := true, zero := [.int .i64 0, .int .i64 0], fields := [(0, 1, 2), (1, 1, 2)] }),
  (278, { size := 5, bytes := 40, agg := true, zero := [.int .i64 0, .int .i64 0, .int .i64 0, .int .i64 0, .bool false], fields := [(0, 2, 277), (2, 1, 2), (3, 1, 2), (4, 1, 4)] }),
  (279, { size := 5, bytes := 40, agg := true, zero := [.int .i64 0, .int .i64 0, .int .i64 0, .int .i64 0, .bool false], fields := [(0, 2, 277), (2, 1, 2), (3, 1, 2), (4, 1, 4)] }),
  (280, { size := 1, bytes := 8, agg := false, zero := [.dead] }),
  (281, { size := 1, bytes := 8, agg := false, zero := [.dead] }),
  (282, { size := 1, bytes := 8, agg := false, zero := [.dead] }),
  (283, { size := 1, bytes := 8, agg := false, zero := [.dead] }),
  (284, { size := 1, bytes := 8, agg := false, zero := [.dead] }),
  (285, { size := 1, bytes := 8, agg := false, zero := [.dead] }),
  (286, { size := 1, bytes := 8, agg := false, zero := [.dead] }),
  (287, { size := 1, bytes := 8, agg := false, zero := [.dead] }),
  (288, { size := 1, bytes := 8, agg := false, zero := [.dead] }),
  (289, { size := 1, bytes := 8, agg := false, zero := [.dead] }),
  (290, { size := 1, bytes := 8, agg := false, zero := [.dead] }),
  (291, { size := 1, bytes := 8, agg := false, zero := [.dead] }),
  (292, { size := 1, bytes := 8, agg := false, zero := [.dead] }),
  (293, { size := 1, bytes := 8, agg := false, zero := [.dead] }),
  (294, { size := 1, bytes := 8, agg := false, zero := [.dead] }),
  (295, { size := 1, bytes := 8, agg := false, zero := [.dead] }),
  (296, { size := 1, bytes := 8, agg := false, zero := [.dead] }),
  (297, { size := 1, bytes := 8, agg := false, zero := [.dead] }),
  (298, { size := 1, bytes := 8, agg := false, zero := [.dead] }),
  (299, { size := 1, bytes := 8, agg := false, zero := [.dead] }),
  (300, { size := 1, bytes := 8, agg := false, zero := [.dead] }),
  (301, { size := 1, bytes := 8, agg := false, zero := [.dead] }),
  (302, { size := 1, bytes := 8, agg := false, zero := [.dead] }),
  (303, { size := 1, bytes := 8, agg := false, zero := [.dead] }),
  (304, { size := 1, bytes := 8, agg := false, zero := [.dead] }),
  (305, { size := 1, bytes := 8, agg := false, zero := [.dead] }),
  (306, { size := 1, bytes := 8, agg := false, zero := [.dead] }),
  (307, { size := 1, bytes := 8, agg := false, zero := [.dead] }),
  (308, { size := 1, bytes := 8, agg := false, zero := [.dead] }),
  (309, { size := 1, bytes := 8, agg := false, zero := [.dead] }),
  (310, { size := 1, bytes := 8, agg := false, zero := [.dead] }),
  (311, { size := 1, bytes := 8, agg := false, zero := [.dead] }),
  (313, { size := 1, bytes := 8, agg := false, zero := [.dead] }),
  (314, { size := 1, bytes := 8, agg := false, zero := [.dead] }),
  (315, { size := 1, bytes := 8, agg := false, zero := [.dead] }),
  (316, { size := 1, bytes := 8, agg := false, zero := [.dead] }),
  (317, { size := 1, bytes := 8, agg := false, zero := [.dead] }),
  (318, { size := 1, bytes := 8, agg := false, zero := [.dead] }),
  (319, { size := 1, bytes := 8, agg := false, zero := [.dead] }),
  (321, { size := 1, bytes := 8, agg := false, zero := [.dead] }),
  (322, { size := 1, bytes := 8, agg := false, zero := [.dead] }),
  (323, { size := 1, bytes := 8, agg := false, zero := [.dead] }),
  (324, { size := 1, bytes := 8, agg := false, zero := [.dead] }),
  (325, { size := 1, bytes := 8, agg := false, zero := [.dead] }),
  (326, { size := 1, bytes := 8, agg := false, zero := [.dead] }),
  (327, { size := 1, bytes := 8, agg := false, zero := [.dead] }),
  (328, { size := 1, bytes := 8, agg := false, zero := [.dead] }),
  (329, { size := 1, bytes := 8, agg := false, zero := [.dead] }),
  (330, { size := 1, bytes := 8, agg := false, zero := [.dead] }),
  (331, { size := 1, bytes := 8, agg := false, zero := [.dead] }),
  (332, { size := 1, bytes := 8, agg := false, zero := [.dead] }),
  (333, { size := 1, bytes := 8, agg := false, zero := [.dead] }),
  (334, { size := 1, bytes := 8, agg := false, zero := [.dead] }),
  (335, { size := 1, bytes := 8, agg := false, zero := [.dead] }),
  (336, { size := 1, bytes := 8, agg := false, zero := [.dead] }),
  (337, { size := 1, bytes := 8, agg := false, zero := [.dead] }),
  (338, { size := 1, bytes := 8, agg := false, zero := [.dead] }),
  (339, { size := 1, bytes := 8, agg := false, zero := [.dead] }),
  (340, { size := 1, bytes := 8, agg := false, zero := [.dead] }),
  (341, { size := 1, bytes := 8, agg := false, zero := [.dead] }),
  (342, { size := 1, bytes := 8, agg := false, zero := [.dead] }),
  (343, { size := 1, bytes := 8, agg := false, zero := [.dead] }),
  (344, { size := 1, bytes := 8, agg := false, zero := [.dead] }),
  (345, { size := 1, bytes := 8, agg := false, zero := [.dead] }),
  (347, { size := 1, bytes := 8, agg := false, zero := [.dead] }),
  (348, { size := 1, bytes := 8, agg := false, zero := [.dead] }),
  (349, { size := 1, bytes := 8, agg := false, zero := [.dead] }),
  (350, { size := 1, bytes := 8, agg := false, zero := [.dead] }),
  (352, { size := 1, bytes := 8, agg := false, zero := [.dead] }),
  (353, { size := 1, bytes := 8, agg := false, zero := [.dead] }),
  (354, { size := 1, bytes := 8, agg := false, zero := [.dead] }),
  (355, { size := 1, bytes := 8, agg := false, zero := [.dead] }),
  (356, { size := 1, bytes := 24, agg := false, zero := [.nil], elem := some 49 }),
  (357, { size := 1, bytes := 8, agg := false, zero := [.dead] }),
  (358, { size := 1, bytes := 24, agg := false, zero := [.nil], elem := some 3 }),
  (359, { size := 1, bytes := 8, agg := false, zero := [.dead] }),
  (360, { size := 4, bytes := 40, agg := true, zero := [.dead, .dead, .dead, .str ⟨#[]⟩], fields := [(0, 1, 17), (1, 1, 17), (2, 1, 17), (3, 1, 9)] }),
  (363, { size := 0, bytes := 0, agg := true, zero := [], fields := [(0, 0, 362)] }),
  (365, { size := 1, bytes := 8, agg := false, zero := [.dead] }),
  (366, { size := 1, bytes := 4, agg := false, zero := [.int .u32 0], ik := some .u32 }),
  (369, { size := 1, bytes := 8, agg := false, zero := [.dead] }),
  (370, { size := 1, bytes := 8, agg := false, zero := [.dead] }),
  (373, { size := 11, bytes := 48, agg := true, zero := [.int .u64 0, .int .u64 0, .int .u32 0, .int .u8 0, .int .u8 0, .int .u8 0, .int .u8 0, .dead, .dead, .int .i32 0, .int .i32 0], fields := [(0, 1, 12), (1, 1, 12), (2, 1, 366), (3, 1, 367), (4, 1, 5), (5, 1, 5), (6, 1, 368), (7, 1, 369), (8, 1, 370), (9, 1, 371), (10, 1, 372)] }),
  (375, { size := 1, bytes := 8, agg := false, zero := [.dead] }),
  (376, { size := 1, bytes := 8, agg := false, zero := [.dead] })]
def tyT (t : TypeId) : Option TyD := (tyL.find? fun p => p.1 == t).map (·.2)
def lvs : TypeId → Option (List Lf)
  | 140 => some [.i .i64, .i .i64]
  | _ => none
def eqL (ls : Option (List Lf)) (xs ys : List AV) : Option Bool := match ls with | some ls => if xs.map lfOf = ls.map some ∧ ys.map lfOf = ls.map some then some (uK xs ys) else none | none => none
def eqT : TypeId → AV → AV → Option Bool
  | 4, .bool a, .bool b => some (a == b)
  | t, .agg xs, .agg ys => eqL (lvs t) xs ys
  | _, _, _ => none
noncomputable def ctx0 : Ctx := { P := Go.Proofs.Tryz.prog, ty := tyT, eqA := fun _ _ _ => none }
noncomputable def ctx : Ctx := { P := Go.Proofs.Tryz.prog, ty := tyT, eqA := eqT }
theorem tys : ∀ t d, tyT t = some d → tyOk Go.Proofs.Tryz.prog t d = true := by
  have hall : (tyL.all fun p => tyOk Go.Proofs.Tryz.prog p.1 p.2) = true := by kernel_rfl
  intro t d h
  unfold tyT at h
  rw [Option.map_eq_some_iff] at h
  obtain ⟨p, h1, rfl⟩ := h
  have h2 := List.find?_some h1
  simp only [beq_iff_eq] at h2
  subst h2
  exact List.all_eq_true.1 hall p (List.mem_of_find?_eq_some h1)
theorem ok0 : ctx0.Ok where
  mix := by kernel_rfl
  tys := tys
  eqs := by intro t x y b h; cases h
@[simp] theorem ty1 : ctx.ty 1 = some { size := 1, bytes := 8, agg := false, zero := [.dead] } := by kernel_rfl
@[simp] theorem ty2 : ctx.ty 2 = some { size := 1, bytes := 8, agg := false, zero := [.int .i64 0], ik := some .i64 } := by kernel_rfl
@[simp] theorem ty3 : ctx.ty 3 = some { size := 1, bytes := 8, agg := false, zero := [.int .i64 0], ik := some .i64 } := by kernel_rfl
@[simp] theorem ty4 : ctx.ty 4 = some { size := 1, bytes := 1, agg := false, zero := [.bool false] } := by kernel_rfl
@[simp] theorem ty5 : ctx.ty 5 = some { size := 1, bytes := 1, agg := false, zero := [.int .u8 0], ik := some .u8 } := by kernel_rfl
@[simp] theorem ty7 : ctx.ty 7 = some { size := 4, bytes := 24, agg := true, zero := [.int .i64 0, .int .i64 0, .bool false, .int .u8 0], fields := [(0, 1, 2), (1, 1, 3), (2, 1, 4), (3, 1, 6)] } := by kernel_rfl
@[simp] theorem ty9 : ctx.ty 9 = some { size := 1, bytes := 16, agg := false, zero := [.str ⟨#[]⟩], isStr := true } := by kernel_rfl
@[simp] theorem ty12 : ctx.ty 12 = some { size := 1, bytes := 8, agg := false, zero := [.int .u64 0], ik := some .u64 } := by kernel_rfl
@[simp] theorem ty13 : ctx.ty 13 = some { size := 2, bytes := 24, agg := true, zero := [.str ⟨#[]⟩, .int .u64 0], fields := [(0, 1, 9), (1, 1, 12)] } := by kernel_rfl
@[simp] theorem ty15 : ctx.ty 15 = some { size := 1, bytes := 8, agg := false, zero := [.dead] } := by kernel_rfl
@[simp] theorem ty16 : ctx.ty 16 = some { size := 1, bytes := 8, agg := false, zero := [.dead] } := by kernel_rfl
@[simp] theorem ty17 : ctx.ty 17 = some { size := 1, bytes := 8, agg := false, zero := [.dead] } := by kernel_rfl
@[simp] theorem ty18 : ctx.ty 18 = some { size := 1, bytes := 8, agg := true, zero := [.dead], fields := [(0, 1, 17)] } := by kernel_rfl
@[simp] theorem ty21 : ctx.ty 21 = some { size := 1, bytes := 4, agg := false, zero := [.int .i32 0], ik := some .i32 } := by kernel_rfl
@[simp] theorem ty22 : ctx.ty 22 = some { size := 1, bytes := 24, agg := false, zero := [.nil], elem := some 169 } := by kernel_rfl
@[simp] theorem ty23 : ctx.ty 23 = some { size := 1, bytes := 24, agg := false, zero := [.nil], elem := some 182 } := by kernel_rfl
@[simp] theorem ty24 : ctx.ty 24 = some { size := 1, bytes := 24, agg := false, zero := [.nil], elem := some 184 } := by kernel_rfl
@[simp] theorem ty25 : ctx.ty 25 = some { size := 1, bytes := 24, agg := false, zero := [.nil], elem := some 4 } := by kernel_rfl
@[simp] theorem ty26 : ctx.ty 26 = some { size := 1, bytes := 24, agg := false, zero := [.nil], elem := some 2 } := by kernel_rfl
@[simp] theorem ty27 : ctx.ty 27 = some { size := 2, bytes := 48, agg := true, zero := [.nil, .nil], fields := [(0, 1, 25), (1, 1, 26)] } := by kernel_rfl
@[simp] theorem ty28 : ctx.ty 28 = some { size := 2, bytes := 48, agg := true, zero := [.nil, .nil], fields := [(0, 1, 25), (1, 1, 26)] } := by kernel_rfl
@[simp] theorem ty29 : ctx.ty 29 = some { size := 1, bytes := 24, agg := false, zero := [.nil], elem := some 273 } := by kernel_rfl
@[simp] theorem ty30 : ctx.ty 30 = some { size := 1, bytes := 24, agg := false, zero := [.nil], elem := some 275 } := by kernel_rfl
@[simp] theorem ty31 : ctx.ty 31 = some { size := 3, bytes := 56, agg := true, zero := [.nil, .nil, .int .i64 0], fields := [(0, 1, 29), (1, 1, 30), (2, 1, 2)] } := by kernel_rfl
@[simp] theorem ty32 : ctx.ty 32 = some { size := 3, bytes := 56, agg := true, zero := [.nil, .nil, .int .i64 0], fields := [(0, 1, 29), (1, 1, 30), (2, 1, 2)] } := by kernel_rfl
@[simp] theorem ty33 : ctx.ty 33 = some { size := 2, bytes := 48, agg := true, zero := [.nil, .nil], fields := [(0, 1, 26), (1, 1, 25)] } := by kernel_rfl
@[simp] theorem ty34 : ctx.ty 34 = some { size := 2, bytes := 48, agg := true, zero := [.nil, .nil], fields := [(0, 1, 26), (1, 1, 25)] } := by kernel_rfl
@[simp] theorem ty35 : ctx.ty 35 = some { size := 1, bytes := 24, agg := false, zero := [.nil], elem := some 279 } := by kernel_rfl
@[simp] theorem ty36 : ctx.ty 36 = some { size := 3, bytes := 72, agg := true, zero := [.nil, .nil, .nil], fields := [(0, 2, 34), (2, 1, 35)] } := by kernel_rfl
@[simp] theorem ty37 : ctx.ty 37 = some { size := 3, bytes := 72, agg := true, zero := [.nil, .nil, .nil], fields := [(0, 2, 34), (2, 1, 35)] } := by kernel_rfl
@[simp] theorem ty38 : ctx.ty 38 = some { size := 1, bytes := 24, agg := false, zero := [.nil], elem := some 191 } := by kernel_rfl
@[simp] theorem ty39 : ctx.ty 39 = some { size := 1, bytes := 24, agg := false, zero := [.nil], elem := some 177 } := by kernel_rfl
@[simp] theorem ty40 : ctx.ty 40 = some { size := 1, bytes := 24, agg := false, zero := [.nil], elem := some 195 } := by kernel_rfl
@[simp] theorem ty41 : ctx.ty 41 = some { size := 17, bytes := 376, agg := true, zero := [.int .i64 0, .nil, .nil, .nil, .nil, .nil, .nil, .nil, .int .i64 0, .nil, .nil, .nil, .nil, .nil, .nil, .nil, .nil], fields := [(0, 1, 2), (1, 1, 22), (2, 1, 23), (3, 1, 24), (4, 2, 28), (6, 3, 32), (9, 3, 37), (12, 1, 38), (13, 1, 39), (14, 1, 40), (15, 1, 26), (16, 1, 26)] } := by kernel_rfl
@[simp] theorem ty42 : ctx.ty 42 = some { size := 17, bytes := 376, agg := true, zero := [.int .i64 0, .nil, .nil, .nil, .nil, .nil, .nil, .nil, .int .i64 0, .nil, .nil, .nil, .nil, .nil, .nil, .nil, .nil], fields := [(0, 1, 2), (1, 1, 22), (2, 1, 23), (3, 1, 24), (4, 2, 28), (6, 3, 32), (9, 3, 37), (12, 1, 38), (13, 1, 39), (14, 1, 40), (15, 1, 26), (16, 1, 26)] } := by kernel_rfl
@[simp] theorem ty43 : ctx.ty 43 = some { size := 1, bytes := 8, agg := false, zero := [.dead] } := by kernel_rfl
@[simp] theorem ty44 : ctx.ty 44 = some { size := 1, bytes := 8, agg := false, zero := [.dead] } := by kernel_rfl
@[simp] theorem ty45 : ctx.ty 45 = some { size := 1, bytes := 24, agg := false, zero := [.nil], elem := some 116 } := by kernel_rfl
@[simp] theorem ty46 : ctx.ty 46 = some { size := 1, bytes := 24, agg := false, zero := [.nil], elem := some 127 } := by kernel_rfl
@[simp] theorem ty47 : ctx.ty 47 = some { size := 1, bytes := 24, agg := false, zero := [.nil], elem := some 121 } := by kernel_rfl
@[simp] theorem ty48 : ctx.ty 48 = some { size := 2, bytes := 48, agg := true, zero := [.nil, .nil], fields := [(0, 1, 25), (1, 1, 26)] } := by kernel_rfl
@[simp] theorem ty49 : ctx.ty 49 = some { size := 1, bytes := 24, agg := false, zero := [.nil], elem := some 235 } := by kernel_rfl
@[simp] theorem ty50 : ctx.ty 50 = some { size := 1, bytes := 24, agg := false, zero := [.nil], elem := some 204 } := by kernel_rfl
@[simp] theorem ty51 : ctx.ty 51 = some { size := 3, bytes := 56, agg := true, zero := [.nil, .nil, .int .i64 0], fields := [(0, 1, 49), (1, 1, 50), (2, 1, 2)] } := by kernel_rfl
@[simp] theorem ty52 : ctx.ty 52 = some { size := 3, bytes := 56, agg := true, zero := [.nil, .nil, .int .i64 0], fields := [(0, 1, 49), (1, 1, 50), (2, 1, 2)] } := by kernel_rfl
@[simp] theorem ty53 : ctx.ty 53 = some { size := 2, bytes := 48, agg := true, zero := [.nil, .nil], fields := [(0, 1, 26), (1, 1, 25)] } := by kernel_rfl
@[simp] theorem ty54 : ctx.ty 54 = some { size := 1, bytes := 24, agg := false, zero := [.nil], elem := some 142 } := by kernel_rfl
@[simp] theorem ty55 : ctx.ty 55 = some { size := 3, bytes := 72, agg := true, zero := [.nil, .nil, .nil], fields := [(0, 2, 53), (2, 1, 54)] } := by kernel_rfl
@[simp] theorem ty56 : ctx.ty 56 = some { size := 3, bytes := 72, agg := true, zero := [.nil, .nil, .nil], fields := [(0, 2, 53), (2, 1, 54)] } := by kernel_rfl
@[simp] theorem ty57 : ctx.ty 57 = some { size := 1, bytes := 24, agg := false, zero := [.nil], elem := some 115 } := by kernel_rfl
@[simp] theorem ty58 : ctx.ty 58 = some { size := 1, bytes := 24, agg := false, zero := [.nil], elem := some 192 } := by kernel_rfl
@[simp] theorem ty59 : ctx.ty 59 = some { size := 1, bytes := 24, agg := false, zero := [.nil], elem := some 91 } := by kernel_rfl
@[simp] theorem ty60 : ctx.ty 60 = some { size := 17, bytes := 376, agg := true, zero := [.int .i64 0, .nil, .nil, .nil, .nil, .nil, .nil, .nil, .int .i64 0, .nil, .nil, .nil, .nil, .nil, .nil, .nil, .nil], fields := [(0, 1, 2), (1, 1, 45), (2, 1, 46), (3, 1, 47), (4, 2, 48), (6, 3, 52), (9, 3, 56), (12, 1, 57), (13, 1, 58), (14, 1, 59), (15, 1, 26), (16, 1, 26)] } := by kernel_rfl
@[simp] theorem ty61 : ctx.ty 61 = some { size := 17, bytes := 376, agg := true, zero := [.int .i64 0, .nil, .nil, .nil, .nil, .nil, .nil, .nil, .int .i64 0, .nil, .nil, .nil, .nil, .nil, .nil, .nil, .nil], fields := [(0, 1, 2), (1, 1, 45), (2, 1, 46), (3, 1, 47), (4, 2, 48), (6, 3, 52), (9, 3, 56), (12, 1, 57), (13, 1, 58), (14, 1, 59), (15, 1, 26), (16, 1, 26)] } := by kernel_rfl
@[simp] theorem ty62 : ctx.ty 62 = some { size := 1, bytes := 8, agg := false, zero := [.dead] } := by kernel_rfl
@[simp] theorem ty63 : ctx.ty 63 = some { size := 1, bytes := 8, agg := false, zero := [.dead] } := by kernel_rfl
@[simp] theorem ty64 : ctx.ty 64 = some { size := 1, bytes := 8, agg := false, zero := [.dead] } := by kernel_rfl
@[simp] theorem ty65 : ctx.ty 65 = some { size := 1, bytes := 8, agg := false, zero := [.dead] } := by kernel_rfl
@[simp] theorem ty66 : ctx.ty 66 = some { size := 1, bytes := 24, agg := false, zero := [.nil], elem := some 137 } := by kernel_rfl
@[simp] theorem ty67 : ctx.ty 67 = some { size := 1, bytes := 8, agg := false, zero := [.dead] } := by kernel_rfl
@[simp] theorem ty68 : ctx.ty 68 = some { size := 1, bytes := 8, agg := false, zero := [.dead] } := by kernel_rfl
@[simp] theorem ty69 : ctx.ty 69 = some { size := 1, bytes := 8, agg := false, zero := [.dead] } := by kernel_rfl
@[simp] theorem ty70 : ctx.ty 70 = some { size := 1, bytes := 8, agg := false, zero := [.dead] } := by kernel_rfl
@[simp] theorem ty72 : ctx.ty 72 = some { size := 1, bytes := 8, agg := false, zero := [.dead] } := by kernel_rfl
@[simp] theorem ty73 : ctx.ty 73 = some { size := 1, bytes := 8, agg := false, zero := [.dead] } := by kernel_rfl
@[simp] theorem ty74 : ctx.ty 74 = some { size := 1, bytes := 8, agg := false, zero := [.dead] } := by kernel_rfl
@[simp] theorem ty75 : ctx.ty 75 = some { size := 1, bytes := 8, agg := false, zero := [.dead] } := by kernel_rfl
@[simp] theorem ty76 : ctx.ty 76 = some { size := 1, bytes := 8, agg := false, zero := [.dead] } := by kernel_rfl
@[simp] theorem ty78 : ctx.ty 78 = some { size := 1, bytes := 8, agg := false, zero := [.dead] } := by kernel_rfl
@[simp] theorem ty79 : ctx.ty 79 = some { size := 1, bytes := 8, agg := false, zero := [.dead] } := by kernel_rfl
@[simp] theorem ty80 : ctx.ty 80 = some { size := 1, bytes := 8, agg := false, zero := [.dead] } := by kernel_rfl
@[simp] theorem ty81 : ctx.ty 81 = some { size := 1, bytes := 8, agg := false, zero := [.dead] } := by kernel_rfl
@[simp] theorem ty82 : ctx.ty 82 = some { size := 1, bytes := 8, agg := false, zero := [.dead] } := by kernel_rfl
@[simp] theorem ty83 : ctx.ty 83 = some { size := 1, bytes := 8, agg := false, zero := [.dead] } := by kernel_rfl
@[simp] theorem ty84 : ctx.ty 84 = some { size := 1, bytes := 8, agg := false, zero := [.dead] } := by kernel_rfl
@[simp] theorem ty85 : ctx.ty 85 = some { size := 1, bytes := 8, agg := false, zero := [.dead] } := by kernel_rfl
@[simp] theorem ty86 : ctx.ty 86 = some { size := 1, bytes := 8, agg := false, zero := [.dead] } := by kernel_rfl
@[simp] theorem ty87 : ctx.ty 87 = some { size := 1, bytes := 8, agg := false, zero := [.dead] } := by kernel_rfl
@[simp] theorem ty88 : ctx.ty 88 = some { size := 1, bytes := 8, agg := false, zero := [.dead] } := by kernel_rfl
@[simp] theorem ty89 : ctx.ty 89 = some { size := 1, bytes := 8, agg := false, zero := [.dead] } := by kernel_rfl
@[simp] theorem ty90 : ctx.ty 90 = some { size := 4, bytes := 32, agg := true, zero := [.int .i64 0, .int .i64 0, .int .i64 0, .int .i64 0], fields := [(0, 1, 2), (1, 1, 2), (2, 1, 2), (3, 1, 2)] } := by kernel_rfl
@[simp] theorem ty91 : ctx.ty 91 = some { size := 4, bytes := 32, agg := true, zero := [.int .i64 0, .int .i64 0, .int .i64 0, .int .i64 0], fields := [(0, 1, 2), (1, 1, 2), (2, 1, 2), (3, 1, 2)] } := by kernel_rfl
@[simp] theorem ty92 : ctx.ty 92 = some { size := 1, bytes := 8, agg := false, zero := [.dead] } := by kernel_rfl
@[simp] theorem ty93 : ctx.ty 93 = some { size := 1, bytes := 8, agg := false, zero := [.dead] } := by kernel_rfl
@[simp] theorem ty94 : ctx.ty 94 = some { size := 1, bytes := 8, agg := false, zero := [.dead] } := by kernel_rfl
@[simp] theorem ty95 : ctx.ty 95 = some { size := 1, bytes := 8, agg := false, zero := [.dead] } := by kernel_rfl
@[simp] theorem ty96 : ctx.ty 96 = some { size := 1, bytes := 8, agg := false, zero := [.dead] } := by kernel_rfl
@[simp] theorem ty97 : ctx.ty 97 = some { size := 1, bytes := 8, agg := false, zero := [.dead] } := by kernel_rfl
@[simp] theorem ty98 : ctx.ty 98 = some { size := 1, bytes := 8, agg := false, zero := [.dead] } := by kernel_rfl
@[simp] theorem ty99 : ctx.ty 99 = some { size := 1, bytes := 8, agg := false, zero := [.dead] } := by kernel_rfl
@[simp] theorem ty100 : ctx.ty 100 = some { size := 1, bytes := 8, agg := false, zero := [.dead] } := by kernel_rfl
@[simp] theorem ty101 : ctx.ty 101 = some { size := 1, bytes := 8, agg := false, zero := [.dead] } := by kernel_rfl
@[simp] theorem ty104 : ctx.ty 104 = some { size := 1, bytes := 8, agg := false, zero := [.dead] } := by kernel_rfl
@[simp] theorem ty105 : ctx.ty 105 = some { size := 1, bytes := 8, agg := false, zero := [.dead] } := by kernel_rfl
@[simp] theorem ty106 : ctx.ty 106 = some { size := 1, bytes := 8, agg := false, zero := [.dead] } := by kernel_rfl
@[simp] theorem ty107 : ctx.ty 107 = some { size := 1, bytes := 8, agg := false, zero := [.dead] } := by kernel_rfl
@[simp] theorem ty108 : ctx.ty 108 = some { size := 1, bytes := 8, agg := false, zero := [.dead] } := by kernel_rfl
@[simp] theorem ty109 : ctx.ty 109 = some { size := 1, bytes := 8, agg := false, zero := [.dead] } := by kernel_rfl
@[simp] theorem ty110 : ctx.ty 110 = some { size := 1, bytes := 8, agg := false, zero := [.dead] } := by kernel_rfl
@[simp] theorem ty111 : ctx.ty 111 = some { size := 1, bytes := 8, agg := false, zero := [.dead] } := by kernel_rfl
@[simp] theorem ty112 : ctx.ty 112 = some { size := 1, bytes := 8, agg := false, zero := [.dead] } := by kernel_rfl
@[simp] theorem ty113 : ctx.ty 113 = some { size := 1, bytes := 8, agg := false, zero := [.dead] } := by kernel_rfl
@[simp] theorem ty114 : ctx.ty 114 = some { size := 9, bytes := 72, agg := true, zero := [.int .i64 0, .int .i64 0, .int .i64 0, .int .i64 0, .int .i64 0, .int .i64 0, .int .i64 0, .int .i64 0, .int .i64 0], fields := [(0, 1, 2), (1, 1, 2), (2, 1, 2), (3, 1, 2), (4, 1, 2), (5, 1, 2), (6, 1, 2), (7, 1, 2), (8, 1, 2)] } := by kernel_rfl
@[simp] theorem ty115 : ctx.ty 115 = some { size := 9, bytes := 72, agg := true, zero := [.int .i64 0, .int .i64 0, .int .i64 0, .int .i64 0, .int .i64 0, .int .i64 0, .int .i64 0, .int .i64 0, .int .i64 0], fields := [(0, 1, 2), (1, 1, 2), (2, 1, 2), (3, 1, 2), (4, 1, 2), (5, 1, 2), (6, 1, 2), (7, 1, 2), (8, 1, 2)] } := by kernel_rfl
@[simp] theorem ty116 : ctx.ty 116 = some { size := 1, bytes := 24, agg := false, zero := [.nil], elem := some 119 } := by kernel_rfl
@[simp] theorem ty117 : ctx.ty 117 = some { size := 1, bytes := 8, agg := false, zero := [.dead] } := by kernel_rfl
@[simp] theorem ty118 : ctx.ty 118 = some { size := 3, bytes := 24, agg := true, zero := [.int .i64 0, .int .i64 0, .int .i64 0], fields := [(0, 1, 2), (1, 1, 2), (2, 1, 2)] } := by kernel_rfl
@[simp] theorem ty119 : ctx.ty 119 = some { size := 3, bytes := 24, agg := true, zero := [.int .i64 0, .int .i64 0, .int .i64 0], fields := [(0, 1, 2), (1, 1, 2), (2, 1, 2)] } := by kernel_rfl
@[simp] theorem ty120 : ctx.ty 120 = some { size := 4, bytes := 32, agg := true, zero := [.int .i64 0, .int .i64 0, .int .i64 0, .int .i64 0], fields := [(0, 1, 2), (1, 1, 2), (2, 1, 2), (3, 1, 2)] } := by kernel_rfl
@[simp] theorem ty121 : ctx.ty 121 = some { size := 4, bytes := 32, agg := true, zero := [.int .i64 0, .int .i64 0, .int .i64 0, .int .i64 0], fields := [(0, 1, 2), (1, 1, 2), (2, 1, 2), (3, 1, 2)] } := by kernel_rfl
@[simp] theorem ty122 : ctx.ty 122 = some { size := 1, bytes := 8, agg := false, zero := [.dead] } := by kernel_rfl
@[simp] theorem ty123 : ctx.ty 123 = some { size := 1, bytes := 8, agg := false, zero := [.dead] } := by kernel_rfl
@[simp] theorem ty124 : ctx.ty 124 = some { size := 1, bytes := 8, agg := false, zero := [.dead] } := by kernel_rfl
@[simp] theorem ty125 : ctx.ty 125 = some { size := 1, bytes := 8, agg := false, zero := [.dead] } := by kernel_rfl
@[simp] theorem ty126 : ctx.ty 126 = some { size := 5, bytes := 40, agg := true, zero := [.int .i64 0, .int .i64 0, .int .i64 0, .int .i64 0, .int .i64 0], fields := [(0, 1, 2), (1, 1, 2), (2, 1, 2), (3, 1, 2), (4, 1, 2)] } := by kernel_rfl
@[simp] theorem ty127 : ctx.ty 127 = some { size := 5, bytes := 40, agg := true, zero := [.int .i64 0, .int .i64 0, .int .i64 0, .int .i64 0, .int .i64 0], fields := [(0, 1, 2), (1, 1, 2), (2, 1, 2), (3, 1, 2), (4, 1, 2)] } := by kernel_rfl
@[simp] theorem ty128 : ctx.ty 128 = some { size := 1, bytes := 8, agg := false, zero := [.dead] } := by kernel_rfl
@[simp] theorem ty129 : ctx.ty 129 = some { size := 1, bytes := 8, agg := false, zero := [.dead] } := by kernel_rfl
@[simp] theorem ty130 : ctx.ty 130 = some { size := 1, bytes := 8, agg := false, zero := [.dead] } := by kernel_rfl
@[simp] theorem ty131 : ctx.ty 131 = some { size := 1, bytes := 8, agg := false, zero := [.dead] } := by kernel_rfl
@[simp] theorem ty133 : ctx.ty 133 = some { size := 1, bytes := 8, agg := false, zero := [.dead] } := by kernel_rfl
@[simp] theorem ty134 : ctx.ty 134 = some { size := 1, bytes := 8, agg := false, zero := [.dead] } := by kernel_rfl
@[simp] theorem ty135 : ctx.ty 135 = some { size := 1, bytes := 8, agg := false, zero := [.dead] } := by kernel_rfl
@[simp] theorem ty136 : ctx.ty 136 = some { size := 2, bytes := 16, agg := true, zero := [.int .i64 0, .int .i64 0], fields := [(0, 1, 2), (1, 1, 2)] } := by kernel_rfl
@[simp] theorem ty137 : ctx.ty 137 = some { size := 2, bytes := 16, agg := true, zero := [.int .i64 0, .int .i64 0], fields := [(0, 1, 2), (1, 1, 2)] } := by kernel_rfl
@[simp] theorem ty138 : ctx.ty 138 = some { size := 1, bytes := 8, agg := false, zero := [.dead] } := by kernel_rfl
@[simp] theorem ty139 : ctx.ty 139 = some { size := 2, bytes := 16, agg := true, zero := [.int .i64 0, .int .i64 0], fields := [(0, 1, 2), (1, 1, 2)] } := by kernel_rfl
@[simp] theorem ty140 : ctx.ty 140 = some { size := 2, bytes := 16, agg := true, zero := [.int .i64 0, .int .i64 0], fields := [(0, 1, 2), (1, 1, 2)] } := by kernel_rfl
@[simp] theorem ty141 : ctx.ty 141 = some { size := 5, bytes := 40, agg := true, zero := [.int .i64 0, .int .i64 0, .int .i64 0, .int .i64 0, .bool false], fields := [(0, 2, 140), (2, 1, 2), (3, 1, 2), (4, 1, 4)] } := by kernel_rfl
@[simp] theorem ty142 : ctx.ty 142 = some { size := 5, bytes := 40, agg := true, zero := [.int .i64 0, .int .i64 0, .int .i64 0, .int .i64 0, .bool false], fields := [(0, 2, 140), (2, 1, 2), (3, 1, 2), (4, 1, 4)] } := by kernel_rfl
@[simp] theorem ty143 : ctx.ty 143 = some { size := 1, bytes := 8, agg := false, zero := [.dead] } := by kernel_rfl
@[simp] theorem ty144 : ctx.ty 144 = some { size := 1, bytes := 8, agg := false, zero := [.dead] } := by kernel_rfl
@[simp] theorem ty145 : ctx.ty 145 = some { size := 1, bytes := 8, agg := false, zero := [.dead] } := by kernel_rfl
@[simp] theorem ty146 : ctx.ty 146 = some { size := 1, bytes := 8, agg := false, zero := [.dead] } := by kernel_rfl
@[simp] theorem ty147 : ctx.ty 147 = some { size := 1, bytes := 8, agg := false, zero := [.dead] } := by kernel_rfl
@[simp] theorem ty148 : ctx.ty 148 = some { size := 1, bytes := 8, agg := false, zero := [.dead] } := by kernel_rfl
@[simp] theorem ty149 : ctx.ty 149 = some { size := 1, bytes := 8, agg := false, zero := [.dead] } := by kernel_rfl
@[simp] theorem ty150 : ctx.ty 150 = some { size := 1, bytes := 8, agg := false, zero := [.dead] } := by kernel_rfl
@[simp] theorem ty151 : ctx.ty 151 = some { size := 1, bytes := 8, agg := false, zero := [.dead] } := by kernel_rfl
@[simp] theorem ty152 : ctx.ty 152 = some { size := 1, bytes := 8, agg := false, zero := [.dead] } := by kernel_rfl
@[simp] theorem ty153 : ctx.ty 153 = some { size := 1, bytes := 8, agg := false, zero := [.dead] } := by kernel_rfl
@[simp] theorem ty154 : ctx.ty 154 = some { size := 1, bytes := 8, agg := false, zero := [.dead] } := by kernel_rfl
@[simp] theorem ty155 : ctx.ty 155 = some { size := 1, bytes := 8, agg := false, zero := [.dead] } := by kernel_rfl
@[simp] theorem ty156 : ctx.ty 156 = some { size := 1, bytes := 8, agg := false, zero := [.dead] } := by kernel_rfl
@[simp] theorem ty157 : ctx.ty 157 = some { size := 1, bytes := 8, agg := false, zero := [.dead] } := by kernel_rfl
@[simp] theorem ty159 : ctx.ty 159 = some { size := 1, bytes := 8, agg := false, zero := [.dead] } := by kernel_rfl
@[simp] theorem ty160 : ctx.ty 160 = some { size := 1, bytes := 8, agg := false, zero := [.dead] } := by kernel_rfl
@[simp] theorem ty162 : ctx.ty 162 = some { size := 1, bytes := 8, agg := false, zero := [.dead] } := by kernel_rfl
@[simp] theorem ty163 : ctx.ty 163 = some { size := 1, bytes := 8, agg := false, zero := [.dead] } := by kernel_rfl
@[simp] theorem ty164 : ctx.ty 164 = some { size := 1, bytes := 8, agg := false, zero := [.dead] } := by kernel_rfl
@[simp] theorem ty165 : ctx.ty 165 = some { size := 1, bytes := 8, agg := false, zero := [.dead] } := by kernel_rfl
@[simp] theorem ty167 : ctx.ty 167 = some { size := 1, bytes := 8, agg := false, zero := [.dead] } := by kernel_rfl
@[simp] theorem ty168 : ctx.ty 168 = some { size := 1, bytes := 8, agg := false, zero := [.dead] } := by kernel_rfl
@[simp] theorem ty169 : ctx.ty 169 = some { size := 1, bytes := 24, agg := false, zero := [.nil], elem := some 271 } := by kernel_rfl
@[simp] theorem ty170 : ctx.ty 170 = some { size := 1, bytes := 8, agg := false, zero := [.dead] } := by kernel_rfl
@[simp] theorem ty171 : ctx.ty 171 = some { size := 1, bytes := 8, agg := false, zero := [.dead] } := by kernel_rfl
@[simp] theorem ty172 : ctx.ty 172 = some { size := 1, bytes := 8, agg := false, zero := [.dead] } := by kernel_rfl
@[simp] theorem ty173 : ctx.ty 173 = some { size := 1, bytes := 8, agg := false, zero := [.dead] } := by kernel_rfl
@[simp] theorem ty174 : ctx.ty 174 = some { size := 1, bytes := 8, agg := false, zero := [.dead] } := by kernel_rfl
@[simp] theorem ty175 : ctx.ty 175 = some { size := 1, bytes := 8, agg := false, zero := [.dead] } := by kernel_rfl
@[simp] theorem ty176 : ctx.ty 176 = some { size := 5, bytes := 56, agg := true, zero := [.int .i64 0, .int .i64 0, .int .i64 0, .nil, .int .i64 0], fields := [(0, 1, 2), (1, 1, 2), (2, 1, 2), (3, 1, 26), (4, 1, 2)] } := by kernel_rfl
@[simp] theorem ty177 : ctx.ty 177 = some { size := 5, bytes := 56, agg := true, zero := [.int .i64 0, .int .i64 0, .int .i64 0, .nil, .int .i64 0], fields := [(0, 1, 2), (1, 1, 2), (2, 1, 2), (3, 1, 26), (4, 1, 2)] } := by kernel_rfl
@[simp] theorem ty178 : ctx.ty 178 = some { size := 1, bytes := 8, agg := false, zero := [.dead] } := by kernel_rfl
@[simp] theorem ty179 : ctx.ty 179 = some { size := 1, bytes := 8, agg := false, zero := [.dead] } := by kernel_rfl
@[simp] theorem ty180 : ctx.ty 180 = some { size := 1, bytes := 8, agg := false, zero := [.dead] } := by kernel_rfl
@[simp] theorem ty181 : ctx.ty 181 = some { size := 1, bytes := 8, agg := false, zero := [.dead] } := by kernel_rfl
@[simp] theorem ty182 : ctx.ty 182 = some { size := 5, bytes := 40, agg := true, zero := [.int .i64 0, .int .i64 0, .int .i64 0, .int .i64 0, .int .i64 0], fields := [(0, 1, 2), (1, 1, 2), (2, 1, 2), (3, 1, 2), (4, 1, 2)] } := by kernel_rfl
@[simp] theorem ty183 : ctx.ty 183 = some { size := 1, bytes := 8, agg := false, zero := [.dead] } := by kernel_rfl
@[simp] theorem ty184 : ctx.ty 184 = some { size := 4, bytes := 32, agg := true, zero := [.int .i64 0, .int .i64 0, .int .i64 0, .int .i64 0], fields := [(0, 1, 2), (1, 1, 2), (2, 1, 2), (3, 1, 2)] } := by kernel_rfl
@[simp] theorem ty185 : ctx.ty 185 = some { size := 1, bytes := 8, agg := false, zero := [.dead] } := by kernel_rfl
@[simp] theorem ty186 : ctx.ty 186 = some { size := 1, bytes := 8, agg := false, zero := [.dead] } := by kernel_rfl
@[simp] theorem ty187 : ctx.ty 187 = some { size := 1, bytes := 8, agg := false, zero := [.dead] } := by kernel_rfl
@[simp] theorem ty188 : ctx.ty 188 = some { size := 1, bytes := 8, agg := false, zero := [.dead] } := by kernel_rfl
@[simp] theorem ty189 : ctx.ty 189 = some { size := 1, bytes := 8, agg := false, zero := [.dead] } := by kernel_rfl
@[simp] theorem ty190 : ctx.ty 190 = some { size := 1, bytes := 8, agg := false, zero := [.dead] } := by kernel_rfl
@[simp] theorem ty191 : ctx.ty 191 = some { size := 9, bytes := 72, agg := true, zero := [.int .i64 0, .int .i64 0, .int .i64 0, .int .i64 0, .int .i64 0, .int .i64 0, .int .i64 0, .int .i64 0, .int .i64 0], fields := [(0, 1, 2), (1, 1, 2), (2, 1, 2), (3, 1, 2), (4, 1, 2), (5, 1, 2), (6, 1, 2), (7, 1, 2), (8, 1, 2)] } := by kernel_rfl
@[simp] theorem ty192 : ctx.ty 192 = some { size := 5, bytes := 56, agg := true, zero := [.int .i64 0, .int .i64 0, .int .i64 0, .nil, .int .i64 0], fields := [(0, 1, 2), (1, 1, 2), (2, 1, 2), (3, 1, 26), (4, 1, 2)] } := by kernel_rfl
@[simp] theorem ty193 : ctx.ty 193 = some { size := 1, bytes := 8, agg := false, zero := [.dead] } := by kernel_rfl
@[simp] theorem ty194 : ctx.ty 194 = some { size := 1, bytes := 8, agg := false, zero := [.dead] } := by kernel_rfl
@[simp] theorem ty195 : ctx.ty 195 = some { size := 4, bytes := 32, agg := true, zero := [.int .i64 0, .int .i64 0, .int .i64 0, .int .i64 0], fields := [(0, 1, 2), (1, 1, 2), (2, 1, 2), (3, 1, 2)] } := by kernel_rfl
@[simp] theorem ty196 : ctx.ty 196 = some { size := 1, bytes := 8, agg := false, zero := [.dead] } := by kernel_rfl
@[simp] theorem ty197 : ctx.ty 197 = some { size := 1, bytes := 8, agg := false, zero := [.dead] } := by kernel_rfl
@[simp] theorem ty198 : ctx.ty 198 = some { size := 1, bytes := 8, agg := false, zero := [.dead] } := by kernel_rfl
@[simp] theorem ty199 : ctx.ty 199 = some { size := 1, bytes := 8, agg := false, zero := [.dead] } := by kernel_rfl
@[simp] theorem ty200 : ctx.ty 200 = some { size := 1, bytes := 8, agg := false, zero := [.dead] } := by kernel_rfl
@[simp] theorem ty201 : ctx.ty 201 = some { size := 1, bytes := 8, agg := false, zero := [.dead] } := by kernel_rfl
@[simp] theorem ty202 : ctx.ty 202 = some { size := 1, bytes := 8, agg := false, zero := [.dead] } := by kernel_rfl
@[simp] theorem ty203 : ctx.ty 203 = some { size := 5, bytes := 40, agg := true, zero := [.int .i64 0, .int .i64 0, .int .i64 0, .int .i64 0, .bool false], fields := [(0, 1, 2), (1, 1, 2), (2, 1, 2), (3, 1, 2), (4, 1, 4)] } := by kernel_rfl
@[simp] theorem ty204 : ctx.ty 204 = some { size := 5, bytes := 40, agg := true, zero := [.int .i64 0, .int .i64 0, .int .i64 0, .int .i64 0, .bool false], fields := [(0, 1, 2), (1, 1, 2), (2, 1, 2), (3, 1, 2), (4, 1, 4)] } := by kernel_rfl
@[simp] theorem ty205 : ctx.ty 205 = some { size := 1, bytes := 8, agg := false, zero := [.dead] } := by kernel_rfl
@[simp] theorem ty206 : ctx.ty 206 = some { size := 1, bytes := 8, agg := false, zero := [.dead] } := by kernel_rfl
@[simp] theorem ty207 : ctx.ty 207 = some { size := 1, bytes := 8, agg := false, zero := [.dead] } := by kernel_rfl
@[simp] theorem ty208 : ctx.ty 208 = some { size := 1, bytes := 8, agg := false, zero := [.dead] } := by kernel_rfl
@[simp] theorem ty209 : ctx.ty 209 = some { size := 1, bytes := 8, agg := false, zero := [.dead] } := by kernel_rfl
@[simp] theorem ty210 : ctx.ty 210 = some { size := 1, bytes := 8, agg := false, zero := [.dead] } := by kernel_rfl
@[simp] theorem ty211 : ctx.ty 211 = some { size := 1, bytes := 8, agg := false, zero := [.dead] } := by kernel_rfl
@[simp] theorem ty212 : ctx.ty 212 = some { size := 1, bytes := 8, agg := false, zero := [.dead] } := by kernel_rfl
@[simp] theorem ty213 : ctx.ty 213 = some { size := 1, bytes := 8, agg := false, zero := [.dead] } := by kernel_rfl
@[simp] theorem ty214 : ctx.ty 214 = some { size := 1, bytes := 8, agg := false, zero := [.dead] } := by kernel_rfl
@[simp] theorem ty215 : ctx.ty 215 = some { size := 1, bytes := 8, agg := false, zero := [.dead] } := by kernel_rfl
@[simp] theorem ty216 : ctx.ty 216 = some { size := 1, bytes := 8, agg := false, zero := [.dead] } := by kernel_rfl
@[simp] theorem ty217 : ctx.ty 217 = some { size := 1, bytes := 8, agg := false, zero := [.dead] } := by kernel_rfl
@[simp] theorem ty218 : ctx.ty 218 = some { size := 1, bytes := 8, agg := false, zero := [.dead] } := by kernel_rfl
@[simp] theorem ty219 : ctx.ty 219 = some { size := 1, bytes := 8, agg := false, zero := [.dead] } := by kernel_rfl
@[simp] theorem ty220 : ctx.ty 220 = some { size := 1, bytes := 8, agg := false, zero := [.dead] } := by kernel_rfl
@[simp] theorem ty221 : ctx.ty 221 = some { size := 1, bytes := 8, agg := false, zero := [.dead] } := by kernel_rfl
@[simp] theorem ty222 : ctx.ty 222 = some { size := 1, bytes := 8, agg := false, zero := [.dead] } := by kernel_rfl
@[simp] theorem ty223 : ctx.ty 223 = some { size := 1, bytes := 8, agg := false, zero := [.dead] } := by kernel_rfl
@[simp] theorem ty224 : ctx.ty 224 = some { size := 1, bytes := 8, agg := false, zero := [.dead] } := by kernel_rfl
@[simp] theorem ty225 : ctx.ty 225 = some { size := 1, bytes := 8, agg := false, zero := [.dead] } := by kernel_rfl
@[simp] theorem ty226 : ctx.ty 226 = some { size := 1, bytes := 8, agg := false, zero := [.dead] } := by kernel_rfl
@[simp] theorem ty227 : ctx.ty 227 = some { size := 1, bytes := 8, agg := false, zero := [.dead] } := by kernel_rfl
@[simp] theorem ty228 : ctx.ty 228 = some { size := 1, bytes := 8, agg := false, zero := [.dead] } := by kernel_rfl
@[simp] theorem ty229 : ctx.ty 229 = some { size := 1, bytes := 8, agg := false, zero := [.dead] } := by kernel_rfl
@[simp] theorem ty230 : ctx.ty 230 = some { size := 1, bytes := 8, agg := false, zero := [.dead] } := by kernel_rfl
@[simp] theorem ty231 : ctx.ty 231 = some { size := 1, bytes := 8, agg := false, zero := [.dead] } := by kernel_rfl
@[simp] theorem ty232 : ctx.ty 232 = some { size := 1, bytes := 8, agg := false, zero := [.dead] } := by kernel_rfl
@[simp] theorem ty233 : ctx.ty 233 = some { size := 1, bytes := 8, agg := false, zero := [.dead] } := by kernel_rfl
@[simp] theorem ty234 : ctx.ty 234 = some { size := 3, bytes := 24, agg := true, zero := [.int .i64 0, .int .i64 0, .int .i64 0], fields := [(0, 1, 2), (1, 1, 2), (2, 1, 2)] } := by kernel_rfl
@[simp] theorem ty235 : ctx.ty 235 = some { size := 3, bytes := 24, agg := true, zero := [.int .i64 0, .int .i64 0, .int .i64 0], fields := [(0, 1, 2), (1, 1, 2), (2, 1, 2)] } := by kernel_rfl
@[simp] theorem ty236 : ctx.ty 236 = some { size := 1, bytes := 8, agg := false, zero := [.dead] } := by kernel_rfl
@[simp] theorem ty237 : ctx.ty 237 = some { size := 1, bytes := 8, agg := false, zero := [.dead] } := by kernel_rfl
@[simp] theorem ty238 : ctx.ty 238 = some { size := 1, bytes := 8, agg := false, zero := [.dead] } := by kernel_rfl
@[simp] theorem ty239 : ctx.ty 239 = some { size := 1, bytes := 8, agg := false, zero := [.dead] } := by kernel_rfl
@[simp] theorem ty240 : ctx.ty 240 = some { size := 1, bytes := 8, agg := false, zero := [.dead] } := by kernel_rfl
@[simp] theorem ty241 : ctx.ty 241 = some { size := 1, bytes := 8, agg := false, zero := [.dead] } := by kernel_rfl
@[simp] theorem ty242 : ctx.ty 242 = some { size := 1, bytes := 8, agg := false, zero := [.dead] } := by kernel_rfl
@[simp] theorem ty243 : ctx.ty 243 = some { size := 1, bytes := 8, agg := false, zero := [.dead] } := by kernel_rfl
@[simp] theorem ty244 : ctx.ty 244 = some { size := 1, bytes := 8, agg := false, zero := [.dead] } := by kernel_rfl
@[simp] theorem ty245 : ctx.ty 245 = some { size := 1, bytes := 8, agg := false, zero := [.dead] } := by kernel_rfl
@[simp] theorem ty246 : ctx.ty 246 = some { size := 1, bytes := 8, agg := false, zero := [.dead] } := by kernel_rfl
@[simp] theorem ty247 : ctx.ty 247 = some { size := 1, bytes := 8, agg := false, zero := [.dead] } := by kernel_rfl
@[simp] theorem ty248 : ctx.ty 248 = some { size := 1, bytes := 8, agg := false, zero := [.dead] } := by kernel_rfl
@[simp] theorem ty249 : ctx.ty 249 = some { size := 1, bytes := 8, agg := false, zero := [.dead] } := by kernel_rfl
@[simp] theorem ty251 : ctx.ty 251 = some { size := 1, bytes := 8, agg := false, zero := [.dead] } := by kernel_rfl
@[simp] theorem ty252 : ctx.ty 252 = some { size := 1, bytes := 8, agg := false, zero := [.dead] } := by kernel_rfl
@[simp] theorem ty253 : ctx.ty 253 = some { size := 1, bytes := 8, agg := false, zero := [.dead] } := by kernel_rfl
@[simp] theorem ty255 : ctx.ty 255 = some { size := 1, bytes := 8, agg := false, zero := [.dead] } := by kernel_rfl
@[simp] theorem ty256 : ctx.ty 256 = some { size := 1, bytes := 8, agg := false, zero := [.dead] } := by kernel_rfl
@[simp] theorem ty257 : ctx.ty 257 = some { size := 1, bytes := 8, agg := false, zero := [.dead] } := by kernel_rfl
@[simp] theorem ty258 : ctx.ty 258 = some { size := 1, bytes := 8, agg := false, zero := [.dead] } := by kernel_rfl
@[simp] theorem ty260 : ctx.ty 260 = some { size := 1, bytes := 8, agg := false, zero := [.dead] } := by kernel_rfl
@[simp] theorem ty262 : ctx.ty 262 = some { size := 1, bytes := 8, agg := false, zero := [.dead] } := by kernel_rfl
@[simp] theorem ty263 : ctx.ty 263 = some { size := 1, bytes := 8, agg := false, zero := [.dead] } := by kernel_rfl
@[simp] theorem ty265 : ctx.ty 265 = some { size := 1, bytes := 8, agg := false, zero := [.dead] } := by kernel_rfl
@[simp] theorem ty267 : ctx.ty 267 = some { size := 1, bytes := 8, agg := false, zero := [.dead] } := by kernel_rfl
@[simp] theorem ty268 : ctx.ty 268 = some { size := 1, bytes := 8, agg := false, zero := [.dead] } := by kernel_rfl
@[simp] theorem ty269 : ctx.ty 269 = some { size := 1, bytes := 8, agg := false, zero := [.dead] } := by kernel_rfl
@[simp] theorem ty270 : ctx.ty 270 = some { size := 1, bytes := 8, agg := false, zero := [.dead] } := by kernel_rfl
@[simp] theorem ty271 : ctx.ty 271 = some { size := 3, bytes := 24, agg := true, zero := [.int .i64 0, .int .i64 0, .int .i64 0], fields := [(0, 1, 2), (1, 1, 2), (2, 1, 2)] } := by kernel_rfl
@[simp] theorem ty272 : ctx.ty 272 = some { size := 1, bytes := 8, agg := false, zero := [.dead] } := by kernel_rfl
@[simp] theorem ty273 : ctx.ty 273 = some { size := 3, bytes := 24, agg := true, zero := [.int .i64 0, .int .i64 0, .int .i64 0], fields := [(0, 1, 2), (1, 1, 2), (2, 1, 2)] } := by kernel_rfl
@[simp] theorem ty274 : ctx.ty 274 = some { size := 1, bytes := 8, agg := false, zero := [.dead] } := by kernel_rfl
@[simp] theorem ty275 : ctx.ty 275 = some { size := 5, bytes := 40, agg := true, zero := [.int .i64 0, .int .i64 0, .int .i64 0, .int .i64 0, .bool false], fields := [(0, 1, 2), (1, 1, 2), (2, 1, 2), (3, 1, 2), (4, 1, 4)] } := by kernel_rfl
@[simp] theorem ty276 : ctx.ty 276 = some { size := 1, bytes := 8, agg := false, zero := [.dead] } := by kernel_rfl
@[simp] theorem ty277 : ctx.ty 277 = some { size := 2, bytes := 16, agg := true, zero := [.int .i64 0, .int .i64 0], fields := [(0, 1, 2), (1, 1, 2)] } := by kernel_rfl
@[simp] theorem ty278 : ctx.ty 278 = some { size := 5, bytes := 40, agg := true, zero := [.int .i64 0, .int .i64 0, .int .i64 0, .int .i64 0, .bool false], fields := [(0, 2, 277), (2, 1, 2), (3, 1, 2), (4, 1, 4)] } := by kernel_rfl
@[simp] theorem ty279 : ctx.ty 279 = some { size := 5, bytes := 40, agg := true, zero := [.int .i64 0, .int .i64 0, .int .i64 0, .int .i64 0, .bool false], fields := [(0, 2, 277), (2, 1, 2), (3, 1, 2), (4, 1, 4)] } := by kernel_rfl
@[simp] theorem ty280 : ctx.ty 280 = some { size := 1, bytes := 8, agg := false, zero := [.dead] } := by kernel_rfl
@[simp] theorem ty281 : ctx.ty 281 = some { size := 1, bytes := 8, agg := false, zero := [.dead] } := by kernel_rfl
@[simp] theorem ty282 : ctx.ty 282 = some { size := 1, bytes := 8, agg := false, zero := [.dead] } := by kernel_rfl
@[simp] theorem ty283 : ctx.ty 283 = some { size := 1, bytes := 8, agg := false, zero := [.dead] } := by kernel_rfl
@[simp] theorem ty284 : ctx.ty 284 = some { size := 1, bytes := 8, agg := false, zero := [.dead] } := by kernel_rfl
@[simp] theorem ty285 : ctx.ty 285 = some { size := 1, bytes := 8, agg := false, zero := [.dead] } := by kernel_rfl
@[simp] theorem ty286 : ctx.ty 286 = some { size := 1, bytes := 8, agg := false, zero := [.dead] } := by kernel_rfl
@[simp] theorem ty287 : ctx.ty 287 = some { size := 1, bytes := 8, agg := false, zero := [.dead] } := by kernel_rfl
@[simp] theorem ty288 : ctx.ty 288 = some { size := 1, bytes := 8, agg := false, zero := [.dead] } := by kernel_rfl
@[simp] theorem ty289 : ctx.ty 289 = some { size := 1, bytes := 8, agg := false, zero := [.dead] } := by kernel_rfl
@[simp] theorem ty290 : ctx.ty 290 = some { size := 1, bytes := 8, agg := false, zero := [.dead] } := by kernel_rfl
@[simp] theorem ty291 : ctx.ty 291 = some { size := 1, bytes := 8, agg := false, zero := [.dead] } := by kernel_rfl
@[simp] theorem ty292 : ctx.ty 292 = some { size := 1, bytes := 8, agg := false, zero := [.dead] } := by kernel_rfl
@[simp] theorem ty293 : ctx.ty 293 = some { size := 1, bytes := 8, agg := false, zero := [.dead] } := by kernel_rfl
@[simp] theorem ty294 : ctx.ty 294 = some { size := 1, bytes := 8, agg := false, zero := [.dead] } := by kernel_rfl
@[simp] theorem ty295 : ctx.ty 295 = some { size := 1, bytes := 8, agg := false, zero := [.dead] } := by kernel_rfl
@[simp] theorem ty296 : ctx.ty 296 = some { size := 1, bytes := 8, agg := false, zero := [.dead] } := by kernel_rfl
@[simp] theorem ty297 : ctx.ty 297 = some { size := 1, bytes := 8, agg := false, zero := [.dead] } := by kernel_rfl
@[simp] theorem ty298 : ctx.ty 298 = some { size := 1, bytes := 8, agg := false, zero := [.dead] } := by kernel_rfl
@[simp] theorem ty299 : ctx.ty 299 = some { size := 1, bytes := 8, agg := false, zero := [.dead] } := by kernel_rfl
@[simp] theorem ty300 : ctx.ty 300 = some { size := 1, bytes := 8, agg := false, zero := [.dead] } := by kernel_rfl
@[simp] theorem ty301 : ctx.ty 301 = some { size := 1, bytes := 8, agg := false, zero := [.dead] } := by kernel_rfl
@[simp] theorem ty302 : ctx.ty 302 = some { size := 1, bytes := 8, agg := false, zero := [.dead] } := by kernel_rfl
@[simp] theorem ty303 : ctx.ty 303 = some { size := 1, bytes := 8, agg := false, zero := [.dead] } := by kernel_rfl
@[simp] theorem ty304 : ctx.ty 304 = some { size := 1, bytes := 8, agg := false, zero := [.dead] } := by kernel_rfl
@[simp] theorem ty305 : ctx.ty 305 = some { size := 1, bytes := 8, agg := false, zero := [.dead] } := by kernel_rfl
@[simp] theorem ty306 : ctx.ty 306 = some { size := 1, bytes := 8, agg := false, zero := [.dead] } := by kernel_rfl
@[simp] theorem ty307 : ctx.ty 307 = some { size := 1, bytes := 8, agg := false, zero := [.dead] } := by kernel_rfl
@[simp] theorem ty308 : ctx.ty 308 = some { size := 1, bytes := 8, agg := false, zero := [.dead] } := by kernel_rfl
@[simp] theorem ty309 : ctx.ty 309 = some { size := 1, bytes := 8, agg := false, zero := [.dead] } := by kernel_rfl
@[simp] theorem ty310 : ctx.ty 310 = some { size := 1, bytes := 8, agg := false, zero := [.dead] } := by kernel_rfl
@[simp] theorem ty311 : ctx.ty 311 = some { size := 1, bytes := 8, agg := false, zero := [.dead] } := by kernel_rfl
@[simp] theorem ty313 : ctx.ty 313 = some { size := 1, bytes := 8, agg := false, zero := [.dead] } := by kernel_rfl
@[simp] theorem ty314 : ctx.ty 314 = some { size := 1, bytes := 8, agg := false, zero := [.dead] } := by kernel_rfl
@[simp] theorem ty315 : ctx.ty 315 = some { size := 1, bytes := 8, agg := false, zero := [.dead] } := by kernel_rfl
@[simp] theorem ty316 : ctx.ty 316 = some { size := 1, bytes := 8, agg := false, zero := [.dead] } := by kernel_rfl
@[simp] theorem ty317 : ctx.ty 317 = some { size := 1, bytes := 8, agg := false, zero := [.dead] } := by kernel_rfl
@[simp] theorem ty318 : ctx.ty 318 = some { size := 1, bytes := 8, agg := false, zero := [.dead] } := by kernel_rfl
@[simp] theorem ty319 : ctx.ty 319 = some { size := 1, bytes := 8, agg := false, zero := [.dead] } := by kernel_rfl
@[simp] theorem ty321 : ctx.ty 321 = some { size := 1, bytes := 8, agg := false, zero := [.dead] } := by kernel_rfl
@[simp] theorem ty322 : ctx.ty 322 = some { size := 1, bytes := 8, agg := false, zero := [.dead] } := by kernel_rfl
@[simp] theorem ty323 : ctx.ty 323 = some { size := 1, bytes := 8, agg := false, zero := [.dead] } := by kernel_rfl
@[simp] theorem ty324 : ctx.ty 324 = some { size := 1, bytes := 8, agg := false, zero := [.dead] } := by kernel_rfl
@[simp] theorem ty325 : ctx.ty 325 = some { size := 1, bytes := 8, agg := false, zero := [.dead] } := by kernel_rfl
@[simp] theorem ty326 : ctx.ty 326 = some { size := 1, bytes := 8, agg := false, zero := [.dead] } := by kernel_rfl
@[simp] theorem ty327 : ctx.ty 327 = some { size := 1, bytes := 8, agg := false, zero := [.dead] } := by kernel_rfl
@[simp] theorem ty328 : ctx.ty 328 = some { size := 1, bytes := 8, agg := false, zero := [.dead] } := by kernel_rfl
@[simp] theorem ty329 : ctx.ty 329 = some { size := 1, bytes := 8, agg := false, zero := [.dead] } := by kernel_rfl
@[simp] theorem ty330 : ctx.ty 330 = some { size := 1, bytes := 8, agg := false, zero := [.dead] } := by kernel_rfl
@[simp] theorem ty331 : ctx.ty 331 = some { size := 1, bytes := 8, agg := false, zero := [.dead] } := by kernel_rfl
@[simp] theorem ty332 : ctx.ty 332 = some { size := 1, bytes := 8, agg := false, zero := [.dead] } := by kernel_rfl
@[simp] theorem ty333 : ctx.ty 333 = some { size := 1, bytes := 8, agg := false, zero := [.dead] } := by kernel_rfl
@[simp] theorem ty334 : ctx.ty 334 = some { size := 1, bytes := 8, agg := false, zero := [.dead] } := by kernel_rfl
@[simp] theorem ty335 : ctx.ty 335 = some { size := 1, bytes := 8, agg := false, zero := [.dead] } := by kernel_rfl
@[simp] theorem ty336 : ctx.ty 336 = some { size := 1, bytes := 8, agg := false, zero := [.dead] } := by kernel_rfl
@[simp] theorem ty337 : ctx.ty 337 = some { size := 1, bytes := 8, agg := false, zero := [.dead] } := by kernel_rfl
@[simp] theorem ty338 : ctx.ty 338 = some { size := 1, bytes := 8, agg := false, zero := [.dead] } := by kernel_rfl
@[simp] theorem ty339 : ctx.ty 339 = some { size := 1, bytes := 8, agg := false, zero := [.dead] } := by kernel_rfl
@[simp] theorem ty340 : ctx.ty 340 = some { size := 1, bytes := 8, agg := false, zero := [.dead] } := by kernel_rfl
@[simp] theorem ty341 : ctx.ty 341 = some { size := 1, bytes := 8, agg := false, zero := [.dead] } := by kernel_rfl
@[simp] theorem ty342 : ctx.ty 342 = some { size := 1, bytes := 8, agg := false, zero := [.dead] } := by kernel_rfl
@[simp] theorem ty343 : ctx.ty 343 = some { size := 1, bytes := 8, agg := false, zero := [.dead] } := by kernel_rfl
@[simp] theorem ty344 : ctx.ty 344 = some { size := 1, bytes := 8, agg := false, zero := [.dead] } := by kernel_rfl
@[simp] theorem ty345 : ctx.ty 345 = some { size := 1, bytes := 8, agg := false, zero := [.dead] } := by kernel_rfl
@[simp] theorem ty347 : ctx.ty 347 = some { size := 1, bytes := 8, agg := false, zero := [.dead] } := by kernel_rfl
@[simp] theorem ty348 : ctx.ty 348 = some { size := 1, bytes := 8, agg := false, zero := [.dead] } := by kernel_rfl
@[simp] theorem ty349 : ctx.ty 349 = some { size := 1, bytes := 8, agg := false, zero := [.dead] } := by kernel_rfl
@[simp] theorem ty350 : ctx.ty 350 = some { size := 1, bytes := 8, agg := false, zero := [.dead] } := by kernel_rfl
@[simp] theorem ty352 : ctx.ty 352 = some { size := 1, bytes := 8, agg := false, zero := [.dead] } := by kernel_rfl
@[simp] theorem ty353 : ctx.ty 353 = some { size := 1, bytes := 8, agg := false, zero := [.dead] } := by kernel_rfl
@[simp] theorem ty354 : ctx.ty 354 = some { size := 1, bytes := 8, agg := false, zero := [.dead] } := by kernel_rfl
@[simp] theorem ty355 : ctx.ty 355 = some { size := 1, bytes := 8, agg := false, zero := [.dead] } := by kernel_rfl
@[simp] theorem ty356 : ctx.ty 356 = some { size := 1, bytes := 24, agg := false, zero := [.nil], elem := some 49 } := by kernel_rfl
@[simp] theorem ty357 : ctx.ty 357 = some { size := 1, bytes := 8, agg := false, zero := [.dead] } := by kernel_rfl
@[simp] theorem ty358 : ctx.ty 358 = some { size := 1, bytes := 24, agg := false, zero := [.nil], elem := some 3 } := by kernel_rfl
@[simp] theorem ty359 : ctx.ty 359 = some { size := 1, bytes := 8, agg := false, zero := [.dead] } := by kernel_rfl
@[simp] theorem ty360 : ctx.ty 360 = some { size := 4, bytes := 40, agg := true, zero := [.dead, .dead, .dead, .str ⟨#[]⟩], fields := [(0, 1, 17), (1, 1, 17), (2, 1, 17), (3, 1, 9)] } := by kernel_rfl
@[simp] theorem ty363 : ctx.ty 363 = some { size := 0, bytes := 0, agg := true, zero := [], fields := [(0, 0, 362)] } := by kernel_rfl
@[simp] theorem ty365 : ctx.ty 365 = some { size := 1, bytes := 8, agg := false, zero := [.dead] } := by kernel_rfl
@[simp] theorem ty366 : ctx.ty 366 = some { size := 1, bytes := 4, agg := false, zero := [.int .u32 0], ik := some .u32 } := by kernel_rfl
@[simp] theorem ty369 : ctx.ty 369 = some { size := 1, bytes := 8, agg := false, zero := [.dead] } := by kernel_rfl
@[simp] theorem ty370 : ctx.ty 370 = some { size := 1, bytes := 8, agg := false, zero := [.dead] } := by kernel_rfl
@[simp] theorem ty373 : ctx.ty 373 = some { size := 11, bytes := 48, agg := true, zero := [.int .u64 0, .int .u64 0, .int .u32 0, .int .u8 0, .int .u8 0, .int .u8 0, .int .u8 0, .dead, .dead, .int .i32 0, .int .i32 0], fields := [(0, 1, 12), (1, 1, 12), (2, 1, 366), (3, 1, 367), (4, 1, 5), (5, 1, 5), (6, 1, 368), (7, 1, 369), (8, 1, 370), (9, 1, 371), (10, 1, 372)] } := by kernel_rfl
@[simp] theorem ty375 : ctx.ty 375 = some { size := 1, bytes := 8, agg := false, zero := [.dead] } := by kernel_rfl
@[simp] theorem ty376 : ctx.ty 376 = some { size := 1, bytes := 8, agg := false, zero := [.dead] } := by kernel_rfl
@[simp] theorem el22 : yZ ctx 22 = some { size := 1, bytes := 24, agg := false, zero := [.nil], elem := some 271 } := by kernel_rfl
@[simp] theorem el23 : yZ ctx 23 = some { size := 5, bytes := 40, agg := true, zero := [.int .i64 0, .int .i64 0, .int .i64 0, .int .i64 0, .int .i64 0], fields := [(0, 1, 2), (1, 1, 2), (2, 1, 2), (3, 1, 2), (4, 1, 2)] } := by kernel_rfl
@[simp] theorem el24 : yZ ctx 24 = some { size := 4, bytes := 32, agg := true, zero := [.int .i64 0, .int .i64 0, .int .i64 0, .int .i64 0], fields := [(0, 1, 2), (1, 1, 2), (2, 1, 2), (3, 1, 2)] } := by kernel_rfl
@[simp] theorem el25 : yZ ctx 25 = some { size := 1, bytes := 1, agg := false, zero := [.bool false] } := by kernel_rfl
@[simp] theorem el26 : yZ ctx 26 = some { size := 1, bytes := 8, agg := false, zero := [.int .i64 0], ik := some .i64 } := by kernel_rfl
@[simp] theorem el29 : yZ ctx 29 = some { size := 3, bytes := 24, agg := true, zero := [.int .i64 0, .int .i64 0, .int .i64 0], fields := [(0, 1, 2), (1, 1, 2), (2, 1, 2)] } := by kernel_rfl
@[simp] theorem el30 : yZ ctx 30 = some { size := 5, bytes := 40, agg := true, zero := [.int .i64 0, .int .i64 0, .int .i64 0, .int .i64 0, .bool false], fields := [(0, 1, 2), (1, 1, 2), (2, 1, 2), (3, 1, 2), (4, 1, 4)] } := by kernel_rfl
@[simp] theorem el35 : yZ ctx 35 = some { size := 5, bytes := 40, agg := true, zero := [.int .i64 0, .int .i64 0, .int .i64 0, .int .i64 0, .bool false], fields := [(0, 2, 277), (2, 1, 2), (3, 1, 2), (4, 1, 4)] } := by kernel_rfl
@[simp] theorem el38 : yZ ctx 38 = some { size := 9, bytes := 72, agg := true, zero := [.int .i64 0, .int .i64 0, .int .i64 0, .int .i64 0, .int .i64 0, .int .i64 0, .int .i64 0, .int .i64 0, .int .i64 0], fields := [(0, 1, 2), (1, 1, 2), (2, 1, 2), (3, 1, 2), (4, 1, 2), (5, 1, 2), (6, 1, 2), (7, 1, 2), (8, 1, 2)] } := by kernel_rfl
@[simp] theorem el39 : yZ ctx 39 = some { size := 5, bytes := 56, agg := true, zero := [.int .i64 0, .int .i64 0, .int .i64 0, .nil, .int .i64 0], fields := [(0, 1, 2), (1, 1, 2), (2, 1, 2), (3, 1, 26), (4, 1, 2)] } := by kernel_rfl
@[simp] theorem el40 : yZ ctx 40 = some { size := 4, bytes := 32, agg := true, zero := [.int .i64 0, .int .i64 0, .int .i64 0, .int .i64 0], fields := [(0, 1, 2), (1, 1, 2), (2, 1, 2), (3, 1, 2)] } := by kernel_rfl
@[simp] theorem el45 : yZ ctx 45 = some { size := 1, bytes := 24, agg := false, zero := [.nil], elem := some 119 } := by kernel_rfl
@[simp] theorem el46 : yZ ctx 46 = some { size := 5, bytes := 40, agg := true, zero := [.int .i64 0, .int .i64 0, .int .i64 0, .int .i64 0, .int .i64 0], fields := [(0, 1, 2), (1, 1, 2), (2, 1, 2), (3, 1, 2), (4, 1, 2)] } := by kernel_rfl
@[simp] theorem el47 : yZ ctx 47 = some { size := 4, bytes := 32, agg := true, zero := [.int .i64 0, .int .i64 0, .int .i64 0, .int .i64 0], fields := [(0, 1, 2), (1, 1, 2), (2, 1, 2), (3, 1, 2)] } := by kernel_rfl
@[simp] theorem el49 : yZ ctx 49 = some { size := 3, bytes := 24, agg := true, zero := [.int .i64 0, .int .i64 0, .int .i64 0], fields := [(0, 1, 2), (1, 1, 2), (2, 1, 2)] } := by kernel_rfl
@[simp] theorem el50 : yZ ctx 50 = some { size := 5, bytes := 40, agg := true, zero := [.int .i64 0, .int .i64 0, .int .i64 0, .int .i64 0, .bool false], fields := [(0, 1, 2), (1, 1, 2), (2, 1, 2), (3, 1, 2), (4, 1, 4)] } := by kernel_rfl
@[simp] theorem el54 : yZ ctx 54 = some { size := 5, bytes := 40, agg := true, zero := [.int .i64 0, .int .i64 0, .int .i64 0, .int .i64 0, .bool false], fields := [(0, 2, 140), (2, 1, 2), (3, 1, 2), (4, 1, 4)] } := by kernel_rfl
@[simp] theorem el57 : yZ ctx 57 = some { size := 9, bytes := 72, agg := true, zero := [.int .i64 0, .int .i64 0, .int .i64 0, .int .i64 0, .int .i64 0, .int .i64 0, .int .i64 0, .int .i64 0, .int .i64 0], fields := [(0, 1, 2), (1, 1, 2), (2, 1, 2), (3, 1, 2), (4, 1, 2), (5, 1, 2), (6, 1, 2), (7, 1, 2), (8, 1, 2)] } := by kernel_rfl
@[simp] theorem el58 : yZ ctx 58 = some { size := 5, bytes := 56, agg := true, zero := [.int .i64 0, .int .i64 0, .int .i64 0, .nil, .int .i64 0], fields := [(0, 1, 2), (1, 1, 2), (2, 1, 2), (3, 1, 26), (4, 1, 2)] } := by kernel_rfl
@[simp] theorem el59 : yZ ctx 59 = some { size := 4, bytes := 32, agg := true, zero := [.int .i64 0, .int .i64 0, .int .i64 0, .int .i64 0], fields := [(0, 1, 2), (1, 1, 2), (2, 1, 2), (3, 1, 2)] } := by kernel_rfl
@[simp] theorem el66 : yZ ctx 66 = some { size := 2, bytes := 16, agg := true, zero := [.int .i64 0, .int .i64 0], fields := [(0, 1, 2), (1, 1, 2)] } := by kernel_rfl
@[simp] theorem el116 : yZ ctx 116 = some { size := 3, bytes := 24, agg := true, zero := [.int .i64 0, .int .i64 0, .int .i64 0], fields := [(0, 1, 2), (1, 1, 2), (2, 1, 2)] } := by kernel_rfl
@[simp] theorem el169 : yZ ctx 169 = some { size := 3, bytes := 24, agg := true, zero := [.int .i64 0, .int .i64 0, .int .i64 0], fields := [(0, 1, 2), (1, 1, 2), (2, 1, 2)] } := by kernel_rfl
@[simp] theorem el356 : yZ ctx 356 = some { size := 1, bytes := 24, agg := false, zero := [.nil], elem := some 235 } := by kernel_rfl
@[simp] theorem el358 : yZ ctx 358 = some { size := 1, bytes := 8, agg := false, zero := [.int .i64 0], ik := some .i64 } := by kernel_rfl
@[simp] theorem eq4 (a b) : ctx.eqA 4 (.bool a) (.bool b) = some (a == b) := rfl
@[simp] theorem eq140 (xs ys) : ctx.eqA 140 (.agg xs) (.agg ys) = eqL (some [.i .i64, .i .i64]) xs ys := rfl
@[simp] theorem eqL_some (ls xs ys) : eqL (some ls) xs ys = if xs.map lfOf = ls.map some ∧ ys.map lfOf = ls.map some then some (uK xs ys) else none := rfl
theorem okC : ctx.Ok where
  mix := by kernel_rfl
  tys := tys
  eqs := by
    intro t x y b h
    change eqT t x y = some b at h
    unfold eqT at h
    split at h
    · cases h; exact eq_bool (by kernel_rfl)
    · rename_i xs ys _
      unfold lvs at h
      split at h
      · rw [eqL_some] at h
        split at h
        · rename_i hk
          cases h; exact eq_struct ok0 (by kernel_rfl) (by kernel_rfl) (by kernel_rfl) hk.1 hk.2
        · cases h
      · cases h
    · cases h
end Go.AE.Tryz
end

section
/- Contracts of the smallest functions. -/
set_option linter.unusedSimpArgs false
set_option linter.unusedVariables false
set_option maxRecDepth 8000
set_option maxHeartbeats 2000000
namespace Go.AE.Tryz
open Go.Proofs
open List renaming map_take → qt, map_drop → qd, map_tail → ql

theorem yC {n : Nat} (h : n ≤ LIM) : IntKind.i64.wrap ((n : Int) - 1) = (n : Int) - 1 := by
  simp only [LIM] at h
  rw [zF (by omega)]
theorem zM {i n : Nat} (h : i < n) (hn : n ≤ LIM) : IntKind.i64.wrap ((i : Int) + 1) = ((i + 1 : Nat) : Int) := by
  simp only [LIM] at hn
  rw [zF (by omega)]; omega
theorem vG {x lo hi : Int} : PC ctx.P 165 [.int .i64 x, .int .i64 lo, .int .i64 hi] (.bool (inR x lo hi)) := by
  refine PC.o okC Tryz.func165 rfl (.bool _) fun h nx hnx => ?_
  try simp [-qt, -qd, -ql, rgs, inR]
  repeat' first | done | ((first | (with_reducible refine zE ?_ ?_)) <;> intro qb <;> (have qp := qb; try simp only [psq] at qp) <;> simp [-qt, -qd, -ql, rgs, inR, qb])
end Go.AE.Tryz
end

section
/- Contracts of the laws' helpers: copies, comparisons, sizes. -/
set_option linter.unusedSimpArgs false
set_option linter.unusedVariables false
set_option maxRecDepth 8000
set_option maxHeartbeats 2000000
namespace Go.AE.Tryz
open Go.Proofs
open List renaming map_take → qt, map_drop → qd, map_tail → ql
theorem c_toHandle {x : Han} : PC ctx.P 337 [.agg (uW x)] (.agg (uW x)) := by
  refine PC.o okC Tryz.func337 rfl (.agg _ (hanC_fz x)) fun h nx hnx => ?_
  try simp [-qt, -qd, -ql, rgs, uW]

theorem c_eqHandle {x y : Han} : PC ctx.P 356 [.agg (uW x), .agg (uW y)] (.bool (x == y)) := by
  rw [han_beq]
  refine PC.o okC Tryz.func356 rfl (.bool _) fun h nx hnx => ?_
  try simp [-qt, -qd, -ql, rgs, uW]
  repeat' first | done | ((first | (with_reducible refine zA ?_ ?_)) <;> intro qb <;> (have qp := qb; try simp only [psq] at qp) <;> simp [-qt, -qd, -ql, rgs, uW, qb])
  all_goals (try clear hnx)
  all_goals first | (simp_all []; done) | (simp_all []; omega) | (rw [Bool.eq_iff_iff]; simp_all []; done) | (rw [Bool.eq_iff_iff]; simp_all []; omega) | omega | (simp only []; grind) | grind




theorem c_toIns {x : Inn} : PC ctx.P 257 [.agg (vU x)] (.agg (vU x)) := by
  refine PC.o okC Tryz.func257 rfl (.agg _ (innC_fz x)) fun h nx hnx => ?_
  try simp [-qt, -qd, -ql, rgs, vU]

theorem c_eqIns {x y : Inn} : PC ctx.P 298 [.agg (vU x), .agg (vU y)] (.bool (x == y)) := by
  rw [inn_beq]
  refine PC.o okC Tryz.func298 rfl (.bool _) fun h nx hnx => ?_
  try simp [-qt, -qd, -ql, rgs, vU]
  repeat' first | done | ((first | (with_reducible refine zA ?_ ?_)) <;> intro qb <;> (have qp := qb; try simp only [psq] at qp) <;> simp [-qt, -qd, -ql, rgs, vU, qb])
  all_goals (try clear hnx)
  all_goals first | (simp_all []; done) | (simp_all []; omega) | (rw [Bool.eq_iff_iff]; simp_all []; done) | (rw [Bool.eq_iff_iff]; simp_all []; omega) | omega | (simp only []; grind) | grind

theorem c_eqInsS {p q : Bool} {xs ys : List Inn} : PC ctx.P 183 [.view p 3 (xs.map vU), .view q 3 (ys.map vU)] (.bool (xs == ys)) := by
  refine PC.lim (n := xs.length) (x := .view p 3 (xs.map vU)) (by simp) (.here (by simp)) ⟨_, Tryz.func183, by kernel_rfl, by kernel_rfl⟩ fun hlim => ?_
  by_cases hl : xs.length = ys.length
  · refine PC.o okC Tryz.func183 rfl (.bool _) fun h nx hnx => ?_
    try simp [-qt, -qd, -ql, rgs, hl]
    repeat' first | done | ((first | ((with_reducible show zT _ _ _ _ _ _); refine zB rfl fun _ => ?_) | ((with_reducible show zH _ _ _ _ _ _ _); refine zC rfl omA omA ?_) | (with_reducible refine zI (i := 6) [(0, [], []), (1, [], []), (2, [], []), (3, [], []), (4, [], []), (5, [], []), (6, [], []), (7, [], []), (8, [], []), (9, [], [])] (by kernel_rfl) ?_)) <;> simp [-qt, -qd, -ql, rgs, hl]) | ((first | (with_reducible refine zA ?_ ?_)) <;> intro qb <;> (have qp := qb; try simp only [psq] at qp) <;> simp [-qt, -qd, -ql, rgs, hl, qb])
    refine zU [4, 5, 11, 12, 13, 14, 15, 16, 17, 18, 19, 20, 21, 22, 23, 24, 25, 26] (ys.length) (fun (i : Nat) a => [(5, .int .i64 i)]) (fun i_ a_ h_ _ => (fun i (_ : Unit) _ => (xs.drop i == ys.drop i) = (xs == ys)) i_ a_ h_) (()) (by simp) ?_ zP (Nat.le_refl _) ?_
    · simp
    · intro i a tm h' n' hle hJ hE hn' next hnx
      try dsimp only at hJ
      have hK : KeepB nx h' h := KeepB.sub hE zK (by omega)
      simp [-qt, -qd, -ql]
      try simp [-qt, -qd, -ql, rgs, hl, vU]
      repeat' first | done | ((first | ((with_reducible show zT _ _ _ _ _ _); refine zB rfl fun _ => ?_) | ((with_reducible show zH _ _ _ _ _ _ _); refine zC rfl omA omA ?_) | ((with_reducible show zG _ _ _ 298 _ _); refine zD (c_eqIns) ?_) | (with_reducible refine zI (i := 6) [(0, [], []), (1, [], []), (2, [], []), (3, [], []), (4, [], []), (5, [], []), (6, [], []), (7, [], []), (8, [], []), (9, [], [])] (by kernel_rfl) ?_)) <;> simp [-qt, -qd, -ql, rgs, hl, vU]) | ((first | (with_reducible refine zA ?_ ?_)) <;> intro qb <;> (have qp := qb; try simp only [psq] at qp) <;> simp [-qt, -qd, -ql, rgs, hl, vU, qb])
      all_goals first
      | (have hlt : i < xs.length := (by first | omega | (simp at *; omega))
         rw [zS hlt, zS (xs := ys) (i := i) (by omega), List.cons_beq_cons] at hJ
         first
         | (refine hnx.go () ?_ ?_ ?_ ?_ ?_ ?_; omega; (simp [zM hlt hlim]); (simp); exact zK; (first | omega | (simp; omega)); (try dsimp only); clear hnx; first | (simp_all; done) | grind)
         | (refine ⟨?_, zK⟩; clear hnx; first | (simp_all; done) | grind)
         | (clear hnx; first | (simp_all; done) | grind))
      | (obtain rfl : i = xs.length := (by first | omega | (simp at *; omega))
         rw [List.drop_eq_nil_of_le (Nat.le_refl _), List.drop_eq_nil_of_le (by omega)] at hJ
         refine ⟨?_, zK⟩; clear hnx; first | (simp_all; done) | grind)
  · refine PC.o okC Tryz.func183 rfl (.bool _) fun h nx hnx => ?_
    try simp [-qt, -qd, -ql, rgs]
    repeat' first | done | ((first | ((with_reducible show zT _ _ _ _ _ _); refine zB rfl fun _ => ?_) | ((with_reducible show zH _ _ _ _ _ _ _); refine zC rfl omA omA ?_) | (with_reducible refine zI (i := 6) [(0, [], []), (1, [], []), (2, [], []), (3, [], []), (4, [], []), (5, [], []), (6, [], []), (7, [], []), (8, [], []), (9, [], [])] (by kernel_rfl) ?_)) <;> simp [-qt, -qd, -ql, rgs]) | ((first | (with_reducible refine zA ?_ ?_)) <;> intro qb <;> (have qp := qb; try simp only [psq] at qp) <;> simp [-qt, -qd, -ql, rgs, qb])
    all_goals first | (exfalso; omega) | (symm; rw [beq_eq_false_iff_ne]; intro e; exact hl (by rw [e])) | (intro e; exact hl (by rw [e])) | skip

theorem c_szInsS {p : Bool} {xs : List Inn} {k : Int} (h0 : 0 ≤ k) (h1 : k ≤ 1048576) : PC ctx.P 133 [.view p 3 (xs.map vU), .int .i64 k] (.int .i64 (szR xs.length k)) := by
  refine PC.lim (n := xs.length) (x := .view p 3 (xs.map vU)) (by simp) (.here (by simp)) ⟨_, Tryz.func133, by kernel_rfl, by kernel_rfl⟩ fun hlim => ?_
  simp only [LIM] at hlim
  refine PC.o okC Tryz.func133 rfl (.int _ _) fun h nx hnx => ?_
  try simp [-qt, -qd, -ql, rgs, zF (x := k - (xs.length : Int)) (by omega)]
  repeat' first | done | ((first | ((with_reducible show zT _ _ _ _ _ _); refine zB rfl fun _ => ?_)) <;> simp [-qt, -qd, -ql, rgs, zF (x := k - (xs.length : Int)) (by omega)]) | ((first | (with_reducible refine zA ?_ ?_)) <;> intro qb <;> (have qp := qb; try simp only [psq] at qp) <;> simp [-qt, -qd, -ql, rgs, zF (x := k - (xs.length : Int)) (by omega), qb])
  all_goals (clear hnx; simp only [szR]; split <;> first | omega | (simp; omega))

theorem c_toNode {x : Nod} : PC ctx.P 150 [.agg (vE x)] (.agg (vE x)) := by
  refine PC.o okC Tryz.func150 rfl (.agg _ (nodC_fz x)) fun h nx hnx => ?_
  try simp [-qt, -qd, -ql, rgs, vE]

theorem c_eqNode {x y : Nod} : PC ctx.P 184 [.agg (vE x), .agg (vE y)] (.bool (x == y)) := by
  rw [nod_beq]
  refine PC.o okC Tryz.func184 rfl (.bool _) fun h nx hnx => ?_
  try simp [-qt, -qd, -ql, rgs, vE]
  repeat' first | done | ((first | (with_reducible refine zA ?_ ?_)) <;> intro qb <;> (have qp := qb; try simp only [psq] at qp) <;> simp [-qt, -qd, -ql, rgs, vE, qb])
  all_goals (try clear hnx)
  all_goals first | (simp_all []; done) | (simp_all []; omega) | (rw [Bool.eq_iff_iff]; simp_all []; done) | (rw [Bool.eq_iff_iff]; simp_all []; omega) | omega | (simp only []; grind) | grind

theorem c_eqNodeS {p q : Bool} {xs ys : List Nod} : PC ctx.P 70 [.view p 5 (xs.map vE), .view q 5 (ys.map vE)] (.bool (xs == ys)) := by
  refine PC.lim (n := xs.length) (x := .view p 5 (xs.map vE)) (by simp) (.here (by simp)) ⟨_, Tryz.func70, by kernel_rfl, by kernel_rfl⟩ fun hlim => ?_
  by_cases hl : xs.length = ys.length
  · refine PC.o okC Tryz.func70 rfl (.bool _) fun h nx hnx => ?_
    try simp [-qt, -qd, -ql, rgs, hl]
    repeat' first | done | ((first | ((with_reducible show zT _ _ _ _ _ _); refine zB rfl fun _ => ?_) | ((with_reducible show zH _ _ _ _ _ _ _); refine zC rfl omA omA ?_) | (with_reducible refine zI (i := 6) [(0, [], []), (1, [], []), (2, [], []), (3, [], []), (4, [], []), (5, [], []), (6, [], []), (7, [], []), (8, [], []), (9, [], [])] (by kernel_rfl) ?_)) <;> simp [-qt, -qd, -ql, rgs, hl]) | ((first | (with_reducible refine zA ?_ ?_)) <;> intro qb <;> (have qp := qb; try simp only [psq] at qp) <;> simp [-qt, -qd, -ql, rgs, hl, qb])
    refine zU [4, 5, 11, 12, 13, 14, 15, 16, 17, 18, 19, 20, 21, 22, 23, 24, 25, 26] (ys.length) (fun (i : Nat) a => [(5, .int .i64 i)]) (fun i_ a_ h_ _ => (fun i (_ : Unit) _ => (xs.drop i == ys.drop i) = (xs == ys)) i_ a_ h_) (()) (by simp) ?_ zP (Nat.le_refl _) ?_
    · simp
    · intro i a tm h' n' hle hJ hE hn' next hnx
      try dsimp only at hJ
      have hK : KeepB nx h' h := KeepB.sub hE zK (by omega)
      simp [-qt, -qd, -ql]
      try simp [-qt, -qd, -ql, rgs, hl, vE]
      repeat' first | done | ((first | ((with_reducible show zT _ _ _ _ _ _); refine zB rfl fun _ => ?_) | ((with_reducible show zH _ _ _ _ _ _ _); refine zC rfl omA omA ?_) | ((with_reducible show zG _ _ _ 184 _ _); refine zD (c_eqNode) ?_) | (with_reducible refine zI (i := 6) [(0, [], []), (1, [], []), (2, [], []), (3, [], []), (4, [], []), (5, [], []), (6, [], []), (7, [], []), (8, [], []), (9, [], [])] (by kernel_rfl) ?_)) <;> simp [-qt, -qd, -ql, rgs, hl, vE]) | ((first | (with_reducible refine zA ?_ ?_)) <;> intro qb <;> (have qp := qb; try simp only [psq] at qp) <;> simp [-qt, -qd, -ql, rgs, hl, vE, qb])
      all_goals first
      | (have hlt : i < xs.length := (by first | omega | (simp at *; omega))
         rw [zS hlt, zS (xs := ys) (i := i) (by omega), List.cons_beq_cons] at hJ
         first
         | (refine hnx.go () ?_ ?_ ?_ ?_ ?_ ?_; omega; (simp [zM hlt hlim]); (simp); exact zK; (first | omega | (simp; omega)); (try dsimp only); clear hnx; first | (simp_all; done) | grind)
         | (refine ⟨?_, zK⟩; clear hnx; first | (simp_all; done) | grind)
         | (clear hnx; first | (simp_all; done) | grind))
      | (obtain rfl : i = xs.length := (by first | omega | (simp at *; omega))
         rw [List.drop_eq_nil_of_le (Nat.le_refl _), List.drop_eq_nil_of_le (by omega)] at hJ
         refine ⟨?_, zK⟩; clear hnx; first | (simp_all; done) | grind)
  · refine PC.o okC Tryz.func70 rfl (.bool _) fun h nx hnx => ?_
    try simp [-qt, -qd, -ql, rgs]
    repeat' first | done | ((first | ((with_reducible show zT _ _ _ _ _ _); refine zB rfl fun _ => ?_) | ((with_reducible show zH _ _ _ _ _ _ _); refine zC rfl omA omA ?_) | (with_reducible refine zI (i := 6) [(0, [], []), (1, [], []), (2, [], []), (3, [], []), (4, [], []), (5, [], []), (6, [], []), (7, [], []), (8, [], []), (9, [], [])] (by kernel_rfl) ?_)) <;> simp [-qt, -qd, -ql, rgs]) | ((first | (with_reducible refine zA ?_ ?_)) <;> intro qb <;> (have qp := qb; try simp only [psq] at qp) <;> simp [-qt, -qd, -ql, rgs, qb])
    all_goals first | (exfalso; omega) | (symm; rw [beq_eq_false_iff_ne]; intro e; exact hl (by rw [e])) | (intro e; exact hl (by rw [e])) | skip

theorem c_szNodeS {p : Bool} {xs : List Nod} {k : Int} (h0 : 0 ≤ k) (h1 : k ≤ 1048576) : PC ctx.P 48 [.view p 5 (xs.map vE), .int .i64 k] (.int .i64 (szR xs.length k)) := by
  refine PC.lim (n := xs.length) (x := .view p 5 (xs.map vE)) (by simp) (.here (by simp)) ⟨_, Tryz.func48, by kernel_rfl, by kernel_rfl⟩ fun hlim => ?_
  simp only [LIM] at hlim
  refine PC.o okC Tryz.func48 rfl (.int _ _) fun h nx hnx => ?_
  try simp [-qt, -qd, -ql, rgs, zF (x := k - (xs.length : Int)) (by omega)]
  repeat' first | done | ((first | ((with_reducible show zT _ _ _ _ _ _); refine zB rfl fun _ => ?_)) <;> simp [-qt, -qd, -ql, rgs, zF (x := k - (xs.length : Int)) (by omega)]) | ((first | (with_reducible refine zA ?_ ?_)) <;> intro qb <;> (have qp := qb; try simp only [psq] at qp) <;> simp [-qt, -qd, -ql, rgs, zF (x := k - (xs.length : Int)) (by omega), qb])
  all_goals (clear hnx; simp only [szR]; split <;> first | omega | (simp; omega))

theorem c_toEvent {x : Evt} : PC ctx.P 151 [.agg (vK x)] (.agg (vK x)) := by
  refine PC.o okC Tryz.func151 rfl (.agg _ (zK5 x)) fun h nx hnx => ?_
  try simp [-qt, -qd, -ql, rgs, vK]

theorem c_eqEvent {x y : Evt} : PC ctx.P 185 [.agg (vK x), .agg (vK y)] (.bool (x == y)) := by
  rw [evt_beq]
  refine PC.o okC Tryz.func185 rfl (.bool _) fun h nx hnx => ?_
  try simp [-qt, -qd, -ql, rgs, vK]
  repeat' first | done | ((first | (with_reducible refine zA ?_ ?_)) <;> intro qb <;> (have qp := qb; try simp only [psq] at qp) <;> simp [-qt, -qd, -ql, rgs, vK, qb])
  all_goals (try clear hnx)
  all_goals first | (simp_all []; done) | (simp_all []; omega) | (rw [Bool.eq_iff_iff]; simp_all []; done) | (rw [Bool.eq_iff_iff]; simp_all []; omega) | omega | (simp only []; grind) | grind

theorem c_eqEventS {p q : Bool} {xs ys : List Evt} : PC ctx.P 71 [.view p 4 (xs.map vK), .view q 4 (ys.map vK)] (.bool (xs == ys)) := by
  refine PC.lim (n := xs.length) (x := .view p 4 (xs.map vK)) (by simp) (.here (by simp)) ⟨_, Tryz.func71, by kernel_rfl, by kernel_rfl⟩ fun hlim => ?_
  by_cases hl : xs.length = ys.length
  · refine PC.o okC Tryz.func71 rfl (.bool _) fun h nx hnx => ?_
    try simp [-qt, -qd, -ql, rgs, hl]
    repeat' first | done | ((first | ((with_reducible show zT _ _ _ _ _ _); refine zB rfl fun _ => ?_) | ((with_reducible show zH _ _ _ _ _ _ _); refine zC rfl omA omA ?_) | (with_reducible refine zI (i := 6) [(0, [], []), (1, [], []), (2, [], []), (3, [], []), (4, [], []), (5, [], []), (6, [], []), (7, [], []), (8, [], []), (9, [], [])] (by kernel_rfl) ?_)) <;> simp [-qt, -qd, -ql, rgs, hl]) | ((first | (with_reducible refine zA ?_ ?_)) <;> intro qb <;> (have qp := qb; try simp only [psq] at qp) <;> simp [-qt, -qd, -ql, rgs, hl, qb])
    refine zU [4, 5, 11, 12, 13, 14, 15, 16, 17, 18, 19, 20, 21, 22, 23, 24, 25, 26] (ys.length) (fun (i : Nat) a => [(5, .int .i64 i)]) (fun i_ a_ h_ _ => (fun i (_ : Unit) _ => (xs.drop i == ys.drop i) = (xs == ys)) i_ a_ h_) (()) (by simp) ?_ zP (Nat.le_refl _) ?_
    · simp
    · intro i a tm h' n' hle hJ hE hn' next hnx
      try dsimp only at hJ
      have hK : KeepB nx h' h := KeepB.sub hE zK (by omega)
      simp [-qt, -qd, -ql]
      try simp [-qt, -qd, -ql, rgs, hl, vK]
      repeat' first | done | ((first | ((with_reducible show zT _ _ _ _ _ _); refine zB rfl fun _ => ?_) | ((with_reducible show zH _ _ _ _ _ _ _); refine zC rfl omA omA ?_) | ((with_reducible show zG _ _ _ 185 _ _); refine zD (c_eqEvent) ?_) | (with_reducible refine zI (i := 6) [(0, [], []), (1, [], []), (2, [], []), (3, [], []), (4, [], []), (5, [], []), (6, [], []), (7, [], []), (8, [], []), (9, [], [])] (by kernel_rfl) ?_)) <;> simp [-qt, -qd, -ql, rgs, hl, vK]) | ((first | (with_reducible refine zA ?_ ?_)) <;> intro qb <;> (have qp := qb; try simp only [psq] at qp) <;> simp [-qt, -qd, -ql, rgs, hl, vK, qb])
      all_goals first
      | (have hlt : i < xs.length := (by first | omega | (simp at *; omega))
         rw [zS hlt, zS (xs := ys) (i := i) (by omega), List.cons_beq_cons] at hJ
         first
         | (refine hnx.go () ?_ ?_ ?_ ?_ ?_ ?_; omega; (simp [zM hlt hlim]); (simp); exact zK; (first | omega | (simp; omega)); (try dsimp only); clear hnx; first | (simp_all; done) | grind)
         | (refine ⟨?_, zK⟩; clear hnx; first | (simp_all; done) | grind)
         | (clear hnx; first | (simp_all; done) | grind))
      | (obtain rfl : i = xs.length := (by first | omega | (simp at *; omega))
         rw [List.drop_eq_nil_of_le (Nat.le_refl _), List.drop_eq_nil_of_le (by omega)] at hJ
         refine ⟨?_, zK⟩; clear hnx; first | (simp_all; done) | grind)
  · refine PC.o okC Tryz.func71 rfl (.bool _) fun h nx hnx => ?_
    try simp [-qt, -qd, -ql, rgs]
    repeat' first | done | ((first | ((with_reducible show zT _ _ _ _ _ _); refine zB rfl fun _ => ?_) | ((with_reducible show zH _ _ _ _ _ _ _); refine zC rfl omA omA ?_) | (with_reducible refine zI (i := 6) [(0, [], []), (1, [], []), (2, [], []), (3, [], []), (4, [], []), (5, [], []), (6, [], []), (7, [], []), (8, [], []), (9, [], [])] (by kernel_rfl) ?_)) <;> simp [-qt, -qd, -ql, rgs]) | ((first | (with_reducible refine zA ?_ ?_)) <;> intro qb <;> (have qp := qb; try simp only [psq] at qp) <;> simp [-qt, -qd, -ql, rgs, qb])
    all_goals first | (exfalso; omega) | (symm; rw [beq_eq_false_iff_ne]; intro e; exact hl (by rw [e])) | (intro e; exact hl (by rw [e])) | skip

theorem c_szEventS {p : Bool} {xs : List Evt} {k : Int} (h0 : 0 ≤ k) (h1 : k ≤ 1048576) : PC ctx.P 49 [.view p 4 (xs.map vK), .int .i64 k] (.int .i64 (szR xs.length k)) := by
  refine PC.lim (n := xs.length) (x := .view p 4 (xs.map vK)) (by simp) (.here (by simp)) ⟨_, Tryz.func49, by kernel_rfl, by kernel_rfl⟩ fun hlim => ?_
  simp only [LIM] at hlim
  refine PC.o okC Tryz.func49 rfl (.int _ _) fun h nx hnx => ?_
  try simp [-qt, -qd, -ql, rgs, zF (x := k - (xs.length : Int)) (by omega)]
  repeat' first | done | ((first | ((with_reducible show zT _ _ _ _ _ _); refine zB rfl fun _ => ?_)) <;> simp [-qt, -qd, -ql, rgs, zF (x := k - (xs.length : Int)) (by omega)]) | ((first | (with_reducible refine zA ?_ ?_)) <;> intro qb <;> (have qp := qb; try simp only [psq] at qp) <;> simp [-qt, -qd, -ql, rgs, zF (x := k - (xs.length : Int)) (by omega), qb])
  all_goals (clear hnx; simp only [szR]; split <;> first | omega | (simp; omega))

theorem c_toTwig {x : Twg} : PC ctx.P 258 [.agg (yX x)] (.agg (yX x)) := by
  refine PC.o okC Tryz.func258 rfl (.agg _ (uA x)) fun h nx hnx => ?_
  try simp [-qt, -qd, -ql, rgs, yX]

theorem c_eqTwig {x y : Twg} : PC ctx.P 299 [.agg (yX x), .agg (yX y)] (.bool (x == y)) := by
  rw [twg_beq]
  refine PC.o okC Tryz.func299 rfl (.bool _) fun h nx hnx => ?_
  try simp [-qt, -qd, -ql, rgs, yX]
  repeat' first | done | ((first | (with_reducible refine zA ?_ ?_)) <;> intro qb <;> (have qp := qb; try simp only [psq] at qp) <;> simp [-qt, -qd, -ql, rgs, yX, qb])
  all_goals (try clear hnx)
  all_goals first | (simp_all []; done) | (simp_all []; omega) | (rw [Bool.eq_iff_iff]; simp_all []; done) | (rw [Bool.eq_iff_iff]; simp_all []; omega) | omega | (simp only []; grind) | grind

theorem c_eqTwigS {p q : Bool} {xs ys : List Twg} : PC ctx.P 187 [.view p 3 (xs.map yX), .view q 3 (ys.map yX)] (.bool (xs == ys)) := by
  refine PC.lim (n := xs.length) (x := .view p 3 (xs.map yX)) (by simp) (.here (by simp)) ⟨_, Tryz.func187, by kernel_rfl, by kernel_rfl⟩ fun hlim => ?_
  by_cases hl : xs.length = ys.length
  · refine PC.o okC Tryz.func187 rfl (.bool _) fun h nx hnx => ?_
    try simp [-qt, -qd, -ql, rgs, hl]
    repeat' first | done | ((first | ((with_reducible show zT _ _ _ _ _ _); refine zB rfl fun _ => ?_) | ((with_reducible show zH _ _ _ _ _ _ _); refine zC rfl omA omA ?_) | (with_reducible refine zI (i := 6) [(0, [], []), (1, [], []), (2, [], []), (3, [], []), (4, [], []), (5, [], []), (6, [], []), (7, [], []), (8, [], []), (9, [], [])] (by kernel_rfl) ?_)) <;> simp [-qt, -qd, -ql, rgs, hl]) | ((first | (with_reducible refine zA ?_ ?_)) <;> intro qb <;> (have qp := qb; try simp only [psq] at qp) <;> simp [-qt, -qd, -ql, rgs, hl, qb])
    refine zU [4, 5, 11, 12, 13, 14, 15, 16, 17, 18, 19, 20, 21, 22, 23, 24, 25, 26] (ys.length) (fun (i : Nat) a => [(5, .int .i64 i)]) (fun i_ a_ h_ _ => (fun i (_ : Unit) _ => (xs.drop i == ys.drop i) = (xs == ys)) i_ a_ h_) (()) (by simp) ?_ zP (Nat.le_refl _) ?_
    · simp
    · intro i a tm h' n' hle hJ hE hn' next hnx
      try dsimp only at hJ
      have hK : KeepB nx h' h := KeepB.sub hE zK (by omega)
      simp [-qt, -qd, -ql]
      try simp [-qt, -qd, -ql, rgs, hl, yX]
      repeat' first | done | ((first | ((with_reducible show zT _ _ _ _ _ _); refine zB rfl fun _ => ?_) | ((with_reducible show zH _ _ _ _ _ _ _); refine zC rfl omA omA ?_) | ((with_reducible show zG _ _ _ 299 _ _); refine zD (c_eqTwig) ?_) | (with_reducible refine zI (i := 6) [(0, [], []), (1, [], []), (2, [], []), (3, [], []), (4, [], []), (5, [], []), (6, [], []), (7, [], []), (8, [], []), (9, [], [])] (by kernel_rfl) ?_)) <;> simp [-qt, -qd, -ql, rgs, hl, yX]) | ((first | (with_reducible refine zA ?_ ?_)) <;> intro qb <;> (have qp := qb; try simp only [psq] at qp) <;> simp [-qt, -qd, -ql, rgs, hl, yX, qb])
      all_goals first
      | (have hlt : i < xs.length := (by first | omega | (simp at *; omega))
         rw [zS hlt, zS (xs := ys) (i := i) (by omega), List.cons_beq_cons] at hJ
         first
         | (refine hnx.go () ?_ ?_ ?_ ?_ ?_ ?_; omega; (simp [zM hlt hlim]); (simp); exact zK; (first | omega | (simp; omega)); (try dsimp only); clear hnx; first | (simp_all; done) | grind)
         | (refine ⟨?_, zK⟩; clear hnx; first | (simp_all; done) | grind)
         | (clear hnx; first | (simp_all; done) | grind))
      | (obtain rfl : i = xs.length := (by first | omega | (simp at *; omega))
         rw [List.drop_eq_nil_of_le (Nat.le_refl _), List.drop_eq_nil_of_le (by omega)] at hJ
         refine ⟨?_, zK⟩; clear hnx; first | (simp_all; done) | grind)
  · refine PC.o okC Tryz.func187 rfl (.bool _) fun h nx hnx => ?_
    try simp [-qt, -qd, -ql, rgs]
    repeat' first | done | ((first | ((with_reducible show zT _ _ _ _ _ _); refine zB rfl fun _ => ?_) | ((with_reducible show zH _ _ _ _ _ _ _); refine zC rfl omA omA ?_) | (with_reducible refine zI (i := 6) [(0, [], []), (1, [], []), (2, [], []), (3, [], []), (4, [], []), (5, [], []), (6, [], []), (7, [], []), (8, [], []), (9, [], [])] (by kernel_rfl) ?_)) <;> simp [-qt, -qd, -ql, rgs]) | ((first | (with_reducible refine zA ?_ ?_)) <;> intro qb <;> (have qp := qb; try simp only [psq] at qp) <;> simp [-qt, -qd, -ql, rgs, qb])
    all_goals first | (exfalso; omega) | (symm; rw [beq_eq_false_iff_ne]; intro e; exact hl (by rw [e])) | (intro e; exact hl (by rw [e])) | skip

theorem c_szTwigS {p : Bool} {xs : List Twg} {k : Int} (h0 : 0 ≤ k) (h1 : k ≤ 1048576) : PC ctx.P 135 [.view p 3 (xs.map yX), .int .i64 k] (.int .i64 (szR xs.length k)) := by
  refine PC.lim (n := xs.length) (x := .view p 3 (xs.map yX)) (by simp) (.here (by simp)) ⟨_, Tryz.func135, by kernel_rfl, by kernel_rfl⟩ fun hlim => ?_
  simp only [LIM] at hlim
  refine PC.o okC Tryz.func135 rfl (.int _ _) fun h nx hnx => ?_
  try simp [-qt, -qd, -ql, rgs, zF (x := k - (xs.length : Int)) (by omega)]
  repeat' first | done | ((first | ((with_reducible show zT _ _ _ _ _ _); refine zB rfl fun _ => ?_)) <;> simp [-qt, -qd, -ql, rgs, zF (x := k - (xs.length : Int)) (by omega)]) | ((first | (with_reducible refine zA ?_ ?_)) <;> intro qb <;> (have qp := qb; try simp only [psq] at qp) <;> simp [-qt, -qd, -ql, rgs, zF (x := k - (xs.length : Int)) (by omega), qb])
  all_goals (clear hnx; simp only [szR]; split <;> first | omega | (simp; omega))

theorem c_toTimer {x : Tmr} : PC ctx.P 259 [.agg (vN x)] (.agg (vN x)) := by
  refine PC.o okC Tryz.func259 rfl (.agg _ (zB0 x)) fun h nx hnx => ?_
  try simp [-qt, -qd, -ql, rgs, vN]

theorem c_eqTimer {x y : Tmr} : PC ctx.P 300 [.agg (vN x), .agg (vN y)] (.bool (x == y)) := by
  rw [tmr_beq]
  refine PC.o okC Tryz.func300 rfl (.bool _) fun h nx hnx => ?_
  try simp [-qt, -qd, -ql, rgs, vN]
  repeat' first | done | ((first | (with_reducible refine zA ?_ ?_)) <;> intro qb <;> (have qp := qb; try simp only [psq] at qp) <;> simp [-qt, -qd, -ql, rgs, vN, qb])
  all_goals (try clear hnx)
  all_goals first | (simp_all []; done) | (simp_all []; omega) | (rw [Bool.eq_iff_iff]; simp_all []; done) | (rw [Bool.eq_iff_iff]; simp_all []; omega) | omega | (simp only []; grind) | grind

theorem c_eqTimerS {p q : Bool} {xs ys : List Tmr} : PC ctx.P 188 [.view p 5 (xs.map vN), .view q 5 (ys.map vN)] (.bool (xs == ys)) := by
  refine PC.lim (n := xs.length) (x := .view p 5 (xs.map vN)) (by simp) (.here (by simp)) ⟨_, Tryz.func188, by kernel_rfl, by kernel_rfl⟩ fun hlim => ?_
  by_cases hl : xs.length = ys.length
  · refine PC.o okC Tryz.func188 rfl (.bool _) fun h nx hnx => ?_
    try simp [-qt, -qd, -ql, rgs, hl]
    repeat' first | done | ((first | ((with_reducible show zT _ _ _ _ _ _); refine zB rfl fun _ => ?_) | ((with_reducible show zH _ _ _ _ _ _ _); refine zC rfl omA omA ?_) | (with_reducible refine zI (i := 6) [(0, [], []), (1, [], []), (2, [], []), (3, [], []), (4, [], []), (5, [], []), (6, [], []), (7, [], []), (8, [], []), (9, [], [])] (by kernel_rfl) ?_)) <;> simp [-qt, -qd, -ql, rgs, hl]) | ((first | (with_reducible refine zA ?_ ?_)) <;> intro qb <;> (have qp := qb; try simp only [psq] at qp) <;> simp [-qt, -qd, -ql, rgs, hl, qb])
    refine zU [4, 5, 11, 12, 13, 14, 15, 16, 17, 18, 19, 20, 21, 22, 23, 24, 25, 26] (ys.length) (fun (i : Nat) a => [(5, .int .i64 i)]) (fun i_ a_ h_ _ => (fun i (_ : Unit) _ => (xs.drop i == ys.drop i) = (xs == ys)) i_ a_ h_) (()) (by simp) ?_ zP (Nat.le_refl _) ?_
    · simp
    · intro i a tm h' n' hle hJ hE hn' next hnx
      try dsimp only at hJ
      have hK : KeepB nx h' h := KeepB.sub hE zK (by omega)
      simp [-qt, -qd, -ql]
      try simp [-qt, -qd, -ql, rgs, hl, vN]
      repeat' first | done | ((first | ((with_reducible show zT _ _ _ _ _ _); refine zB rfl fun _ => ?_) | ((with_reducible show zH _ _ _ _ _ _ _); refine zC rfl omA omA ?_) | ((with_reducible show zG _ _ _ 300 _ _); refine zD (c_eqTimer) ?_) | (with_reducible refine zI (i := 6) [(0, [], []), (1, [], []), (2, [], []), (3, [], []), (4, [], []), (5, [], []), (6, [], []), (7, [], []), (8, [], []), (9, [], [])] (by kernel_rfl) ?_)) <;> simp [-qt, -qd, -ql, rgs, hl, vN]) | ((first | (with_reducible refine zA ?_ ?_)) <;> intro qb <;> (have qp := qb; try simp only [psq] at qp) <;> simp [-qt, -qd, -ql, rgs, hl, vN, qb])
      all_goals first
      | (have hlt : i < xs.length := (by first | omega | (simp at *; omega))
         rw [zS hlt, zS (xs := ys) (i := i) (by omega), List.cons_beq_cons] at hJ
         first
         | (refine hnx.go () ?_ ?_ ?_ ?_ ?_ ?_; omega; (simp [zM hlt hlim]); (simp); exact zK; (first | omega | (simp; omega)); (try dsimp only); clear hnx; first | (simp_all; done) | grind)
         | (refine ⟨?_, zK⟩; clear hnx; first | (simp_all; done) | grind)
         | (clear hnx; first | (simp_all; done) | grind))
      | (obtain rfl : i = xs.length := (by first | omega | (simp at *; omega))
         rw [List.drop_eq_nil_of_le (Nat.le_refl _), List.drop_eq_nil_of_le (by omega)] at hJ
         refine ⟨?_, zK⟩; clear hnx; first | (simp_all; done) | grind)
  · refine PC.o okC Tryz.func188 rfl (.bool _) fun h nx hnx => ?_
    try simp [-qt, -qd, -ql, rgs]
    repeat' first | done | ((first | ((with_reducible show zT _ _ _ _ _ _); refine zB rfl fun _ => ?_) | ((with_reducible show zH _ _ _ _ _ _ _); refine zC rfl omA omA ?_) | (with_reducible refine zI (i := 6) [(0, [], []), (1, [], []), (2, [], []), (3, [], []), (4, [], []), (5, [], []), (6, [], []), (7, [], []), (8, [], []), (9, [], [])] (by kernel_rfl) ?_)) <;> simp [-qt, -qd, -ql, rgs]) | ((first | (with_reducible refine zA ?_ ?_)) <;> intro qb <;> (have qp := qb; try simp only [psq] at qp) <;> simp [-qt, -qd, -ql, rgs, qb])
    all_goals first | (exfalso; omega) | (symm; rw [beq_eq_false_iff_ne]; intro e; exact hl (by rw [e])) | (intro e; exact hl (by rw [e])) | skip

theorem c_szTimerS {p : Bool} {xs : List Tmr} {k : Int} (h0 : 0 ≤ k) (h1 : k ≤ 1048576) : PC ctx.P 136 [.view p 5 (xs.map vN), .int .i64 k] (.int .i64 (szR xs.length k)) := by
  refine PC.lim (n := xs.length) (x := .view p 5 (xs.map vN)) (by simp) (.here (by simp)) ⟨_, Tryz.func136, by kernel_rfl, by kernel_rfl⟩ fun hlim => ?_
  simp only [LIM] at hlim
  refine PC.o okC Tryz.func136 rfl (.int _ _) fun h nx hnx => ?_
  try simp [-qt, -qd, -ql, rgs, zF (x := k - (xs.length : Int)) (by omega)]
  repeat' first | done | ((first | ((with_reducible show zT _ _ _ _ _ _); refine zB rfl fun _ => ?_)) <;> simp [-qt, -qd, -ql, rgs, zF (x := k - (xs.length : Int)) (by omega)]) | ((first | (with_reducible refine zA ?_ ?_)) <;> intro qb <;> (have qp := qb; try simp only [psq] at qp) <;> simp [-qt, -qd, -ql, rgs, zF (x := k - (xs.length : Int)) (by omega), qb])
  all_goals (clear hnx; simp only [szR]; split <;> first | omega | (simp; omega))

theorem c_toAfter {x : Afr} : PC ctx.P 260 [.agg (yI x)] (.agg (yI x)) := by
  refine PC.o okC Tryz.func260 rfl (.agg _ (zA0 x)) fun h nx hnx => ?_
  try simp [-qt, -qd, -ql, rgs, yI, uW]
  repeat' first | done | ((first | ((with_reducible show zG _ _ _ 337 _ _); refine zD (c_toHandle (x := x.han)) ?_)) <;> simp [-qt, -qd, -ql, rgs, yI, uW])

theorem c_eqAfter {x y : Afr} : PC ctx.P 301 [.agg (yI x), .agg (yI y)] (.bool (x == y)) := by
  rw [afr_beq]
  refine PC.o okC Tryz.func301 rfl (.bool _) fun h nx hnx => ?_
  try simp [-qt, -qd, -ql, rgs, yI, uW]
  repeat' first | done | ((first | ((with_reducible show zG _ _ _ 356 _ _); refine zD (c_eqHandle (x := x.han) (y := y.han)) ?_)) <;> simp [-qt, -qd, -ql, rgs, yI, uW]) | ((first | (with_reducible refine zA ?_ ?_)) <;> intro qb <;> (have qp := qb; try simp only [psq] at qp) <;> simp [-qt, -qd, -ql, rgs, yI, uW, qb])
  all_goals (try clear hnx)
  all_goals first | (simp_all []; done) | (simp_all []; omega) | (rw [Bool.eq_iff_iff]; simp_all []; done) | (rw [Bool.eq_iff_iff]; simp_all []; omega) | omega | (simp only []; grind) | grind

theorem c_eqAfterS {p q : Bool} {xs ys : List Afr} : PC ctx.P 190 [.view p 5 (xs.map yI), .view q 5 (ys.map yI)] (.bool (xs == ys)) := by
  refine PC.lim (n := xs.length) (x := .view p 5 (xs.map yI)) (by simp) (.here (by simp)) ⟨_, Tryz.func190, by kernel_rfl, by kernel_rfl⟩ fun hlim => ?_
  by_cases hl : xs.length = ys.length
  · refine PC.o okC Tryz.func190 rfl (.bool _) fun h nx hnx => ?_
    try simp [-qt, -qd, -ql, rgs, hl]
    repeat' first | done | ((first | ((with_reducible show zT _ _ _ _ _ _); refine zB rfl fun _ => ?_) | ((with_reducible show zH _ _ _ _ _ _ _); refine zC rfl omA omA ?_) | (with_reducible refine zI (i := 6) [(0, [], []), (1, [], []), (2, [], []), (3, [], []), (4, [], []), (5, [], []), (6, [], []), (7, [], []), (8, [], []), (9, [], [])] (by kernel_rfl) ?_)) <;> simp [-qt, -qd, -ql, rgs, hl]) | ((first | (with_reducible refine zA ?_ ?_)) <;> intro qb <;> (have qp := qb; try simp only [psq] at qp) <;> simp [-qt, -qd, -ql, rgs, hl, qb])
    refine zU [4, 5, 11, 12, 13, 14, 15, 16, 17, 18, 19, 20, 21, 22, 23, 24, 25, 26] (ys.length) (fun (i : Nat) a => [(5, .int .i64 i)]) (fun i_ a_ h_ _ => (fun i (_ : Unit) _ => (xs.drop i == ys.drop i) = (xs == ys)) i_ a_ h_) (()) (by simp) ?_ zP (Nat.le_refl _) ?_
    · simp
    · intro i a tm h' n' hle hJ hE hn' next hnx
      try dsimp only at hJ
      have hK : KeepB nx h' h := KeepB.sub hE zK (by omega)
      simp [-qt, -qd, -ql]
      try simp [-qt, -qd, -ql, rgs, hl, yI]
      repeat' first | done | ((first | ((with_reducible show zT _ _ _ _ _ _); refine zB rfl fun _ => ?_) | ((with_reducible show zH _ _ _ _ _ _ _); refine zC rfl omA omA ?_) | ((with_reducible show zG _ _ _ 301 _ _); refine zD (c_eqAfter) ?_) | (with_reducible refine zI (i := 6) [(0, [], []), (1, [], []), (2, [], []), (3, [], []), (4, [], []), (5, [], []), (6, [], []), (7, [], []), (8, [], []), (9, [], [])] (by kernel_rfl) ?_)) <;> simp [-qt, -qd, -ql, rgs, hl, yI]) | ((first | (with_reducible refine zA ?_ ?_)) <;> intro qb <;> (have qp := qb; try simp only [psq] at qp) <;> simp [-qt, -qd, -ql, rgs, hl, yI, qb])
      all_goals first
      | (have hlt : i < xs.length := (by first | omega | (simp at *; omega))
         rw [zS hlt, zS (xs := ys) (i := i) (by omega), List.cons_beq_cons] at hJ
         first
         | (refine hnx.go () ?_ ?_ ?_ ?_ ?_ ?_; omega; (simp [zM hlt hlim]); (simp); exact zK; (first | omega | (simp; omega)); (try dsimp only); clear hnx; first | (simp_all; done) | grind)
         | (refine ⟨?_, zK⟩; clear hnx; first | (simp_all; done) | grind)
         | (clear hnx; first | (simp_all; done) | grind))
      | (obtain rfl : i = xs.length := (by first | omega | (simp at *; omega))
         rw [List.drop_eq_nil_of_le (Nat.le_refl _), List.drop_eq_nil_of_le (by omega)] at hJ
         refine ⟨?_, zK⟩; clear hnx; first | (simp_all; done) | grind)
  · refine PC.o okC Tryz.func190 rfl (.bool _) fun h nx hnx => ?_
    try simp [-qt, -qd, -ql, rgs]
    repeat' first | done | ((first | ((with_reducible show zT _ _ _ _ _ _); refine zB rfl fun _ => ?_) | ((with_reducible show zH _ _ _ _ _ _ _); refine zC rfl omA omA ?_) | (with_reducible refine zI (i := 6) [(0, [], []), (1, [], []), (2, [], []), (3, [], []), (4, [], []), (5, [], []), (6, [], []), (7, [], []), (8, [], []), (9, [], [])] (by kernel_rfl) ?_)) <;> simp [-qt, -qd, -ql, rgs]) | ((first | (with_reducible refine zA ?_ ?_)) <;> intro qb <;> (have qp := qb; try simp only [psq] at qp) <;> simp [-qt, -qd, -ql, rgs, qb])
    all_goals first | (exfalso; omega) | (symm; rw [beq_eq_false_iff_ne]; intro e; exact hl (by rw [e])) | (intro e; exact hl (by rw [e])) | skip

theorem c_szAfterS {p : Bool} {xs : List Afr} {k : Int} (h0 : 0 ≤ k) (h1 : k ≤ 1048576) : PC ctx.P 138 [.view p 5 (xs.map yI), .int .i64 k] (.int .i64 (szR xs.length k)) := by
  refine PC.lim (n := xs.length) (x := .view p 5 (xs.map yI)) (by simp) (.here (by simp)) ⟨_, Tryz.func138, by kernel_rfl, by kernel_rfl⟩ fun hlim => ?_
  simp only [LIM] at hlim
  refine PC.o okC Tryz.func138 rfl (.int _ _) fun h nx hnx => ?_
  try simp [-qt, -qd, -ql, rgs, zF (x := k - (xs.length : Int)) (by omega)]
  repeat' first | done | ((first | ((with_reducible show zT _ _ _ _ _ _); refine zB rfl fun _ => ?_)) <;> simp [-qt, -qd, -ql, rgs, zF (x := k - (xs.length : Int)) (by omega)]) | ((first | (with_reducible refine zA ?_ ?_)) <;> intro qb <;> (have qp := qb; try simp only [psq] at qp) <;> simp [-qt, -qd, -ql, rgs, zF (x := k - (xs.length : Int)) (by omega), qb])
  all_goals (clear hnx; simp only [szR]; split <;> first | omega | (simp; omega))

theorem c_toTask {x : Tsk} : PC ctx.P 157 [.agg (vQ x)] (.agg (vQ x)) := by
  refine PC.o okC Tryz.func157 rfl (.agg _ (tskC_fz x)) fun h nx hnx => ?_
  try simp [-qt, -qd, -ql, rgs, vQ]

theorem c_eqTask {x y : Tsk} : PC ctx.P 191 [.agg (vQ x), .agg (vQ y)] (.bool (x == y)) := by
  rw [tsk_beq]
  refine PC.o okC Tryz.func191 rfl (.bool _) fun h nx hnx => ?_
  try simp [-qt, -qd, -ql, rgs, vQ]
  repeat' first | done | ((first | (with_reducible refine zA ?_ ?_)) <;> intro qb <;> (have qp := qb; try simp only [psq] at qp) <;> simp [-qt, -qd, -ql, rgs, vQ, qb])
  all_goals (try clear hnx)
  all_goals first | (simp_all []; done) | (simp_all []; omega) | (rw [Bool.eq_iff_iff]; simp_all []; done) | (rw [Bool.eq_iff_iff]; simp_all []; omega) | omega | (simp only []; grind) | grind

theorem c_eqTaskS {p q : Bool} {xs ys : List Tsk} : PC ctx.P 75 [.view p 9 (xs.map vQ), .view q 9 (ys.map vQ)] (.bool (xs == ys)) := by
  refine PC.lim (n := xs.length) (x := .view p 9 (xs.map vQ)) (by simp) (.here (by simp)) ⟨_, Tryz.func75, by kernel_rfl, by kernel_rfl⟩ fun hlim => ?_
  by_cases hl : xs.length = ys.length
  · refine PC.o okC Tryz.func75 rfl (.bool _) fun h nx hnx => ?_
    try simp [-qt, -qd, -ql, rgs, hl]
    repeat' first | done | ((first | ((with_reducible show zT _ _ _ _ _ _); refine zB rfl fun _ => ?_) | ((with_reducible show zH _ _ _ _ _ _ _); refine zC rfl omA omA ?_) | (with_reducible refine zI (i := 6) [(0, [], []), (1, [], []), (2, [], []), (3, [], []), (4, [], []), (5, [], []), (6, [], []), (7, [], []), (8, [], []), (9, [], [])] (by kernel_rfl) ?_)) <;> simp [-qt, -qd, -ql, rgs, hl]) | ((first | (with_reducible refine zA ?_ ?_)) <;> intro qb <;> (have qp := qb; try simp only [psq] at qp) <;> simp [-qt, -qd, -ql, rgs, hl, qb])
    refine zU [4, 5, 11, 12, 13, 14, 15, 16, 17, 18, 19, 20, 21, 22, 23, 24, 25, 26] (ys.length) (fun (i : Nat) a => [(5, .int .i64 i)]) (fun i_ a_ h_ _ => (fun i (_ : Unit) _ => (xs.drop i == ys.drop i) = (xs == ys)) i_ a_ h_) (()) (by simp) ?_ zP (Nat.le_refl _) ?_
    · simp
    · intro i a tm h' n' hle hJ hE hn' next hnx
      try dsimp only at hJ
      have hK : KeepB nx h' h := KeepB.sub hE zK (by omega)
      simp [-qt, -qd, -ql]
      try simp [-qt, -qd, -ql, rgs, hl, vQ]
      repeat' first | done | ((first | ((with_reducible show zT _ _ _ _ _ _); refine zB rfl fun _ => ?_) | ((with_reducible show zH _ _ _ _ _ _ _); refine zC rfl omA omA ?_) | ((with_reducible show zG _ _ _ 191 _ _); refine zD (c_eqTask) ?_) | (with_reducible refine zI (i := 6) [(0, [], []), (1, [], []), (2, [], []), (3, [], []), (4, [], []), (5, [], []), (6, [], []), (7, [], []), (8, [], []), (9, [], [])] (by kernel_rfl) ?_)) <;> simp [-qt, -qd, -ql, rgs, hl, vQ]) | ((first | (with_reducible refine zA ?_ ?_)) <;> intro qb <;> (have qp := qb; try simp only [psq] at qp) <;> simp [-qt, -qd, -ql, rgs, hl, vQ, qb])
      all_goals first
      | (have hlt : i < xs.length := (by first | omega | (simp at *; omega))
         rw [zS hlt, zS (xs := ys) (i := i) (by omega), List.cons_beq_cons] at hJ
         first
         | (refine hnx.go () ?_ ?_ ?_ ?_ ?_ ?_; omega; (simp [zM hlt hlim]); (simp); exact zK; (first | omega | (simp; omega)); (try dsimp only); clear hnx; first | (simp_all; done) | grind)
         | (refine ⟨?_, zK⟩; clear hnx; first | (simp_all; done) | grind)
         | (clear hnx; first | (simp_all; done) | grind))
      | (obtain rfl : i = xs.length := (by first | omega | (simp at *; omega))
         rw [List.drop_eq_nil_of_le (Nat.le_refl _), List.drop_eq_nil_of_le (by omega)] at hJ
         refine ⟨?_, zK⟩; clear hnx; first | (simp_all; done) | grind)
  · refine PC.o okC Tryz.func75 rfl (.bool _) fun h nx hnx => ?_
    try simp [-qt, -qd, -ql, rgs]
    repeat' first | done | ((first | ((with_reducible show zT _ _ _ _ _ _); refine zB rfl fun _ => ?_) | ((with_reducible show zH _ _ _ _ _ _ _); refine zC rfl omA omA ?_) | (with_reducible refine zI (i := 6) [(0, [], []), (1, [], []), (2, [], []), (3, [], []), (4, [], []), (5, [], []), (6, [], []), (7, [], []), (8, [], []), (9, [], [])] (by kernel_rfl) ?_)) <;> simp [-qt, -qd, -ql, rgs]) | ((first | (with_reducible refine zA ?_ ?_)) <;> intro qb <;> (have qp := qb; try simp only [psq] at qp) <;> simp [-qt, -qd, -ql, rgs, qb])
    all_goals first | (exfalso; omega) | (symm; rw [beq_eq_false_iff_ne]; intro e; exact hl (by rw [e])) | (intro e; exact hl (by rw [e])) | skip

theorem c_szTaskS {p : Bool} {xs : List Tsk} {k : Int} (h0 : 0 ≤ k) (h1 : k ≤ 1048576) : PC ctx.P 53 [.view p 9 (xs.map vQ), .int .i64 k] (.int .i64 (szR xs.length k)) := by
  refine PC.lim (n := xs.length) (x := .view p 9 (xs.map vQ)) (by simp) (.here (by simp)) ⟨_, Tryz.func53, by kernel_rfl, by kernel_rfl⟩ fun hlim => ?_
  simp only [LIM] at hlim
  refine PC.o okC Tryz.func53 rfl (.int _ _) fun h nx hnx => ?_
  try simp [-qt, -qd, -ql, rgs, zF (x := k - (xs.length : Int)) (by omega)]
  repeat' first | done | ((first | ((with_reducible show zT _ _ _ _ _ _); refine zB rfl fun _ => ?_)) <;> simp [-qt, -qd, -ql, rgs, zF (x := k - (xs.length : Int)) (by omega)]) | ((first | (with_reducible refine zA ?_ ?_)) <;> intro qb <;> (have qp := qb; try simp only [psq] at qp) <;> simp [-qt, -qd, -ql, rgs, zF (x := k - (xs.length : Int)) (by omega), qb])
  all_goals (clear hnx; simp only [szR]; split <;> first | omega | (simp; omega))

theorem c_toSight {x : Sgt} : PC ctx.P 159 [.agg (uP x)] (.agg (uP x)) := by
  refine PC.o okC Tryz.func159 rfl (.agg _ (sgtC_fz x)) fun h nx hnx => ?_
  try simp [-qt, -qd, -ql, rgs, uP]

theorem c_eqSight {x y : Sgt} : PC ctx.P 193 [.agg (uP x), .agg (uP y)] (.bool (x == y)) := by
  rw [sgt_beq]
  refine PC.o okC Tryz.func193 rfl (.bool _) fun h nx hnx => ?_
  try simp [-qt, -qd, -ql, rgs, uP]
  repeat' first | done | ((first | (with_reducible refine zA ?_ ?_)) <;> intro qb <;> (have qp := qb; try simp only [psq] at qp) <;> simp [-qt, -qd, -ql, rgs, uP, qb])
  all_goals (try clear hnx)
  all_goals first | (simp_all []; done) | (simp_all []; omega) | (rw [Bool.eq_iff_iff]; simp_all []; done) | (rw [Bool.eq_iff_iff]; simp_all []; omega) | omega | (simp only []; grind) | grind

theorem c_eqSightS {p q : Bool} {xs ys : List Sgt} : PC ctx.P 77 [.view p 4 (xs.map uP), .view q 4 (ys.map uP)] (.bool (xs == ys)) := by
  refine PC.lim (n := xs.length) (x := .view p 4 (xs.map uP)) (by simp) (.here (by simp)) ⟨_, Tryz.func77, by kernel_rfl, by kernel_rfl⟩ fun hlim => ?_
  by_cases hl : xs.length = ys.length
  · refine PC.o okC Tryz.func77 rfl (.bool _) fun h nx hnx => ?_
    try simp [-qt, -qd, -ql, rgs, hl]
    repeat' first | done | ((first | ((with_reducible show zT _ _ _ _ _ _); refine zB rfl fun _ => ?_) | ((with_reducible show zH _ _ _ _ _ _ _); refine zC rfl omA omA ?_) | (with_reducible refine zI (i := 6) [(0, [], []), (1, [], []), (2, [], []), (3, [], []), (4, [], []), (5, [], []), (6, [], []), (7, [], []), (8, [], []), (9, [], [])] (by kernel_rfl) ?_)) <;> simp [-qt, -qd, -ql, rgs, hl]) | ((first | (with_reducible refine zA ?_ ?_)) <;> intro qb <;> (have qp := qb; try simp only [psq] at qp) <;> simp [-qt, -qd, -ql, rgs, hl, qb])
    refine zU [4, 5, 11, 12, 13, 14, 15, 16, 17, 18, 19, 20, 21, 22, 23, 24, 25, 26] (ys.length) (fun (i : Nat) a => [(5, .int .i64 i)]) (fun i_ a_ h_ _ => (fun i (_ : Unit) _ => (xs.drop i == ys.drop i) = (xs == ys)) i_ a_ h_) (()) (by simp) ?_ zP (Nat.le_refl _) ?_
    · simp
    · intro i a tm h' n' hle hJ hE hn' next hnx
      try dsimp only at hJ
      have hK : KeepB nx h' h := KeepB.sub hE zK (by omega)
      simp [-qt, -qd, -ql]
      try simp [-qt, -qd, -ql, rgs, hl, uP]
      repeat' first | done | ((first | ((with_reducible show zT _ _ _ _ _ _); refine zB rfl fun _ => ?_) | ((with_reducible show zH _ _ _ _ _ _ _); refine zC rfl omA omA ?_) | ((with_reducible show zG _ _ _ 193 _ _); refine zD (c_eqSight) ?_) | (with_reducible refine zI (i := 6) [(0, [], []), (1, [], []), (2, [], []), (3, [], []), (4, [], []), (5, [], []), (6, [], []), (7, [], []), (8, [], []), (9, [], [])] (by kernel_rfl) ?_)) <;> simp [-qt, -qd, -ql, rgs, hl, uP]) | ((first | (with_reducible refine zA ?_ ?_)) <;> intro qb <;> (have qp := qb; try simp only [psq] at qp) <;> simp [-qt, -qd, -ql, rgs, hl, uP, qb])
      all_goals first
      | (have hlt : i < xs.length := (by first | omega | (simp at *; omega))
         rw [zS hlt, zS (xs := ys) (i := i) (by omega), List.cons_beq_cons] at hJ
         first
         | (refine hnx.go () ?_ ?_ ?_ ?_ ?_ ?_; omega; (simp [zM hlt hlim]); (simp); exact zK; (first | omega | (simp; omega)); (try dsimp only); clear hnx; first | (simp_all; done) | grind)
         | (refine ⟨?_, zK⟩; clear hnx; first | (simp_all; done) | grind)
         | (clear hnx; first | (simp_all; done) | grind))
      | (obtain rfl : i = xs.length := (by first | omega | (simp at *; omega))
         rw [List.drop_eq_nil_of_le (Nat.le_refl _), List.drop_eq_nil_of_le (by omega)] at hJ
         refine ⟨?_, zK⟩; clear hnx; first | (simp_all; done) | grind)
  · refine PC.o okC Tryz.func77 rfl (.bool _) fun h nx hnx => ?_
    try simp [-qt, -qd, -ql, rgs]
    repeat' first | done | ((first | ((with_reducible show zT _ _ _ _ _ _); refine zB rfl fun _ => ?_) | ((with_reducible show zH _ _ _ _ _ _ _); refine zC rfl omA omA ?_) | (with_reducible refine zI (i := 6) [(0, [], []), (1, [], []), (2, [], []), (3, [], []), (4, [], []), (5, [], []), (6, [], []), (7, [], []), (8, [], []), (9, [], [])] (by kernel_rfl) ?_)) <;> simp [-qt, -qd, -ql, rgs]) | ((first | (with_reducible refine zA ?_ ?_)) <;> intro qb <;> (have qp := qb; try simp only [psq] at qp) <;> simp [-qt, -qd, -ql, rgs, qb])
    all_goals first | (exfalso; omega) | (symm; rw [beq_eq_false_iff_ne]; intro e; exact hl (by rw [e])) | (intro e; exact hl (by rw [e])) | skip

theorem c_szSightS {p : Bool} {xs : List Sgt} {k : Int} (h0 : 0 ≤ k) (h1 : k ≤ 1048576) : PC ctx.P 55 [.view p 4 (xs.map uP), .int .i64 k] (.int .i64 (szR xs.length k)) := by
  refine PC.lim (n := xs.length) (x := .view p 4 (xs.map uP)) (by simp) (.here (by simp)) ⟨_, Tryz.func55, by kernel_rfl, by kernel_rfl⟩ fun hlim => ?_
  simp only [LIM] at hlim
  refine PC.o okC Tryz.func55 rfl (.int _ _) fun h nx hnx => ?_
  try simp [-qt, -qd, -ql, rgs, zF (x := k - (xs.length : Int)) (by omega)]
  repeat' first | done | ((first | ((with_reducible show zT _ _ _ _ _ _); refine zB rfl fun _ => ?_)) <;> simp [-qt, -qd, -ql, rgs, zF (x := k - (xs.length : Int)) (by omega)]) | ((first | (with_reducible refine zA ?_ ?_)) <;> intro qb <;> (have qp := qb; try simp only [psq] at qp) <;> simp [-qt, -qd, -ql, rgs, zF (x := k - (xs.length : Int)) (by omega), qb])
  all_goals (clear hnx; simp only [szR]; split <;> first | omega | (simp; omega))


theorem zJ2 {p q : Bool} {xs ys : List Int} : PC ctx.P 78 [.view p 1 (xs.map iv), .view q 1 (ys.map iv)] (.bool (xs == ys)) := by
  refine PC.lim (n := xs.length) (x := .view p 1 (xs.map iv)) (by simp) (.here (by simp)) ⟨_, Tryz.func78, by kernel_rfl, by kernel_rfl⟩ fun hlim => ?_
  by_cases hl : xs.length = ys.length
  · refine PC.o okC Tryz.func78 rfl (.bool _) fun h nx hnx => ?_
    try simp [-qt, -qd, -ql, rgs, hl]
    repeat' first | done | ((first | ((with_reducible show zT _ _ _ _ _ _); refine zB rfl fun _ => ?_) | ((with_reducible show zH _ _ _ _ _ _ _); refine zC rfl omA omA ?_) | (with_reducible refine zI (i := 6) [(0, [], []), (1, [], []), (2, [], []), (3, [], []), (4, [], []), (5, [], []), (6, [], []), (7, [], []), (8, [], [])] (by kernel_rfl) ?_)) <;> simp [-qt, -qd, -ql, rgs, hl]) | ((first | (with_reducible refine zA ?_ ?_)) <;> intro qb <;> (have qp := qb; try simp only [psq] at qp) <;> simp [-qt, -qd, -ql, rgs, hl, qb])
    refine zU [4, 5, 11, 12, 13, 14, 15, 16, 17, 18, 19, 20, 21, 22, 23, 24, 25] (ys.length) (fun (i : Nat) a => [(5, .int .i64 i)]) (fun i_ a_ h_ _ => (fun i (_ : Unit) _ => (xs.drop i == ys.drop i) = (xs == ys)) i_ a_ h_) (()) (by simp) ?_ zP (Nat.le_refl _) ?_
    · simp
    · intro i a tm h' n' hle hJ hE hn' next hnx
      try dsimp only at hJ
      have hK : KeepB nx h' h := KeepB.sub hE zK (by omega)
      simp [-qt, -qd, -ql]
      try simp [-qt, -qd, -ql, rgs, hl, iv]
      repeat' first | done | ((first | ((with_reducible show zT _ _ _ _ _ _); refine zB rfl fun _ => ?_) | ((with_reducible show zH _ _ _ _ _ _ _); refine zC rfl omA omA ?_) | (with_reducible refine zI (i := 6) [(0, [], []), (1, [], []), (2, [], []), (3, [], []), (4, [], []), (5, [], []), (6, [], []), (7, [], []), (8, [], [])] (by kernel_rfl) ?_)) <;> simp [-qt, -qd, -ql, rgs, hl, iv]) | ((first | (with_reducible refine zA ?_ ?_)) <;> intro qb <;> (have qp := qb; try simp only [psq] at qp) <;> simp [-qt, -qd, -ql, rgs, hl, iv, qb])
      all_goals first
      | (have hlt : i < xs.length := (by first | omega | (simp at *; omega))
         rw [zS hlt, zS (xs := ys) (i := i) (by omega), List.cons_beq_cons] at hJ
         first
         | (refine hnx.go () ?_ ?_ ?_ ?_ ?_ ?_; omega; (simp [zM hlt hlim]); (simp); exact zK; (first | omega | (simp; omega)); (try dsimp only); clear hnx; first | (simp_all; done) | grind)
         | (refine ⟨?_, zK⟩; clear hnx; first | (simp_all; done) | grind)
         | (clear hnx; first | (simp_all; done) | grind))
      | (obtain rfl : i = xs.length := (by first | omega | (simp at *; omega))
         rw [List.drop_eq_nil_of_le (Nat.le_refl _), List.drop_eq_nil_of_le (by omega)] at hJ
         refine ⟨?_, zK⟩; clear hnx; first | (simp_all; done) | grind)
  · refine PC.o okC Tryz.func78 rfl (.bool _) fun h nx hnx => ?_
    try simp [-qt, -qd, -ql, rgs]
    repeat' first | done | ((first | ((with_reducible show zT _ _ _ _ _ _); refine zB rfl fun _ => ?_) | ((with_reducible show zH _ _ _ _ _ _ _); refine zC rfl omA omA ?_) | (with_reducible refine zI (i := 6) [(0, [], []), (1, [], []), (2, [], []), (3, [], []), (4, [], []), (5, [], []), (6, [], []), (7, [], []), (8, [], [])] (by kernel_rfl) ?_)) <;> simp [-qt, -qd, -ql, rgs]) | ((first | (with_reducible refine zA ?_ ?_)) <;> intro qb <;> (have qp := qb; try simp only [psq] at qp) <;> simp [-qt, -qd, -ql, rgs, qb])
    all_goals first | (exfalso; omega) | (symm; rw [beq_eq_false_iff_ne]; intro e; exact hl (by rw [e])) | (intro e; exact hl (by rw [e])) | skip

theorem zJ0 {p : Bool} {xs : List Int} {k : Int} (h0 : 0 ≤ k) (h1 : k ≤ 1048576) : PC ctx.P 56 [.view p 1 (xs.map iv), .int .i64 k] (.int .i64 (szR xs.length k)) := by
  refine PC.lim (n := xs.length) (x := .view p 1 (xs.map iv)) (by simp) (.here (by simp)) ⟨_, Tryz.func56, by kernel_rfl, by kernel_rfl⟩ fun hlim => ?_
  simp only [LIM] at hlim
  refine PC.o okC Tryz.func56 rfl (.int _ _) fun h nx hnx => ?_
  try simp [-qt, -qd, -ql, rgs, zF (x := k - (xs.length : Int)) (by omega)]
  repeat' first | done | ((first | ((with_reducible show zT _ _ _ _ _ _); refine zB rfl fun _ => ?_)) <;> simp [-qt, -qd, -ql, rgs, zF (x := k - (xs.length : Int)) (by omega)]) | ((first | (with_reducible refine zA ?_ ?_)) <;> intro qb <;> (have qp := qb; try simp only [psq] at qp) <;> simp [-qt, -qd, -ql, rgs, zF (x := k - (xs.length : Int)) (by omega), qb])
  all_goals (clear hnx; simp only [szR]; split <;> first | omega | (simp; omega))

theorem c_eqBoolS {p q : Bool} {xs ys : List Bool} : PC ctx.P 186 [.view p 1 (xs.map bv), .view q 1 (ys.map bv)] (.bool (xs == ys)) := by
  refine PC.lim (n := xs.length) (x := .view p 1 (xs.map bv)) (by simp) (.here (by simp)) ⟨_, Tryz.func186, by kernel_rfl, by kernel_rfl⟩ fun hlim => ?_
  by_cases hl : xs.length = ys.length
  · refine PC.o okC Tryz.func186 rfl (.bool _) fun h nx hnx => ?_
    try simp [-qt, -qd, -ql, rgs, hl]
    repeat' first | done | ((first | ((with_reducible show zT _ _ _ _ _ _); refine zB rfl fun _ => ?_) | ((with_reducible show zH _ _ _ _ _ _ _); refine zC rfl omA omA ?_) | (with_reducible refine zI (i := 6) [(0, [], []), (1, [], []), (2, [], []), (3, [], []), (4, [], []), (5, [], []), (6, [], []), (7, [], []), (8, [], [])] (by kernel_rfl) ?_)) <;> simp [-qt, -qd, -ql, rgs, hl]) | ((first | (with_reducible refine zA ?_ ?_)) <;> intro qb <;> (have qp := qb; try simp only [psq] at qp) <;> simp [-qt, -qd, -ql, rgs, hl, qb])
    refine zU [4, 5, 11, 12, 13, 14, 15, 16, 17, 18, 19, 20, 21, 22, 23, 24, 25] (ys.length) (fun (i : Nat) a => [(5, .int .i64 i)]) (fun i_ a_ h_ _ => (fun i (_ : Unit) _ => (xs.drop i == ys.drop i) = (xs == ys)) i_ a_ h_) (()) (by simp) ?_ zP (Nat.le_refl _) ?_
    · simp
    · intro i a tm h' n' hle hJ hE hn' next hnx
      try dsimp only at hJ
      have hK : KeepB nx h' h := KeepB.sub hE zK (by omega)
      simp [-qt, -qd, -ql]
      try simp [-qt, -qd, -ql, rgs, hl, bv]
      repeat' first | done | ((first | ((with_reducible show zT _ _ _ _ _ _); refine zB rfl fun _ => ?_) | ((with_reducible show zH _ _ _ _ _ _ _); refine zC rfl omA omA ?_) | (with_reducible refine zI (i := 6) [(0, [], []), (1, [], []), (2, [], []), (3, [], []), (4, [], []), (5, [], []), (6, [], []), (7, [], []), (8, [], [])] (by kernel_rfl) ?_)) <;> simp [-qt, -qd, -ql, rgs, hl, bv]) | ((first | (with_reducible refine zA ?_ ?_)) <;> intro qb <;> (have qp := qb; try simp only [psq] at qp) <;> simp [-qt, -qd, -ql, rgs, hl, bv, qb])
      all_goals first
      | (have hlt : i < xs.length := (by first | omega | (simp at *; omega))
         rw [zS hlt, zS (xs := ys) (i := i) (by omega), List.cons_beq_cons] at hJ
         first
         | (refine hnx.go () ?_ ?_ ?_ ?_ ?_ ?_; omega; (simp [zM hlt hlim]); (simp); exact zK; (first | omega | (simp; omega)); (try dsimp only); clear hnx; first | (simp_all; done) | grind)
         | (refine ⟨?_, zK⟩; clear hnx; first | (simp_all; done) | grind)
         | (clear hnx; first | (simp_all; done) | grind))
      | (obtain rfl : i = xs.length := (by first | omega | (simp at *; omega))
         rw [List.drop_eq_nil_of_le (Nat.le_refl _), List.drop_eq_nil_of_le (by omega)] at hJ
         refine ⟨?_, zK⟩; clear hnx; first | (simp_all; done) | grind)
  · refine PC.o okC Tryz.func186 rfl (.bool _) fun h nx hnx => ?_
    try simp [-qt, -qd, -ql, rgs]
    repeat' first | done | ((first | ((with_reducible show zT _ _ _ _ _ _); refine zB rfl fun _ => ?_) | ((with_reducible show zH _ _ _ _ _ _ _); refine zC rfl omA omA ?_) | (with_reducible refine zI (i := 6) [(0, [], []), (1, [], []), (2, [], []), (3, [], []), (4, [], []), (5, [], []), (6, [], []), (7, [], []), (8, [], [])] (by kernel_rfl) ?_)) <;> simp [-qt, -qd, -ql, rgs]) | ((first | (with_reducible refine zA ?_ ?_)) <;> intro qb <;> (have qp := qb; try simp only [psq] at qp) <;> simp [-qt, -qd, -ql, rgs, qb])
    all_goals first | (exfalso; omega) | (symm; rw [beq_eq_false_iff_ne]; intro e; exact hl (by rw [e])) | (intro e; exact hl (by rw [e])) | skip

theorem c_szBoolS {p : Bool} {xs : List Bool} {k : Int} (h0 : 0 ≤ k) (h1 : k ≤ 1048576) : PC ctx.P 134 [.view p 1 (xs.map bv), .int .i64 k] (.int .i64 (szR xs.length k)) := by
  refine PC.lim (n := xs.length) (x := .view p 1 (xs.map bv)) (by simp) (.here (by simp)) ⟨_, Tryz.func134, by kernel_rfl, by kernel_rfl⟩ fun hlim => ?_
  simp only [LIM] at hlim
  refine PC.o okC Tryz.func134 rfl (.int _ _) fun h nx hnx => ?_
  try simp [-qt, -qd, -ql, rgs, zF (x := k - (xs.length : Int)) (by omega)]
  repeat' first | done | ((first | ((with_reducible show zT _ _ _ _ _ _); refine zB rfl fun _ => ?_)) <;> simp [-qt, -qd, -ql, rgs, zF (x := k - (xs.length : Int)) (by omega)]) | ((first | (with_reducible refine zA ?_ ?_)) <;> intro qb <;> (have qp := qb; try simp only [psq] at qp) <;> simp [-qt, -qd, -ql, rgs, zF (x := k - (xs.length : Int)) (by omega), qb])
  all_goals (clear hnx; simp only [szR]; split <;> first | omega | (simp; omega))

end Go.AE.Tryz
end

section
/- Contracts of the laws' helpers: worlds. -/
set_option linter.unusedSimpArgs false
set_option linter.unusedVariables false
set_option maxRecDepth 8000
set_option maxHeartbeats 4000000
namespace Go.AE.Tryz
open Go.Proofs
open List renaming map_take → qt, map_drop → qd, map_tail → ql
theorem c_eqInsSS {p q p2 q2 : Bool} {xs ys : List (List Inn)} : PC ctx.P 69 [.view p 1 (xs.map (zB6 p2)), .view q 1 (ys.map (zB6 q2))] (.bool (xs == ys)) := by
  refine PC.lim (n := xs.length) (x := .view p 1 (xs.map (zB6 p2))) (by simp) (.here (by simp)) ⟨_, Tryz.func69, by kernel_rfl, by kernel_rfl⟩ fun hlim => ?_
  by_cases hl : xs.length = ys.length
  · refine PC.o okC Tryz.func69 rfl (.bool _) fun h nx hnx => ?_
    try simp [-qt, -qd, -ql, rgs, hl]
    repeat' first | done | ((first | ((with_reducible show zT _ _ _ _ _ _); refine zB rfl fun _ => ?_) | ((with_reducible show zH _ _ _ _ _ _ _); refine zC rfl omA omA ?_) | (with_reducible refine zI (i := 6) [(0, [], []), (1, [], []), (2, [], []), (3, [], []), (4, [], []), (5, [], []), (6, [], []), (7, [], []), (8, [], []), (9, [], [])] (by kernel_rfl) ?_)) <;> simp [-qt, -qd, -ql, rgs, hl]) | ((first | (with_reducible refine zA ?_ ?_)) <;> intro qb <;> (have qp := qb; try simp only [psq] at qp) <;> simp [-qt, -qd, -ql, rgs, hl, qb])
    refine zU [4, 5, 11, 12, 13, 14, 15, 16, 17, 18, 19, 20, 21, 22, 23, 24, 25, 26] (ys.length) (fun (i : Nat) a => [(5, .int .i64 i)]) (fun i_ a_ h_ _ => (fun i (_ : Unit) _ => (xs.drop i == ys.drop i) = (xs == ys)) i_ a_ h_) (()) (by simp) ?_ zP (Nat.le_refl _) ?_
    · simp
    · intro i a tm h' n' hle hJ hE hn' next hnx
      try dsimp only at hJ
      have hK : KeepB nx h' h := KeepB.sub hE zK (by omega)
      simp [-qt, -qd, -ql]
      try simp [-qt, -qd, -ql, rgs, hl, zB6]
      repeat' first | done | ((first | ((with_reducible show zT _ _ _ _ _ _); refine zB rfl fun _ => ?_) | ((with_reducible show zH _ _ _ _ _ _ _); refine zC rfl omA omA ?_) | ((with_reducible show zG _ _ _ 183 _ _); refine zD (c_eqInsS) ?_) | (with_reducible refine zI (i := 6) [(0, [], []), (1, [], []), (2, [], []), (3, [], []), (4, [], []), (5, [], []), (6, [], []), (7, [], []), (8, [], []), (9, [], [])] (by kernel_rfl) ?_)) <;> simp [-qt, -qd, -ql, rgs, hl, zB6]) | ((first | (with_reducible refine zA ?_ ?_)) <;> intro qb <;> (have qp := qb; try simp only [psq] at qp) <;> simp [-qt, -qd, -ql, rgs, hl, zB6, qb])
      all_goals first
      | (have hlt : i < xs.length := (by first | omega | (simp at *; omega))
         rw [zS hlt, zS (xs := ys) (i := i) (by omega), List.cons_beq_cons] at hJ
         first
         | (refine hnx.go () ?_ ?_ ?_ ?_ ?_ ?_; omega; (simp [zM hlt hlim]); (simp); exact zK; (first | omega | (simp; omega)); (try dsimp only); clear hnx; first | (simp_all; done) | grind)
         | (refine ⟨?_, zK⟩; clear hnx; first | (simp_all; done) | grind)
         | (clear hnx; first | (simp_all; done) | grind))
      | (obtain rfl : i = xs.length := (by first | omega | (simp at *; omega))
         rw [List.drop_eq_nil_of_le (Nat.le_refl _), List.drop_eq_nil_of_le (by omega)] at hJ
         refine ⟨?_, zK⟩; clear hnx; first | (simp_all; done) | grind)
  · refine PC.o okC Tryz.func69 rfl (.bool _) fun h nx hnx => ?_
    try simp [-qt, -qd, -ql, rgs]
    repeat' first | done | ((first | ((with_reducible show zT _ _ _ _ _ _); refine zB rfl fun _ => ?_) | ((with_reducible show zH _ _ _ _ _ _ _); refine zC rfl omA omA ?_) | (with_reducible refine zI (i := 6) [(0, [], []), (1, [], []), (2, [], []), (3, [], []), (4, [], []), (5, [], []), (6, [], []), (7, [], []), (8, [], []), (9, [], [])] (by kernel_rfl) ?_)) <;> simp [-qt, -qd, -ql, rgs]) | ((first | (with_reducible refine zA ?_ ?_)) <;> intro qb <;> (have qp := qb; try simp only [psq] at qp) <;> simp [-qt, -qd, -ql, rgs, qb])
    all_goals first | (exfalso; omega) | (symm; rw [beq_eq_false_iff_ne]; intro e; exact hl (by rw [e])) | (intro e; exact hl (by rw [e])) | skip
theorem c_szInsSS {p r : Bool} {xs : List (List Inn)} {k : Int} (h0 : 0 ≤ k) (h1 : k ≤ 1048576) : PC ctx.P 47 [.view p 1 (xs.map (zB6 r)), .int .i64 k] (.int .i64 (szR (xs.length + zA4 (·.length) xs) k)) := by
  refine PC.lim (n := xs.length) (x := .view p 1 (xs.map (zB6 r))) (by simp) (.here (by simp)) ⟨_, Tryz.func47, by kernel_rfl, by kernel_rfl⟩ fun hlim => ?_
  have hlim' := hlim
  simp only [LIM] at hlim
  refine PC.o okC Tryz.func47 rfl (.int _ _) fun h nx hnx => ?_
  try simp [-qt, -qd, -ql, rgs, zF (x := k - (xs.length : Int)) (by omega)]
  repeat' first | done | ((first | ((with_reducible show zT _ _ _ _ _ _); refine zB rfl fun _ => ?_) | ((with_reducible show zH _ _ _ _ _ _ _); refine zC rfl omA omA ?_)) <;> simp [-qt, -qd, -ql, rgs, zF (x := k - (xs.length : Int)) (by omega)]) | ((first | (with_reducible refine zA ?_ ?_)) <;> intro qb <;> (have qp := qb; try simp only [psq] at qp) <;> simp [-qt, -qd, -ql, rgs, zF (x := k - (xs.length : Int)) (by omega), qb])
  all_goals first | (clear hnx; rcases uQ (xs.length + zA4 (·.length) xs) k with q | q <;> omega) | skip
  refine zU [1, 4, 5, 12, 13, 14, 15, 16, 17, 18, 19, 20, 21, 22, 23, 24, 25] (xs.length) (fun (i : Nat) a => [(5, .int .i64 i), (1, .int .i64 a)]) (fun i_ a_ h_ _ => (fun i (a : Int) _ => 0 ≤ a ∧ a ≤ 1048576 ∧ szR (zA4 (·.length) (xs.drop i)) a = szR (xs.length + zA4 (·.length) xs) k) i_ a_ h_) (k - xs.length) (by simp) ?_ zP (Nat.le_refl _) ?_
  · rcases uQ (xs.length + zA4 (·.length) xs) k with q | q <;> rcases uQ (zA4 (·.length) xs) (k - xs.length) with q' | q' <;> simp <;> omega
  · intro i a tm h' n' hle hJ hE hn' next hnx
    try dsimp only at hJ
    have hK : KeepB nx h' h := KeepB.sub hE zK (by omega)
    simp [-qt, -qd, -ql]
    try simp [-qt, -qd, -ql, rgs, zB6]
    repeat' first | done | ((first | ((with_reducible show zT _ _ _ _ _ _); refine zB rfl fun _ => ?_) | ((with_reducible show zH _ _ _ _ _ _ _); refine zC rfl omA omA ?_) | ((with_reducible show zG _ _ _ 133 _ _); refine zD (c_szInsS hJ.1 hJ.2.1) ?_)) <;> simp [-qt, -qd, -ql, rgs, zB6]) | ((first | (with_reducible refine zA ?_ ?_)) <;> intro qb <;> (have qp := qb; try simp only [psq] at qp) <;> simp [-qt, -qd, -ql, rgs, zB6, qb])
    · refine ⟨?_, zK⟩
      obtain ⟨j0, j1, j2⟩ := hJ
      rw [zS (by omega)] at j2
      rw [← j2]
      simp only [zA4]
      rcases uQ ((gt xs (i : Int)).length) a with q | q <;> rcases uQ ((gt xs (i : Int)).length + zA4 (·.length) (xs.drop (i + 1))) a with q' | q' <;> omega
    · obtain ⟨j0, j1, j2⟩ := hJ
      rw [zS (by omega)] at j2
      refine hnx.go (szR (gt xs (i : Int)).length a) ?_ ?_ ?_ ?_ ?_ ?_
      · omega
      · simp [zM (show i < xs.length by omega) hlim']
      · simp
      · exact zK
      · first | omega | (simp; omega)
      dsimp only
      rcases uQ ((gt xs (i : Int)).length) a with q | q
      · omega
      refine ⟨by omega, by omega, ?_⟩
      rw [← j2]
      simp only [zA4]
      rcases uQ (zA4 (·.length) (xs.drop (i + 1))) (szR ((gt xs (i : Int)).length) a) with q1 | q1 <;> rcases uQ ((gt xs (i : Int)).length + zA4 (·.length) (xs.drop (i + 1))) a with q' | q' <;> omega
    · refine ⟨?_, zK⟩
      obtain ⟨j0, j1, j2⟩ := hJ
      rw [List.drop_eq_nil_of_le (by omega)] at j2
      rw [← j2]
      simp only [zA4]
      rcases uQ 0 a with q | q <;> omega
theorem c_eqGroup {p q : Bool} {x y : Grp} : PC ctx.P 192 [.agg (vA p x), .agg (vA q y)] (.bool (x == y)) := by
  rw [grp_beq]
  refine PC.o okC Tryz.func192 rfl (.bool _) fun h nx hnx => ?_
  try simp [-qt, -qd, -ql, rgs, vA]
  repeat' first | done | ((first | ((with_reducible show zG _ _ _ 78 _ _); refine zD (zJ2) ?_)) <;> simp [-qt, -qd, -ql, rgs, vA]) | ((first | (with_reducible refine zA ?_ ?_)) <;> intro qb <;> (have qp := qb; try simp only [psq] at qp) <;> simp [-qt, -qd, -ql, rgs, vA, qb])
  all_goals (try clear hnx)
  all_goals first | (simp_all []; done) | (simp_all []; omega) | (rw [Bool.eq_iff_iff]; simp_all []; done) | (rw [Bool.eq_iff_iff]; simp_all []; omega) | omega | (simp only []; grind) | grind
theorem c_eqGroupS {p q p2 q2 : Bool} {xs ys : List Grp} : PC ctx.P 76 [.view p 5 (xs.map (vA p2)), .view q 5 (ys.map (vA q2))] (.bool (xs == ys)) := by
  refine PC.lim (n := xs.length) (x := .view p 5 (xs.map (vA p2))) (by simp) (.here (by simp)) ⟨_, Tryz.func76, by kernel_rfl, by kernel_rfl⟩ fun hlim => ?_
  by_cases hl : xs.length = ys.length
  · refine PC.o okC Tryz.func76 rfl (.bool _) fun h nx hnx => ?_
    try simp [-qt, -qd, -ql, rgs, hl]
    repeat' first | done | ((first | ((with_reducible show zT _ _ _ _ _ _); refine zB rfl fun _ => ?_) | ((with_reducible show zH _ _ _ _ _ _ _); refine zC rfl omA omA ?_) | (with_reducible refine zI (i := 6) [(0, [], []), (1, [], []), (2, [], []), (3, [], []), (4, [], []), (5, [], []), (6, [], []), (7, [], []), (8, [], []), (9, [], [])] (by kernel_rfl) ?_)) <;> simp [-qt, -qd, -ql, rgs, hl]) | ((first | (with_reducible refine zA ?_ ?_)) <;> intro qb <;> (have qp := qb; try simp only [psq] at qp) <;> simp [-qt, -qd, -ql, rgs, hl, qb])
    refine zU [4, 5, 11, 12, 13, 14, 15, 16, 17, 18, 19, 20, 21, 22, 23, 24, 25, 26] (ys.length) (fun (i : Nat) a => [(5, .int .i64 i)]) (fun i_ a_ h_ _ => (fun i (_ : Unit) _ => (xs.drop i == ys.drop i) = (xs == ys)) i_ a_ h_) (()) (by simp) ?_ zP (Nat.le_refl _) ?_
    · simp
    · intro i a tm h' n' hle hJ hE hn' next hnx
      try dsimp only at hJ
      have hK : KeepB nx h' h := KeepB.sub hE zK (by omega)
      simp [-qt, -qd, -ql]
      try simp [-qt, -qd, -ql, rgs, hl]
      repeat' first | done | ((first | ((with_reducible show zT _ _ _ _ _ _); refine zB rfl fun _ => ?_) | ((with_reducible show zH _ _ _ _ _ _ _); refine zC rfl omA omA ?_) | ((with_reducible show zG _ _ _ 192 _ _); refine zD (c_eqGroup) ?_) | (with_reducible refine zI (i := 6) [(0, [], []), (1, [], []), (2, [], []), (3, [], []), (4, [], []), (5, [], []), (6, [], []), (7, [], []), (8, [], []), (9, [], [])] (by kernel_rfl) ?_)) <;> simp [-qt, -qd, -ql, rgs, hl]) | ((first | (with_reducible refine zA ?_ ?_)) <;> intro qb <;> (have qp := qb; try simp only [psq] at qp) <;> simp [-qt, -qd, -ql, rgs, hl, qb])
      all_goals first
      | (have hlt : i < xs.length := (by first | omega | (simp at *; omega))
         rw [zS hlt, zS (xs := ys) (i := i) (by omega), List.cons_beq_cons] at hJ
         first
         | (refine hnx.go () ?_ ?_ ?_ ?_ ?_ ?_; omega; (simp [zM hlt hlim]); (simp); exact zK; (first | omega | (simp; omega)); (try dsimp only); clear hnx; first | (simp_all; done) | grind)
         | (refine ⟨?_, zK⟩; clear hnx; first | (simp_all; done) | grind)
         | (clear hnx; first | (simp_all; done) | grind))
      | (obtain rfl : i = xs.length := (by first | omega | (simp at *; omega))
         rw [List.drop_eq_nil_of_le (Nat.le_refl _), List.drop_eq_nil_of_le (by omega)] at hJ
         refine ⟨?_, zK⟩; clear hnx; first | (simp_all; done) | grind)
  · refine PC.o okC Tryz.func76 rfl (.bool _) fun h nx hnx => ?_
    try simp [-qt, -qd, -ql, rgs]
    repeat' first | done | ((first | ((with_reducible show zT _ _ _ _ _ _); refine zB rfl fun _ => ?_) | ((with_reducible show zH _ _ _ _ _ _ _); refine zC rfl omA omA ?_) | (with_reducible refine zI (i := 6) [(0, [], []), (1, [], []), (2, [], []), (3, [], []), (4, [], []), (5, [], []), (6, [], []), (7, [], []), (8, [], []), (9, [], [])] (by kernel_rfl) ?_)) <;> simp [-qt, -qd, -ql, rgs]) | ((first | (with_reducible refine zA ?_ ?_)) <;> intro qb <;> (have qp := qb; try simp only [psq] at qp) <;> simp [-qt, -qd, -ql, rgs, qb])
    all_goals first | (exfalso; omega) | (symm; rw [beq_eq_false_iff_ne]; intro e; exact hl (by rw [e])) | (intro e; exact hl (by rw [e])) | skip
theorem c_szGroup {p : Bool} {x : Grp} {k : Int} (h0 : 0 ≤ k) (h1 : k ≤ 1048576) : PC ctx.P 139 [.agg (vA p x), .int .i64 k] (.int .i64 (szR x.waits.length k)) := by
  refine PC.o okC Tryz.func139 rfl (.int _ _) fun h nx hnx => ?_
  try simp [-qt, -qd, -ql, rgs, vA]
  repeat' first | done | ((first | ((with_reducible show zG _ _ _ 56 _ _); refine zD (zJ0 h0 h1) ?_)) <;> simp [-qt, -qd, -ql, rgs, vA]) | ((first | (with_reducible refine zA ?_ ?_)) <;> intro qb <;> (have qp := qb; try simp only [psq] at qp) <;> simp [-qt, -qd, -ql, rgs, vA, qb])
  all_goals (clear hnx; rcases uQ x.waits.length k with q | q <;> omega)
theorem c_szGroupS {p r : Bool} {xs : List Grp} {k : Int} (h0 : 0 ≤ k) (h1 : k ≤ 1048576) : PC ctx.P 54 [.view p 5 (xs.map (vA r)), .int .i64 k] (.int .i64 (szR (xs.length + zA4 (·.waits.length) xs) k)) := by
  refine PC.lim (n := xs.length) (x := .view p 5 (xs.map (vA r))) (by simp) (.here (by simp)) ⟨_, Tryz.func54, by kernel_rfl, by kernel_rfl⟩ fun hlim => ?_
  have hlim' := hlim
  simp only [LIM] at hlim
  refine PC.o okC Tryz.func54 rfl (.int _ _) fun h nx hnx => ?_
  try simp [-qt, -qd, -ql, rgs, zF (x := k - (xs.length : Int)) (by omega)]
  repeat' first | done | ((first | ((with_reducible show zT _ _ _ _ _ _); refine zB rfl fun _ => ?_) | ((with_reducible show zH _ _ _ _ _ _ _); refine zC rfl omA omA ?_)) <;> simp [-qt, -qd, -ql, rgs, zF (x := k - (xs.length : Int)) (by omega)]) | ((first | (with_reducible refine zA ?_ ?_)) <;> intro qb <;> (have qp := qb; try simp only [psq] at qp) <;> simp [-qt, -qd, -ql, rgs, zF (x := k - (xs.length : Int)) (by omega), qb])
  all_goals first | (clear hnx; rcases uQ (xs.length + zA4 (·.waits.length) xs) k with q | q <;> omega) | skip
  refine zU [1, 4, 5, 12, 13, 14, 15, 16, 17, 18, 19, 20, 21, 22, 23, 24, 25] (xs.length) (fun (i : Nat) a => [(5, .int .i64 i), (1, .int .i64 a)]) (fun i_ a_ h_ _ => (fun i (a : Int) _ => 0 ≤ a ∧ a ≤ 1048576 ∧ szR (zA4 (·.waits.length) (xs.drop i)) a = szR (xs.length + zA4 (·.waits.length) xs) k) i_ a_ h_) (k - xs.length) (by simp) ?_ zP (Nat.le_refl _) ?_
  · rcases uQ (xs.length + zA4 (·.waits.length) xs) k with q | q <;> rcases uQ (zA4 (·.waits.length) xs) (k - xs.length) with q' | q' <;> simp <;> omega
  · intro i a tm h' n' hle hJ hE hn' next hnx
    try dsimp only at hJ
    have hK : KeepB nx h' h := KeepB.sub hE zK (by omega)
    simp [-qt, -qd, -ql]
    try simp [-qt, -qd, -ql, rgs]
    repeat' first | done | ((first | ((with_reducible show zT _ _ _ _ _ _); refine zB rfl fun _ => ?_) | ((with_reducible show zH _ _ _ _ _ _ _); refine zC rfl omA omA ?_) | ((with_reducible show zG _ _ _ 139 _ _); refine zD (c_szGroup hJ.1 hJ.2.1) ?_)) <;> simp [-qt, -qd, -ql, rgs]) | ((first | (with_reducible refine zA ?_ ?_)) <;> intro qb <;> (have qp := qb; try simp only [psq] at qp) <;> simp [-qt, -qd, -ql, rgs, qb])
    · refine ⟨?_, zK⟩
      obtain ⟨j0, j1, j2⟩ := hJ
      rw [zS (by omega)] at j2
      rw [← j2]
      simp only [zA4]
      rcases uQ ((gt xs (i : Int)).waits.length) a with q | q <;> rcases uQ ((gt xs (i : Int)).waits.length + zA4 (·.waits.length) (xs.drop (i + 1))) a with q' | q' <;> omega
    · obtain ⟨j0, j1, j2⟩ := hJ
      rw [zS (by omega)] at j2
      refine hnx.go (szR (gt xs (i : Int)).waits.length a) ?_ ?_ ?_ ?_ ?_ ?_
      · omega
      · simp [zM (show i < xs.length by omega) hlim']
      · simp
      · exact zK
      · first | omega | (simp; omega)
      dsimp only
      rcases uQ ((gt xs (i : Int)).waits.length) a with q | q
      · omega
      refine ⟨by omega, by omega, ?_⟩
      rw [← j2]
      simp only [zA4]
      rcases uQ (zA4 (·.waits.length) (xs.drop (i + 1))) (szR ((gt xs (i : Int)).waits.length) a) with q1 | q1 <;> rcases uQ ((gt xs (i : Int)).waits.length + zA4 (·.waits.length) (xs.drop (i + 1))) a with q' | q' <;> omega
    · refine ⟨?_, zK⟩
      obtain ⟨j0, j1, j2⟩ := hJ
      rw [List.drop_eq_nil_of_le (by omega)] at j2
      rw [← j2]
      simp only [zA4]
      rcases uQ 0 a with q | q <;> omega

end Go.AE.Tryz
end

section
/- Contracts of the laws' helpers: worlds. -/
set_option linter.unusedSimpArgs false
set_option linter.unusedVariables false
set_option maxRecDepth 8000
set_option maxHeartbeats 4000000
namespace Go.AE.Tryz
open Go.Proofs
open List renaming map_take → qt, map_drop → qd, map_tail → ql
theorem c_eqSlots {F1 F2 : Nat → Bool} {x y : Slt} : PC ctx.P 189 [.agg (yW F1 x), .agg (yW F2 y)] (.bool (x == y)) := by
  rw [slt_beq]
  refine PC.o okC Tryz.func189 rfl (.bool _) fun h nx hnx => ?_
  try simp [-qt, -qd, -ql, rgs, yW]
  repeat' first | done | ((first | ((with_reducible show zG _ _ _ 78 _ _); refine zD (zJ2) ?_) | ((with_reducible show zG _ _ _ 186 _ _); refine zD (c_eqBoolS) ?_)) <;> simp [-qt, -qd, -ql, rgs, yW]) | ((first | (with_reducible refine zA ?_ ?_)) <;> intro qb <;> (have qp := qb; try simp only [psq] at qp) <;> simp [-qt, -qd, -ql, rgs, yW, qb])
  all_goals (try clear hnx)
  all_goals first | (simp_all []; done) | (simp_all []; omega) | (rw [Bool.eq_iff_iff]; simp_all []; done) | (rw [Bool.eq_iff_iff]; simp_all []; omega) | omega | (simp only []; grind) | grind
theorem c_szSlots {F : Nat → Bool} {s : Slt} {k : Int} (h0 : 0 ≤ k) (h1 : k ≤ 1048576) : PC ctx.P 137 [.agg (yW F s), .int .i64 k] (.int .i64 (szR (sltsz s) k)) := by
  rw [slt_szN s h0]
  refine PC.o okC Tryz.func137 rfl (.int _ _) fun h nx hnx => ?_
  try simp [-qt, -qd, -ql, rgs, yW]
  repeat' first | done | ((first | ((with_reducible show zG _ _ _ 56 _ _); refine zD (zJ0 (by first | assumption | omega) (by repeat (first | assumption | apply zD8))) ?_) | ((with_reducible show zG _ _ _ 134 _ _); refine zD (c_szBoolS (by first | assumption | omega) (by repeat (first | assumption | apply zD8))) ?_)) <;> simp [-qt, -qd, -ql, rgs, yW]) | ((first | (with_reducible refine zA ?_ ?_)) <;> intro qb <;> (have qp := qb; try simp only [psq] at qp) <;> simp [-qt, -qd, -ql, rgs, yW, qb])
  all_goals (clear hnx; simp only [szN]; repeat (first | rw [if_pos (by omega)] | rw [if_neg (by omega)]))

theorem c_eqSpread {F1 F2 : Nat → Bool} {x y : Spr} : PC ctx.P 72 [.agg (zE7 F1 x), .agg (zE7 F2 y)] (.bool (x == y)) := by
  rw [spr_beq]
  refine PC.o okC Tryz.func72 rfl (.bool _) fun h nx hnx => ?_
  try simp [-qt, -qd, -ql, rgs, zE7]
  repeat' first | done | ((first | ((with_reducible show zG _ _ _ 186 _ _); refine zD (c_eqBoolS) ?_) | ((with_reducible show zG _ _ _ 78 _ _); refine zD (zJ2) ?_)) <;> simp [-qt, -qd, -ql, rgs, zE7]) | ((first | (with_reducible refine zA ?_ ?_)) <;> intro qb <;> (have qp := qb; try simp only [psq] at qp) <;> simp [-qt, -qd, -ql, rgs, zE7, qb])
  all_goals (try clear hnx)
  all_goals first | (simp_all []; done) | (simp_all []; omega) | (rw [Bool.eq_iff_iff]; simp_all []; done) | (rw [Bool.eq_iff_iff]; simp_all []; omega) | omega | (simp only []; grind) | grind
theorem c_szSpread {F : Nat → Bool} {s : Spr} {k : Int} (h0 : 0 ≤ k) (h1 : k ≤ 1048576) : PC ctx.P 50 [.agg (zE7 F s), .int .i64 k] (.int .i64 (szR (sprsz s) k)) := by
  rw [spr_szN s h0]
  refine PC.o okC Tryz.func50 rfl (.int _ _) fun h nx hnx => ?_
  try simp [-qt, -qd, -ql, rgs, zE7]
  repeat' first | done | ((first | ((with_reducible show zG _ _ _ 134 _ _); refine zD (c_szBoolS (by first | assumption | omega) (by repeat (first | assumption | apply zD8))) ?_) | ((with_reducible show zG _ _ _ 56 _ _); refine zD (zJ0 (by first | assumption | omega) (by repeat (first | assumption | apply zD8))) ?_)) <;> simp [-qt, -qd, -ql, rgs, zE7]) | ((first | (with_reducible refine zA ?_ ?_)) <;> intro qb <;> (have qp := qb; try simp only [psq] at qp) <;> simp [-qt, -qd, -ql, rgs, zE7, qb])
  all_goals (clear hnx; simp only [szN]; repeat (first | rw [if_pos (by omega)] | rw [if_neg (by omega)]))

theorem c_eqTimers {F1 F2 : Nat → Bool} {x y : Tms} : PC ctx.P 73 [.agg (uT F1 x), .agg (uT F2 y)] (.bool (x == y)) := by
  rw [tms_beq]
  refine PC.o okC Tryz.func73 rfl (.bool _) fun h nx hnx => ?_
  try simp [-qt, -qd, -ql, rgs, uT]
  repeat' first | done | ((first | ((with_reducible show zG _ _ _ 187 _ _); refine zD (c_eqTwigS) ?_) | ((with_reducible show zG _ _ _ 188 _ _); refine zD (c_eqTimerS) ?_)) <;> simp [-qt, -qd, -ql, rgs, uT]) | ((first | (with_reducible refine zA ?_ ?_)) <;> intro qb <;> (have qp := qb; try simp only [psq] at qp) <;> simp [-qt, -qd, -ql, rgs, uT, qb])
  all_goals (try clear hnx)
  all_goals first | (simp_all []; done) | (simp_all []; omega) | (rw [Bool.eq_iff_iff]; simp_all []; done) | (rw [Bool.eq_iff_iff]; simp_all []; omega) | omega | (simp only []; grind) | grind
theorem c_szTimers {F : Nat → Bool} {s : Tms} {k : Int} (h0 : 0 ≤ k) (h1 : k ≤ 1048576) : PC ctx.P 51 [.agg (uT F s), .int .i64 k] (.int .i64 (szR (tmssz s) k)) := by
  rw [tms_szN s h0]
  refine PC.o okC Tryz.func51 rfl (.int _ _) fun h nx hnx => ?_
  try simp [-qt, -qd, -ql, rgs, uT]
  repeat' first | done | ((first | ((with_reducible show zG _ _ _ 135 _ _); refine zD (c_szTwigS (by first | assumption | omega) (by repeat (first | assumption | apply zD8))) ?_) | ((with_reducible show zG _ _ _ 136 _ _); refine zD (c_szTimerS (by first | assumption | omega) (by repeat (first | assumption | apply zD8))) ?_)) <;> simp [-qt, -qd, -ql, rgs, uT]) | ((first | (with_reducible refine zA ?_ ?_)) <;> intro qb <;> (have qp := qb; try simp only [psq] at qp) <;> simp [-qt, -qd, -ql, rgs, uT, qb])
  all_goals (clear hnx; simp only [szN]; repeat (first | rw [if_pos (by omega)] | rw [if_neg (by omega)]))

theorem c_eqAfters {F1 F2 : Nat → Bool} {x y : Afs} : PC ctx.P 74 [.agg (vD F1 x), .agg (vD F2 y)] (.bool (x == y)) := by
  rw [afs_beq]
  refine PC.o okC Tryz.func74 rfl (.bool _) fun h nx hnx => ?_
  try simp [-qt, -qd, -ql, rgs, vD, yW]
  repeat' first | done | ((first | ((with_reducible show zG _ _ _ 189 _ _); refine zD (c_eqSlots (x := x.slots) (y := y.slots) (F1 := F1) (F2 := F2)) ?_) | ((with_reducible show zG _ _ _ 190 _ _); refine zD (c_eqAfterS) ?_)) <;> simp [-qt, -qd, -ql, rgs, vD, yW]) | ((first | (with_reducible refine zA ?_ ?_)) <;> intro qb <;> (have qp := qb; try simp only [psq] at qp) <;> simp [-qt, -qd, -ql, rgs, vD, yW, qb])
  all_goals (try clear hnx)
  all_goals first | (simp_all []; done) | (simp_all []; omega) | (rw [Bool.eq_iff_iff]; simp_all []; done) | (rw [Bool.eq_iff_iff]; simp_all []; omega) | omega | (simp only []; grind) | grind
theorem c_szAfters {F : Nat → Bool} {s : Afs} {k : Int} (h0 : 0 ≤ k) (h1 : k ≤ 1048576) : PC ctx.P 52 [.agg (vD F s), .int .i64 k] (.int .i64 (szR (afssz s) k)) := by
  rw [afs_szN s h0]
  refine PC.o okC Tryz.func52 rfl (.int _ _) fun h nx hnx => ?_
  try simp [-qt, -qd, -ql, rgs, vD, yW]
  repeat' first | done | ((first | ((with_reducible show zG _ _ _ 137 _ _); refine zD (c_szSlots (s := s.slots) (F := F) (by first | assumption | omega) (by repeat (first | assumption | apply zD8))) ?_) | ((with_reducible show zG _ _ _ 138 _ _); refine zD (c_szAfterS (by first | assumption | omega) (by repeat (first | assumption | apply zD8))) ?_)) <;> simp [-qt, -qd, -ql, rgs, vD, yW]) | ((first | (with_reducible refine zA ?_ ?_)) <;> intro qb <;> (have qp := qb; try simp only [psq] at qp) <;> simp [-qt, -qd, -ql, rgs, vD, yW, qb])
  all_goals (clear hnx; simp only [szN]; repeat (first | rw [if_pos (by omega)] | rw [if_neg (by omega)]))

theorem zL2 {F1 F2 : Nat → Bool} {x y : Wld} : PC ctx.P 19 [.agg (wldV F1 x), .agg (wldV F2 y)] (.bool (x == y)) := by
  rw [wld_beq]
  refine PC.o okC Tryz.func19 rfl (.bool _) fun h nx hnx => ?_
  try simp [-qt, -qd, -ql, rgs, wldV, yW, zE7, uT, vD]
  repeat' first | done | ((first | ((with_reducible show zG _ _ _ 69 _ _); refine zD (c_eqInsSS) ?_) | ((with_reducible show zG _ _ _ 70 _ _); refine zD (c_eqNodeS) ?_) | ((with_reducible show zG _ _ _ 71 _ _); refine zD (c_eqEventS) ?_) | ((with_reducible show zG _ _ _ 72 _ _); refine zD (c_eqSpread (x := x.spread) (y := y.spread) (F1 := F1) (F2 := F2)) ?_) | ((with_reducible show zG _ _ _ 73 _ _); refine zD (c_eqTimers (x := x.timers) (y := y.timers) (F1 := F1) (F2 := F2)) ?_) | ((with_reducible show zG _ _ _ 74 _ _); refine zD (c_eqAfters (x := x.afters) (y := y.afters) (F1 := F1) (F2 := F2)) ?_) | ((with_reducible show zG _ _ _ 75 _ _); refine zD (c_eqTaskS) ?_) | ((with_reducible show zG _ _ _ 76 _ _); refine zD (c_eqGroupS) ?_) | ((with_reducible show zG _ _ _ 77 _ _); refine zD (c_eqSightS) ?_) | ((with_reducible show zG _ _ _ 78 _ _); refine zD (zJ2) ?_)) <;> simp [-qt, -qd, -ql, rgs, wldV, yW, zE7, uT, vD]) | ((first | (with_reducible refine zA ?_ ?_)) <;> intro qb <;> (have qp := qb; try simp only [psq] at qp) <;> simp [-qt, -qd, -ql, rgs, wldV, yW, zE7, uT, vD, qb])
  all_goals (try clear hnx)
  all_goals first | (simp_all []; done) | (simp_all []; omega) | (rw [Bool.eq_iff_iff]; simp_all []; done) | (rw [Bool.eq_iff_iff]; simp_all []; omega) | omega | (simp only []; grind) | grind
theorem c_szWorld {F : Nat → Bool} {s : Wld} {k : Int} (h0 : 0 ≤ k) (h1 : k ≤ 1048576) : PC ctx.P 15 [.agg (wldV F s), .int .i64 k] (.int .i64 (szR (zC4 s) k)) := by
  rw [wld_szN s h0]
  refine PC.o okC Tryz.func15 rfl (.int _ _) fun h nx hnx => ?_
  try simp [-qt, -qd, -ql, rgs, wldV, yW, zE7, uT, vD]
  repeat' first | done | ((first | ((with_reducible show zG _ _ _ 47 _ _); refine zD (c_szInsSS (by first | assumption | omega) (by repeat (first | assumption | apply zD8))) ?_) | ((with_reducible show zG _ _ _ 48 _ _); refine zD (c_szNodeS (by first | assumption | omega) (by repeat (first | assumption | apply zD8))) ?_) | ((with_reducible show zG _ _ _ 49 _ _); refine zD (c_szEventS (by first | assumption | omega) (by repeat (first | assumption | apply zD8))) ?_) | ((with_reducible show zG _ _ _ 50 _ _); refine zD (c_szSpread (s := s.spread) (F := F) (by first | assumption | omega) (by repeat (first | assumption | apply zD8))) ?_) | ((with_reducible show zG _ _ _ 51 _ _); refine zD (c_szTimers (s := s.timers) (F := F) (by first | assumption | omega) (by repeat (first | assumption | apply zD8))) ?_) | ((with_reducible show zG _ _ _ 52 _ _); refine zD (c_szAfters (s := s.afters) (F := F) (by first | assumption | omega) (by repeat (first | assumption | apply zD8))) ?_) | ((with_reducible show zG _ _ _ 53 _ _); refine zD (c_szTaskS (by first | assumption | omega) (by repeat (first | assumption | apply zD8))) ?_) | ((with_reducible show zG _ _ _ 54 _ _); refine zD (c_szGroupS (by first | assumption | omega) (by repeat (first | assumption | apply zD8))) ?_) | ((with_reducible show zG _ _ _ 55 _ _); refine zD (c_szSightS (by first | assumption | omega) (by repeat (first | assumption | apply zD8))) ?_) | ((with_reducible show zG _ _ _ 56 _ _); refine zD (zJ0 (by first | assumption | omega) (by repeat (first | assumption | apply zD8))) ?_)) <;> simp [-qt, -qd, -ql, rgs, wldV, yW, zE7, uT, vD]) | ((first | (with_reducible refine zA ?_ ?_)) <;> intro qb <;> (have qp := qb; try simp only [psq] at qp) <;> simp [-qt, -qd, -ql, rgs, wldV, yW, zE7, uT, vD, qb])
  all_goals (clear hnx; simp only [szN]; repeat (first | rw [if_pos (by omega)] | rw [if_neg (by omega)]))

end Go.AE.Tryz
end

section
/- Contracts of the laws' copies as new rows. -/
set_option linter.unusedSimpArgs false
set_option linter.unusedVariables false
set_option maxRecDepth 8000
set_option maxHeartbeats 2000000
namespace Go.AE.Tryz
open Go.Proofs
open List renaming map_take → qt, map_drop → qd, map_tail → ql


theorem f_toInsS {p : Bool} {xs : List Inn} (hm : xs.length ≤ yK) : FC ctx.P 149 [.view p 3 (xs.map vU)] (.ref 0 3 0 (xs.map vU).length) [.row 3 (xs.map vU)] := by
  have hlim : xs.length ≤ LIM := by simp only [yK, LIM] at *; omega
  refine FC.o1 okC Tryz.func149 rfl (zR innC_fz xs) fun h nx hnx => ?_
  try simp [-qt, -qd, -ql, rgs, hm]
  repeat' first | done | ((first | ((with_reducible show zT _ _ _ _ _ _); refine zB rfl fun _ => ?_) | ((with_reducible show zH _ _ _ _ _ _ _); refine zC rfl omA omA ?_)) <;> simp [-qt, -qd, -ql, rgs, hm]) | ((first | (with_reducible refine zA ?_ ?_)) <;> intro qb <;> (have qp := qb; try simp only [psq] at qp) <;> simp [-qt, -qd, -ql, rgs, hm, qb])
  refine zU (h0 := h) (nx0 := nx) [4, 8, 9, 10, 11, 12, 13, 14, 15, 16, 17, 18, 19, 20, 21] (xs.length) (fun (i : Nat) a => [(4, .int .i64 i)]) (fun i (_ : Unit) h' n' => h' (nx + 3) = some (.row 3 (zF3 vU [.int .i64 0, .int .i64 0, .int .i64 0] xs i)) ∧ nx + 4 ≤ n') (()) (by simp) ?_ zK (by omega) ?_
  · simp [zG1]
  · intro i a tm h' n' hle hJ hE hn' next hnx
    try dsimp only at hJ
    have hK : KeepB nx h' h := KeepB.sub hE zK (by omega)
    simp [-qt, -qd, -ql]
    obtain ⟨hJ, hJn⟩ := hJ
    try simp [-qt, -qd, -ql, rgs, hJ]
    repeat' first | done | ((first | ((with_reducible show zT _ _ _ _ _ _); refine zB rfl fun _ => ?_) | ((with_reducible show zH _ _ _ _ _ _ _); refine zC rfl omA omA ?_) | ((with_reducible show zG _ _ _ 257 _ _); refine zD (c_toIns) ?_) | ((with_reducible show zH _ _ _ _ (.ref _ _ _ _) _ _); refine yJ rfl omA omA ?_) | ((with_reducible show vZ _ _ _ _ _ _ _ _ _); refine uI hJ (by first | rfl | (simp; done)) (by simp) (by rfl) (by rfl) (by rfl) (by omega) ?_)) <;> simp [-qt, -qd, -ql, rgs, hJ]) | ((first | (with_reducible refine zA ?_ ?_)) <;> intro qb <;> (have qp := qb; try simp only [psq] at qp) <;> simp [-qt, -qd, -ql, rgs, hJ, qb])
    all_goals first
      | (have hlt : i < xs.length := (by first | omega | (simp at *; omega)); refine hnx.go () (by omega) (by simp [zM hlt hlim]) (by simp) zK (by first | omega | (simp; omega)) ?_; (try dsimp only); refine ⟨by simp, by first | omega | (simp; omega)⟩)
      | (rw [zE4 (by first | omega | (simp at *; omega))] at hJ; exact vI zK (by first | omega | (simp; omega)) (by omega) (by simp [hJ]) rfl (by simp))

theorem f_toNodeS {p : Bool} {xs : List Nod} (hm : xs.length ≤ yK) : FC ctx.P 59 [.view p 5 (xs.map vE)] (.ref 0 5 0 (xs.map vE).length) [.row 5 (xs.map vE)] := by
  have hlim : xs.length ≤ LIM := by simp only [yK, LIM] at *; omega
  refine FC.o1 okC Tryz.func59 rfl (zR nodC_fz xs) fun h nx hnx => ?_
  try simp [-qt, -qd, -ql, rgs, hm]
  repeat' first | done | ((first | ((with_reducible show zT _ _ _ _ _ _); refine zB rfl fun _ => ?_) | ((with_reducible show zH _ _ _ _ _ _ _); refine zC rfl omA omA ?_)) <;> simp [-qt, -qd, -ql, rgs, hm]) | ((first | (with_reducible refine zA ?_ ?_)) <;> intro qb <;> (have qp := qb; try simp only [psq] at qp) <;> simp [-qt, -qd, -ql, rgs, hm, qb])
  refine zU (h0 := h) (nx0 := nx) [4, 8, 9, 10, 11, 12, 13, 14, 15, 16, 17, 18, 19, 20, 21] (xs.length) (fun (i : Nat) a => [(4, .int .i64 i)]) (fun i (_ : Unit) h' n' => h' (nx + 3) = some (.row 5 (zF3 vE [.int .i64 0, .int .i64 0, .int .i64 0, .int .i64 0, .int .i64 0] xs i)) ∧ nx + 4 ≤ n') (()) (by simp) ?_ zK (by omega) ?_
  · simp [zG1]
  · intro i a tm h' n' hle hJ hE hn' next hnx
    try dsimp only at hJ
    have hK : KeepB nx h' h := KeepB.sub hE zK (by omega)
    simp [-qt, -qd, -ql]
    obtain ⟨hJ, hJn⟩ := hJ
    try simp [-qt, -qd, -ql, rgs, hJ]
    repeat' first | done | ((first | ((with_reducible show zT _ _ _ _ _ _); refine zB rfl fun _ => ?_) | ((with_reducible show zH _ _ _ _ _ _ _); refine zC rfl omA omA ?_) | ((with_reducible show zG _ _ _ 150 _ _); refine zD (c_toNode) ?_) | ((with_reducible show zH _ _ _ _ (.ref _ _ _ _) _ _); refine yJ rfl omA omA ?_) | ((with_reducible show vZ _ _ _ _ _ _ _ _ _); refine uI hJ (by first | rfl | (simp; done)) (by simp) (by rfl) (by rfl) (by rfl) (by omega) ?_)) <;> simp [-qt, -qd, -ql, rgs, hJ]) | ((first | (with_reducible refine zA ?_ ?_)) <;> intro qb <;> (have qp := qb; try simp only [psq] at qp) <;> simp [-qt, -qd, -ql, rgs, hJ, qb])
    all_goals first
      | (have hlt : i < xs.length := (by first | omega | (simp at *; omega)); refine hnx.go () (by omega) (by simp [zM hlt hlim]) (by simp) zK (by first | omega | (simp; omega)) ?_; (try dsimp only); refine ⟨by simp, by first | omega | (simp; omega)⟩)
      | (rw [zE4 (by first | omega | (simp at *; omega))] at hJ; exact vI zK (by first | omega | (simp; omega)) (by omega) (by simp [hJ]) rfl (by simp))

theorem f_toEventS {p : Bool} {xs : List Evt} (hm : xs.length ≤ yK) : FC ctx.P 60 [.view p 4 (xs.map vK)] (.ref 0 4 0 (xs.map vK).length) [.row 4 (xs.map vK)] := by
  have hlim : xs.length ≤ LIM := by simp only [yK, LIM] at *; omega
  refine FC.o1 okC Tryz.func60 rfl (zR zK5 xs) fun h nx hnx => ?_
  try simp [-qt, -qd, -ql, rgs, hm]
  repeat' first | done | ((first | ((with_reducible show zT _ _ _ _ _ _); refine zB rfl fun _ => ?_) | ((with_reducible show zH _ _ _ _ _ _ _); refine zC rfl omA omA ?_)) <;> simp [-qt, -qd, -ql, rgs, hm]) | ((first | (with_reducible refine zA ?_ ?_)) <;> intro qb <;> (have qp := qb; try simp only [psq] at qp) <;> simp [-qt, -qd, -ql, rgs, hm, qb])
  refine zU (h0 := h) (nx0 := nx) [4, 8, 9, 10, 11, 12, 13, 14, 15, 16, 17, 18, 19, 20, 21] (xs.length) (fun (i : Nat) a => [(4, .int .i64 i)]) (fun i (_ : Unit) h' n' => h' (nx + 3) = some (.row 4 (zF3 vK [.int .i64 0, .int .i64 0, .int .i64 0, .int .i64 0] xs i)) ∧ nx + 4 ≤ n') (()) (by simp) ?_ zK (by omega) ?_
  · simp [zG1]
  · intro i a tm h' n' hle hJ hE hn' next hnx
    try dsimp only at hJ
    have hK : KeepB nx h' h := KeepB.sub hE zK (by omega)
    simp [-qt, -qd, -ql]
    obtain ⟨hJ, hJn⟩ := hJ
    try simp [-qt, -qd, -ql, rgs, hJ]
    repeat' first | done | ((first | ((with_reducible show zT _ _ _ _ _ _); refine zB rfl fun _ => ?_) | ((with_reducible show zH _ _ _ _ _ _ _); refine zC rfl omA omA ?_) | ((with_reducible show zG _ _ _ 151 _ _); refine zD (c_toEvent) ?_) | ((with_reducible show zH _ _ _ _ (.ref _ _ _ _) _ _); refine yJ rfl omA omA ?_) | ((with_reducible show vZ _ _ _ _ _ _ _ _ _); refine uI hJ (by first | rfl | (simp; done)) (by simp) (by rfl) (by rfl) (by rfl) (by omega) ?_)) <;> simp [-qt, -qd, -ql, rgs, hJ]) | ((first | (with_reducible refine zA ?_ ?_)) <;> intro qb <;> (have qp := qb; try simp only [psq] at qp) <;> simp [-qt, -qd, -ql, rgs, hJ, qb])
    all_goals first
      | (have hlt : i < xs.length := (by first | omega | (simp at *; omega)); refine hnx.go () (by omega) (by simp [zM hlt hlim]) (by simp) zK (by first | omega | (simp; omega)) ?_; (try dsimp only); refine ⟨by simp, by first | omega | (simp; omega)⟩)
      | (rw [zE4 (by first | omega | (simp at *; omega))] at hJ; exact vI zK (by first | omega | (simp; omega)) (by omega) (by simp [hJ]) rfl (by simp))

theorem f_toTwigS {p : Bool} {xs : List Twg} (hm : xs.length ≤ yK) : FC ctx.P 153 [.view p 3 (xs.map yX)] (.ref 0 3 0 (xs.map yX).length) [.row 3 (xs.map yX)] := by
  have hlim : xs.length ≤ LIM := by simp only [yK, LIM] at *; omega
  refine FC.o1 okC Tryz.func153 rfl (zR uA xs) fun h nx hnx => ?_
  try simp [-qt, -qd, -ql, rgs, hm]
  repeat' first | done | ((first | ((with_reducible show zT _ _ _ _ _ _); refine zB rfl fun _ => ?_) | ((with_reducible show zH _ _ _ _ _ _ _); refine zC rfl omA omA ?_)) <;> simp [-qt, -qd, -ql, rgs, hm]) | ((first | (with_reducible refine zA ?_ ?_)) <;> intro qb <;> (have qp := qb; try simp only [psq] at qp) <;> simp [-qt, -qd, -ql, rgs, hm, qb])
  refine zU (h0 := h) (nx0 := nx) [4, 8, 9, 10, 11, 12, 13, 14, 15, 16, 17, 18, 19, 20, 21] (xs.length) (fun (i : Nat) a => [(4, .int .i64 i)]) (fun i (_ : Unit) h' n' => h' (nx + 3) = some (.row 3 (zF3 yX [.int .i64 0, .int .i64 0, .int .i64 0] xs i)) ∧ nx + 4 ≤ n') (()) (by simp) ?_ zK (by omega) ?_
  · simp [zG1]
  · intro i a tm h' n' hle hJ hE hn' next hnx
    try dsimp only at hJ
    have hK : KeepB nx h' h := KeepB.sub hE zK (by omega)
    simp [-qt, -qd, -ql]
    obtain ⟨hJ, hJn⟩ := hJ
    try simp [-qt, -qd, -ql, rgs, hJ]
    repeat' first | done | ((first | ((with_reducible show zT _ _ _ _ _ _); refine zB rfl fun _ => ?_) | ((with_reducible show zH _ _ _ _ _ _ _); refine zC rfl omA omA ?_) | ((with_reducible show zG _ _ _ 258 _ _); refine zD (c_toTwig) ?_) | ((with_reducible show zH _ _ _ _ (.ref _ _ _ _) _ _); refine yJ rfl omA omA ?_) | ((with_reducible show vZ _ _ _ _ _ _ _ _ _); refine uI hJ (by first | rfl | (simp; done)) (by simp) (by rfl) (by rfl) (by rfl) (by omega) ?_)) <;> simp [-qt, -qd, -ql, rgs, hJ]) | ((first | (with_reducible refine zA ?_ ?_)) <;> intro qb <;> (have qp := qb; try simp only [psq] at qp) <;> simp [-qt, -qd, -ql, rgs, hJ, qb])
    all_goals first
      | (have hlt : i < xs.length := (by first | omega | (simp at *; omega)); refine hnx.go () (by omega) (by simp [zM hlt hlim]) (by simp) zK (by first | omega | (simp; omega)) ?_; (try dsimp only); refine ⟨by simp, by first | omega | (simp; omega)⟩)
      | (rw [zE4 (by first | omega | (simp at *; omega))] at hJ; exact vI zK (by first | omega | (simp; omega)) (by omega) (by simp [hJ]) rfl (by simp))

theorem f_toTimerS {p : Bool} {xs : List Tmr} (hm : xs.length ≤ yK) : FC ctx.P 154 [.view p 5 (xs.map vN)] (.ref 0 5 0 (xs.map vN).length) [.row 5 (xs.map vN)] := by
  have hlim : xs.length ≤ LIM := by simp only [yK, LIM] at *; omega
  refine FC.o1 okC Tryz.func154 rfl (zR zB0 xs) fun h nx hnx => ?_
  try simp [-qt, -qd, -ql, rgs, hm]
  repeat' first | done | ((first | ((with_reducible show zT _ _ _ _ _ _); refine zB rfl fun _ => ?_) | ((with_reducible show zH _ _ _ _ _ _ _); refine zC rfl omA omA ?_)) <;> simp [-qt, -qd, -ql, rgs, hm]) | ((first | (with_reducible refine zA ?_ ?_)) <;> intro qb <;> (have qp := qb; try simp only [psq] at qp) <;> simp [-qt, -qd, -ql, rgs, hm, qb])
  refine zU (h0 := h) (nx0 := nx) [4, 8, 9, 10, 11, 12, 13, 14, 15, 16, 17, 18, 19, 20, 21] (xs.length) (fun (i : Nat) a => [(4, .int .i64 i)]) (fun i (_ : Unit) h' n' => h' (nx + 3) = some (.row 5 (zF3 vN [.int .i64 0, .int .i64 0, .int .i64 0, .int .i64 0, .bool false] xs i)) ∧ nx + 4 ≤ n') (()) (by simp) ?_ zK (by omega) ?_
  · simp [zG1]
  · intro i a tm h' n' hle hJ hE hn' next hnx
    try dsimp only at hJ
    have hK : KeepB nx h' h := KeepB.sub hE zK (by omega)
    simp [-qt, -qd, -ql]
    obtain ⟨hJ, hJn⟩ := hJ
    try simp [-qt, -qd, -ql, rgs, hJ]
    repeat' first | done | ((first | ((with_reducible show zT _ _ _ _ _ _); refine zB rfl fun _ => ?_) | ((with_reducible show zH _ _ _ _ _ _ _); refine zC rfl omA omA ?_) | ((with_reducible show zG _ _ _ 259 _ _); refine zD (c_toTimer) ?_) | ((with_reducible show zH _ _ _ _ (.ref _ _ _ _) _ _); refine yJ rfl omA omA ?_) | ((with_reducible show vZ _ _ _ _ _ _ _ _ _); refine uI hJ (by first | rfl | (simp; done)) (by simp) (by rfl) (by rfl) (by rfl) (by omega) ?_)) <;> simp [-qt, -qd, -ql, rgs, hJ]) | ((first | (with_reducible refine zA ?_ ?_)) <;> intro qb <;> (have qp := qb; try simp only [psq] at qp) <;> simp [-qt, -qd, -ql, rgs, hJ, qb])
    all_goals first
      | (have hlt : i < xs.length := (by first | omega | (simp at *; omega)); refine hnx.go () (by omega) (by simp [zM hlt hlim]) (by simp) zK (by first | omega | (simp; omega)) ?_; (try dsimp only); refine ⟨by simp, by first | omega | (simp; omega)⟩)
      | (rw [zE4 (by first | omega | (simp at *; omega))] at hJ; exact vI zK (by first | omega | (simp; omega)) (by omega) (by simp [hJ]) rfl (by simp))

theorem f_toAfterS {p : Bool} {xs : List Afr} (hm : xs.length ≤ yK) : FC ctx.P 156 [.view p 5 (xs.map yI)] (.ref 0 5 0 (xs.map yI).length) [.row 5 (xs.map yI)] := by
  have hlim : xs.length ≤ LIM := by simp only [yK, LIM] at *; omega
  refine FC.o1 okC Tryz.func156 rfl (zR zA0 xs) fun h nx hnx => ?_
  try simp [-qt, -qd, -ql, rgs, hm]
  repeat' first | done | ((first | ((with_reducible show zT _ _ _ _ _ _); refine zB rfl fun _ => ?_) | ((with_reducible show zH _ _ _ _ _ _ _); refine zC rfl omA omA ?_)) <;> simp [-qt, -qd, -ql, rgs, hm]) | ((first | (with_reducible refine zA ?_ ?_)) <;> intro qb <;> (have qp := qb; try simp only [psq] at qp) <;> simp [-qt, -qd, -ql, rgs, hm, qb])
  refine zU (h0 := h) (nx0 := nx) [4, 8, 9, 10, 11, 12, 13, 14, 15, 16, 17, 18, 19, 20, 21] (xs.length) (fun (i : Nat) a => [(4, .int .i64 i)]) (fun i (_ : Unit) h' n' => h' (nx + 3) = some (.row 5 (zF3 yI [.int .i64 0, .int .i64 0, .int .i64 0, .int .i64 0, .bool false] xs i)) ∧ nx + 4 ≤ n') (()) (by simp) ?_ zK (by omega) ?_
  · simp [zG1]
  · intro i a tm h' n' hle hJ hE hn' next hnx
    try dsimp only at hJ
    have hK : KeepB nx h' h := KeepB.sub hE zK (by omega)
    simp [-qt, -qd, -ql]
    obtain ⟨hJ, hJn⟩ := hJ
    try simp [-qt, -qd, -ql, rgs, hJ]
    repeat' first | done | ((first | ((with_reducible show zT _ _ _ _ _ _); refine zB rfl fun _ => ?_) | ((with_reducible show zH _ _ _ _ _ _ _); refine zC rfl omA omA ?_) | ((with_reducible show zG _ _ _ 260 _ _); refine zD (c_toAfter) ?_) | ((with_reducible show zH _ _ _ _ (.ref _ _ _ _) _ _); refine yJ rfl omA omA ?_) | ((with_reducible show vZ _ _ _ _ _ _ _ _ _); refine uI hJ (by first | rfl | (simp; done)) (by simp) (by rfl) (by rfl) (by rfl) (by omega) ?_)) <;> simp [-qt, -qd, -ql, rgs, hJ]) | ((first | (with_reducible refine zA ?_ ?_)) <;> intro qb <;> (have qp := qb; try simp only [psq] at qp) <;> simp [-qt, -qd, -ql, rgs, hJ, qb])
    all_goals first
      | (have hlt : i < xs.length := (by first | omega | (simp at *; omega)); refine hnx.go () (by omega) (by simp [zM hlt hlim]) (by simp) zK (by first | omega | (simp; omega)) ?_; (try dsimp only); refine ⟨by simp, by first | omega | (simp; omega)⟩)
      | (rw [zE4 (by first | omega | (simp at *; omega))] at hJ; exact vI zK (by first | omega | (simp; omega)) (by omega) (by simp [hJ]) rfl (by simp))

theorem f_toTaskS {p : Bool} {xs : List Tsk} (hm : xs.length ≤ yK) : FC ctx.P 64 [.view p 9 (xs.map vQ)] (.ref 0 9 0 (xs.map vQ).length) [.row 9 (xs.map vQ)] := by
  have hlim : xs.length ≤ LIM := by simp only [yK, LIM] at *; omega
  refine FC.o1 okC Tryz.func64 rfl (zR tskC_fz xs) fun h nx hnx => ?_
  try simp [-qt, -qd, -ql, rgs, hm]
  repeat' first | done | ((first | ((with_reducible show zT _ _ _ _ _ _); refine zB rfl fun _ => ?_) | ((with_reducible show zH _ _ _ _ _ _ _); refine zC rfl omA omA ?_)) <;> simp [-qt, -qd, -ql, rgs, hm]) | ((first | (with_reducible refine zA ?_ ?_)) <;> intro qb <;> (have qp := qb; try simp only [psq] at qp) <;> simp [-qt, -qd, -ql, rgs, hm, qb])
  refine zU (h0 := h) (nx0 := nx) [4, 8, 9, 10, 11, 12, 13, 14, 15, 16, 17, 18, 19, 20, 21] (xs.length) (fun (i : Nat) a => [(4, .int .i64 i)]) (fun i (_ : Unit) h' n' => h' (nx + 3) = some (.row 9 (zF3 vQ [.int .i64 0, .int .i64 0, .int .i64 0, .int .i64 0, .int .i64 0, .int .i64 0, .int .i64 0, .int .i64 0, .int .i64 0] xs i)) ∧ nx + 4 ≤ n') (()) (by simp) ?_ zK (by omega) ?_
  · simp [zG1]
  · intro i a tm h' n' hle hJ hE hn' next hnx
    try dsimp only at hJ
    have hK : KeepB nx h' h := KeepB.sub hE zK (by omega)
    simp [-qt, -qd, -ql]
    obtain ⟨hJ, hJn⟩ := hJ
    try simp [-qt, -qd, -ql, rgs, hJ]
    repeat' first | done | ((first | ((with_reducible show zT _ _ _ _ _ _); refine zB rfl fun _ => ?_) | ((with_reducible show zH _ _ _ _ _ _ _); refine zC rfl omA omA ?_) | ((with_reducible show zG _ _ _ 157 _ _); refine zD (c_toTask) ?_) | ((with_reducible show zH _ _ _ _ (.ref _ _ _ _) _ _); refine yJ rfl omA omA ?_) | ((with_reducible show vZ _ _ _ _ _ _ _ _ _); refine uI hJ (by first | rfl | (simp; done)) (by simp) (by rfl) (by rfl) (by rfl) (by omega) ?_)) <;> simp [-qt, -qd, -ql, rgs, hJ]) | ((first | (with_reducible refine zA ?_ ?_)) <;> intro qb <;> (have qp := qb; try simp only [psq] at qp) <;> simp [-qt, -qd, -ql, rgs, hJ, qb])
    all_goals first
      | (have hlt : i < xs.length := (by first | omega | (simp at *; omega)); refine hnx.go () (by omega) (by simp [zM hlt hlim]) (by simp) zK (by first | omega | (simp; omega)) ?_; (try dsimp only); refine ⟨by simp, by first | omega | (simp; omega)⟩)
      | (rw [zE4 (by first | omega | (simp at *; omega))] at hJ; exact vI zK (by first | omega | (simp; omega)) (by omega) (by simp [hJ]) rfl (by simp))

theorem f_toSightS {p : Bool} {xs : List Sgt} (hm : xs.length ≤ yK) : FC ctx.P 66 [.view p 4 (xs.map uP)] (.ref 0 4 0 (xs.map uP).length) [.row 4 (xs.map uP)] := by
  have hlim : xs.length ≤ LIM := by simp only [yK, LIM] at *; omega
  refine FC.o1 okC Tryz.func66 rfl (zR sgtC_fz xs) fun h nx hnx => ?_
  try simp [-qt, -qd, -ql, rgs, hm]
  repeat' first | done | ((first | ((with_reducible show zT _ _ _ _ _ _); refine zB rfl fun _ => ?_) | ((with_reducible show zH _ _ _ _ _ _ _); refine zC rfl omA omA ?_)) <;> simp [-qt, -qd, -ql, rgs, hm]) | ((first | (with_reducible refine zA ?_ ?_)) <;> intro qb <;> (have qp := qb; try simp only [psq] at qp) <;> simp [-qt, -qd, -ql, rgs, hm, qb])
  refine zU (h0 := h) (nx0 := nx) [4, 8, 9, 10, 11, 12, 13, 14, 15, 16, 17, 18, 19, 20, 21] (xs.length) (fun (i : Nat) a => [(4, .int .i64 i)]) (fun i (_ : Unit) h' n' => h' (nx + 3) = some (.row 4 (zF3 uP [.int .i64 0, .int .i64 0, .int .i64 0, .int .i64 0] xs i)) ∧ nx + 4 ≤ n') (()) (by simp) ?_ zK (by omega) ?_
  · simp [zG1]
  · intro i a tm h' n' hle hJ hE hn' next hnx
    try dsimp only at hJ
    have hK : KeepB nx h' h := KeepB.sub hE zK (by omega)
    simp [-qt, -qd, -ql]
    obtain ⟨hJ, hJn⟩ := hJ
    try simp [-qt, -qd, -ql, rgs, hJ]
    repeat' first | done | ((first | ((with_reducible show zT _ _ _ _ _ _); refine zB rfl fun _ => ?_) | ((with_reducible show zH _ _ _ _ _ _ _); refine zC rfl omA omA ?_) | ((with_reducible show zG _ _ _ 159 _ _); refine zD (c_toSight) ?_) | ((with_reducible show zH _ _ _ _ (.ref _ _ _ _) _ _); refine yJ rfl omA omA ?_) | ((with_reducible show vZ _ _ _ _ _ _ _ _ _); refine uI hJ (by first | rfl | (simp; done)) (by simp) (by rfl) (by rfl) (by rfl) (by omega) ?_)) <;> simp [-qt, -qd, -ql, rgs, hJ]) | ((first | (with_reducible refine zA ?_ ?_)) <;> intro qb <;> (have qp := qb; try simp only [psq] at qp) <;> simp [-qt, -qd, -ql, rgs, hJ, qb])
    all_goals first
      | (have hlt : i < xs.length := (by first | omega | (simp at *; omega)); refine hnx.go () (by omega) (by simp [zM hlt hlim]) (by simp) zK (by first | omega | (simp; omega)) ?_; (try dsimp only); refine ⟨by simp, by first | omega | (simp; omega)⟩)
      | (rw [zE4 (by first | omega | (simp at *; omega))] at hJ; exact vI zK (by first | omega | (simp; omega)) (by omega) (by simp [hJ]) rfl (by simp))



theorem zJ1 {p : Bool} {xs : List Int} (hm : xs.length ≤ yK) : FC ctx.P 67 [.view p 1 (xs.map iv)] (.ref 0 1 0 (xs.map iv).length) [.row 1 (xs.map iv)] := by
  have hlim : xs.length ≤ LIM := by simp only [yK, LIM] at *; omega
  refine FC.o1 okC Tryz.func67 rfl (zR zC3 xs) fun h nx hnx => ?_
  try simp [-qt, -qd, -ql, rgs, hm]
  repeat' first | done | ((first | ((with_reducible show zT _ _ _ _ _ _); refine zB rfl fun _ => ?_) | ((with_reducible show zH _ _ _ _ _ _ _); refine zC rfl omA omA ?_)) <;> simp [-qt, -qd, -ql, rgs, hm]) | ((first | (with_reducible refine zA ?_ ?_)) <;> intro qb <;> (have qp := qb; try simp only [psq] at qp) <;> simp [-qt, -qd, -ql, rgs, hm, qb])
  refine zU (h0 := h) (nx0 := nx) [4, 8, 9, 10, 11, 12, 13, 14, 15, 16, 17, 18, 19, 20] (xs.length) (fun (i : Nat) a => [(4, .int .i64 i)]) (fun i (_ : Unit) h' n' => h' (nx + 3) = some (.row 1 (zF3 iv [.int .i64 0] xs i)) ∧ nx + 4 ≤ n') (()) (by simp) ?_ zK (by omega) ?_
  · simp [zG1]
  · intro i a tm h' n' hle hJ hE hn' next hnx
    try dsimp only at hJ
    have hK : KeepB nx h' h := KeepB.sub hE zK (by omega)
    simp [-qt, -qd, -ql]
    obtain ⟨hJ, hJn⟩ := hJ
    try simp [-qt, -qd, -ql, rgs, hJ, iv]
    repeat' first | done | ((first | ((with_reducible show zT _ _ _ _ _ _); refine zB rfl fun _ => ?_) | ((with_reducible show zH _ _ _ _ _ _ _); refine zC rfl omA omA ?_) | ((with_reducible show zH _ _ _ _ (.ref _ _ _ _) _ _); refine yJ rfl omA omA ?_) | ((with_reducible show vZ _ _ _ _ _ _ _ _ _); refine uI hJ (by first | rfl | (simp; done)) (by simp) (by rfl) (by rfl) (by rfl) (by omega) ?_)) <;> simp [-qt, -qd, -ql, rgs, hJ, iv]) | ((first | (with_reducible refine zA ?_ ?_)) <;> intro qb <;> (have qp := qb; try simp only [psq] at qp) <;> simp [-qt, -qd, -ql, rgs, hJ, iv, qb])
    all_goals first
      | (have hlt : i < xs.length := (by first | omega | (simp at *; omega)); refine hnx.go () (by omega) (by simp [zM hlt hlim]) (by simp) zK (by first | omega | (simp; omega)) ?_; (try dsimp only); refine ⟨by simp, by first | omega | (simp; omega)⟩)
      | (rw [zE4 (by first | omega | (simp at *; omega))] at hJ; exact vI zK (by first | omega | (simp; omega)) (by omega) (by simp [hJ]) rfl (by simp))

theorem f_toBoolS {p : Bool} {xs : List Bool} (hm : xs.length ≤ yK) : FC ctx.P 152 [.view p 1 (xs.map bv)] (.ref 0 1 0 (xs.map bv).length) [.row 1 (xs.map bv)] := by
  have hlim : xs.length ≤ LIM := by simp only [yK, LIM] at *; omega
  refine FC.o1 okC Tryz.func152 rfl (zR zG3 xs) fun h nx hnx => ?_
  try simp [-qt, -qd, -ql, rgs, hm]
  repeat' first | done | ((first | ((with_reducible show zT _ _ _ _ _ _); refine zB rfl fun _ => ?_) | ((with_reducible show zH _ _ _ _ _ _ _); refine zC rfl omA omA ?_)) <;> simp [-qt, -qd, -ql, rgs, hm]) | ((first | (with_reducible refine zA ?_ ?_)) <;> intro qb <;> (have qp := qb; try simp only [psq] at qp) <;> simp [-qt, -qd, -ql, rgs, hm, qb])
  refine zU (h0 := h) (nx0 := nx) [4, 8, 9, 10, 11, 12, 13, 14, 15, 16, 17, 18, 19, 20] (xs.length) (fun (i : Nat) a => [(4, .int .i64 i)]) (fun i (_ : Unit) h' n' => h' (nx + 3) = some (.row 1 (zF3 bv [.bool false] xs i)) ∧ nx + 4 ≤ n') (()) (by simp) ?_ zK (by omega) ?_
  · simp [zG1]
  · intro i a tm h' n' hle hJ hE hn' next hnx
    try dsimp only at hJ
    have hK : KeepB nx h' h := KeepB.sub hE zK (by omega)
    simp [-qt, -qd, -ql]
    obtain ⟨hJ, hJn⟩ := hJ
    try simp [-qt, -qd, -ql, rgs, hJ, bv]
    repeat' first | done | ((first | ((with_reducible show zT _ _ _ _ _ _); refine zB rfl fun _ => ?_) | ((with_reducible show zH _ _ _ _ _ _ _); refine zC rfl omA omA ?_) | ((with_reducible show zH _ _ _ _ (.ref _ _ _ _) _ _); refine yJ rfl omA omA ?_) | ((with_reducible show vZ _ _ _ _ _ _ _ _ _); refine uI hJ (by first | rfl | (simp; done)) (by simp) (by rfl) (by rfl) (by rfl) (by omega) ?_)) <;> simp [-qt, -qd, -ql, rgs, hJ, bv]) | ((first | (with_reducible refine zA ?_ ?_)) <;> intro qb <;> (have qp := qb; try simp only [psq] at qp) <;> simp [-qt, -qd, -ql, rgs, hJ, bv, qb])
    all_goals first
      | (have hlt : i < xs.length := (by first | omega | (simp at *; omega)); refine hnx.go () (by omega) (by simp [zM hlt hlim]) (by simp) zK (by first | omega | (simp; omega)) ?_; (try dsimp only); refine ⟨by simp, by first | omega | (simp; omega)⟩)
      | (rw [zE4 (by first | omega | (simp at *; omega))] at hJ; exact vI zK (by first | omega | (simp; omega)) (by omega) (by simp [hJ]) rfl (by simp))

end Go.AE.Tryz
end

section
/- Contracts of the laws' copies of worlds as new rows. -/
set_option linter.unusedSimpArgs false
set_option linter.unusedVariables false
set_option maxRecDepth 8000
set_option maxHeartbeats 2000000
namespace Go.AE.Tryz
open Go.Proofs
open List renaming map_take → qt, map_drop → qd, map_tail → ql
theorem w_toInsSS {p r : Bool} {xs : List (List Inn)} (hm : xs.length ≤ yK) (hi : ∀ x ∈ xs, x.length ≤ yK) : AC ctx.P 58 [.view p 1 (xs.map (zB6 r))] (fun _ _ => True)
    (fun h nx v h' nx' => KeepB nx h' h ∧ ∃ id is, v = .ref id 1 0 xs.length ∧ h' id = some (.row 1 (List.zipWith prgR xs is)) ∧ is.length = xs.length ∧ nx ≤ id ∧ id < nx' ∧ Subs h' 3 (fun x : List Inn => x.map vU) xs is (id + 1) nx') := by
  have hlim : xs.length ≤ LIM := by simp only [yK, LIM] at *; omega
  refine AC.o okC Tryz.func58 rfl fun h nx hfr hnx hpre => ?_
  try simp [-qt, -qd, -ql, rgs, hm]
  repeat' first | done | ((first | ((with_reducible show zT _ _ _ _ _ _); refine zB rfl fun _ => ?_) | ((with_reducible show zH _ _ _ _ _ _ _); refine zC rfl omA omA ?_)) <;> simp [-qt, -qd, -ql, rgs, hm]) | ((first | (with_reducible refine zA ?_ ?_)) <;> intro qb <;> (have qp := qb; try simp only [psq] at qp) <;> simp [-qt, -qd, -ql, rgs, hm, qb])
  refine zU (h0 := h) (nx0 := nx) [4, 8, 9, 10, 11, 12, 13, 14, 15, 16, 17, 18, 19, 20, 21] (xs.length) (fun (i : Nat) a => [(4, .int .i64 i)]) (fun i (a : List Nat) h' n' => a.length = i ∧ h' (nx + 3) = some (.row 1 (fillZ prgR [.nil] xs a)) ∧ Subs h' 3 (fun x : List Inn => x.map vU) xs a (nx + 4) n' ∧ nx + 4 ≤ n') ([]) (by simp) ?_ zK (by omega) ?_
  · simp [fillZ_0, Subs.nil]
  · intro i a tm h' n' hle hJ hE hn' next hnx
    try dsimp only at hJ
    have hK : KeepB nx h' h := KeepB.sub hE zK (by omega)
    simp [-qt, -qd, -ql]
    obtain ⟨hJa, hJ, hS, hJn⟩ := hJ
    have k1 : ∀ k, (nx + 3 = n' + k) = False := fun k => by simp only [eq_iff_iff, iff_false]; omega
    subst hJa
    by_cases hlt : a.length < xs.length
    · try simp [-qt, -qd, -ql, rgs, hJ, zB6, k1]
      repeat' first | done | ((first | ((with_reducible show zT _ _ _ _ _ _); refine zB rfl fun _ => ?_) | ((with_reducible show zH _ _ _ _ _ _ _); refine zC rfl omA omA ?_) | ((with_reducible show zG _ _ _ 149 _ _); refine yF (f_toInsS (hi _ (zC7 (by omega) (by omega)))) ?_) | (((with_reducible show zH _ _ _ _ (.ref _ _ _ _) _ _); refine yJ rfl (by omega) (by omega) ?_)) | (((with_reducible show vZ _ _ _ _ _ _ _ _ _); refine zF1 (sz := 1) (xs := fillZ prgR [.nil] xs a) (cells := [.nil]) (by simp [hJ]; omega) rfl rfl rfl (fillZ_get hlt) rfl ?_))) <;> simp [-qt, -qd, -ql, rgs, hJ, zB6, k1]) | ((first | (with_reducible refine zA ?_ ?_)) <;> intro qb <;> (have qp := qb; try simp only [psq] at qp) <;> simp [-qt, -qd, -ql, rgs, hJ, zB6, k1, qb])
      all_goals first
      | omega
      | (refine hnx.go (a ++ [n' + 13]) (by omega) (by simp [zM hlt hlim]) (by simp) zK (by first | omega | (simp; omega)) ?_
         try dsimp only
         refine ⟨by simp, ?_, hS.snoc (fun k hk => ?_) ?_ (by omega) (by omega) (by omega), by omega⟩
         · simpa [prgR] using fillZ_set (f := prgR) (z := [.nil]) (xs := xs) (is := a) (by omega) (n' + 13)
         · have := hS.lo k hk
           have := hS.hi k hk
           rw [zJ _ _ _ _ (by omega), zJ _ _ _ _ (by omega)]
         · simp; omega)
    · try simp [-qt, -qd, -ql, rgs, hJ, hlt]
      repeat' first | done | ((first | ((with_reducible show zT _ _ _ _ _ _); refine zB rfl fun _ => ?_) | ((with_reducible show zH _ _ _ _ _ _ _); refine zC rfl omA omA ?_)) <;> simp [-qt, -qd, -ql, rgs, hJ, hlt]) | ((first | (with_reducible refine zA ?_ ?_)) <;> intro qb <;> (have qp := qb; try simp only [psq] at qp) <;> simp [-qt, -qd, -ql, rgs, hJ, hlt, qb])
      exact ⟨zK, a, by rw [fillZ_end (by omega)], by omega, by omega, hS.keep (fun _ _ => rfl) (by omega) (by omega)⟩
theorem f_toGroup {r : Bool} {g : Grp} (hm : g.waits.length ≤ yK) : FC ctx.P 158 [.agg (vA r g)] (.agg (uL g 0)) [.row 1 (g.waits.map iv)] := by
  refine FC.o okC Tryz.func158 rfl ((by simp only [uL]; exact .one _ (.agg _ fun c hc => by simp at hc; rcases hc with rfl | rfl | rfl | rfl | rfl <;> first | exact .ref _ _ _ _ (by simp) | exact .fz _ (.int _ _)))) ((fun e he => by simp at he; subst he; exact zR zC3 _)) fun h nx hnx => ?_
  try simp [-qt, -qd, -ql, rgs, vA]
  repeat' first | done | ((first | ((with_reducible show zG _ _ _ 67 _ _); refine yF (zJ1 hm) ?_)) <;> simp [-qt, -qd, -ql, rgs, vA])
  exact finF1 (i := nx + 20) zK (by omega) (by simp) (by simp [uL])
theorem w_toGroupS {p r : Bool} {xs : List Grp} (hm : xs.length ≤ yK) (hi : ∀ x ∈ xs, x.waits.length ≤ yK) : AC ctx.P 65 [.view p 5 (xs.map (vA r))] (fun _ _ => True)
    (fun h nx v h' nx' => KeepB nx h' h ∧ ∃ id is, v = .ref id 5 0 xs.length ∧ h' id = some (.row 5 (List.zipWith uL xs is)) ∧ is.length = xs.length ∧ nx ≤ id ∧ id < nx' ∧ Subs h' 1 (fun x : Grp => x.waits.map iv) xs is (id + 1) nx') := by
  have hlim : xs.length ≤ LIM := by simp only [yK, LIM] at *; omega
  refine AC.o okC Tryz.func65 rfl fun h nx hfr hnx hpre => ?_
  try simp [-qt, -qd, -ql, rgs, hm]
  repeat' first | done | ((first | ((with_reducible show zT _ _ _ _ _ _); refine zB rfl fun _ => ?_) | ((with_reducible show zH _ _ _ _ _ _ _); refine zC rfl omA omA ?_)) <;> simp [-qt, -qd, -ql, rgs, hm]) | ((first | (with_reducible refine zA ?_ ?_)) <;> intro qb <;> (have qp := qb; try simp only [psq] at qp) <;> simp [-qt, -qd, -ql, rgs, hm, qb])
  refine zU (h0 := h) (nx0 := nx) [4, 8, 9, 10, 11, 12, 13, 14, 15, 16, 17, 18, 19, 20, 21] (xs.length) (fun (i : Nat) a => [(4, .int .i64 i)]) (fun i (a : List Nat) h' n' => a.length = i ∧ h' (nx + 3) = some (.row 5 (fillZ uL [.int .i64 0, .int .i64 0, .int .i64 0, .nil, .int .i64 0] xs a)) ∧ Subs h' 1 (fun x : Grp => x.waits.map iv) xs a (nx + 4) n' ∧ nx + 4 ≤ n') ([]) (by simp) ?_ zK (by omega) ?_
  · simp [fillZ_0, Subs.nil]
  · intro i a tm h' n' hle hJ hE hn' next hnx
    try dsimp only at hJ
    have hK : KeepB nx h' h := KeepB.sub hE zK (by omega)
    simp [-qt, -qd, -ql]
    obtain ⟨hJa, hJ, hS, hJn⟩ := hJ
    subst hJa
    by_cases hlt : a.length < xs.length
    · try simp [-qt, -qd, -ql, rgs, hJ, vA, uL]
      repeat' first | done | ((first | ((with_reducible show zT _ _ _ _ _ _); refine zB rfl fun _ => ?_) | ((with_reducible show zH _ _ _ _ _ _ _); refine zC rfl omA omA ?_) | ((with_reducible show zG _ _ _ 158 _ _); refine yF (f_toGroup (hi _ (zC7 (by omega) (by omega)))) ?_) | (((with_reducible show zH _ _ _ _ (.ref _ _ _ _) _ _); refine yJ rfl (by omega) (by omega) ?_)) | (((with_reducible show vZ _ _ _ _ _ _ _ _ _); refine zF1 (sz := 5) (xs := fillZ uL [.int .i64 0, .int .i64 0, .int .i64 0, .nil, .int .i64 0] xs a) (cells := [.int .i64 0, .int .i64 0, .int .i64 0, .nil, .int .i64 0]) (by simp [hJ]; omega) rfl rfl rfl (fillZ_get hlt) rfl ?_))) <;> simp [-qt, -qd, -ql, rgs, hJ, vA, uL]) | ((first | (with_reducible refine zA ?_ ?_)) <;> intro qb <;> (have qp := qb; try simp only [psq] at qp) <;> simp [-qt, -qd, -ql, rgs, hJ, vA, uL, qb])
      all_goals first
      | omega
      | (refine hnx.go (a ++ [n' + 13]) (by omega) (by simp [zM hlt hlim]) (by simp) zK (by first | omega | (simp; omega)) ?_
         try dsimp only
         refine ⟨by simp, ?_, hS.snoc (fun k hk => ?_) ?_ (by omega) (by omega) (by omega), by omega⟩
         · simpa [uL] using fillZ_set (f := uL) (z := [.int .i64 0, .int .i64 0, .int .i64 0, .nil, .int .i64 0]) (xs := xs) (is := a) (by omega) (n' + 13)
         · have := hS.lo k hk
           have := hS.hi k hk
           rw [zJ _ _ _ _ (by omega), zJ _ _ _ _ (by omega)]
         · simp; omega)
    · try simp [-qt, -qd, -ql, rgs, hJ, hlt]
      repeat' first | done | ((first | ((with_reducible show zT _ _ _ _ _ _); refine zB rfl fun _ => ?_) | ((with_reducible show zH _ _ _ _ _ _ _); refine zC rfl omA omA ?_)) <;> simp [-qt, -qd, -ql, rgs, hJ, hlt]) | ((first | (with_reducible refine zA ?_ ?_)) <;> intro qb <;> (have qp := qb; try simp only [psq] at qp) <;> simp [-qt, -qd, -ql, rgs, hJ, hlt, qb])
      exact ⟨zK, a, by rw [fillZ_end (by omega)], by omega, by omega, hS.keep (fun _ _ => rfl) (by omega) (by omega)⟩
theorem f_toSlots {F : Nat → Bool} {s : Slt} (h1 : s.ages.length ≤ yK) (h2 : s.used.length ≤ yK) : FC ctx.P 155 [.agg (yW F s)] (.agg [.ref 0 1 0 s.ages.length, .ref 1 1 0 s.used.length]) [.row 1 (s.ages.map iv), .row 1 (s.used.map bv)] := by
  refine FC.o okC Tryz.func155 rfl ((.one _ (.agg _ fun c hc => by simp at hc; rcases hc with rfl | rfl <;> first | exact .ref _ _ _ _ (by simp) | exact .fz _ (.int _ _)))) ((fun e he => by simp at he; rcases he with rfl | rfl <;> first | exact zR zC3 _ | exact zR zG3 _ | exact zR uA _ | exact zR zB0 _ | exact zR zA0 _)) fun h nx hnx => ?_
  try simp [-qt, -qd, -ql, rgs, yW]
  repeat' first | done | ((first | ((with_reducible show zG _ _ _ 67 _ _); refine yF (zJ1 h1) ?_) | ((with_reducible show zG _ _ _ 152 _ _); refine yF (f_toBoolS h2) ?_)) <;> simp [-qt, -qd, -ql, rgs, yW])
  exact finF2 (i := nx + 8) (j := nx + 14) zK (by omega) (by omega) (by omega) (by simp) (by simp) (by simp)
theorem f_toSpread {F : Nat → Bool} {s : Spr} (h1 : s.told.length ≤ yK) (h2 : s.work.length ≤ yK) : FC ctx.P 61 [.agg (zE7 F s)] (.agg [.ref 0 1 0 s.told.length, .ref 1 1 0 s.work.length]) [.row 1 (s.told.map bv), .row 1 (s.work.map iv)] := by
  refine FC.o okC Tryz.func61 rfl ((.one _ (.agg _ fun c hc => by simp at hc; rcases hc with rfl | rfl <;> first | exact .ref _ _ _ _ (by simp) | exact .fz _ (.int _ _)))) ((fun e he => by simp at he; rcases he with rfl | rfl <;> first | exact zR zC3 _ | exact zR zG3 _ | exact zR uA _ | exact zR zB0 _ | exact zR zA0 _)) fun h nx hnx => ?_
  try simp [-qt, -qd, -ql, rgs, zE7]
  repeat' first | done | ((first | ((with_reducible show zG _ _ _ 152 _ _); refine yF (f_toBoolS h1) ?_) | ((with_reducible show zG _ _ _ 67 _ _); refine yF (zJ1 h2) ?_)) <;> simp [-qt, -qd, -ql, rgs, zE7])
  exact finF2 (i := nx + 8) (j := nx + 14) zK (by omega) (by omega) (by omega) (by simp) (by simp) (by simp)
theorem f_toTimers {F : Nat → Bool} {s : Tms} (h1 : s.heap.length ≤ yK) (h2 : s.list.length ≤ yK) : FC ctx.P 62 [.agg (uT F s)] (.agg [.ref 0 3 0 s.heap.length, .ref 1 5 0 s.list.length, .int .i64 s.next]) [.row 3 (s.heap.map yX), .row 5 (s.list.map vN)] := by
  refine FC.o okC Tryz.func62 rfl ((.one _ (.agg _ fun c hc => by simp at hc; rcases hc with rfl | rfl | rfl <;> first | exact .ref _ _ _ _ (by simp) | exact .fz _ (.int _ _)))) ((fun e he => by simp at he; rcases he with rfl | rfl <;> first | exact zR zC3 _ | exact zR zG3 _ | exact zR uA _ | exact zR zB0 _ | exact zR zA0 _)) fun h nx hnx => ?_
  try simp [-qt, -qd, -ql, rgs, uT]
  repeat' first | done | ((first | ((with_reducible show zG _ _ _ 153 _ _); refine yF (f_toTwigS h1) ?_) | ((with_reducible show zG _ _ _ 154 _ _); refine yF (f_toTimerS h2) ?_)) <;> simp [-qt, -qd, -ql, rgs, uT])
  exact finF2 (i := nx + 8) (j := nx + 14) zK (by omega) (by omega) (by omega) (by simp) (by simp) (by simp)
theorem f_toAfters {F : Nat → Bool} {s : Afs} (h1 : s.slots.ages.length ≤ yK) (h2 : s.slots.used.length ≤ yK) (h3 : s.list.length ≤ yK) : FC ctx.P 63 [.agg (vD F s)] (.agg [.ref 0 1 0 s.slots.ages.length, .ref 1 1 0 s.slots.used.length, .ref 2 5 0 s.list.length]) [.row 1 (s.slots.ages.map iv), .row 1 (s.slots.used.map bv), .row 5 (s.list.map yI)] := by
  refine FC.o okC Tryz.func63 rfl ((.one _ (.agg _ fun c hc => by simp at hc; rcases hc with rfl | rfl | rfl <;> first | exact .ref _ _ _ _ (by simp) | exact .fz _ (.int _ _)))) ((fun e he => by simp at he; rcases he with rfl | rfl | rfl <;> first | exact zR zC3 _ | exact zR zG3 _ | exact zR uA _ | exact zR zB0 _ | exact zR zA0 _)) fun h nx hnx => ?_
  try simp [-qt, -qd, -ql, rgs, vD, yW]
  repeat' first | done | ((first | ((with_reducible show zG _ _ _ 155 _ _); refine yF (f_toSlots (s := s.slots) (F := F) h1 h2) ?_) | ((with_reducible show zG _ _ _ 156 _ _); refine yF (f_toAfterS h3) ?_)) <;> simp [-qt, -qd, -ql, rgs, vD, yW])
  exact finF3 (i := nx + 8) (j := nx + 9) (l := nx + 15) zK (by omega) (by omega) (by omega) (by omega) (by omega) (by omega) (by simp) (by simp) (by simp) (by simp)
end Go.AE.Tryz
end

section
/- Contracts of the laws' copies of worlds as new rows. -/
set_option linter.unusedSimpArgs false
set_option linter.unusedVariables false
set_option maxRecDepth 8000
set_option maxHeartbeats 2000000
namespace Go.AE.Tryz
open Go.Proofs
open List renaming map_take → qt, map_drop → qd, map_tail → ql
theorem w_toWorld {F : Nat → Bool} {s : Wld} (hs : zC4 s ≤ 1048576) : AC ctx.P 17 [.agg (wldV F s)] (fun _ _ => True)
    (fun h nx v h' nx' => KeepB nx h' h ∧ ∃ X, v = .agg (zD6 X s) ∧ WV h' X s ∧ ∀ id ∈ X.ids, nx ≤ id ∧ id < nx') := by
  simp only [zC4, afssz, tmssz, sprsz, sltsz] at hs
  have hm : yK = 1099511627776 := rfl
  refine AC.o okC Tryz.func17 rfl fun h nx hfr hnx hpre => ?_
  try simp [-qt, -qd, -ql, rgs, wldV]
  refine vB (w_toInsSS (by omega) (fun x hx => by have := zB3 (·.length) hx; omega)) trivial ?_
  rintro r h1 n1 ⟨hK1, ip, isp, rfl, hrow1, hlen1, hlo1, hhi1, hS1⟩ hle1 hfr1
  dsimp only at hK1 hlo1 hle1
  have g0 := hK1 nx (by omega)
  have g1 := hK1 (nx + 1) (by omega)
  have g2 := hK1 (nx + 2) (by omega)
  simp at g0 g1 g2
  have k0 : ∀ k, (nx = n1 + k) = False := fun k => by simp only [eq_iff_iff, iff_false]; omega
  have k2 : ∀ k, (nx + 2 = n1 + k) = False := fun k => by simp only [eq_iff_iff, iff_false]; omega
  have k1 : ∀ k, (nx + 1 = n1 + k) = False := fun k => by simp only [eq_iff_iff, iff_false]; omega
  have k5 : (nx + 1 = n1) = False := by simp only [eq_iff_iff, iff_false]; omega
  have k3 : (nx = n1) = False := by simp only [eq_iff_iff, iff_false]; omega
  have k4 : (nx + 2 = n1) = False := by simp only [eq_iff_iff, iff_false]; omega

  try simp [-qt, -qd, -ql, rgs, wldV, g0, g2, k0, k2, k3, k4]
  repeat' first | done | ((first | ((with_reducible show zG _ _ _ 59 _ _); refine yF (f_toNodeS (by omega)) ?_) | ((with_reducible show zG _ _ _ 60 _ _); refine yF (f_toEventS (by omega)) ?_) | ((with_reducible show zG _ _ _ 61 _ _); refine yF (f_toSpread (s := s.spread) (F := F) (by omega) (by omega)) ?_) | ((with_reducible show zG _ _ _ 62 _ _); refine yF (f_toTimers (s := s.timers) (F := F) (by omega) (by omega)) ?_) | ((with_reducible show zG _ _ _ 63 _ _); refine yF (f_toAfters (s := s.afters) (F := F) (by omega) (by omega) (by omega)) ?_) | ((with_reducible show zG _ _ _ 64 _ _); refine yF (f_toTaskS (by omega)) ?_)) <;> simp [-qt, -qd, -ql, rgs, wldV, g0, g2, k0, k2, k3, k4])
  refine vB (w_toGroupS (by omega) (fun x hx => by have := zB3 (·.waits.length) hx; omega)) trivial ?_
  rintro r h2 n2 ⟨hK2, ig, isg, rfl, hrow2, hlen2, hlo2, hhi2, hS2⟩ hle2 hfr2
  dsimp only at hK2 hlo2 hle2
  have m0 := hK2 nx (by omega)
  have m1 := hK2 (nx + 1) (by omega)
  have m2 := hK2 (nx + 2) (by omega)
  simp [k0, k2, k3, k4, g0, g1, k1, k5] at m0 m1 m2
  have j0 : ∀ k, (nx = n2 + k) = False := fun k => by simp only [eq_iff_iff, iff_false]; omega
  have j2 : ∀ k, (nx + 2 = n2 + k) = False := fun k => by simp only [eq_iff_iff, iff_false]; omega
  have j1 : ∀ k, (nx + 1 = n2 + k) = False := fun k => by simp only [eq_iff_iff, iff_false]; omega
  have j5 : (nx + 1 = n2) = False := by simp only [eq_iff_iff, iff_false]; omega
  have j3 : (nx = n2) = False := by simp only [eq_iff_iff, iff_false]; omega
  have j4 : (nx + 2 = n2) = False := by simp only [eq_iff_iff, iff_false]; omega
  try simp [-qt, -qd, -ql, rgs, wldV, m0, m1, m2, j0, j1, j2, j3, j4, j5]
  repeat' first | done | ((first | ((with_reducible show zG _ _ _ 66 _ _); refine yF (f_toSightS (by omega)) ?_) | ((with_reducible show zG _ _ _ 67 _ _); refine yF (zJ1 (by omega)) ?_)) <;> simp [-qt, -qd, -ql, rgs, wldV, m0, m1, m2, j0, j1, j2, j3, j4, j5])
  have hE : KeepB nx h1 h := KeepB.sub hK1 zK (by omega)
  have hK : KeepB nx h2 h := KeepB.sub hK2 zK (by omega)
  have up : ∀ i, ip ≤ i → i < n1 → h2 i = h1 i := fun i _ _ => by
    rw [hK2 i (by omega)]
    repeat rw [zJ _ _ _ _ (by omega)]
  have q0 := up ip (by omega) hhi1
  rw [hrow1] at q0
  have q1 := hK2 (n1 + 5) (by omega)
  have q2 := hK2 (n1 + 11) (by omega)
  have q3 := hK2 (n1 + 17) (by omega)
  have q4 := hK2 (n1 + 18) (by omega)
  have q5 := hK2 (n1 + 24) (by omega)
  have q6 := hK2 (n1 + 25) (by omega)
  have q7 := hK2 (n1 + 31) (by omega)
  have q8 := hK2 (n1 + 32) (by omega)
  have q9 := hK2 (n1 + 33) (by omega)
  have q10 := hK2 (n1 + 39) (by omega)
  have l0 : ∀ k, (n1 + k = nx) = False := fun k => by simp only [eq_iff_iff, iff_false]; omega
  have l2 : ∀ k, (n1 + k = nx + 2) = False := fun k => by simp only [eq_iff_iff, iff_false]; omega
  simp [l0, l2] at q1 q2 q3 q4 q5 q6 q7 q8 q9 q10
  refine ⟨zK, WI.ofL [ip, n1 + 5, n1 + 11, n1 + 17, n1 + 18, n1 + 24, n1 + 25, n1 + 31, n1 + 32, n1 + 33, n1 + 39, ig, n2 + 5, n2 + 11, n2 + 17] isp isg, rfl, WV.ofL (a := ip + 1) (b := n1) (c := ig + 1) (d := n2) ?_ ?_ ?_ ?_ ?_ ?_ ?_ ?_ ?_ ?_ ?_ ?_ ?_ ?_ ?_ hlen1 hlen2 ?_ ?_ (by omega) ?_ ?_, ?_⟩
  · repeat rw [zJ _ _ _ _ (by omega)]
    exact q0
  · repeat rw [zJ _ _ _ _ (by omega)]
    exact q1
  · repeat rw [zJ _ _ _ _ (by omega)]
    exact q2
  · repeat rw [zJ _ _ _ _ (by omega)]
    exact q3
  · repeat rw [zJ _ _ _ _ (by omega)]
    exact q4
  · repeat rw [zJ _ _ _ _ (by omega)]
    exact q5
  · repeat rw [zJ _ _ _ _ (by omega)]
    exact q6
  · repeat rw [zJ _ _ _ _ (by omega)]
    exact q7
  · repeat rw [zJ _ _ _ _ (by omega)]
    exact q8
  · repeat rw [zJ _ _ _ _ (by omega)]
    exact q9
  · repeat rw [zJ _ _ _ _ (by omega)]
    exact q10
  · repeat rw [zJ _ _ _ _ (by omega)]
    exact hrow2
  · repeat rw [zJ _ _ _ _ (by omega)]
    rw [zL]
  · repeat rw [zJ _ _ _ _ (by omega)]
    rw [zL]
  · repeat rw [zJ _ _ _ _ (by omega)]
    rw [zL]
  · refine hS1.keep (fun i hi => ?_) (Nat.le_refl _) (Nat.le_refl _)
    have := hS1.lo i hi
    have := hS1.hi i hi
    repeat rw [zJ _ _ _ _ (by omega)]
    exact up i (by omega) (by omega)
  · refine hS2.keep (fun i hi => ?_) (Nat.le_refl _) (Nat.le_refl _)
    have := hS2.lo i hi
    have := hS2.hi i hi
    repeat rw [zJ _ _ _ _ (by omega)]
  · simp only [List.nodup_cons, List.mem_cons, List.not_mem_nil, or_false, not_or, List.nodup_nil, and_true, not_false_eq_true]
    omega
  · intro t ht
    simp only [List.mem_cons, List.not_mem_nil, or_false] at ht
    omega
  · intro id hid
    rw [WI.ofL_ids] at hid
    rcases List.mem_append.1 hid with hid | hid
    · simp only [List.mem_cons, List.not_mem_nil, or_false] at hid
      omega
    · rcases List.mem_append.1 hid with hid | hid
      · have := hS1.lo id hid
        have := hS1.hi id hid
        omega
      · have := hS2.lo id hid
        have := hS2.hi id hid
        omega
end Go.AE.Tryz
end
