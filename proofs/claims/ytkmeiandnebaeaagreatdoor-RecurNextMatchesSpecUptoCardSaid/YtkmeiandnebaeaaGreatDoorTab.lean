/- The table of types, by program (tab.py). -/
import Derived.Test.YtkmeiandnebaeaaGreatDoorVMd
import Derived.Test.YtkmeiandnebaeaaGreatDoorProg
namespace Go.Vm
set_option maxRecDepth 20000
def tb : Tab := [
  (1, ⟨.func, 1, 8, [.nilfn]⟩),
  (2, ⟨.int .i64, 1, 8, [.int .i64 0]⟩),
  (3, ⟨.int .i64, 1, 8, [.int .i64 0]⟩),
  (4, ⟨.bool, 1, 1, [.bool false]⟩),
  (5, ⟨.int .u8, 1, 1, [.int .u8 0]⟩),
  (6, ⟨.int .u8, 1, 1, [.int .u8 0]⟩),
  (7, ⟨.struct true [(0, 2), (1, 3), (2, 4), (3, 6)], 4, 24, [.int .i64 0, .int .i64 0, .bool false, .int .u8 0]⟩),
  (8, ⟨.struct true [(0, 2), (1, 3), (2, 4), (3, 6)], 4, 24, [.int .i64 0, .int .i64 0, .bool false, .int .u8 0]⟩),
  (9, ⟨.str, 1, 16, [.str []]⟩),
  (10, ⟨.str, 1, 16, [.str []]⟩),
  (11, ⟨.str, 1, 16, [.str []]⟩),
  (12, ⟨.int .u64, 1, 8, [.int .u64 0]⟩),
  (13, ⟨.struct false [(0, 9), (1, 12)], 2, 24, [.str [], .int .u64 0]⟩),
  (14, ⟨.struct false [(0, 9), (1, 12)], 2, 24, [.str [], .int .u64 0]⟩),
  (15, ⟨.ptr 209, 1, 8, [.nilptr]⟩),
  (16, ⟨.ptr 212, 1, 8, [.nilptr]⟩),
  (17, ⟨.ptr 219, 1, 8, [.nilptr]⟩),
  (18, ⟨.struct false [(0, 17)], 1, 8, [.nilptr]⟩),
  (19, ⟨.struct false [(0, 17)], 1, 8, [.nilptr]⟩),
  (20, ⟨.ifc, 1, 16, [.nilif]⟩),
  (21, ⟨.int .i32, 1, 4, [.int .i32 0]⟩),
  (22, ⟨.sl 3, 1, 24, [.nilsl]⟩),
  (23, ⟨.sl 56, 1, 24, [.nilsl]⟩),
  (24, ⟨.struct false [(0, 3), (1, 3), (2, 22), (3, 22), (4, 23), (5, 22), (6, 3), (7, 3)], 8, 128, [.int .i64 0, .int .i64 0, .nilsl, .nilsl, .nilsl, .nilsl, .int .i64 0, .int .i64 0]⟩),
  (25, ⟨.struct false [(0, 3), (1, 3), (2, 22), (3, 22), (4, 23), (5, 22), (6, 3), (7, 3)], 8, 128, [.int .i64 0, .int .i64 0, .nilsl, .nilsl, .nilsl, .nilsl, .int .i64 0, .int .i64 0]⟩),
  (26, ⟨.struct true [(0, 3), (1, 3)], 2, 16, [.int .i64 0, .int .i64 0]⟩),
  (27, ⟨.struct true [(0, 3), (1, 3)], 2, 16, [.int .i64 0, .int .i64 0]⟩),
  (29, ⟨.func, 1, 8, [.nilfn]⟩),
  (30, ⟨.func, 1, 8, [.nilfn]⟩),
  (31, ⟨.func, 1, 8, [.nilfn]⟩),
  (32, ⟨.func, 1, 8, [.nilfn]⟩),
  (33, ⟨.func, 1, 8, [.nilfn]⟩),
  (34, ⟨.func, 1, 8, [.nilfn]⟩),
  (35, ⟨.func, 1, 8, [.nilfn]⟩),
  (36, ⟨.func, 1, 8, [.nilfn]⟩),
  (37, ⟨.func, 1, 8, [.nilfn]⟩),
  (39, ⟨.func, 1, 8, [.nilfn]⟩),
  (41, ⟨.func, 1, 8, [.nilfn]⟩),
  (43, ⟨.func, 1, 8, [.nilfn]⟩),
  (44, ⟨.func, 1, 8, [.nilfn]⟩),
  (45, ⟨.func, 1, 8, [.nilfn]⟩),
  (46, ⟨.func, 1, 8, [.nilfn]⟩),
  (47, ⟨.func, 1, 8, [.nilfn]⟩),
  (48, ⟨.func, 1, 8, [.nilfn]⟩),
  (49, ⟨.func, 1, 8, [.nilfn]⟩),
  (50, ⟨.func, 1, 8, [.nilfn]⟩),
  (51, ⟨.func, 1, 8, [.nilfn]⟩),
  (52, ⟨.func, 1, 8, [.nilfn]⟩),
  (53, ⟨.func, 1, 8, [.nilfn]⟩),
  (54, ⟨.func, 1, 8, [.nilfn]⟩),
  (55, ⟨.struct true [(0, 3), (1, 3)], 2, 16, [.int .i64 0, .int .i64 0]⟩),
  (56, ⟨.struct true [(0, 3), (1, 3)], 2, 16, [.int .i64 0, .int .i64 0]⟩),
  (57, ⟨.func, 1, 8, [.nilfn]⟩),
  (58, ⟨.arr false 8 50, 8, 64, [.nilfn, .nilfn, .nilfn, .nilfn, .nilfn, .nilfn, .nilfn, .nilfn]⟩),
  (59, ⟨.func, 1, 8, [.nilfn]⟩),
  (61, ⟨.func, 1, 8, [.nilfn]⟩),
  (62, ⟨.func, 1, 8, [.nilfn]⟩),
  (63, ⟨.ptr 68, 1, 8, [.nilptr]⟩),
  (64, ⟨.func, 1, 8, [.nilfn]⟩),
  (65, ⟨.sl 9, 1, 24, [.nilsl]⟩),
  (66, ⟨.func, 1, 8, [.nilfn]⟩),
  (67, ⟨.struct false [(0, 65)], 1, 24, [.nilsl]⟩),
  (68, ⟨.struct false [(0, 65)], 1, 24, [.nilsl]⟩),
  (69, ⟨.func, 1, 8, [.nilfn]⟩),
  (70, ⟨.struct true [(0, 9), (1, 3)], 2, 24, [.str [], .int .i64 0]⟩),
  (71, ⟨.sl 70, 1, 24, [.nilsl]⟩),
  (72, ⟨.func, 1, 8, [.nilfn]⟩),
  (74, ⟨.func, 1, 8, [.nilfn]⟩),
  (75, ⟨.func, 1, 8, [.nilfn]⟩),
  (76, ⟨.func, 1, 8, [.nilfn]⟩),
  (77, ⟨.func, 1, 8, [.nilfn]⟩),
  (79, ⟨.func, 1, 8, [.nilfn]⟩),
  (81, ⟨.func, 1, 8, [.nilfn]⟩),
  (83, ⟨.func, 1, 8, [.nilfn]⟩),
  (84, ⟨.struct true [(0, 3), (1, 3), (2, 3), (3, 3), (4, 3), (5, 3)], 6, 48, [.int .i64 0, .int .i64 0, .int .i64 0, .int .i64 0, .int .i64 0, .int .i64 0]⟩),
  (85, ⟨.struct true [(0, 3), (1, 3), (2, 3), (3, 3), (4, 3), (5, 3)], 6, 48, [.int .i64 0, .int .i64 0, .int .i64 0, .int .i64 0, .int .i64 0, .int .i64 0]⟩),
  (86, ⟨.func, 1, 8, [.nilfn]⟩),
  (87, ⟨.func, 1, 8, [.nilfn]⟩),
  (88, ⟨.func, 1, 8, [.nilfn]⟩),
  (89, ⟨.func, 1, 8, [.nilfn]⟩),
  (90, ⟨.ptr 94, 1, 8, [.nilptr]⟩),
  (91, ⟨.func, 1, 8, [.nilfn]⟩),
  (92, ⟨.func, 1, 8, [.nilfn]⟩),
  (93, ⟨.struct true [(0, 85)], 6, 48, [.int .i64 0, .int .i64 0, .int .i64 0, .int .i64 0, .int .i64 0, .int .i64 0]⟩),
  (94, ⟨.struct true [(0, 85)], 6, 48, [.int .i64 0, .int .i64 0, .int .i64 0, .int .i64 0, .int .i64 0, .int .i64 0]⟩),
  (95, ⟨.func, 1, 8, [.nilfn]⟩),
  (96, ⟨.func, 1, 8, [.nilfn]⟩),
  (97, ⟨.func, 1, 8, [.nilfn]⟩),
  (98, ⟨.struct true [(0, 3), (1, 3), (2, 3), (3, 3), (4, 3), (5, 3)], 6, 48, [.int .i64 0, .int .i64 0, .int .i64 0, .int .i64 0, .int .i64 0, .int .i64 0]⟩),
  (99, ⟨.struct true [(0, 3), (1, 3), (2, 3), (3, 3), (4, 3), (5, 3)], 6, 48, [.int .i64 0, .int .i64 0, .int .i64 0, .int .i64 0, .int .i64 0, .int .i64 0]⟩),
  (100, ⟨.func, 1, 8, [.nilfn]⟩),
  (101, ⟨.func, 1, 8, [.nilfn]⟩),
  (102, ⟨.func, 1, 8, [.nilfn]⟩),
  (103, ⟨.ptr 106, 1, 8, [.nilptr]⟩),
  (104, ⟨.sl 5, 1, 24, [.nilsl]⟩),
  (105, ⟨.struct false [(0, 103), (1, 104)], 2, 32, [.nilptr, .nilsl]⟩),
  (106, ⟨.struct false [(0, 103), (1, 104)], 2, 32, [.nilptr, .nilsl]⟩),
  (107, ⟨.func, 1, 8, [.nilfn]⟩),
  (108, ⟨.ifc, 1, 16, [.nilif]⟩),
  (109, ⟨.ifc, 1, 16, [.nilif]⟩),
  (111, ⟨.func, 1, 8, [.nilfn]⟩),
  (112, ⟨.func, 1, 8, [.nilfn]⟩),
  (113, ⟨.func, 1, 8, [.nilfn]⟩),
  (114, ⟨.func, 1, 8, [.nilfn]⟩),
  (115, ⟨.struct false [(0, 9), (1, 47)], 2, 24, [.str [], .nilfn]⟩),
  (116, ⟨.func, 1, 8, [.nilfn]⟩),
  (117, ⟨.func, 1, 8, [.nilfn]⟩),
  (118, ⟨.sl 115, 1, 24, [.nilsl]⟩),
  (119, ⟨.func, 1, 8, [.nilfn]⟩),
  (120, ⟨.func, 1, 8, [.nilfn]⟩),
  (121, ⟨.func, 1, 8, [.nilfn]⟩),
  (123, ⟨.func, 1, 8, [.nilfn]⟩),
  (124, ⟨.ptr 85, 1, 8, [.nilptr]⟩),
  (125, ⟨.func, 1, 8, [.nilfn]⟩),
  (126, ⟨.func, 1, 8, [.nilfn]⟩),
  (127, ⟨.func, 1, 8, [.nilfn]⟩),
  (128, ⟨.func, 1, 8, [.nilfn]⟩),
  (129, ⟨.arr true 256 5, 256, 256, [.int .u8 0, .int .u8 0, .int .u8 0, .int .u8 0, .int .u8 0, .int .u8 0, .int .u8 0, .int .u8 0, .int .u8 0, .int .u8 0, .int .u8 0, .int .u8 0, .int .u8 0, .int .u8 0, .int .u8 0, .int .u8 0, .int .u8 0, .int .u8 0, .int .u8 0, .int .u8 0, .int .u8 0, .int .u8 0, .int .u8 0, .int .u8 0, .int .u8 0, .int .u8 0, .int .u8 0, .int .u8 0, .int .u8 0, .int .u8 0, .int .u8 0, .int .u8 0, .int .u8 0, .int .u8 0, .int .u8 0, .int .u8 0, .int .u8 0, .int .u8 0, .int .u8 0, .int .u8 0, .int .u8 0, .int .u8 0, .int .u8 0, .int .u8 0, .int .u8 0, .int .u8 0, .int .u8 0, .int .u8 0, .int .u8 0, .int .u8 0, .int .u8 0, .int .u8 0, .int .u8 0, .int .u8 0, .int .u8 0, .int .u8 0, .int .u8 0, .int .u8 0, .int .u8 0, .int .u8 0, .int .u8 0, .int .u8 0, .int .u8 0, .int .u8 0, .int .u8 0, .int .u8 0, .int .u8 0, .int .u8 0, .int .u8 0, .int .u8 0, .int .u8 0, .int .u8 0, .int .u8 0, .int .u8 0, .int .u8 0, .int .u8 0, .int .u8 0, .int .u8 0, .int .u8 0, .int .u8 0, .int .u8 0, .int .u8 0, .int .u8 0, .int .u8 0, .int .u8 0, .int .u8 0, .int .u8 0, .int .u8 0, .int .u8 0, .int .u8 0, .int .u8 0, .int .u8 0, .int .u8 0, .int .u8 0, .int .u8 0, .int .u8 0, .int .u8 0, .int .u8 0, .int .u8 0, .int .u8 0, .int .u8 0, .int .u8 0, .int .u8 0, .int .u8 0, .int .u8 0, .int .u8 0, .int .u8 0, .int .u8 0, .int .u8 0, .int .u8 0, .int .u8 0, .int .u8 0, .int .u8 0, .int .u8 0, .int .u8 0, .int .u8 0, .int .u8 0, .int .u8 0, .int .u8 0, .int .u8 0, .int .u8 0, .int .u8 0, .int .u8 0, .int .u8 0, .int .u8 0, .int .u8 0, .int .u8 0, .int .u8 0, .int .u8 0, .int .u8 0, .int .u8 0, .int .u8 0, .int .u8 0, .int .u8 0, .int .u8 0, .int .u8 0, .int .u8 0, .int .u8 0, .int .u8 0, .int .u8 0, .int .u8 0, .int .u8 0, .int .u8 0, .int .u8 0, .int .u8 0, .int .u8 0, .int .u8 0, .int .u8 0, .int .u8 0, .int .u8 0, .int .u8 0, .int .u8 0, .int .u8 0, .int .u8 0, .int .u8 0, .int .u8 0, .int .u8 0, .int .u8 0, .int .u8 0, .int .u8 0, .int .u8 0, .int .u8 0, .int .u8 0, .int .u8 0, .int .u8 0, .int .u8 0, .int .u8 0, .int .u8 0, .int .u8 0, .int .u8 0, .int .u8 0, .int .u8 0, .int .u8 0, .int .u8 0, .int .u8 0, .int .u8 0, .int .u8 0, .int .u8 0, .int .u8 0, .int .u8 0, .int .u8 0, .int .u8 0, .int .u8 0, .int .u8 0, .int .u8 0, .int .u8 0, .int .u8 0, .int .u8 0, .int .u8 0, .int .u8 0, .int .u8 0, .int .u8 0, .int .u8 0, .int .u8 0, .int .u8 0, .int .u8 0, .int .u8 0, .int .u8 0, .int .u8 0, .int .u8 0, .int .u8 0, .int .u8 0, .int .u8 0, .int .u8 0, .int .u8 0, .int .u8 0, .int .u8 0, .int .u8 0, .int .u8 0, .int .u8 0, .int .u8 0, .int .u8 0, .int .u8 0, .int .u8 0, .int .u8 0, .int .u8 0, .int .u8 0, .int .u8 0, .int .u8 0, .int .u8 0, .int .u8 0, .int .u8 0, .int .u8 0, .int .u8 0, .int .u8 0, .int .u8 0, .int .u8 0, .int .u8 0, .int .u8 0, .int .u8 0, .int .u8 0, .int .u8 0, .int .u8 0, .int .u8 0, .int .u8 0, .int .u8 0, .int .u8 0, .int .u8 0, .int .u8 0, .int .u8 0, .int .u8 0, .int .u8 0, .int .u8 0, .int .u8 0, .int .u8 0, .int .u8 0, .int .u8 0, .int .u8 0, .int .u8 0, .int .u8 0, .int .u8 0, .int .u8 0, .int .u8 0, .int .u8 0, .int .u8 0, .int .u8 0]⟩),
  (130, ⟨.func, 1, 8, [.nilfn]⟩),
  (131, ⟨.func, 1, 8, [.nilfn]⟩),
  (132, ⟨.ptr 5, 1, 8, [.nilptr]⟩),
  (133, ⟨.func, 1, 8, [.nilfn]⟩),
  (136, ⟨.func, 1, 8, [.nilfn]⟩),
  (137, ⟨.func, 1, 8, [.nilfn]⟩),
  (139, ⟨.func, 1, 8, [.nilfn]⟩),
  (140, ⟨.func, 1, 8, [.nilfn]⟩),
  (141, ⟨.func, 1, 8, [.nilfn]⟩),
  (142, ⟨.arr true 24 5, 24, 24, [.int .u8 0, .int .u8 0, .int .u8 0, .int .u8 0, .int .u8 0, .int .u8 0, .int .u8 0, .int .u8 0, .int .u8 0, .int .u8 0, .int .u8 0, .int .u8 0, .int .u8 0, .int .u8 0, .int .u8 0, .int .u8 0, .int .u8 0, .int .u8 0, .int .u8 0, .int .u8 0, .int .u8 0, .int .u8 0, .int .u8 0, .int .u8 0]⟩),
  (143, ⟨.int .u64, 1, 8, [.int .u64 0]⟩),
  (144, ⟨.func, 1, 8, [.nilfn]⟩),
  (145, ⟨.func, 1, 8, [.nilfn]⟩),
  (147, ⟨.func, 1, 8, [.nilfn]⟩),
  (148, ⟨.sl 150, 1, 24, [.nilsl]⟩),
  (149, ⟨.struct true [(0, 3), (1, 3)], 2, 16, [.int .i64 0, .int .i64 0]⟩),
  (150, ⟨.struct true [(0, 3), (1, 3)], 2, 16, [.int .i64 0, .int .i64 0]⟩),
  (151, ⟨.int .u32, 1, 4, [.int .u32 0]⟩),
  (152, ⟨.func, 1, 8, [.nilfn]⟩),
  (153, ⟨.ptr 173, 1, 8, [.nilptr]⟩),
  (155, ⟨.func, 1, 8, [.nilfn]⟩),
  (156, ⟨.func, 1, 8, [.nilfn]⟩),
  (157, ⟨.func, 1, 8, [.nilfn]⟩),
  (158, ⟨.func, 1, 8, [.nilfn]⟩),
  (160, ⟨.func, 1, 8, [.nilfn]⟩),
  (161, ⟨.func, 1, 8, [.nilfn]⟩),
  (162, ⟨.struct true [(0, 3), (1, 3), (2, 3)], 3, 24, [.int .i64 0, .int .i64 0, .int .i64 0]⟩),
  (163, ⟨.struct true [(0, 3), (1, 3), (2, 3)], 3, 24, [.int .i64 0, .int .i64 0, .int .i64 0]⟩),
  (164, ⟨.arr true 6 163, 18, 144, [.int .i64 0, .int .i64 0, .int .i64 0, .int .i64 0, .int .i64 0, .int .i64 0, .int .i64 0, .int .i64 0, .int .i64 0, .int .i64 0, .int .i64 0, .int .i64 0, .int .i64 0, .int .i64 0, .int .i64 0, .int .i64 0, .int .i64 0, .int .i64 0]⟩),
  (165, ⟨.func, 1, 8, [.nilfn]⟩),
  (166, ⟨.arr true 20 143, 20, 160, [.int .u64 0, .int .u64 0, .int .u64 0, .int .u64 0, .int .u64 0, .int .u64 0, .int .u64 0, .int .u64 0, .int .u64 0, .int .u64 0, .int .u64 0, .int .u64 0, .int .u64 0, .int .u64 0, .int .u64 0, .int .u64 0, .int .u64 0, .int .u64 0, .int .u64 0, .int .u64 0]⟩),
  (167, ⟨.arr true 65 5, 65, 65, [.int .u8 0, .int .u8 0, .int .u8 0, .int .u8 0, .int .u8 0, .int .u8 0, .int .u8 0, .int .u8 0, .int .u8 0, .int .u8 0, .int .u8 0, .int .u8 0, .int .u8 0, .int .u8 0, .int .u8 0, .int .u8 0, .int .u8 0, .int .u8 0, .int .u8 0, .int .u8 0, .int .u8 0, .int .u8 0, .int .u8 0, .int .u8 0, .int .u8 0, .int .u8 0, .int .u8 0, .int .u8 0, .int .u8 0, .int .u8 0, .int .u8 0, .int .u8 0, .int .u8 0, .int .u8 0, .int .u8 0, .int .u8 0, .int .u8 0, .int .u8 0, .int .u8 0, .int .u8 0, .int .u8 0, .int .u8 0, .int .u8 0, .int .u8 0, .int .u8 0, .int .u8 0, .int .u8 0, .int .u8 0, .int .u8 0, .int .u8 0, .int .u8 0, .int .u8 0, .int .u8 0, .int .u8 0, .int .u8 0, .int .u8 0, .int .u8 0, .int .u8 0, .int .u8 0, .int .u8 0, .int .u8 0, .int .u8 0, .int .u8 0, .int .u8 0, .int .u8 0]⟩),
  (168, ⟨.int .u64, 1, 8, [.int .u64 0]⟩),
  (169, ⟨.func, 1, 8, [.nilfn]⟩),
  (170, ⟨.sl 176, 1, 24, [.nilsl]⟩),
  (171, ⟨.sl 179, 1, 24, [.nilsl]⟩),
  (172, ⟨.struct false [(0, 170), (1, 171), (2, 3)], 3, 56, [.nilsl, .nilsl, .int .i64 0]⟩),
  (173, ⟨.struct false [(0, 170), (1, 171), (2, 3)], 3, 56, [.nilsl, .nilsl, .int .i64 0]⟩),
  (174, ⟨.int .u16, 1, 2, [.int .u16 0]⟩),
  (175, ⟨.struct true [(0, 174), (1, 174), (2, 174)], 3, 6, [.int .u16 0, .int .u16 0, .int .u16 0]⟩),
  (176, ⟨.struct true [(0, 174), (1, 174), (2, 174)], 3, 6, [.int .u16 0, .int .u16 0, .int .u16 0]⟩),
  (177, ⟨.func, 1, 8, [.nilfn]⟩),
  (178, ⟨.struct true [(0, 151), (1, 151), (2, 151)], 3, 12, [.int .u32 0, .int .u32 0, .int .u32 0]⟩),
  (179, ⟨.struct true [(0, 151), (1, 151), (2, 151)], 3, 12, [.int .u32 0, .int .u32 0, .int .u32 0]⟩),
  (180, ⟨.func, 1, 8, [.nilfn]⟩),
  (181, ⟨.int .i64, 1, 8, [.int .i64 0]⟩),
  (183, ⟨.func, 1, 8, [.nilfn]⟩),
  (184, ⟨.ptr 195, 1, 8, [.nilptr]⟩),
  (185, ⟨.func, 1, 8, [.nilfn]⟩),
  (186, ⟨.func, 1, 8, [.nilfn]⟩),
  (187, ⟨.func, 1, 8, [.nilfn]⟩),
  (188, ⟨.func, 1, 8, [.nilfn]⟩),
  (189, ⟨.ptr 176, 1, 8, [.nilptr]⟩),
  (190, ⟨.ptr 179, 1, 8, [.nilptr]⟩),
  (192, ⟨.func, 1, 8, [.nilfn]⟩),
  (193, ⟨.func, 1, 8, [.nilfn]⟩),
  (194, ⟨.struct false [(0, 9), (1, 9), (2, 109)], 3, 48, [.str [], .str [], .nilif]⟩),
  (195, ⟨.struct false [(0, 9), (1, 9), (2, 109)], 3, 48, [.str [], .str [], .nilif]⟩),
  (196, ⟨.func, 1, 8, [.nilfn]⟩),
  (197, ⟨.struct true [(0, 5), (1, 5)], 2, 2, [.int .u8 0, .int .u8 0]⟩),
  (198, ⟨.struct true [(0, 5), (1, 5)], 2, 2, [.int .u8 0, .int .u8 0]⟩),
  (199, ⟨.arr true 16 198, 32, 32, [.int .u8 0, .int .u8 0, .int .u8 0, .int .u8 0, .int .u8 0, .int .u8 0, .int .u8 0, .int .u8 0, .int .u8 0, .int .u8 0, .int .u8 0, .int .u8 0, .int .u8 0, .int .u8 0, .int .u8 0, .int .u8 0, .int .u8 0, .int .u8 0, .int .u8 0, .int .u8 0, .int .u8 0, .int .u8 0, .int .u8 0, .int .u8 0, .int .u8 0, .int .u8 0, .int .u8 0, .int .u8 0, .int .u8 0, .int .u8 0, .int .u8 0, .int .u8 0]⟩),
  (201, ⟨.func, 1, 8, [.nilfn]⟩),
  (202, ⟨.arr true 32 5, 32, 32, [.int .u8 0, .int .u8 0, .int .u8 0, .int .u8 0, .int .u8 0, .int .u8 0, .int .u8 0, .int .u8 0, .int .u8 0, .int .u8 0, .int .u8 0, .int .u8 0, .int .u8 0, .int .u8 0, .int .u8 0, .int .u8 0, .int .u8 0, .int .u8 0, .int .u8 0, .int .u8 0, .int .u8 0, .int .u8 0, .int .u8 0, .int .u8 0, .int .u8 0, .int .u8 0, .int .u8 0, .int .u8 0, .int .u8 0, .int .u8 0, .int .u8 0, .int .u8 0]⟩),
  (203, ⟨.arr true 64 5, 64, 64, [.int .u8 0, .int .u8 0, .int .u8 0, .int .u8 0, .int .u8 0, .int .u8 0, .int .u8 0, .int .u8 0, .int .u8 0, .int .u8 0, .int .u8 0, .int .u8 0, .int .u8 0, .int .u8 0, .int .u8 0, .int .u8 0, .int .u8 0, .int .u8 0, .int .u8 0, .int .u8 0, .int .u8 0, .int .u8 0, .int .u8 0, .int .u8 0, .int .u8 0, .int .u8 0, .int .u8 0, .int .u8 0, .int .u8 0, .int .u8 0, .int .u8 0, .int .u8 0, .int .u8 0, .int .u8 0, .int .u8 0, .int .u8 0, .int .u8 0, .int .u8 0, .int .u8 0, .int .u8 0, .int .u8 0, .int .u8 0, .int .u8 0, .int .u8 0, .int .u8 0, .int .u8 0, .int .u8 0, .int .u8 0, .int .u8 0, .int .u8 0, .int .u8 0, .int .u8 0, .int .u8 0, .int .u8 0, .int .u8 0, .int .u8 0, .int .u8 0, .int .u8 0, .int .u8 0, .int .u8 0, .int .u8 0, .int .u8 0, .int .u8 0, .int .u8 0]⟩),
  (204, ⟨.func, 1, 8, [.nilfn]⟩),
  (205, ⟨.ptr 207, 1, 8, [.nilptr]⟩),
  (206, ⟨.struct true [(0, 9)], 1, 16, [.str []]⟩),
  (207, ⟨.struct true [(0, 9)], 1, 16, [.str []]⟩),
  (208, ⟨.struct false [(0, 17), (1, 17), (2, 17), (3, 9)], 4, 40, [.nilptr, .nilptr, .nilptr, .str []]⟩),
  (209, ⟨.struct false [(0, 17), (1, 17), (2, 17), (3, 9)], 4, 40, [.nilptr, .nilptr, .nilptr, .str []]⟩),
  (210, ⟨.arr false 0 16, 0, 0, []⟩),
  (211, ⟨.struct false [(0, 210)], 0, 0, []⟩),
  (212, ⟨.struct false [(0, 210)], 0, 0, []⟩),
  (213, ⟨.int .u8, 1, 1, [.int .u8 0]⟩),
  (214, ⟨.int .u8, 1, 1, [.int .u8 0]⟩),
  (215, ⟨.func, 1, 8, [.nilfn]⟩),
  (216, ⟨.int .i32, 1, 4, [.int .i32 0]⟩),
  (217, ⟨.int .i32, 1, 4, [.int .i32 0]⟩),
  (218, ⟨.struct false [(0, 12), (1, 12), (2, 151), (3, 213), (4, 5), (5, 5), (6, 214), (7, 215), (8, 132), (9, 216), (10, 217)], 11, 48, [.int .u64 0, .int .u64 0, .int .u32 0, .int .u8 0, .int .u8 0, .int .u8 0, .int .u8 0, .nilfn, .nilptr, .int .i32 0, .int .i32 0]⟩),
  (219, ⟨.struct false [(0, 12), (1, 12), (2, 151), (3, 213), (4, 5), (5, 5), (6, 214), (7, 215), (8, 132), (9, 216), (10, 217)], 11, 48, [.int .u64 0, .int .u64 0, .int .u32 0, .int .u8 0, .int .u8 0, .int .u8 0, .int .u8 0, .nilfn, .nilptr, .int .i32 0, .int .i32 0]⟩)]
theorem tb_ok : Pok Proofs.Tryz.prog tb := ⟨by kernel_rfl, by kernel_rfl⟩
@[simp] theorem tbget1 : tb.get 1 = some ⟨.func, 1, 8, [.nilfn]⟩ := rfl
@[simp] theorem tbget2 : tb.get 2 = some ⟨.int .i64, 1, 8, [.int .i64 0]⟩ := rfl
@[simp] theorem tbget3 : tb.get 3 = some ⟨.int .i64, 1, 8, [.int .i64 0]⟩ := rfl
@[simp] theorem tbget4 : tb.get 4 = some ⟨.bool, 1, 1, [.bool false]⟩ := rfl
@[simp] theorem tbget5 : tb.get 5 = some ⟨.int .u8, 1, 1, [.int .u8 0]⟩ := rfl
@[simp] theorem tbget6 : tb.get 6 = some ⟨.int .u8, 1, 1, [.int .u8 0]⟩ := rfl
@[simp] theorem tbget7 : tb.get 7 = some ⟨.struct true [(0, 2), (1, 3), (2, 4), (3, 6)], 4, 24, [.int .i64 0, .int .i64 0, .bool false, .int .u8 0]⟩ := rfl
@[simp] theorem tbget8 : tb.get 8 = some ⟨.struct true [(0, 2), (1, 3), (2, 4), (3, 6)], 4, 24, [.int .i64 0, .int .i64 0, .bool false, .int .u8 0]⟩ := rfl
@[simp] theorem tbget9 : tb.get 9 = some ⟨.str, 1, 16, [.str []]⟩ := rfl
@[simp] theorem tbget10 : tb.get 10 = some ⟨.str, 1, 16, [.str []]⟩ := rfl
@[simp] theorem tbget11 : tb.get 11 = some ⟨.str, 1, 16, [.str []]⟩ := rfl
@[simp] theorem tbget12 : tb.get 12 = some ⟨.int .u64, 1, 8, [.int .u64 0]⟩ := rfl
@[simp] theorem tbget13 : tb.get 13 = some ⟨.struct false [(0, 9), (1, 12)], 2, 24, [.str [], .int .u64 0]⟩ := rfl
@[simp] theorem tbget14 : tb.get 14 = some ⟨.struct false [(0, 9), (1, 12)], 2, 24, [.str [], .int .u64 0]⟩ := rfl
@[simp] theorem tbget15 : tb.get 15 = some ⟨.ptr 209, 1, 8, [.nilptr]⟩ := rfl
@[simp] theorem tbget16 : tb.get 16 = some ⟨.ptr 212, 1, 8, [.nilptr]⟩ := rfl
@[simp] theorem tbget17 : tb.get 17 = some ⟨.ptr 219, 1, 8, [.nilptr]⟩ := rfl
@[simp] theorem tbget18 : tb.get 18 = some ⟨.struct false [(0, 17)], 1, 8, [.nilptr]⟩ := rfl
@[simp] theorem tbget19 : tb.get 19 = some ⟨.struct false [(0, 17)], 1, 8, [.nilptr]⟩ := rfl
@[simp] theorem tbget20 : tb.get 20 = some ⟨.ifc, 1, 16, [.nilif]⟩ := rfl
@[simp] theorem tbget21 : tb.get 21 = some ⟨.int .i32, 1, 4, [.int .i32 0]⟩ := rfl
@[simp] theorem tbget22 : tb.get 22 = some ⟨.sl 3, 1, 24, [.nilsl]⟩ := rfl
@[simp] theorem tbget23 : tb.get 23 = some ⟨.sl 56, 1, 24, [.nilsl]⟩ := rfl
@[simp] theorem tbget24 : tb.get 24 = some ⟨.struct false [(0, 3), (1, 3), (2, 22), (3, 22), (4, 23), (5, 22), (6, 3), (7, 3)], 8, 128, [.int .i64 0, .int .i64 0, .nilsl, .nilsl, .nilsl, .nilsl, .int .i64 0, .int .i64 0]⟩ := rfl
@[simp] theorem tbget25 : tb.get 25 = some ⟨.struct false [(0, 3), (1, 3), (2, 22), (3, 22), (4, 23), (5, 22), (6, 3), (7, 3)], 8, 128, [.int .i64 0, .int .i64 0, .nilsl, .nilsl, .nilsl, .nilsl, .int .i64 0, .int .i64 0]⟩ := rfl
@[simp] theorem tbget26 : tb.get 26 = some ⟨.struct true [(0, 3), (1, 3)], 2, 16, [.int .i64 0, .int .i64 0]⟩ := rfl
@[simp] theorem tbget27 : tb.get 27 = some ⟨.struct true [(0, 3), (1, 3)], 2, 16, [.int .i64 0, .int .i64 0]⟩ := rfl
@[simp] theorem tbget29 : tb.get 29 = some ⟨.func, 1, 8, [.nilfn]⟩ := rfl
@[simp] theorem tbget30 : tb.get 30 = some ⟨.func, 1, 8, [.nilfn]⟩ := rfl
@[simp] theorem tbget31 : tb.get 31 = some ⟨.func, 1, 8, [.nilfn]⟩ := rfl
@[simp] theorem tbget32 : tb.get 32 = some ⟨.func, 1, 8, [.nilfn]⟩ := rfl
@[simp] theorem tbget33 : tb.get 33 = some ⟨.func, 1, 8, [.nilfn]⟩ := rfl
@[simp] theorem tbget34 : tb.get 34 = some ⟨.func, 1, 8, [.nilfn]⟩ := rfl
@[simp] theorem tbget35 : tb.get 35 = some ⟨.func, 1, 8, [.nilfn]⟩ := rfl
@[simp] theorem tbget36 : tb.get 36 = some ⟨.func, 1, 8, [.nilfn]⟩ := rfl
@[simp] theorem tbget37 : tb.get 37 = some ⟨.func, 1, 8, [.nilfn]⟩ := rfl
@[simp] theorem tbget39 : tb.get 39 = some ⟨.func, 1, 8, [.nilfn]⟩ := rfl
@[simp] theorem tbget41 : tb.get 41 = some ⟨.func, 1, 8, [.nilfn]⟩ := rfl
@[simp] theorem tbget43 : tb.get 43 = some ⟨.func, 1, 8, [.nilfn]⟩ := rfl
@[simp] theorem tbget44 : tb.get 44 = some ⟨.func, 1, 8, [.nilfn]⟩ := rfl
@[simp] theorem tbget45 : tb.get 45 = some ⟨.func, 1, 8, [.nilfn]⟩ := rfl
@[simp] theorem tbget46 : tb.get 46 = some ⟨.func, 1, 8, [.nilfn]⟩ := rfl
@[simp] theorem tbget47 : tb.get 47 = some ⟨.func, 1, 8, [.nilfn]⟩ := rfl
@[simp] theorem tbget48 : tb.get 48 = some ⟨.func, 1, 8, [.nilfn]⟩ := rfl
@[simp] theorem tbget49 : tb.get 49 = some ⟨.func, 1, 8, [.nilfn]⟩ := rfl
@[simp] theorem tbget50 : tb.get 50 = some ⟨.func, 1, 8, [.nilfn]⟩ := rfl
@[simp] theorem tbget51 : tb.get 51 = some ⟨.func, 1, 8, [.nilfn]⟩ := rfl
@[simp] theorem tbget52 : tb.get 52 = some ⟨.func, 1, 8, [.nilfn]⟩ := rfl
@[simp] theorem tbget53 : tb.get 53 = some ⟨.func, 1, 8, [.nilfn]⟩ := rfl
@[simp] theorem tbget54 : tb.get 54 = some ⟨.func, 1, 8, [.nilfn]⟩ := rfl
@[simp] theorem tbget55 : tb.get 55 = some ⟨.struct true [(0, 3), (1, 3)], 2, 16, [.int .i64 0, .int .i64 0]⟩ := rfl
@[simp] theorem tbget56 : tb.get 56 = some ⟨.struct true [(0, 3), (1, 3)], 2, 16, [.int .i64 0, .int .i64 0]⟩ := rfl
@[simp] theorem tbget57 : tb.get 57 = some ⟨.func, 1, 8, [.nilfn]⟩ := rfl
@[simp] theorem tbget58 : tb.get 58 = some ⟨.arr false 8 50, 8, 64, [.nilfn, .nilfn, .nilfn, .nilfn, .nilfn, .nilfn, .nilfn, .nilfn]⟩ := rfl
@[simp] theorem tbget59 : tb.get 59 = some ⟨.func, 1, 8, [.nilfn]⟩ := rfl
@[simp] theorem tbget61 : tb.get 61 = some ⟨.func, 1, 8, [.nilfn]⟩ := rfl
@[simp] theorem tbget62 : tb.get 62 = some ⟨.func, 1, 8, [.nilfn]⟩ := rfl
@[simp] theorem tbget63 : tb.get 63 = some ⟨.ptr 68, 1, 8, [.nilptr]⟩ := rfl
@[simp] theorem tbget64 : tb.get 64 = some ⟨.func, 1, 8, [.nilfn]⟩ := rfl
@[simp] theorem tbget65 : tb.get 65 = some ⟨.sl 9, 1, 24, [.nilsl]⟩ := rfl
@[simp] theorem tbget66 : tb.get 66 = some ⟨.func, 1, 8, [.nilfn]⟩ := rfl
@[simp] theorem tbget67 : tb.get 67 = some ⟨.struct false [(0, 65)], 1, 24, [.nilsl]⟩ := rfl
@[simp] theorem tbget68 : tb.get 68 = some ⟨.struct false [(0, 65)], 1, 24, [.nilsl]⟩ := rfl
@[simp] theorem tbget69 : tb.get 69 = some ⟨.func, 1, 8, [.nilfn]⟩ := rfl
@[simp] theorem tbget70 : tb.get 70 = some ⟨.struct true [(0, 9), (1, 3)], 2, 24, [.str [], .int .i64 0]⟩ := rfl
@[simp] theorem tbget71 : tb.get 71 = some ⟨.sl 70, 1, 24, [.nilsl]⟩ := rfl
@[simp] theorem tbget72 : tb.get 72 = some ⟨.func, 1, 8, [.nilfn]⟩ := rfl
@[simp] theorem tbget74 : tb.get 74 = some ⟨.func, 1, 8, [.nilfn]⟩ := rfl
@[simp] theorem tbget75 : tb.get 75 = some ⟨.func, 1, 8, [.nilfn]⟩ := rfl
@[simp] theorem tbget76 : tb.get 76 = some ⟨.func, 1, 8, [.nilfn]⟩ := rfl
@[simp] theorem tbget77 : tb.get 77 = some ⟨.func, 1, 8, [.nilfn]⟩ := rfl
@[simp] theorem tbget79 : tb.get 79 = some ⟨.func, 1, 8, [.nilfn]⟩ := rfl
@[simp] theorem tbget81 : tb.get 81 = some ⟨.func, 1, 8, [.nilfn]⟩ := rfl
@[simp] theorem tbget83 : tb.get 83 = some ⟨.func, 1, 8, [.nilfn]⟩ := rfl
@[simp] theorem tbget84 : tb.get 84 = some ⟨.struct true [(0, 3), (1, 3), (2, 3), (3, 3), (4, 3), (5, 3)], 6, 48, [.int .i64 0, .int .i64 0, .int .i64 0, .int .i64 0, .int .i64 0, .int .i64 0]⟩ := rfl
@[simp] theorem tbget85 : tb.get 85 = some ⟨.struct true [(0, 3), (1, 3), (2, 3), (3, 3), (4, 3), (5, 3)], 6, 48, [.int .i64 0, .int .i64 0, .int .i64 0, .int .i64 0, .int .i64 0, .int .i64 0]⟩ := rfl
@[simp] theorem tbget86 : tb.get 86 = some ⟨.func, 1, 8, [.nilfn]⟩ := rfl
@[simp] theorem tbget87 : tb.get 87 = some ⟨.func, 1, 8, [.nilfn]⟩ := rfl
@[simp] theorem tbget88 : tb.get 88 = some ⟨.func, 1, 8, [.nilfn]⟩ := rfl
@[simp] theorem tbget89 : tb.get 89 = some ⟨.func, 1, 8, [.nilfn]⟩ := rfl
@[simp] theorem tbget90 : tb.get 90 = some ⟨.ptr 94, 1, 8, [.nilptr]⟩ := rfl
@[simp] theorem tbget91 : tb.get 91 = some ⟨.func, 1, 8, [.nilfn]⟩ := rfl
@[simp] theorem tbget92 : tb.get 92 = some ⟨.func, 1, 8, [.nilfn]⟩ := rfl
@[simp] theorem tbget93 : tb.get 93 = some ⟨.struct true [(0, 85)], 6, 48, [.int .i64 0, .int .i64 0, .int .i64 0, .int .i64 0, .int .i64 0, .int .i64 0]⟩ := rfl
@[simp] theorem tbget94 : tb.get 94 = some ⟨.struct true [(0, 85)], 6, 48, [.int .i64 0, .int .i64 0, .int .i64 0, .int .i64 0, .int .i64 0, .int .i64 0]⟩ := rfl
@[simp] theorem tbget95 : tb.get 95 = some ⟨.func, 1, 8, [.nilfn]⟩ := rfl
@[simp] theorem tbget96 : tb.get 96 = some ⟨.func, 1, 8, [.nilfn]⟩ := rfl
@[simp] theorem tbget97 : tb.get 97 = some ⟨.func, 1, 8, [.nilfn]⟩ := rfl
@[simp] theorem tbget98 : tb.get 98 = some ⟨.struct true [(0, 3), (1, 3), (2, 3), (3, 3), (4, 3), (5, 3)], 6, 48, [.int .i64 0, .int .i64 0, .int .i64 0, .int .i64 0, .int .i64 0, .int .i64 0]⟩ := rfl
@[simp] theorem tbget99 : tb.get 99 = some ⟨.struct true [(0, 3), (1, 3), (2, 3), (3, 3), (4, 3), (5, 3)], 6, 48, [.int .i64 0, .int .i64 0, .int .i64 0, .int .i64 0, .int .i64 0, .int .i64 0]⟩ := rfl
@[simp] theorem tbget100 : tb.get 100 = some ⟨.func, 1, 8, [.nilfn]⟩ := rfl
@[simp] theorem tbget101 : tb.get 101 = some ⟨.func, 1, 8, [.nilfn]⟩ := rfl
@[simp] theorem tbget102 : tb.get 102 = some ⟨.func, 1, 8, [.nilfn]⟩ := rfl
@[simp] theorem tbget103 : tb.get 103 = some ⟨.ptr 106, 1, 8, [.nilptr]⟩ := rfl
@[simp] theorem tbget104 : tb.get 104 = some ⟨.sl 5, 1, 24, [.nilsl]⟩ := rfl
@[simp] theorem tbget105 : tb.get 105 = some ⟨.struct false [(0, 103), (1, 104)], 2, 32, [.nilptr, .nilsl]⟩ := rfl
@[simp] theorem tbget106 : tb.get 106 = some ⟨.struct false [(0, 103), (1, 104)], 2, 32, [.nilptr, .nilsl]⟩ := rfl
@[simp] theorem tbget107 : tb.get 107 = some ⟨.func, 1, 8, [.nilfn]⟩ := rfl
@[simp] theorem tbget108 : tb.get 108 = some ⟨.ifc, 1, 16, [.nilif]⟩ := rfl
@[simp] theorem tbget109 : tb.get 109 = some ⟨.ifc, 1, 16, [.nilif]⟩ := rfl
@[simp] theorem tbget111 : tb.get 111 = some ⟨.func, 1, 8, [.nilfn]⟩ := rfl
@[simp] theorem tbget112 : tb.get 112 = some ⟨.func, 1, 8, [.nilfn]⟩ := rfl
@[simp] theorem tbget113 : tb.get 113 = some ⟨.func, 1, 8, [.nilfn]⟩ := rfl
@[simp] theorem tbget114 : tb.get 114 = some ⟨.func, 1, 8, [.nilfn]⟩ := rfl
@[simp] theorem tbget115 : tb.get 115 = some ⟨.struct false [(0, 9), (1, 47)], 2, 24, [.str [], .nilfn]⟩ := rfl
@[simp] theorem tbget116 : tb.get 116 = some ⟨.func, 1, 8, [.nilfn]⟩ := rfl
@[simp] theorem tbget117 : tb.get 117 = some ⟨.func, 1, 8, [.nilfn]⟩ := rfl
@[simp] theorem tbget118 : tb.get 118 = some ⟨.sl 115, 1, 24, [.nilsl]⟩ := rfl
@[simp] theorem tbget119 : tb.get 119 = some ⟨.func, 1, 8, [.nilfn]⟩ := rfl
@[simp] theorem tbget120 : tb.get 120 = some ⟨.func, 1, 8, [.nilfn]⟩ := rfl
@[simp] theorem tbget121 : tb.get 121 = some ⟨.func, 1, 8, [.nilfn]⟩ := rfl
@[simp] theorem tbget123 : tb.get 123 = some ⟨.func, 1, 8, [.nilfn]⟩ := rfl
@[simp] theorem tbget124 : tb.get 124 = some ⟨.ptr 85, 1, 8, [.nilptr]⟩ := rfl
@[simp] theorem tbget125 : tb.get 125 = some ⟨.func, 1, 8, [.nilfn]⟩ := rfl
@[simp] theorem tbget126 : tb.get 126 = some ⟨.func, 1, 8, [.nilfn]⟩ := rfl
@[simp] theorem tbget127 : tb.get 127 = some ⟨.func, 1, 8, [.nilfn]⟩ := rfl
@[simp] theorem tbget128 : tb.get 128 = some ⟨.func, 1, 8, [.nilfn]⟩ := rfl
@[simp] theorem tbget129 : tb.get 129 = some ⟨.arr true 256 5, 256, 256, [.int .u8 0, .int .u8 0, .int .u8 0, .int .u8 0, .int .u8 0, .int .u8 0, .int .u8 0, .int .u8 0, .int .u8 0, .int .u8 0, .int .u8 0, .int .u8 0, .int .u8 0, .int .u8 0, .int .u8 0, .int .u8 0, .int .u8 0, .int .u8 0, .int .u8 0, .int .u8 0, .int .u8 0, .int .u8 0, .int .u8 0, .int .u8 0, .int .u8 0, .int .u8 0, .int .u8 0, .int .u8 0, .int .u8 0, .int .u8 0, .int .u8 0, .int .u8 0, .int .u8 0, .int .u8 0, .int .u8 0, .int .u8 0, .int .u8 0, .int .u8 0, .int .u8 0, .int .u8 0, .int .u8 0, .int .u8 0, .int .u8 0, .int .u8 0, .int .u8 0, .int .u8 0, .int .u8 0, .int .u8 0, .int .u8 0, .int .u8 0, .int .u8 0, .int .u8 0, .int .u8 0, .int .u8 0, .int .u8 0, .int .u8 0, .int .u8 0, .int .u8 0, .int .u8 0, .int .u8 0, .int .u8 0, .int .u8 0, .int .u8 0, .int .u8 0, .int .u8 0, .int .u8 0, .int .u8 0, .int .u8 0, .int .u8 0, .int .u8 0, .int .u8 0, .int .u8 0, .int .u8 0, .int .u8 0, .int .u8 0, .int .u8 0, .int .u8 0, .int .u8 0, .int .u8 0, .int .u8 0, .int .u8 0, .int .u8 0, .int .u8 0, .int .u8 0, .int .u8 0, .int .u8 0, .int .u8 0, .int .u8 0, .int .u8 0, .int .u8 0, .int .u8 0, .int .u8 0, .int .u8 0, .int .u8 0, .int .u8 0, .int .u8 0, .int .u8 0, .int .u8 0, .int .u8 0, .int .u8 0, .int .u8 0, .int .u8 0, .int .u8 0, .int .u8 0, .int .u8 0, .int .u8 0, .int .u8 0, .int .u8 0, .int .u8 0, .int .u8 0, .int .u8 0, .int .u8 0, .int .u8 0, .int .u8 0, .int .u8 0, .int .u8 0, .int .u8 0, .int .u8 0, .int .u8 0, .int .u8 0, .int .u8 0, .int .u8 0, .int .u8 0, .int .u8 0, .int .u8 0, .int .u8 0, .int .u8 0, .int .u8 0, .int .u8 0, .int .u8 0, .int .u8 0, .int .u8 0, .int .u8 0, .int .u8 0, .int .u8 0, .int .u8 0, .int .u8 0, .int .u8 0, .int .u8 0, .int .u8 0, .int .u8 0, .int .u8 0, .int .u8 0, .int .u8 0, .int .u8 0, .int .u8 0, .int .u8 0, .int .u8 0, .int .u8 0, .int .u8 0, .int .u8 0, .int .u8 0, .int .u8 0, .int .u8 0, .int .u8 0, .int .u8 0, .int .u8 0, .int .u8 0, .int .u8 0, .int .u8 0, .int .u8 0, .int .u8 0, .int .u8 0, .int .u8 0, .int .u8 0, .int .u8 0, .int .u8 0, .int .u8 0, .int .u8 0, .int .u8 0, .int .u8 0, .int .u8 0, .int .u8 0, .int .u8 0, .int .u8 0, .int .u8 0, .int .u8 0, .int .u8 0, .int .u8 0, .int .u8 0, .int .u8 0, .int .u8 0, .int .u8 0, .int .u8 0, .int .u8 0, .int .u8 0, .int .u8 0, .int .u8 0, .int .u8 0, .int .u8 0, .int .u8 0, .int .u8 0, .int .u8 0, .int .u8 0, .int .u8 0, .int .u8 0, .int .u8 0, .int .u8 0, .int .u8 0, .int .u8 0, .int .u8 0, .int .u8 0, .int .u8 0, .int .u8 0, .int .u8 0, .int .u8 0, .int .u8 0, .int .u8 0, .int .u8 0, .int .u8 0, .int .u8 0, .int .u8 0, .int .u8 0, .int .u8 0, .int .u8 0, .int .u8 0, .int .u8 0, .int .u8 0, .int .u8 0, .int .u8 0, .int .u8 0, .int .u8 0, .int .u8 0, .int .u8 0, .int .u8 0, .int .u8 0, .int .u8 0, .int .u8 0, .int .u8 0, .int .u8 0, .int .u8 0, .int .u8 0, .int .u8 0, .int .u8 0, .int .u8 0, .int .u8 0, .int .u8 0, .int .u8 0, .int .u8 0, .int .u8 0, .int .u8 0, .int .u8 0, .int .u8 0, .int .u8 0, .int .u8 0, .int .u8 0, .int .u8 0, .int .u8 0, .int .u8 0, .int .u8 0, .int .u8 0, .int .u8 0, .int .u8 0, .int .u8 0, .int .u8 0, .int .u8 0]⟩ := rfl
@[simp] theorem tbget130 : tb.get 130 = some ⟨.func, 1, 8, [.nilfn]⟩ := rfl
@[simp] theorem tbget131 : tb.get 131 = some ⟨.func, 1, 8, [.nilfn]⟩ := rfl
@[simp] theorem tbget132 : tb.get 132 = some ⟨.ptr 5, 1, 8, [.nilptr]⟩ := rfl
@[simp] theorem tbget133 : tb.get 133 = some ⟨.func, 1, 8, [.nilfn]⟩ := rfl
@[simp] theorem tbget136 : tb.get 136 = some ⟨.func, 1, 8, [.nilfn]⟩ := rfl
@[simp] theorem tbget137 : tb.get 137 = some ⟨.func, 1, 8, [.nilfn]⟩ := rfl
@[simp] theorem tbget139 : tb.get 139 = some ⟨.func, 1, 8, [.nilfn]⟩ := rfl
@[simp] theorem tbget140 : tb.get 140 = some ⟨.func, 1, 8, [.nilfn]⟩ := rfl
@[simp] theorem tbget141 : tb.get 141 = some ⟨.func, 1, 8, [.nilfn]⟩ := rfl
@[simp] theorem tbget142 : tb.get 142 = some ⟨.arr true 24 5, 24, 24, [.int .u8 0, .int .u8 0, .int .u8 0, .int .u8 0, .int .u8 0, .int .u8 0, .int .u8 0, .int .u8 0, .int .u8 0, .int .u8 0, .int .u8 0, .int .u8 0, .int .u8 0, .int .u8 0, .int .u8 0, .int .u8 0, .int .u8 0, .int .u8 0, .int .u8 0, .int .u8 0, .int .u8 0, .int .u8 0, .int .u8 0, .int .u8 0]⟩ := rfl
@[simp] theorem tbget143 : tb.get 143 = some ⟨.int .u64, 1, 8, [.int .u64 0]⟩ := rfl
@[simp] theorem tbget144 : tb.get 144 = some ⟨.func, 1, 8, [.nilfn]⟩ := rfl
@[simp] theorem tbget145 : tb.get 145 = some ⟨.func, 1, 8, [.nilfn]⟩ := rfl
@[simp] theorem tbget147 : tb.get 147 = some ⟨.func, 1, 8, [.nilfn]⟩ := rfl
@[simp] theorem tbget148 : tb.get 148 = some ⟨.sl 150, 1, 24, [.nilsl]⟩ := rfl
@[simp] theorem tbget149 : tb.get 149 = some ⟨.struct true [(0, 3), (1, 3)], 2, 16, [.int .i64 0, .int .i64 0]⟩ := rfl
@[simp] theorem tbget150 : tb.get 150 = some ⟨.struct true [(0, 3), (1, 3)], 2, 16, [.int .i64 0, .int .i64 0]⟩ := rfl
@[simp] theorem tbget151 : tb.get 151 = some ⟨.int .u32, 1, 4, [.int .u32 0]⟩ := rfl
@[simp] theorem tbget152 : tb.get 152 = some ⟨.func, 1, 8, [.nilfn]⟩ := rfl
@[simp] theorem tbget153 : tb.get 153 = some ⟨.ptr 173, 1, 8, [.nilptr]⟩ := rfl
@[simp] theorem tbget155 : tb.get 155 = some ⟨.func, 1, 8, [.nilfn]⟩ := rfl
@[simp] theorem tbget156 : tb.get 156 = some ⟨.func, 1, 8, [.nilfn]⟩ := rfl
@[simp] theorem tbget157 : tb.get 157 = some ⟨.func, 1, 8, [.nilfn]⟩ := rfl
@[simp] theorem tbget158 : tb.get 158 = some ⟨.func, 1, 8, [.nilfn]⟩ := rfl
@[simp] theorem tbget160 : tb.get 160 = some ⟨.func, 1, 8, [.nilfn]⟩ := rfl
@[simp] theorem tbget161 : tb.get 161 = some ⟨.func, 1, 8, [.nilfn]⟩ := rfl
@[simp] theorem tbget162 : tb.get 162 = some ⟨.struct true [(0, 3), (1, 3), (2, 3)], 3, 24, [.int .i64 0, .int .i64 0, .int .i64 0]⟩ := rfl
@[simp] theorem tbget163 : tb.get 163 = some ⟨.struct true [(0, 3), (1, 3), (2, 3)], 3, 24, [.int .i64 0, .int .i64 0, .int .i64 0]⟩ := rfl
@[simp] theorem tbget164 : tb.get 164 = some ⟨.arr true 6 163, 18, 144, [.int .i64 0, .int .i64 0, .int .i64 0, .int .i64 0, .int .i64 0, .int .i64 0, .int .i64 0, .int .i64 0, .int .i64 0, .int .i64 0, .int .i64 0, .int .i64 0, .int .i64 0, .int .i64 0, .int .i64 0, .int .i64 0, .int .i64 0, .int .i64 0]⟩ := rfl
@[simp] theorem tbget165 : tb.get 165 = some ⟨.func, 1, 8, [.nilfn]⟩ := rfl
@[simp] theorem tbget166 : tb.get 166 = some ⟨.arr true 20 143, 20, 160, [.int .u64 0, .int .u64 0, .int .u64 0, .int .u64 0, .int .u64 0, .int .u64 0, .int .u64 0, .int .u64 0, .int .u64 0, .int .u64 0, .int .u64 0, .int .u64 0, .int .u64 0, .int .u64 0, .int .u64 0, .int .u64 0, .int .u64 0, .int .u64 0, .int .u64 0, .int .u64 0]⟩ := rfl
@[simp] theorem tbget167 : tb.get 167 = some ⟨.arr true 65 5, 65, 65, [.int .u8 0, .int .u8 0, .int .u8 0, .int .u8 0, .int .u8 0, .int .u8 0, .int .u8 0, .int .u8 0, .int .u8 0, .int .u8 0, .int .u8 0, .int .u8 0, .int .u8 0, .int .u8 0, .int .u8 0, .int .u8 0, .int .u8 0, .int .u8 0, .int .u8 0, .int .u8 0, .int .u8 0, .int .u8 0, .int .u8 0, .int .u8 0, .int .u8 0, .int .u8 0, .int .u8 0, .int .u8 0, .int .u8 0, .int .u8 0, .int .u8 0, .int .u8 0, .int .u8 0, .int .u8 0, .int .u8 0, .int .u8 0, .int .u8 0, .int .u8 0, .int .u8 0, .int .u8 0, .int .u8 0, .int .u8 0, .int .u8 0, .int .u8 0, .int .u8 0, .int .u8 0, .int .u8 0, .int .u8 0, .int .u8 0, .int .u8 0, .int .u8 0, .int .u8 0, .int .u8 0, .int .u8 0, .int .u8 0, .int .u8 0, .int .u8 0, .int .u8 0, .int .u8 0, .int .u8 0, .int .u8 0, .int .u8 0, .int .u8 0, .int .u8 0, .int .u8 0]⟩ := rfl
@[simp] theorem tbget168 : tb.get 168 = some ⟨.int .u64, 1, 8, [.int .u64 0]⟩ := rfl
@[simp] theorem tbget169 : tb.get 169 = some ⟨.func, 1, 8, [.nilfn]⟩ := rfl
@[simp] theorem tbget170 : tb.get 170 = some ⟨.sl 176, 1, 24, [.nilsl]⟩ := rfl
@[simp] theorem tbget171 : tb.get 171 = some ⟨.sl 179, 1, 24, [.nilsl]⟩ := rfl
@[simp] theorem tbget172 : tb.get 172 = some ⟨.struct false [(0, 170), (1, 171), (2, 3)], 3, 56, [.nilsl, .nilsl, .int .i64 0]⟩ := rfl
@[simp] theorem tbget173 : tb.get 173 = some ⟨.struct false [(0, 170), (1, 171), (2, 3)], 3, 56, [.nilsl, .nilsl, .int .i64 0]⟩ := rfl
@[simp] theorem tbget174 : tb.get 174 = some ⟨.int .u16, 1, 2, [.int .u16 0]⟩ := rfl
@[simp] theorem tbget175 : tb.get 175 = some ⟨.struct true [(0, 174), (1, 174), (2, 174)], 3, 6, [.int .u16 0, .int .u16 0, .int .u16 0]⟩ := rfl
@[simp] theorem tbget176 : tb.get 176 = some ⟨.struct true [(0, 174), (1, 174), (2, 174)], 3, 6, [.int .u16 0, .int .u16 0, .int .u16 0]⟩ := rfl
@[simp] theorem tbget177 : tb.get 177 = some ⟨.func, 1, 8, [.nilfn]⟩ := rfl
@[simp] theorem tbget178 : tb.get 178 = some ⟨.struct true [(0, 151), (1, 151), (2, 151)], 3, 12, [.int .u32 0, .int .u32 0, .int .u32 0]⟩ := rfl
@[simp] theorem tbget179 : tb.get 179 = some ⟨.struct true [(0, 151), (1, 151), (2, 151)], 3, 12, [.int .u32 0, .int .u32 0, .int .u32 0]⟩ := rfl
@[simp] theorem tbget180 : tb.get 180 = some ⟨.func, 1, 8, [.nilfn]⟩ := rfl
@[simp] theorem tbget181 : tb.get 181 = some ⟨.int .i64, 1, 8, [.int .i64 0]⟩ := rfl
@[simp] theorem tbget183 : tb.get 183 = some ⟨.func, 1, 8, [.nilfn]⟩ := rfl
@[simp] theorem tbget184 : tb.get 184 = some ⟨.ptr 195, 1, 8, [.nilptr]⟩ := rfl
@[simp] theorem tbget185 : tb.get 185 = some ⟨.func, 1, 8, [.nilfn]⟩ := rfl
@[simp] theorem tbget186 : tb.get 186 = some ⟨.func, 1, 8, [.nilfn]⟩ := rfl
@[simp] theorem tbget187 : tb.get 187 = some ⟨.func, 1, 8, [.nilfn]⟩ := rfl
@[simp] theorem tbget188 : tb.get 188 = some ⟨.func, 1, 8, [.nilfn]⟩ := rfl
@[simp] theorem tbget189 : tb.get 189 = some ⟨.ptr 176, 1, 8, [.nilptr]⟩ := rfl
@[simp] theorem tbget190 : tb.get 190 = some ⟨.ptr 179, 1, 8, [.nilptr]⟩ := rfl
@[simp] theorem tbget192 : tb.get 192 = some ⟨.func, 1, 8, [.nilfn]⟩ := rfl
@[simp] theorem tbget193 : tb.get 193 = some ⟨.func, 1, 8, [.nilfn]⟩ := rfl
@[simp] theorem tbget194 : tb.get 194 = some ⟨.struct false [(0, 9), (1, 9), (2, 109)], 3, 48, [.str [], .str [], .nilif]⟩ := rfl
@[simp] theorem tbget195 : tb.get 195 = some ⟨.struct false [(0, 9), (1, 9), (2, 109)], 3, 48, [.str [], .str [], .nilif]⟩ := rfl
@[simp] theorem tbget196 : tb.get 196 = some ⟨.func, 1, 8, [.nilfn]⟩ := rfl
@[simp] theorem tbget197 : tb.get 197 = some ⟨.struct true [(0, 5), (1, 5)], 2, 2, [.int .u8 0, .int .u8 0]⟩ := rfl
@[simp] theorem tbget198 : tb.get 198 = some ⟨.struct true [(0, 5), (1, 5)], 2, 2, [.int .u8 0, .int .u8 0]⟩ := rfl
@[simp] theorem tbget199 : tb.get 199 = some ⟨.arr true 16 198, 32, 32, [.int .u8 0, .int .u8 0, .int .u8 0, .int .u8 0, .int .u8 0, .int .u8 0, .int .u8 0, .int .u8 0, .int .u8 0, .int .u8 0, .int .u8 0, .int .u8 0, .int .u8 0, .int .u8 0, .int .u8 0, .int .u8 0, .int .u8 0, .int .u8 0, .int .u8 0, .int .u8 0, .int .u8 0, .int .u8 0, .int .u8 0, .int .u8 0, .int .u8 0, .int .u8 0, .int .u8 0, .int .u8 0, .int .u8 0, .int .u8 0, .int .u8 0, .int .u8 0]⟩ := rfl
@[simp] theorem tbget201 : tb.get 201 = some ⟨.func, 1, 8, [.nilfn]⟩ := rfl
@[simp] theorem tbget202 : tb.get 202 = some ⟨.arr true 32 5, 32, 32, [.int .u8 0, .int .u8 0, .int .u8 0, .int .u8 0, .int .u8 0, .int .u8 0, .int .u8 0, .int .u8 0, .int .u8 0, .int .u8 0, .int .u8 0, .int .u8 0, .int .u8 0, .int .u8 0, .int .u8 0, .int .u8 0, .int .u8 0, .int .u8 0, .int .u8 0, .int .u8 0, .int .u8 0, .int .u8 0, .int .u8 0, .int .u8 0, .int .u8 0, .int .u8 0, .int .u8 0, .int .u8 0, .int .u8 0, .int .u8 0, .int .u8 0, .int .u8 0]⟩ := rfl
@[simp] theorem tbget203 : tb.get 203 = some ⟨.arr true 64 5, 64, 64, [.int .u8 0, .int .u8 0, .int .u8 0, .int .u8 0, .int .u8 0, .int .u8 0, .int .u8 0, .int .u8 0, .int .u8 0, .int .u8 0, .int .u8 0, .int .u8 0, .int .u8 0, .int .u8 0, .int .u8 0, .int .u8 0, .int .u8 0, .int .u8 0, .int .u8 0, .int .u8 0, .int .u8 0, .int .u8 0, .int .u8 0, .int .u8 0, .int .u8 0, .int .u8 0, .int .u8 0, .int .u8 0, .int .u8 0, .int .u8 0, .int .u8 0, .int .u8 0, .int .u8 0, .int .u8 0, .int .u8 0, .int .u8 0, .int .u8 0, .int .u8 0, .int .u8 0, .int .u8 0, .int .u8 0, .int .u8 0, .int .u8 0, .int .u8 0, .int .u8 0, .int .u8 0, .int .u8 0, .int .u8 0, .int .u8 0, .int .u8 0, .int .u8 0, .int .u8 0, .int .u8 0, .int .u8 0, .int .u8 0, .int .u8 0, .int .u8 0, .int .u8 0, .int .u8 0, .int .u8 0, .int .u8 0, .int .u8 0, .int .u8 0, .int .u8 0]⟩ := rfl
@[simp] theorem tbget204 : tb.get 204 = some ⟨.func, 1, 8, [.nilfn]⟩ := rfl
@[simp] theorem tbget205 : tb.get 205 = some ⟨.ptr 207, 1, 8, [.nilptr]⟩ := rfl
@[simp] theorem tbget206 : tb.get 206 = some ⟨.struct true [(0, 9)], 1, 16, [.str []]⟩ := rfl
@[simp] theorem tbget207 : tb.get 207 = some ⟨.struct true [(0, 9)], 1, 16, [.str []]⟩ := rfl
@[simp] theorem tbget208 : tb.get 208 = some ⟨.struct false [(0, 17), (1, 17), (2, 17), (3, 9)], 4, 40, [.nilptr, .nilptr, .nilptr, .str []]⟩ := rfl
@[simp] theorem tbget209 : tb.get 209 = some ⟨.struct false [(0, 17), (1, 17), (2, 17), (3, 9)], 4, 40, [.nilptr, .nilptr, .nilptr, .str []]⟩ := rfl
@[simp] theorem tbget210 : tb.get 210 = some ⟨.arr false 0 16, 0, 0, []⟩ := rfl
@[simp] theorem tbget211 : tb.get 211 = some ⟨.struct false [(0, 210)], 0, 0, []⟩ := rfl
@[simp] theorem tbget212 : tb.get 212 = some ⟨.struct false [(0, 210)], 0, 0, []⟩ := rfl
@[simp] theorem tbget213 : tb.get 213 = some ⟨.int .u8, 1, 1, [.int .u8 0]⟩ := rfl
@[simp] theorem tbget214 : tb.get 214 = some ⟨.int .u8, 1, 1, [.int .u8 0]⟩ := rfl
@[simp] theorem tbget215 : tb.get 215 = some ⟨.func, 1, 8, [.nilfn]⟩ := rfl
@[simp] theorem tbget216 : tb.get 216 = some ⟨.int .i32, 1, 4, [.int .i32 0]⟩ := rfl
@[simp] theorem tbget217 : tb.get 217 = some ⟨.int .i32, 1, 4, [.int .i32 0]⟩ := rfl
@[simp] theorem tbget218 : tb.get 218 = some ⟨.struct false [(0, 12), (1, 12), (2, 151), (3, 213), (4, 5), (5, 5), (6, 214), (7, 215), (8, 132), (9, 216), (10, 217)], 11, 48, [.int .u64 0, .int .u64 0, .int .u32 0, .int .u8 0, .int .u8 0, .int .u8 0, .int .u8 0, .nilfn, .nilptr, .int .i32 0, .int .i32 0]⟩ := rfl
@[simp] theorem tbget219 : tb.get 219 = some ⟨.struct false [(0, 12), (1, 12), (2, 151), (3, 213), (4, 5), (5, 5), (6, 214), (7, 215), (8, 132), (9, 216), (10, 217)], 11, 48, [.int .u64 0, .int .u64 0, .int .u32 0, .int .u8 0, .int .u8 0, .int .u8 0, .int .u8 0, .nilfn, .nilptr, .int .i32 0, .int .i32 0]⟩ := rfl
end Go.Vm
