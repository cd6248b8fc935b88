/- The table of types, by program (tab.py). -/
import Derived.Test.YtkmeiandnebaeaaDoorVMd
import Derived.Test.YtkmeiandnebaeaaDoorProg
namespace Go.Vm
set_option maxRecDepth 20000
def tb : Tab := [
  (1, ⟨.func, 1, 8, [.nilfn]⟩),
  (2, ⟨.int .i64, 1, 8, [.int .i64 0]⟩),
  (3, ⟨.int .i64, 1, 8, [.int .i64 0]⟩),
  (4, ⟨.bool, 1, 1, [.bool false]⟩),
  (5, ⟨.int .u8, 1, 1, [.int .u8 0]⟩),
  (6, ⟨.int .u8, 1, 1, [.int .u8 0]⟩),
  (7, ⟨.struct true [(0, 2), (1, 3), (2, 4), (3, 6)], 4, 24, [.int .i64 0, .int .i64 0, .bool false, .int .u8 0]⟩),
  (8, ⟨.struct true [(0, 2), (1, 3), (2, 4), (3, 6)], 4, 24, [.int .i64 0, .int .i64 0, .bool false, .int .u8 0]⟩),
  (9, ⟨.str, 1, 16, [.str []]⟩),
  (10, ⟨.str, 1, 16, [.str []]⟩),
  (11, ⟨.str, 1, 16, [.str []]⟩),
  (12, ⟨.int .u64, 1, 8, [.int .u64 0]⟩),
  (13, ⟨.struct false [(0, 9), (1, 12)], 2, 24, [.str [], .int .u64 0]⟩),
  (14, ⟨.struct false [(0, 9), (1, 12)], 2, 24, [.str [], .int .u64 0]⟩),
  (15, ⟨.ptr 151, 1, 8, [.nilptr]⟩),
  (16, ⟨.ptr 154, 1, 8, [.nilptr]⟩),
  (17, ⟨.ptr 161, 1, 8, [.nilptr]⟩),
  (18, ⟨.struct false [(0, 17)], 1, 8, [.nilptr]⟩),
  (19, ⟨.struct false [(0, 17)], 1, 8, [.nilptr]⟩),
  (20, ⟨.ifc, 1, 16, [.nilif]⟩),
  (21, ⟨.int .i32, 1, 4, [.int .i32 0]⟩),
  (22, ⟨.sl 3, 1, 24, [.nilsl]⟩),
  (23, ⟨.sl 54, 1, 24, [.nilsl]⟩),
  (24, ⟨.struct false [(0, 3), (1, 3), (2, 22), (3, 22), (4, 23), (5, 22), (6, 3), (7, 3)], 8, 128, [.int .i64 0, .int .i64 0, .nilsl, .nilsl, .nilsl, .nilsl, .int .i64 0, .int .i64 0]⟩),
  (25, ⟨.struct false [(0, 3), (1, 3), (2, 22), (3, 22), (4, 23), (5, 22), (6, 3), (7, 3)], 8, 128, [.int .i64 0, .int .i64 0, .nilsl, .nilsl, .nilsl, .nilsl, .int .i64 0, .int .i64 0]⟩),
  (26, ⟨.struct true [(0, 3), (1, 3)], 2, 16, [.int .i64 0, .int .i64 0]⟩),
  (27, ⟨.struct true [(0, 3), (1, 3)], 2, 16, [.int .i64 0, .int .i64 0]⟩),
  (28, ⟨.func, 1, 8, [.nilfn]⟩),
  (29, ⟨.func, 1, 8, [.nilfn]⟩),
  (30, ⟨.func, 1, 8, [.nilfn]⟩),
  (32, ⟨.func, 1, 8, [.nilfn]⟩),
  (33, ⟨.func, 1, 8, [.nilfn]⟩),
  (35, ⟨.func, 1, 8, [.nilfn]⟩),
  (36, ⟨.func, 1, 8, [.nilfn]⟩),
  (37, ⟨.func, 1, 8, [.nilfn]⟩),
  (38, ⟨.func, 1, 8, [.nilfn]⟩),
  (39, ⟨.struct true [(0, 3), (1, 3), (2, 3), (3, 3), (4, 3), (5, 3)], 6, 48, [.int .i64 0, .int .i64 0, .int .i64 0, .int .i64 0, .int .i64 0, .int .i64 0]⟩),
  (40, ⟨.struct true [(0, 3), (1, 3), (2, 3), (3, 3), (4, 3), (5, 3)], 6, 48, [.int .i64 0, .int .i64 0, .int .i64 0, .int .i64 0, .int .i64 0, .int .i64 0]⟩),
  (42, ⟨.func, 1, 8, [.nilfn]⟩),
  (43, ⟨.func, 1, 8, [.nilfn]⟩),
  (44, ⟨.func, 1, 8, [.nilfn]⟩),
  (45, ⟨.func, 1, 8, [.nilfn]⟩),
  (46, ⟨.func, 1, 8, [.nilfn]⟩),
  (48, ⟨.func, 1, 8, [.nilfn]⟩),
  (49, ⟨.func, 1, 8, [.nilfn]⟩),
  (50, ⟨.func, 1, 8, [.nilfn]⟩),
  (51, ⟨.func, 1, 8, [.nilfn]⟩),
  (52, ⟨.func, 1, 8, [.nilfn]⟩),
  (53, ⟨.struct true [(0, 3), (1, 3)], 2, 16, [.int .i64 0, .int .i64 0]⟩),
  (54, ⟨.struct true [(0, 3), (1, 3)], 2, 16, [.int .i64 0, .int .i64 0]⟩),
  (55, ⟨.ptr 60, 1, 8, [.nilptr]⟩),
  (56, ⟨.func, 1, 8, [.nilfn]⟩),
  (57, ⟨.sl 9, 1, 24, [.nilsl]⟩),
  (58, ⟨.func, 1, 8, [.nilfn]⟩),
  (59, ⟨.struct false [(0, 57)], 1, 24, [.nilsl]⟩),
  (60, ⟨.struct false [(0, 57)], 1, 24, [.nilsl]⟩),
  (61, ⟨.func, 1, 8, [.nilfn]⟩),
  (62, ⟨.struct true [(0, 9), (1, 3)], 2, 24, [.str [], .int .i64 0]⟩),
  (63, ⟨.sl 62, 1, 24, [.nilsl]⟩),
  (64, ⟨.func, 1, 8, [.nilfn]⟩),
  (65, ⟨.struct true [(0, 3), (1, 3), (2, 3), (3, 3), (4, 3), (5, 3)], 6, 48, [.int .i64 0, .int .i64 0, .int .i64 0, .int .i64 0, .int .i64 0, .int .i64 0]⟩),
  (66, ⟨.struct true [(0, 3), (1, 3), (2, 3), (3, 3), (4, 3), (5, 3)], 6, 48, [.int .i64 0, .int .i64 0, .int .i64 0, .int .i64 0, .int .i64 0, .int .i64 0]⟩),
  (67, ⟨.func, 1, 8, [.nilfn]⟩),
  (68, ⟨.func, 1, 8, [.nilfn]⟩),
  (69, ⟨.func, 1, 8, [.nilfn]⟩),
  (70, ⟨.func, 1, 8, [.nilfn]⟩),
  (71, ⟨.ptr 75, 1, 8, [.nilptr]⟩),
  (72, ⟨.func, 1, 8, [.nilfn]⟩),
  (73, ⟨.func, 1, 8, [.nilfn]⟩),
  (74, ⟨.struct true [(0, 66)], 6, 48, [.int .i64 0, .int .i64 0, .int .i64 0, .int .i64 0, .int .i64 0, .int .i64 0]⟩),
  (75, ⟨.struct true [(0, 66)], 6, 48, [.int .i64 0, .int .i64 0, .int .i64 0, .int .i64 0, .int .i64 0, .int .i64 0]⟩),
  (76, ⟨.func, 1, 8, [.nilfn]⟩),
  (77, ⟨.func, 1, 8, [.nilfn]⟩),
  (78, ⟨.func, 1, 8, [.nilfn]⟩),
  (79, ⟨.func, 1, 8, [.nilfn]⟩),
  (80, ⟨.func, 1, 8, [.nilfn]⟩),
  (81, ⟨.func, 1, 8, [.nilfn]⟩),
  (82, ⟨.func, 1, 8, [.nilfn]⟩),
  (83, ⟨.func, 1, 8, [.nilfn]⟩),
  (84, ⟨.arr false 8 78, 8, 64, [.nilfn, .nilfn, .nilfn, .nilfn, .nilfn, .nilfn, .nilfn, .nilfn]⟩),
  (85, ⟨.func, 1, 8, [.nilfn]⟩),
  (86, ⟨.ptr 89, 1, 8, [.nilptr]⟩),
  (87, ⟨.sl 5, 1, 24, [.nilsl]⟩),
  (88, ⟨.struct false [(0, 86), (1, 87)], 2, 32, [.nilptr, .nilsl]⟩),
  (89, ⟨.struct false [(0, 86), (1, 87)], 2, 32, [.nilptr, .nilsl]⟩),
  (90, ⟨.func, 1, 8, [.nilfn]⟩),
  (91, ⟨.ifc, 1, 16, [.nilif]⟩),
  (92, ⟨.ifc, 1, 16, [.nilif]⟩),
  (94, ⟨.func, 1, 8, [.nilfn]⟩),
  (95, ⟨.func, 1, 8, [.nilfn]⟩),
  (97, ⟨.func, 1, 8, [.nilfn]⟩),
  (98, ⟨.ptr 66, 1, 8, [.nilptr]⟩),
  (99, ⟨.func, 1, 8, [.nilfn]⟩),
  (100, ⟨.func, 1, 8, [.nilfn]⟩),
  (101, ⟨.func, 1, 8, [.nilfn]⟩),
  (102, ⟨.func, 1, 8, [.nilfn]⟩),
  (103, ⟨.arr true 256 5, 256, 256, [.int .u8 0, .int .u8 0, .int .u8 0, .int .u8 0, .int .u8 0, .int .u8 0, .int .u8 0, .int .u8 0, .int .u8 0, .int .u8 0, .int .u8 0, .int .u8 0, .int .u8 0, .int .u8 0, .int .u8 0, .int .u8 0, .int .u8 0, .int .u8 0, .int .u8 0, .int .u8 0, .int .u8 0, .int .u8 0, .int .u8 0, .int .u8 0, .int .u8 0, .int .u8 0, .int .u8 0, .int .u8 0, .int .u8 0, .int .u8 0, .int .u8 0, .int .u8 0, .int .u8 0, .int .u8 0, .int .u8 0, .int .u8 0, .int .u8 0, .int .u8 0, .int .u8 0, .int .u8 0, .int .u8 0, .int .u8 0, .int .u8 0, .int .u8 0, .int .u8 0, .int .u8 0, .int .u8 0, .int .u8 0, .int .u8 0, .int .u8 0, .int .u8 0, .int .u8 0, .int .u8 0, .int .u8 0, .int .u8 0, .int .u8 0, .int .u8 0, .int .u8 0, .int .u8 0, .int .u8 0, .int .u8 0, .int .u8 0, .int .u8 0, .int .u8 0, .int .u8 0, .int .u8 0, .int .u8 0, .int .u8 0, .int .u8 0, .int .u8 0, .int .u8 0, .int .u8 0, .int .u8 0, .int .u8 0, .int .u8 0, .int .u8 0, .int .u8 0, .int .u8 0, .int .u8 0, .int .u8 0, .int .u8 0, .int .u8 0, .int .u8 0, .int .u8 0, .int .u8 0, .int .u8 0, .int .u8 0, .int .u8 0, .int .u8 0, .int .u8 0, .int .u8 0, .int .u8 0, .int .u8 0, .int .u8 0, .int .u8 0, .int .u8 0, .int .u8 0, .int .u8 0, .int .u8 0, .int .u8 0, .int .u8 0, .int .u8 0, .int .u8 0, .int .u8 0, .int .u8 0, .int .u8 0, .int .u8 0, .int .u8 0, .int .u8 0, .int .u8 0, .int .u8 0, .int .u8 0, .int .u8 0, .int .u8 0, .int .u8 0, .int .u8 0, .int .u8 0, .int .u8 0, .int .u8 0, .int .u8 0, .int .u8 0, .int .u8 0, .int .u8 0, .int .u8 0, .int .u8 0, .int .u8 0, .int .u8 0, .int .u8 0, .int .u8 0, .int .u8 0, .int .u8 0, .int .u8 0, .int .u8 0, .int .u8 0, .int .u8 0, .int .u8 0, .int .u8 0, .int .u8 0, .int .u8 0, .int .u8 0, .int .u8 0, .int .u8 0, .int .u8 0, .int .u8 0, .int .u8 0, .int .u8 0, .int .u8 0, .int .u8 0, .int .u8 0, .int .u8 0, .int .u8 0, .int .u8 0, .int .u8 0, .int .u8 0, .int .u8 0, .int .u8 0, .int .u8 0, .int .u8 0, .int .u8 0, .int .u8 0, .int .u8 0, .int .u8 0, .int .u8 0, .int .u8 0, .int .u8 0, .int .u8 0, .int .u8 0, .int .u8 0, .int .u8 0, .int .u8 0, .int .u8 0, .int .u8 0, .int .u8 0, .int .u8 0, .int .u8 0, .int .u8 0, .int .u8 0, .int .u8 0, .int .u8 0, .int .u8 0, .int .u8 0, .int .u8 0, .int .u8 0, .int .u8 0, .int .u8 0, .int .u8 0, .int .u8 0, .int .u8 0, .int .u8 0, .int .u8 0, .int .u8 0, .int .u8 0, .int .u8 0, .int .u8 0, .int .u8 0, .int .u8 0, .int .u8 0, .int .u8 0, .int .u8 0, .int .u8 0, .int .u8 0, .int .u8 0, .int .u8 0, .int .u8 0, .int .u8 0, .int .u8 0, .int .u8 0, .int .u8 0, .int .u8 0, .int .u8 0, .int .u8 0, .int .u8 0, .int .u8 0, .int .u8 0, .int .u8 0, .int .u8 0, .int .u8 0, .int .u8 0, .int .u8 0, .int .u8 0, .int .u8 0, .int .u8 0, .int .u8 0, .int .u8 0, .int .u8 0, .int .u8 0, .int .u8 0, .int .u8 0, .int .u8 0, .int .u8 0, .int .u8 0, .int .u8 0, .int .u8 0, .int .u8 0, .int .u8 0, .int .u8 0, .int .u8 0, .int .u8 0, .int .u8 0, .int .u8 0, .int .u8 0, .int .u8 0, .int .u8 0, .int .u8 0, .int .u8 0, .int .u8 0, .int .u8 0, .int .u8 0, .int .u8 0, .int .u8 0, .int .u8 0, .int .u8 0, .int .u8 0, .int .u8 0, .int .u8 0, .int .u8 0]⟩),
  (104, ⟨.func, 1, 8, [.nilfn]⟩),
  (105, ⟨.func, 1, 8, [.nilfn]⟩),
  (106, ⟨.ptr 5, 1, 8, [.nilptr]⟩),
  (107, ⟨.func, 1, 8, [.nilfn]⟩),
  (108, ⟨.func, 1, 8, [.nilfn]⟩),
  (109, ⟨.func, 1, 8, [.nilfn]⟩),
  (110, ⟨.func, 1, 8, [.nilfn]⟩),
  (111, ⟨.arr true 24 5, 24, 24, [.int .u8 0, .int .u8 0, .int .u8 0, .int .u8 0, .int .u8 0, .int .u8 0, .int .u8 0, .int .u8 0, .int .u8 0, .int .u8 0, .int .u8 0, .int .u8 0, .int .u8 0, .int .u8 0, .int .u8 0, .int .u8 0, .int .u8 0, .int .u8 0, .int .u8 0, .int .u8 0, .int .u8 0, .int .u8 0, .int .u8 0, .int .u8 0]⟩),
  (112, ⟨.int .u64, 1, 8, [.int .u64 0]⟩),
  (113, ⟨.func, 1, 8, [.nilfn]⟩),
  (114, ⟨.func, 1, 8, [.nilfn]⟩),
  (116, ⟨.func, 1, 8, [.nilfn]⟩),
  (117, ⟨.sl 119, 1, 24, [.nilsl]⟩),
  (118, ⟨.struct true [(0, 3), (1, 3)], 2, 16, [.int .i64 0, .int .i64 0]⟩),
  (119, ⟨.struct true [(0, 3), (1, 3)], 2, 16, [.int .i64 0, .int .i64 0]⟩),
  (120, ⟨.int .u32, 1, 4, [.int .u32 0]⟩),
  (121, ⟨.func, 1, 8, [.nilfn]⟩),
  (122, ⟨.ptr 137, 1, 8, [.nilptr]⟩),
  (124, ⟨.func, 1, 8, [.nilfn]⟩),
  (125, ⟨.func, 1, 8, [.nilfn]⟩),
  (126, ⟨.struct true [(0, 3), (1, 3), (2, 3)], 3, 24, [.int .i64 0, .int .i64 0, .int .i64 0]⟩),
  (127, ⟨.struct true [(0, 3), (1, 3), (2, 3)], 3, 24, [.int .i64 0, .int .i64 0, .int .i64 0]⟩),
  (128, ⟨.arr true 6 127, 18, 144, [.int .i64 0, .int .i64 0, .int .i64 0, .int .i64 0, .int .i64 0, .int .i64 0, .int .i64 0, .int .i64 0, .int .i64 0, .int .i64 0, .int .i64 0, .int .i64 0, .int .i64 0, .int .i64 0, .int .i64 0, .int .i64 0, .int .i64 0, .int .i64 0]⟩),
  (129, ⟨.func, 1, 8, [.nilfn]⟩),
  (130, ⟨.arr true 20 112, 20, 160, [.int .u64 0, .int .u64 0, .int .u64 0, .int .u64 0, .int .u64 0, .int .u64 0, .int .u64 0, .int .u64 0, .int .u64 0, .int .u64 0, .int .u64 0, .int .u64 0, .int .u64 0, .int .u64 0, .int .u64 0, .int .u64 0, .int .u64 0, .int .u64 0, .int .u64 0, .int .u64 0]⟩),
  (131, ⟨.arr true 65 5, 65, 65, [.int .u8 0, .int .u8 0, .int .u8 0, .int .u8 0, .int .u8 0, .int .u8 0, .int .u8 0, .int .u8 0, .int .u8 0, .int .u8 0, .int .u8 0, .int .u8 0, .int .u8 0, .int .u8 0, .int .u8 0, .int .u8 0, .int .u8 0, .int .u8 0, .int .u8 0, .int .u8 0, .int .u8 0, .int .u8 0, .int .u8 0, .int .u8 0, .int .u8 0, .int .u8 0, .int .u8 0, .int .u8 0, .int .u8 0, .int .u8 0, .int .u8 0, .int .u8 0, .int .u8 0, .int .u8 0, .int .u8 0, .int .u8 0, .int .u8 0, .int .u8 0, .int .u8 0, .int .u8 0, .int .u8 0, .int .u8 0, .int .u8 0, .int .u8 0, .int .u8 0, .int .u8 0, .int .u8 0, .int .u8 0, .int .u8 0, .int .u8 0, .int .u8 0, .int .u8 0, .int .u8 0, .int .u8 0, .int .u8 0, .int .u8 0, .int .u8 0, .int .u8 0, .int .u8 0, .int .u8 0, .int .u8 0, .int .u8 0, .int .u8 0, .int .u8 0, .int .u8 0]⟩),
  (132, ⟨.int .u64, 1, 8, [.int .u64 0]⟩),
  (133, ⟨.func, 1, 8, [.nilfn]⟩),
  (134, ⟨.sl 140, 1, 24, [.nilsl]⟩),
  (135, ⟨.sl 143, 1, 24, [.nilsl]⟩),
  (136, ⟨.struct false [(0, 134), (1, 135), (2, 3)], 3, 56, [.nilsl, .nilsl, .int .i64 0]⟩),
  (137, ⟨.struct false [(0, 134), (1, 135), (2, 3)], 3, 56, [.nilsl, .nilsl, .int .i64 0]⟩),
  (138, ⟨.int .u16, 1, 2, [.int .u16 0]⟩),
  (139, ⟨.struct true [(0, 138), (1, 138), (2, 138)], 3, 6, [.int .u16 0, .int .u16 0, .int .u16 0]⟩),
  (140, ⟨.struct true [(0, 138), (1, 138), (2, 138)], 3, 6, [.int .u16 0, .int .u16 0, .int .u16 0]⟩),
  (141, ⟨.func, 1, 8, [.nilfn]⟩),
  (142, ⟨.struct true [(0, 120), (1, 120), (2, 120)], 3, 12, [.int .u32 0, .int .u32 0, .int .u32 0]⟩),
  (143, ⟨.struct true [(0, 120), (1, 120), (2, 120)], 3, 12, [.int .u32 0, .int .u32 0, .int .u32 0]⟩),
  (144, ⟨.func, 1, 8, [.nilfn]⟩),
  (145, ⟨.func, 1, 8, [.nilfn]⟩),
  (146, ⟨.ptr 140, 1, 8, [.nilptr]⟩),
  (147, ⟨.ptr 143, 1, 8, [.nilptr]⟩),
  (148, ⟨.arr true 32 5, 32, 32, [.int .u8 0, .int .u8 0, .int .u8 0, .int .u8 0, .int .u8 0, .int .u8 0, .int .u8 0, .int .u8 0, .int .u8 0, .int .u8 0, .int .u8 0, .int .u8 0, .int .u8 0, .int .u8 0, .int .u8 0, .int .u8 0, .int .u8 0, .int .u8 0, .int .u8 0, .int .u8 0, .int .u8 0, .int .u8 0, .int .u8 0, .int .u8 0, .int .u8 0, .int .u8 0, .int .u8 0, .int .u8 0, .int .u8 0, .int .u8 0, .int .u8 0, .int .u8 0]⟩),
  (149, ⟨.arr true 64 5, 64, 64, [.int .u8 0, .int .u8 0, .int .u8 0, .int .u8 0, .int .u8 0, .int .u8 0, .int .u8 0, .int .u8 0, .int .u8 0, .int .u8 0, .int .u8 0, .int .u8 0, .int .u8 0, .int .u8 0, .int .u8 0, .int .u8 0, .int .u8 0, .int .u8 0, .int .u8 0, .int .u8 0, .int .u8 0, .int .u8 0, .int .u8 0, .int .u8 0, .int .u8 0, .int .u8 0, .int .u8 0, .int .u8 0, .int .u8 0, .int .u8 0, .int .u8 0, .int .u8 0, .int .u8 0, .int .u8 0, .int .u8 0, .int .u8 0, .int .u8 0, .int .u8 0, .int .u8 0, .int .u8 0, .int .u8 0, .int .u8 0, .int .u8 0, .int .u8 0, .int .u8 0, .int .u8 0, .int .u8 0, .int .u8 0, .int .u8 0, .int .u8 0, .int .u8 0, .int .u8 0, .int .u8 0, .int .u8 0, .int .u8 0, .int .u8 0, .int .u8 0, .int .u8 0, .int .u8 0, .int .u8 0, .int .u8 0, .int .u8 0, .int .u8 0, .int .u8 0]⟩),
  (150, ⟨.struct false [(0, 17), (1, 17), (2, 17), (3, 9)], 4, 40, [.nilptr, .nilptr, .nilptr, .str []]⟩),
  (151, ⟨.struct false [(0, 17), (1, 17), (2, 17), (3, 9)], 4, 40, [.nilptr, .nilptr, .nilptr, .str []]⟩),
  (152, ⟨.arr false 0 16, 0, 0, []⟩),
  (153, ⟨.struct false [(0, 152)], 0, 0, []⟩),
  (154, ⟨.struct false [(0, 152)], 0, 0, []⟩),
  (155, ⟨.int .u8, 1, 1, [.int .u8 0]⟩),
  (156, ⟨.int .u8, 1, 1, [.int .u8 0]⟩),
  (157, ⟨.func, 1, 8, [.nilfn]⟩),
  (158, ⟨.int .i32, 1, 4, [.int .i32 0]⟩),
  (159, ⟨.int .i32, 1, 4, [.int .i32 0]⟩),
  (160, ⟨.struct false [(0, 12), (1, 12), (2, 120), (3, 155), (4, 5), (5, 5), (6, 156), (7, 157), (8, 106), (9, 158), (10, 159)], 11, 48, [.int .u64 0, .int .u64 0, .int .u32 0, .int .u8 0, .int .u8 0, .int .u8 0, .int .u8 0, .nilfn, .nilptr, .int .i32 0, .int .i32 0]⟩),
  (161, ⟨.struct false [(0, 12), (1, 12), (2, 120), (3, 155), (4, 5), (5, 5), (6, 156), (7, 157), (8, 106), (9, 158), (10, 159)], 11, 48, [.int .u64 0, .int .u64 0, .int .u32 0, .int .u8 0, .int .u8 0, .int .u8 0, .int .u8 0, .nilfn, .nilptr, .int .i32 0, .int .i32 0]⟩)]
theorem tb_ok : Pok Proofs.Tryd.prog tb := ⟨by kernel_rfl, by kernel_rfl⟩
@[simp] theorem tbget1 : tb.get 1 = some ⟨.func, 1, 8, [.nilfn]⟩ := rfl
@[simp] theorem tbget2 : tb.get 2 = some ⟨.int .i64, 1, 8, [.int .i64 0]⟩ := rfl
@[simp] theorem tbget3 : tb.get 3 = some ⟨.int .i64, 1, 8, [.int .i64 0]⟩ := rfl
@[simp] theorem tbget4 : tb.get 4 = some ⟨.bool, 1, 1, [.bool false]⟩ := rfl
@[simp] theorem tbget5 : tb.get 5 = some ⟨.int .u8, 1, 1, [.int .u8 0]⟩ := rfl
@[simp] theorem tbget6 : tb.get 6 = some ⟨.int .u8, 1, 1, [.int .u8 0]⟩ := rfl
@[simp] theorem tbget7 : tb.get 7 = some ⟨.struct true [(0, 2), (1, 3), (2, 4), (3, 6)], 4, 24, [.int .i64 0, .int .i64 0, .bool false, .int .u8 0]⟩ := rfl
@[simp] theorem tbget8 : tb.get 8 = some ⟨.struct true [(0, 2), (1, 3), (2, 4), (3, 6)], 4, 24, [.int .i64 0, .int .i64 0, .bool false, .int .u8 0]⟩ := rfl
@[simp] theorem tbget9 : tb.get 9 = some ⟨.str, 1, 16, [.str []]⟩ := rfl
@[simp] theorem tbget10 : tb.get 10 = some ⟨.str, 1, 16, [.str []]⟩ := rfl
@[simp] theorem tbget11 : tb.get 11 = some ⟨.str, 1, 16, [.str []]⟩ := rfl
@[simp] theorem tbget12 : tb.get 12 = some ⟨.int .u64, 1, 8, [.int .u64 0]⟩ := rfl
@[simp] theorem tbget13 : tb.get 13 = some ⟨.struct false [(0, 9), (1, 12)], 2, 24, [.str [], .int .u64 0]⟩ := rfl
@[simp] theorem tbget14 : tb.get 14 = some ⟨.struct false [(0, 9), (1, 12)], 2, 24, [.str [], .int .u64 0]⟩ := rfl
@[simp] theorem tbget15 : tb.get 15 = some ⟨.ptr 151, 1, 8, [.nilptr]⟩ := rfl
@[simp] theorem tbget16 : tb.get 16 = some ⟨.ptr 154, 1, 8, [.nilptr]⟩ := rfl
@[simp] theorem tbget17 : tb.get 17 = some ⟨.ptr 161, 1, 8, [.nilptr]⟩ := rfl
@[simp] theorem tbget18 : tb.get 18 = some ⟨.struct false [(0, 17)], 1, 8, [.nilptr]⟩ := rfl
@[simp] theorem tbget19 : tb.get 19 = some ⟨.struct false [(0, 17)], 1, 8, [.nilptr]⟩ := rfl
@[simp] theorem tbget20 : tb.get 20 = some ⟨.ifc, 1, 16, [.nilif]⟩ := rfl
@[simp] theorem tbget21 : tb.get 21 = some ⟨.int .i32, 1, 4, [.int .i32 0]⟩ := rfl
@[simp] theorem tbget22 : tb.get 22 = some ⟨.sl 3, 1, 24, [.nilsl]⟩ := rfl
@[simp] theorem tbget23 : tb.get 23 = some ⟨.sl 54, 1, 24, [.nilsl]⟩ := rfl
@[simp] theorem tbget24 : tb.get 24 = some ⟨.struct false [(0, 3), (1, 3), (2, 22), (3, 22), (4, 23), (5, 22), (6, 3), (7, 3)], 8, 128, [.int .i64 0, .int .i64 0, .nilsl, .nilsl, .nilsl, .nilsl, .int .i64 0, .int .i64 0]⟩ := rfl
@[simp] theorem tbget25 : tb.get 25 = some ⟨.struct false [(0, 3), (1, 3), (2, 22), (3, 22), (4, 23), (5, 22), (6, 3), (7, 3)], 8, 128, [.int .i64 0, .int .i64 0, .nilsl, .nilsl, .nilsl, .nilsl, .int .i64 0, .int .i64 0]⟩ := rfl
@[simp] theorem tbget26 : tb.get 26 = some ⟨.struct true [(0, 3), (1, 3)], 2, 16, [.int .i64 0, .int .i64 0]⟩ := rfl
@[simp] theorem tbget27 : tb.get 27 = some ⟨.struct true [(0, 3), (1, 3)], 2, 16, [.int .i64 0, .int .i64 0]⟩ := rfl
@[simp] theorem tbget28 : tb.get 28 = some ⟨.func, 1, 8, [.nilfn]⟩ := rfl
@[simp] theorem tbget29 : tb.get 29 = some ⟨.func, 1, 8, [.nilfn]⟩ := rfl
@[simp] theorem tbget30 : tb.get 30 = some ⟨.func, 1, 8, [.nilfn]⟩ := rfl
@[simp] theorem tbget32 : tb.get 32 = some ⟨.func, 1, 8, [.nilfn]⟩ := rfl
@[simp] theorem tbget33 : tb.get 33 = some ⟨.func, 1, 8, [.nilfn]⟩ := rfl
@[simp] theorem tbget35 : tb.get 35 = some ⟨.func, 1, 8, [.nilfn]⟩ := rfl
@[simp] theorem tbget36 : tb.get 36 = some ⟨.func, 1, 8, [.nilfn]⟩ := rfl
@[simp] theorem tbget37 : tb.get 37 = some ⟨.func, 1, 8, [.nilfn]⟩ := rfl
@[simp] theorem tbget38 : tb.get 38 = some ⟨.func, 1, 8, [.nilfn]⟩ := rfl
@[simp] theorem tbget39 : tb.get 39 = some ⟨.struct true [(0, 3), (1, 3), (2, 3), (3, 3), (4, 3), (5, 3)], 6, 48, [.int .i64 0, .int .i64 0, .int .i64 0, .int .i64 0, .int .i64 0, .int .i64 0]⟩ := rfl
@[simp] theorem tbget40 : tb.get 40 = some ⟨.struct true [(0, 3), (1, 3), (2, 3), (3, 3), (4, 3), (5, 3)], 6, 48, [.int .i64 0, .int .i64 0, .int .i64 0, .int .i64 0, .int .i64 0, .int .i64 0]⟩ := rfl
@[simp] theorem tbget42 : tb.get 42 = some ⟨.func, 1, 8, [.nilfn]⟩ := rfl
@[simp] theorem tbget43 : tb.get 43 = some ⟨.func, 1, 8, [.nilfn]⟩ := rfl
@[simp] theorem tbget44 : tb.get 44 = some ⟨.func, 1, 8, [.nilfn]⟩ := rfl
@[simp] theorem tbget45 : tb.get 45 = some ⟨.func, 1, 8, [.nilfn]⟩ := rfl
@[simp] theorem tbget46 : tb.get 46 = some ⟨.func, 1, 8, [.nilfn]⟩ := rfl
@[simp] theorem tbget48 : tb.get 48 = some ⟨.func, 1, 8, [.nilfn]⟩ := rfl
@[simp] theorem tbget49 : tb.get 49 = some ⟨.func, 1, 8, [.nilfn]⟩ := rfl
@[simp] theorem tbget50 : tb.get 50 = some ⟨.func, 1, 8, [.nilfn]⟩ := rfl
@[simp] theorem tbget51 : tb.get 51 = some ⟨.func, 1, 8, [.nilfn]⟩ := rfl
@[simp] theorem tbget52 : tb.get 52 = some ⟨.func, 1, 8, [.nilfn]⟩ := rfl
@[simp] theorem tbget53 : tb.get 53 = some ⟨.struct true [(0, 3), (1, 3)], 2, 16, [.int .i64 0, .int .i64 0]⟩ := rfl
@[simp] theorem tbget54 : tb.get 54 = some ⟨.struct true [(0, 3), (1, 3)], 2, 16, [.int .i64 0, .int .i64 0]⟩ := rfl
@[simp] theorem tbget55 : tb.get 55 = some ⟨.ptr 60, 1, 8, [.nilptr]⟩ := rfl
@[simp] theorem tbget56 : tb.get 56 = some ⟨.func, 1, 8, [.nilfn]⟩ := rfl
@[simp] theorem tbget57 : tb.get 57 = some ⟨.sl 9, 1, 24, [.nilsl]⟩ := rfl
@[simp] theorem tbget58 : tb.get 58 = some ⟨.func, 1, 8, [.nilfn]⟩ := rfl
@[simp] theorem tbget59 : tb.get 59 = some ⟨.struct false [(0, 57)], 1, 24, [.nilsl]⟩ := rfl
@[simp] theorem tbget60 : tb.get 60 = some ⟨.struct false [(0, 57)], 1, 24, [.nilsl]⟩ := rfl
@[simp] theorem tbget61 : tb.get 61 = some ⟨.func, 1, 8, [.nilfn]⟩ := rfl
@[simp] theorem tbget62 : tb.get 62 = some ⟨.struct true [(0, 9), (1, 3)], 2, 24, [.str [], .int .i64 0]⟩ := rfl
@[simp] theorem tbget63 : tb.get 63 = some ⟨.sl 62, 1, 24, [.nilsl]⟩ := rfl
@[simp] theorem tbget64 : tb.get 64 = some ⟨.func, 1, 8, [.nilfn]⟩ := rfl
@[simp] theorem tbget65 : tb.get 65 = some ⟨.struct true [(0, 3), (1, 3), (2, 3), (3, 3), (4, 3), (5, 3)], 6, 48, [.int .i64 0, .int .i64 0, .int .i64 0, .int .i64 0, .int .i64 0, .int .i64 0]⟩ := rfl
@[simp] theorem tbget66 : tb.get 66 = some ⟨.struct true [(0, 3), (1, 3), (2, 3), (3, 3), (4, 3), (5, 3)], 6, 48, [.int .i64 0, .int .i64 0, .int .i64 0, .int .i64 0, .int .i64 0, .int .i64 0]⟩ := rfl
@[simp] theorem tbget67 : tb.get 67 = some ⟨.func, 1, 8, [.nilfn]⟩ := rfl
@[simp] theorem tbget68 : tb.get 68 = some ⟨.func, 1, 8, [.nilfn]⟩ := rfl
@[simp] theorem tbget69 : tb.get 69 = some ⟨.func, 1, 8, [.nilfn]⟩ := rfl
@[simp] theorem tbget70 : tb.get 70 = some ⟨.func, 1, 8, [.nilfn]⟩ := rfl
@[simp] theorem tbget71 : tb.get 71 = some ⟨.ptr 75, 1, 8, [.nilptr]⟩ := rfl
@[simp] theorem tbget72 : tb.get 72 = some ⟨.func, 1, 8, [.nilfn]⟩ := rfl
@[simp] theorem tbget73 : tb.get 73 = some ⟨.func, 1, 8, [.nilfn]⟩ := rfl
@[simp] theorem tbget74 : tb.get 74 = some ⟨.struct true [(0, 66)], 6, 48, [.int .i64 0, .int .i64 0, .int .i64 0, .int .i64 0, .int .i64 0, .int .i64 0]⟩ := rfl
@[simp] theorem tbget75 : tb.get 75 = some ⟨.struct true [(0, 66)], 6, 48, [.int .i64 0, .int .i64 0, .int .i64 0, .int .i64 0, .int .i64 0, .int .i64 0]⟩ := rfl
@[simp] theorem tbget76 : tb.get 76 = some ⟨.func, 1, 8, [.nilfn]⟩ := rfl
@[simp] theorem tbget77 : tb.get 77 = some ⟨.func, 1, 8, [.nilfn]⟩ := rfl
@[simp] theorem tbget78 : tb.get 78 = some ⟨.func, 1, 8, [.nilfn]⟩ := rfl
@[simp] theorem tbget79 : tb.get 79 = some ⟨.func, 1, 8, [.nilfn]⟩ := rfl
@[simp] theorem tbget80 : tb.get 80 = some ⟨.func, 1, 8, [.nilfn]⟩ := rfl
@[simp] theorem tbget81 : tb.get 81 = some ⟨.func, 1, 8, [.nilfn]⟩ := rfl
@[simp] theorem tbget82 : tb.get 82 = some ⟨.func, 1, 8, [.nilfn]⟩ := rfl
@[simp] theorem tbget83 : tb.get 83 = some ⟨.func, 1, 8, [.nilfn]⟩ := rfl
@[simp] theorem tbget84 : tb.get 84 = some ⟨.arr false 8 78, 8, 64, [.nilfn, .nilfn, .nilfn, .nilfn, .nilfn, .nilfn, .nilfn, .nilfn]⟩ := rfl
@[simp] theorem tbget85 : tb.get 85 = some ⟨.func, 1, 8, [.nilfn]⟩ := rfl
@[simp] theorem tbget86 : tb.get 86 = some ⟨.ptr 89, 1, 8, [.nilptr]⟩ := rfl
@[simp] theorem tbget87 : tb.get 87 = some ⟨.sl 5, 1, 24, [.nilsl]⟩ := rfl
@[simp] theorem tbget88 : tb.get 88 = some ⟨.struct false [(0, 86), (1, 87)], 2, 32, [.nilptr, .nilsl]⟩ := rfl
@[simp] theorem tbget89 : tb.get 89 = some ⟨.struct false [(0, 86), (1, 87)], 2, 32, [.nilptr, .nilsl]⟩ := rfl
@[simp] theorem tbget90 : tb.get 90 = some ⟨.func, 1, 8, [.nilfn]⟩ := rfl
@[simp] theorem tbget91 : tb.get 91 = some ⟨.ifc, 1, 16, [.nilif]⟩ := rfl
@[simp] theorem tbget92 : tb.get 92 = some ⟨.ifc, 1, 16, [.nilif]⟩ := rfl
@[simp] theorem tbget94 : tb.get 94 = some ⟨.func, 1, 8, [.nilfn]⟩ := rfl
@[simp] theorem tbget95 : tb.get 95 = some ⟨.func, 1, 8, [.nilfn]⟩ := rfl
@[simp] theorem tbget97 : tb.get 97 = some ⟨.func, 1, 8, [.nilfn]⟩ := rfl
@[simp] theorem tbget98 : tb.get 98 = some ⟨.ptr 66, 1, 8, [.nilptr]⟩ := rfl
@[simp] theorem tbget99 : tb.get 99 = some ⟨.func, 1, 8, [.nilfn]⟩ := rfl
@[simp] theorem tbget100 : tb.get 100 = some ⟨.func, 1, 8, [.nilfn]⟩ := rfl
@[simp] theorem tbget101 : tb.get 101 = some ⟨.func, 1, 8, [.nilfn]⟩ := rfl
@[simp] theorem tbget102 : tb.get 102 = some ⟨.func, 1, 8, [.nilfn]⟩ := rfl
@[simp] theorem tbget103 : tb.get 103 = some ⟨.arr true 256 5, 256, 256, [.int .u8 0, .int .u8 0, .int .u8 0, .int .u8 0, .int .u8 0, .int .u8 0, .int .u8 0, .int .u8 0, .int .u8 0, .int .u8 0, .int .u8 0, .int .u8 0, .int .u8 0, .int .u8 0, .int .u8 0, .int .u8 0, .int .u8 0, .int .u8 0, .int .u8 0, .int .u8 0, .int .u8 0, .int .u8 0, .int .u8 0, .int .u8 0, .int .u8 0, .int .u8 0, .int .u8 0, .int .u8 0, .int .u8 0, .int .u8 0, .int .u8 0, .int .u8 0, .int .u8 0, .int .u8 0, .int .u8 0, .int .u8 0, .int .u8 0, .int .u8 0, .int .u8 0, .int .u8 0, .int .u8 0, .int .u8 0, .int .u8 0, .int .u8 0, .int .u8 0, .int .u8 0, .int .u8 0, .int .u8 0, .int .u8 0, .int .u8 0, .int .u8 0, .int .u8 0, .int .u8 0, .int .u8 0, .int .u8 0, .int .u8 0, .int .u8 0, .int .u8 0, .int .u8 0, .int .u8 0, .int .u8 0, .int .u8 0, .int .u8 0, .int .u8 0, .int .u8 0, .int .u8 0, .int .u8 0, .int .u8 0, .int .u8 0, .int .u8 0, .int .u8 0, .int .u8 0, .int .u8 0, .int .u8 0, .int .u8 0, .int .u8 0, .int .u8 0, .int .u8 0, .int .u8 0, .int .u8 0, .int .u8 0, .int .u8 0, .int .u8 0, .int .u8 0, .int .u8 0, .int .u8 0, .int .u8 0, .int .u8 0, .int .u8 0, .int .u8 0, .int .u8 0, .int .u8 0, .int .u8 0, .int .u8 0, .int .u8 0, .int .u8 0, .int .u8 0, .int .u8 0, .int .u8 0, .int .u8 0, .int .u8 0, .int .u8 0, .int .u8 0, .int .u8 0, .int .u8 0, .int .u8 0, .int .u8 0, .int .u8 0, .int .u8 0, .int .u8 0, .int .u8 0, .int .u8 0, .int .u8 0, .int .u8 0, .int .u8 0, .int .u8 0, .int .u8 0, .int .u8 0, .int .u8 0, .int .u8 0, .int .u8 0, .int .u8 0, .int .u8 0, .int .u8 0, .int .u8 0, .int .u8 0, .int .u8 0, .int .u8 0, .int .u8 0, .int .u8 0, .int .u8 0, .int .u8 0, .int .u8 0, .int .u8 0, .int .u8 0, .int .u8 0, .int .u8 0, .int .u8 0, .int .u8 0, .int .u8 0, .int .u8 0, .int .u8 0, .int .u8 0, .int .u8 0, .int .u8 0, .int .u8 0, .int .u8 0, .int .u8 0, .int .u8 0, .int .u8 0, .int .u8 0, .int .u8 0, .int .u8 0, .int .u8 0, .int .u8 0, .int .u8 0, .int .u8 0, .int .u8 0, .int .u8 0, .int .u8 0, .int .u8 0, .int .u8 0, .int .u8 0, .int .u8 0, .int .u8 0, .int .u8 0, .int .u8 0, .int .u8 0, .int .u8 0, .int .u8 0, .int .u8 0, .int .u8 0, .int .u8 0, .int .u8 0, .int .u8 0, .int .u8 0, .int .u8 0, .int .u8 0, .int .u8 0, .int .u8 0, .int .u8 0, .int .u8 0, .int .u8 0, .int .u8 0, .int .u8 0, .int .u8 0, .int .u8 0, .int .u8 0, .int .u8 0, .int .u8 0, .int .u8 0, .int .u8 0, .int .u8 0, .int .u8 0, .int .u8 0, .int .u8 0, .int .u8 0, .int .u8 0, .int .u8 0, .int .u8 0, .int .u8 0, .int .u8 0, .int .u8 0, .int .u8 0, .int .u8 0, .int .u8 0, .int .u8 0, .int .u8 0, .int .u8 0, .int .u8 0, .int .u8 0, .int .u8 0, .int .u8 0, .int .u8 0, .int .u8 0, .int .u8 0, .int .u8 0, .int .u8 0, .int .u8 0, .int .u8 0, .int .u8 0, .int .u8 0, .int .u8 0, .int .u8 0, .int .u8 0, .int .u8 0, .int .u8 0, .int .u8 0, .int .u8 0, .int .u8 0, .int .u8 0, .int .u8 0, .int .u8 0, .int .u8 0, .int .u8 0, .int .u8 0, .int .u8 0, .int .u8 0, .int .u8 0, .int .u8 0, .int .u8 0, .int .u8 0, .int .u8 0, .int .u8 0, .int .u8 0, .int .u8 0, .int .u8 0, .int .u8 0, .int .u8 0, .int .u8 0, .int .u8 0, .int .u8 0, .int .u8 0, .int .u8 0, .int .u8 0, .int .u8 0]⟩ := rfl
@[simp] theorem tbget104 : tb.get 104 = some ⟨.func, 1, 8, [.nilfn]⟩ := rfl
@[simp] theorem tbget105 : tb.get 105 = some ⟨.func, 1, 8, [.nilfn]⟩ := rfl
@[simp] theorem tbget106 : tb.get 106 = some ⟨.ptr 5, 1, 8, [.nilptr]⟩ := rfl
@[simp] theorem tbget107 : tb.get 107 = some ⟨.func, 1, 8, [.nilfn]⟩ := rfl
@[simp] theorem tbget108 : tb.get 108 = some ⟨.func, 1, 8, [.nilfn]⟩ := rfl
@[simp] theorem tbget109 : tb.get 109 = some ⟨.func, 1, 8, [.nilfn]⟩ := rfl
@[simp] theorem tbget110 : tb.get 110 = some ⟨.func, 1, 8, [.nilfn]⟩ := rfl
@[simp] theorem tbget111 : tb.get 111 = some ⟨.arr true 24 5, 24, 24, [.int .u8 0, .int .u8 0, .int .u8 0, .int .u8 0, .int .u8 0, .int .u8 0, .int .u8 0, .int .u8 0, .int .u8 0, .int .u8 0, .int .u8 0, .int .u8 0, .int .u8 0, .int .u8 0, .int .u8 0, .int .u8 0, .int .u8 0, .int .u8 0, .int .u8 0, .int .u8 0, .int .u8 0, .int .u8 0, .int .u8 0, .int .u8 0]⟩ := rfl
@[simp] theorem tbget112 : tb.get 112 = some ⟨.int .u64, 1, 8, [.int .u64 0]⟩ := rfl
@[simp] theorem tbget113 : tb.get 113 = some ⟨.func, 1, 8, [.nilfn]⟩ := rfl
@[simp] theorem tbget114 : tb.get 114 = some ⟨.func, 1, 8, [.nilfn]⟩ := rfl
@[simp] theorem tbget116 : tb.get 116 = some ⟨.func, 1, 8, [.nilfn]⟩ := rfl
@[simp] theorem tbget117 : tb.get 117 = some ⟨.sl 119, 1, 24, [.nilsl]⟩ := rfl
@[simp] theorem tbget118 : tb.get 118 = some ⟨.struct true [(0, 3), (1, 3)], 2, 16, [.int .i64 0, .int .i64 0]⟩ := rfl
@[simp] theorem tbget119 : tb.get 119 = some ⟨.struct true [(0, 3), (1, 3)], 2, 16, [.int .i64 0, .int .i64 0]⟩ := rfl
@[simp] theorem tbget120 : tb.get 120 = some ⟨.int .u32, 1, 4, [.int .u32 0]⟩ := rfl
@[simp] theorem tbget121 : tb.get 121 = some ⟨.func, 1, 8, [.nilfn]⟩ := rfl
@[simp] theorem tbget122 : tb.get 122 = some ⟨.ptr 137, 1, 8, [.nilptr]⟩ := rfl
@[simp] theorem tbget124 : tb.get 124 = some ⟨.func, 1, 8, [.nilfn]⟩ := rfl
@[simp] theorem tbget125 : tb.get 125 = some ⟨.func, 1, 8, [.nilfn]⟩ := rfl
@[simp] theorem tbget126 : tb.get 126 = some ⟨.struct true [(0, 3), (1, 3), (2, 3)], 3, 24, [.int .i64 0, .int .i64 0, .int .i64 0]⟩ := rfl
@[simp] theorem tbget127 : tb.get 127 = some ⟨.struct true [(0, 3), (1, 3), (2, 3)], 3, 24, [.int .i64 0, .int .i64 0, .int .i64 0]⟩ := rfl
@[simp] theorem tbget128 : tb.get 128 = some ⟨.arr true 6 127, 18, 144, [.int .i64 0, .int .i64 0, .int .i64 0, .int .i64 0, .int .i64 0, .int .i64 0, .int .i64 0, .int .i64 0, .int .i64 0, .int .i64 0, .int .i64 0, .int .i64 0, .int .i64 0, .int .i64 0, .int .i64 0, .int .i64 0, .int .i64 0, .int .i64 0]⟩ := rfl
@[simp] theorem tbget129 : tb.get 129 = some ⟨.func, 1, 8, [.nilfn]⟩ := rfl
@[simp] theorem tbget130 : tb.get 130 = some ⟨.arr true 20 112, 20, 160, [.int .u64 0, .int .u64 0, .int .u64 0, .int .u64 0, .int .u64 0, .int .u64 0, .int .u64 0, .int .u64 0, .int .u64 0, .int .u64 0, .int .u64 0, .int .u64 0, .int .u64 0, .int .u64 0, .int .u64 0, .int .u64 0, .int .u64 0, .int .u64 0, .int .u64 0, .int .u64 0]⟩ := rfl
@[simp] theorem tbget131 : tb.get 131 = some ⟨.arr true 65 5, 65, 65, [.int .u8 0, .int .u8 0, .int .u8 0, .int .u8 0, .int .u8 0, .int .u8 0, .int .u8 0, .int .u8 0, .int .u8 0, .int .u8 0, .int .u8 0, .int .u8 0, .int .u8 0, .int .u8 0, .int .u8 0, .int .u8 0, .int .u8 0, .int .u8 0, .int .u8 0, .int .u8 0, .int .u8 0, .int .u8 0, .int .u8 0, .int .u8 0, .int .u8 0, .int .u8 0, .int .u8 0, .int .u8 0, .int .u8 0, .int .u8 0, .int .u8 0, .int .u8 0, .int .u8 0, .int .u8 0, .int .u8 0, .int .u8 0, .int .u8 0, .int .u8 0, .int .u8 0, .int .u8 0, .int .u8 0, .int .u8 0, .int .u8 0, .int .u8 0, .int .u8 0, .int .u8 0, .int .u8 0, .int .u8 0, .int .u8 0, .int .u8 0, .int .u8 0, .int .u8 0, .int .u8 0, .int .u8 0, .int .u8 0, .int .u8 0, .int .u8 0, .int .u8 0, .int .u8 0, .int .u8 0, .int .u8 0, .int .u8 0, .int .u8 0, .int .u8 0, .int .u8 0]⟩ := rfl
@[simp] theorem tbget132 : tb.get 132 = some ⟨.int .u64, 1, 8, [.int .u64 0]⟩ := rfl
@[simp] theorem tbget133 : tb.get 133 = some ⟨.func, 1, 8, [.nilfn]⟩ := rfl
@[simp] theorem tbget134 : tb.get 134 = some ⟨.sl 140, 1, 24, [.nilsl]⟩ := rfl
@[simp] theorem tbget135 : tb.get 135 = some ⟨.sl 143, 1, 24, [.nilsl]⟩ := rfl
@[simp] theorem tbget136 : tb.get 136 = some ⟨.struct false [(0, 134), (1, 135), (2, 3)], 3, 56, [.nilsl, .nilsl, .int .i64 0]⟩ := rfl
@[simp] theorem tbget137 : tb.get 137 = some ⟨.struct false [(0, 134), (1, 135), (2, 3)], 3, 56, [.nilsl, .nilsl, .int .i64 0]⟩ := rfl
@[simp] theorem tbget138 : tb.get 138 = some ⟨.int .u16, 1, 2, [.int .u16 0]⟩ := rfl
@[simp] theorem tbget139 : tb.get 139 = some ⟨.struct true [(0, 138), (1, 138), (2, 138)], 3, 6, [.int .u16 0, .int .u16 0, .int .u16 0]⟩ := rfl
@[simp] theorem tbget140 : tb.get 140 = some ⟨.struct true [(0, 138), (1, 138), (2, 138)], 3, 6, [.int .u16 0, .int .u16 0, .int .u16 0]⟩ := rfl
@[simp] theorem tbget141 : tb.get 141 = some ⟨.func, 1, 8, [.nilfn]⟩ := rfl
@[simp] theorem tbget142 : tb.get 142 = some ⟨.struct true [(0, 120), (1, 120), (2, 120)], 3, 12, [.int .u32 0, .int .u32 0, .int .u32 0]⟩ := rfl
@[simp] theorem tbget143 : tb.get 143 = some ⟨.struct true [(0, 120), (1, 120), (2, 120)], 3, 12, [.int .u32 0, .int .u32 0, .int .u32 0]⟩ := rfl
@[simp] theorem tbget144 : tb.get 144 = some ⟨.func, 1, 8, [.nilfn]⟩ := rfl
@[simp] theorem tbget145 : tb.get 145 = some ⟨.func, 1, 8, [.nilfn]⟩ := rfl
@[simp] theorem tbget146 : tb.get 146 = some ⟨.ptr 140, 1, 8, [.nilptr]⟩ := rfl
@[simp] theorem tbget147 : tb.get 147 = some ⟨.ptr 143, 1, 8, [.nilptr]⟩ := rfl
@[simp] theorem tbget148 : tb.get 148 = some ⟨.arr true 32 5, 32, 32, [.int .u8 0, .int .u8 0, .int .u8 0, .int .u8 0, .int .u8 0, .int .u8 0, .int .u8 0, .int .u8 0, .int .u8 0, .int .u8 0, .int .u8 0, .int .u8 0, .int .u8 0, .int .u8 0, .int .u8 0, .int .u8 0, .int .u8 0, .int .u8 0, .int .u8 0, .int .u8 0, .int .u8 0, .int .u8 0, .int .u8 0, .int .u8 0, .int .u8 0, .int .u8 0, .int .u8 0, .int .u8 0, .int .u8 0, .int .u8 0, .int .u8 0, .int .u8 0]⟩ := rfl
@[simp] theorem tbget149 : tb.get 149 = some ⟨.arr true 64 5, 64, 64, [.int .u8 0, .int .u8 0, .int .u8 0, .int .u8 0, .int .u8 0, .int .u8 0, .int .u8 0, .int .u8 0, .int .u8 0, .int .u8 0, .int .u8 0, .int .u8 0, .int .u8 0, .int .u8 0, .int .u8 0, .int .u8 0, .int .u8 0, .int .u8 0, .int .u8 0, .int .u8 0, .int .u8 0, .int .u8 0, .int .u8 0, .int .u8 0, .int .u8 0, .int .u8 0, .int .u8 0, .int .u8 0, .int .u8 0, .int .u8 0, .int .u8 0, .int .u8 0, .int .u8 0, .int .u8 0, .int .u8 0, .int .u8 0, .int .u8 0, .int .u8 0, .int .u8 0, .int .u8 0, .int .u8 0, .int .u8 0, .int .u8 0, .int .u8 0, .int .u8 0, .int .u8 0, .int .u8 0, .int .u8 0, .int .u8 0, .int .u8 0, .int .u8 0, .int .u8 0, .int .u8 0, .int .u8 0, .int .u8 0, .int .u8 0, .int .u8 0, .int .u8 0, .int .u8 0, .int .u8 0, .int .u8 0, .int .u8 0, .int .u8 0, .int .u8 0]⟩ := rfl
@[simp] theorem tbget150 : tb.get 150 = some ⟨.struct false [(0, 17), (1, 17), (2, 17), (3, 9)], 4, 40, [.nilptr, .nilptr, .nilptr, .str []]⟩ := rfl
@[simp] theorem tbget151 : tb.get 151 = some ⟨.struct false [(0, 17), (1, 17), (2, 17), (3, 9)], 4, 40, [.nilptr, .nilptr, .nilptr, .str []]⟩ := rfl
@[simp] theorem tbget152 : tb.get 152 = some ⟨.arr false 0 16, 0, 0, []⟩ := rfl
@[simp] theorem tbget153 : tb.get 153 = some ⟨.struct false [(0, 152)], 0, 0, []⟩ := rfl
@[simp] theorem tbget154 : tb.get 154 = some ⟨.struct false [(0, 152)], 0, 0, []⟩ := rfl
@[simp] theorem tbget155 : tb.get 155 = some ⟨.int .u8, 1, 1, [.int .u8 0]⟩ := rfl
@[simp] theorem tbget156 : tb.get 156 = some ⟨.int .u8, 1, 1, [.int .u8 0]⟩ := rfl
@[simp] theorem tbget157 : tb.get 157 = some ⟨.func, 1, 8, [.nilfn]⟩ := rfl
@[simp] theorem tbget158 : tb.get 158 = some ⟨.int .i32, 1, 4, [.int .i32 0]⟩ := rfl
@[simp] theorem tbget159 : tb.get 159 = some ⟨.int .i32, 1, 4, [.int .i32 0]⟩ := rfl
@[simp] theorem tbget160 : tb.get 160 = some ⟨.struct false [(0, 12), (1, 12), (2, 120), (3, 155), (4, 5), (5, 5), (6, 156), (7, 157), (8, 106), (9, 158), (10, 159)], 11, 48, [.int .u64 0, .int .u64 0, .int .u32 0, .int .u8 0, .int .u8 0, .int .u8 0, .int .u8 0, .nilfn, .nilptr, .int .i32 0, .int .i32 0]⟩ := rfl
@[simp] theorem tbget161 : tb.get 161 = some ⟨.struct false [(0, 12), (1, 12), (2, 120), (3, 155), (4, 5), (5, 5), (6, 156), (7, 157), (8, 106), (9, 158), (10, 159)], 11, 48, [.int .u64 0, .int .u64 0, .int .u32 0, .int .u8 0, .int .u8 0, .int .u8 0, .int .u8 0, .nilfn, .nilptr, .int .i32 0, .int .i32 0]⟩ := rfl
end Go.Vm
