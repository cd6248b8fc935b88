/- The table of types, by program (tab.py). -/
import Derived.Test.YtggeifnbllfmbaaDoorVMd
import Derived.Test.YtggeifnbllfmbaaDoorProg
namespace Go.Vm
set_option maxRecDepth 20000
def tb : Tab := [
  (1, ⟨.func, 1, 8, [.nilfn]⟩),
  (2, ⟨.int .i64, 1, 8, [.int .i64 0]⟩),
  (3, ⟨.int .i64, 1, 8, [.int .i64 0]⟩),
  (4, ⟨.bool, 1, 1, [.bool false]⟩),
  (5, ⟨.int .u8, 1, 1, [.int .u8 0]⟩),
  (6, ⟨.int .u8, 1, 1, [.int .u8 0]⟩),
  (7, ⟨.struct true [(0, 2), (1, 3), (2, 4), (3, 6)], 4, 24, [.int .i64 0, .int .i64 0, .bool false, .int .u8 0]⟩),
  (8, ⟨.struct true [(0, 2), (1, 3), (2, 4), (3, 6)], 4, 24, [.int .i64 0, .int .i64 0, .bool false, .int .u8 0]⟩),
  (9, ⟨.str, 1, 16, [.str []]⟩),
  (10, ⟨.str, 1, 16, [.str []]⟩),
  (11, ⟨.str, 1, 16, [.str []]⟩),
  (12, ⟨.int .u64, 1, 8, [.int .u64 0]⟩),
  (13, ⟨.struct false [(0, 9), (1, 12)], 2, 24, [.str [], .int .u64 0]⟩),
  (14, ⟨.struct false [(0, 9), (1, 12)], 2, 24, [.str [], .int .u64 0]⟩),
  (15, ⟨.ptr 105, 1, 8, [.nilptr]⟩),
  (16, ⟨.ptr 108, 1, 8, [.nilptr]⟩),
  (17, ⟨.ptr 115, 1, 8, [.nilptr]⟩),
  (18, ⟨.struct false [(0, 17)], 1, 8, [.nilptr]⟩),
  (19, ⟨.struct false [(0, 17)], 1, 8, [.nilptr]⟩),
  (20, ⟨.ifc, 1, 16, [.nilif]⟩),
  (21, ⟨.int .i32, 1, 4, [.int .i32 0]⟩),
  (22, ⟨.sl 39, 1, 24, [.nilsl]⟩),
  (23, ⟨.struct true [(0, 5), (1, 5), (2, 4), (3, 4)], 4, 4, [.int .u8 0, .int .u8 0, .bool false, .bool false]⟩),
  (24, ⟨.struct true [(0, 5), (1, 5), (2, 4), (3, 4)], 4, 4, [.int .u8 0, .int .u8 0, .bool false, .bool false]⟩),
  (25, ⟨.struct true [(0, 3), (1, 3)], 2, 16, [.int .i64 0, .int .i64 0]⟩),
  (26, ⟨.struct true [(0, 3), (1, 3)], 2, 16, [.int .i64 0, .int .i64 0]⟩),
  (28, ⟨.func, 1, 8, [.nilfn]⟩),
  (29, ⟨.func, 1, 8, [.nilfn]⟩),
  (30, ⟨.func, 1, 8, [.nilfn]⟩),
  (31, ⟨.func, 1, 8, [.nilfn]⟩),
  (32, ⟨.func, 1, 8, [.nilfn]⟩),
  (33, ⟨.func, 1, 8, [.nilfn]⟩),
  (34, ⟨.func, 1, 8, [.nilfn]⟩),
  (36, ⟨.func, 1, 8, [.nilfn]⟩),
  (37, ⟨.func, 1, 8, [.nilfn]⟩),
  (38, ⟨.func, 1, 8, [.nilfn]⟩),
  (39, ⟨.sl 9, 1, 24, [.nilsl]⟩),
  (40, ⟨.func, 1, 8, [.nilfn]⟩),
  (41, ⟨.func, 1, 8, [.nilfn]⟩),
  (42, ⟨.func, 1, 8, [.nilfn]⟩),
  (43, ⟨.func, 1, 8, [.nilfn]⟩),
  (44, ⟨.func, 1, 8, [.nilfn]⟩),
  (45, ⟨.func, 1, 8, [.nilfn]⟩),
  (47, ⟨.func, 1, 8, [.nilfn]⟩),
  (49, ⟨.func, 1, 8, [.nilfn]⟩),
  (50, ⟨.func, 1, 8, [.nilfn]⟩),
  (51, ⟨.func, 1, 8, [.nilfn]⟩),
  (52, ⟨.func, 1, 8, [.nilfn]⟩),
  (53, ⟨.ptr 56, 1, 8, [.nilptr]⟩),
  (54, ⟨.sl 5, 1, 24, [.nilsl]⟩),
  (55, ⟨.struct false [(0, 53), (1, 54)], 2, 32, [.nilptr, .nilsl]⟩),
  (56, ⟨.struct false [(0, 53), (1, 54)], 2, 32, [.nilptr, .nilsl]⟩),
  (57, ⟨.ifc, 1, 16, [.nilif]⟩),
  (58, ⟨.ifc, 1, 16, [.nilif]⟩),
  (59, ⟨.func, 1, 8, [.nilfn]⟩),
  (61, ⟨.func, 1, 8, [.nilfn]⟩),
  (62, ⟨.func, 1, 8, [.nilfn]⟩),
  (63, ⟨.func, 1, 8, [.nilfn]⟩),
  (64, ⟨.func, 1, 8, [.nilfn]⟩),
  (65, ⟨.func, 1, 8, [.nilfn]⟩),
  (66, ⟨.func, 1, 8, [.nilfn]⟩),
  (67, ⟨.ptr 69, 1, 8, [.nilptr]⟩),
  (68, ⟨.struct true [(0, 24), (4, 9), (5, 3)], 6, 32, [.int .u8 0, .int .u8 0, .bool false, .bool false, .str [], .int .i64 0]⟩),
  (69, ⟨.struct true [(0, 24), (4, 9), (5, 3)], 6, 32, [.int .u8 0, .int .u8 0, .bool false, .bool false, .str [], .int .i64 0]⟩),
  (71, ⟨.func, 1, 8, [.nilfn]⟩),
  (72, ⟨.func, 1, 8, [.nilfn]⟩),
  (73, ⟨.func, 1, 8, [.nilfn]⟩),
  (74, ⟨.sl 3, 1, 24, [.nilsl]⟩),
  (75, ⟨.func, 1, 8, [.nilfn]⟩),
  (76, ⟨.func, 1, 8, [.nilfn]⟩),
  (77, ⟨.func, 1, 8, [.nilfn]⟩),
  (78, ⟨.func, 1, 8, [.nilfn]⟩),
  (79, ⟨.func, 1, 8, [.nilfn]⟩),
  (80, ⟨.func, 1, 8, [.nilfn]⟩),
  (81, ⟨.func, 1, 8, [.nilfn]⟩),
  (82, ⟨.ptr 5, 1, 8, [.nilptr]⟩),
  (84, ⟨.func, 1, 8, [.nilfn]⟩),
  (85, ⟨.func, 1, 8, [.nilfn]⟩),
  (87, ⟨.func, 1, 8, [.nilfn]⟩),
  (88, ⟨.func, 1, 8, [.nilfn]⟩),
  (89, ⟨.func, 1, 8, [.nilfn]⟩),
  (90, ⟨.func, 1, 8, [.nilfn]⟩),
  (92, ⟨.func, 1, 8, [.nilfn]⟩),
  (93, ⟨.func, 1, 8, [.nilfn]⟩),
  (94, ⟨.func, 1, 8, [.nilfn]⟩),
  (95, ⟨.func, 1, 8, [.nilfn]⟩),
  (96, ⟨.int .u64, 1, 8, [.int .u64 0]⟩),
  (97, ⟨.arr true 256 5, 256, 256, [.int .u8 0, .int .u8 0, .int .u8 0, .int .u8 0, .int .u8 0, .int .u8 0, .int .u8 0, .int .u8 0, .int .u8 0, .int .u8 0, .int .u8 0, .int .u8 0, .int .u8 0, .int .u8 0, .int .u8 0, .int .u8 0, .int .u8 0, .int .u8 0, .int .u8 0, .int .u8 0, .int .u8 0, .int .u8 0, .int .u8 0, .int .u8 0, .int .u8 0, .int .u8 0, .int .u8 0, .int .u8 0, .int .u8 0, .int .u8 0, .int .u8 0, .int .u8 0, .int .u8 0, .int .u8 0, .int .u8 0, .int .u8 0, .int .u8 0, .int .u8 0, .int .u8 0, .int .u8 0, .int .u8 0, .int .u8 0, .int .u8 0, .int .u8 0, .int .u8 0, .int .u8 0, .int .u8 0, .int .u8 0, .int .u8 0, .int .u8 0, .int .u8 0, .int .u8 0, .int .u8 0, .int .u8 0, .int .u8 0, .int .u8 0, .int .u8 0, .int .u8 0, .int .u8 0, .int .u8 0, .int .u8 0, .int .u8 0, .int .u8 0, .int .u8 0, .int .u8 0, .int .u8 0, .int .u8 0, .int .u8 0, .int .u8 0, .int .u8 0, .int .u8 0, .int .u8 0, .int .u8 0, .int .u8 0, .int .u8 0, .int .u8 0, .int .u8 0, .int .u8 0, .int .u8 0, .int .u8 0, .int .u8 0, .int .u8 0, .int .u8 0, .int .u8 0, .int .u8 0, .int .u8 0, .int .u8 0, .int .u8 0, .int .u8 0, .int .u8 0, .int .u8 0, .int .u8 0, .int .u8 0, .int .u8 0, .int .u8 0, .int .u8 0, .int .u8 0, .int .u8 0, .int .u8 0, .int .u8 0, .int .u8 0, .int .u8 0, .int .u8 0, .int .u8 0, .int .u8 0, .int .u8 0, .int .u8 0, .int .u8 0, .int .u8 0, .int .u8 0, .int .u8 0, .int .u8 0, .int .u8 0, .int .u8 0, .int .u8 0, .int .u8 0, .int .u8 0, .int .u8 0, .int .u8 0, .int .u8 0, .int .u8 0, .int .u8 0, .int .u8 0, .int .u8 0, .int .u8 0, .int .u8 0, .int .u8 0, .int .u8 0, .int .u8 0, .int .u8 0, .int .u8 0, .int .u8 0, .int .u8 0, .int .u8 0, .int .u8 0, .int .u8 0, .int .u8 0, .int .u8 0, .int .u8 0, .int .u8 0, .int .u8 0, .int .u8 0, .int .u8 0, .int .u8 0, .int .u8 0, .int .u8 0, .int .u8 0, .int .u8 0, .int .u8 0, .int .u8 0, .int .u8 0, .int .u8 0, .int .u8 0, .int .u8 0, .int .u8 0, .int .u8 0, .int .u8 0, .int .u8 0, .int .u8 0, .int .u8 0, .int .u8 0, .int .u8 0, .int .u8 0, .int .u8 0, .int .u8 0, .int .u8 0, .int .u8 0, .int .u8 0, .int .u8 0, .int .u8 0, .int .u8 0, .int .u8 0, .int .u8 0, .int .u8 0, .int .u8 0, .int .u8 0, .int .u8 0, .int .u8 0, .int .u8 0, .int .u8 0, .int .u8 0, .int .u8 0, .int .u8 0, .int .u8 0, .int .u8 0, .int .u8 0, .int .u8 0, .int .u8 0, .int .u8 0, .int .u8 0, .int .u8 0, .int .u8 0, .int .u8 0, .int .u8 0, .int .u8 0, .int .u8 0, .int .u8 0, .int .u8 0, .int .u8 0, .int .u8 0, .int .u8 0, .int .u8 0, .int .u8 0, .int .u8 0, .int .u8 0, .int .u8 0, .int .u8 0, .int .u8 0, .int .u8 0, .int .u8 0, .int .u8 0, .int .u8 0, .int .u8 0, .int .u8 0, .int .u8 0, .int .u8 0, .int .u8 0, .int .u8 0, .int .u8 0, .int .u8 0, .int .u8 0, .int .u8 0, .int .u8 0, .int .u8 0, .int .u8 0, .int .u8 0, .int .u8 0, .int .u8 0, .int .u8 0, .int .u8 0, .int .u8 0, .int .u8 0, .int .u8 0, .int .u8 0, .int .u8 0, .int .u8 0, .int .u8 0, .int .u8 0, .int .u8 0, .int .u8 0, .int .u8 0, .int .u8 0, .int .u8 0, .int .u8 0, .int .u8 0, .int .u8 0, .int .u8 0, .int .u8 0, .int .u8 0, .int .u8 0, .int .u8 0, .int .u8 0, .int .u8 0, .int .u8 0, .int .u8 0, .int .u8 0]⟩),
  (98, ⟨.struct true [(0, 5), (1, 5)], 2, 2, [.int .u8 0, .int .u8 0]⟩),
  (99, ⟨.struct true [(0, 5), (1, 5)], 2, 2, [.int .u8 0, .int .u8 0]⟩),
  (100, ⟨.arr true 16 99, 32, 32, [.int .u8 0, .int .u8 0, .int .u8 0, .int .u8 0, .int .u8 0, .int .u8 0, .int .u8 0, .int .u8 0, .int .u8 0, .int .u8 0, .int .u8 0, .int .u8 0, .int .u8 0, .int .u8 0, .int .u8 0, .int .u8 0, .int .u8 0, .int .u8 0, .int .u8 0, .int .u8 0, .int .u8 0, .int .u8 0, .int .u8 0, .int .u8 0, .int .u8 0, .int .u8 0, .int .u8 0, .int .u8 0, .int .u8 0, .int .u8 0, .int .u8 0, .int .u8 0]⟩),
  (101, ⟨.int .u32, 1, 4, [.int .u32 0]⟩),
  (103, ⟨.func, 1, 8, [.nilfn]⟩),
  (104, ⟨.struct false [(0, 17), (1, 17), (2, 17), (3, 9)], 4, 40, [.nilptr, .nilptr, .nilptr, .str []]⟩),
  (105, ⟨.struct false [(0, 17), (1, 17), (2, 17), (3, 9)], 4, 40, [.nilptr, .nilptr, .nilptr, .str []]⟩),
  (106, ⟨.arr false 0 16, 0, 0, []⟩),
  (107, ⟨.struct false [(0, 106)], 0, 0, []⟩),
  (108, ⟨.struct false [(0, 106)], 0, 0, []⟩),
  (109, ⟨.int .u8, 1, 1, [.int .u8 0]⟩),
  (110, ⟨.int .u8, 1, 1, [.int .u8 0]⟩),
  (111, ⟨.func, 1, 8, [.nilfn]⟩),
  (112, ⟨.int .i32, 1, 4, [.int .i32 0]⟩),
  (113, ⟨.int .i32, 1, 4, [.int .i32 0]⟩),
  (114, ⟨.struct false [(0, 12), (1, 12), (2, 101), (3, 109), (4, 5), (5, 5), (6, 110), (7, 111), (8, 82), (9, 112), (10, 113)], 11, 48, [.int .u64 0, .int .u64 0, .int .u32 0, .int .u8 0, .int .u8 0, .int .u8 0, .int .u8 0, .nilfn, .nilptr, .int .i32 0, .int .i32 0]⟩),
  (115, ⟨.struct false [(0, 12), (1, 12), (2, 101), (3, 109), (4, 5), (5, 5), (6, 110), (7, 111), (8, 82), (9, 112), (10, 113)], 11, 48, [.int .u64 0, .int .u64 0, .int .u32 0, .int .u8 0, .int .u8 0, .int .u8 0, .int .u8 0, .nilfn, .nilptr, .int .i32 0, .int .i32 0]⟩)]
theorem tb_ok : Pok Proofs.Tryd.prog tb := ⟨by kernel_rfl, by kernel_rfl⟩
@[simp] theorem tbget1 : tb.get 1 = some ⟨.func, 1, 8, [.nilfn]⟩ := rfl
@[simp] theorem tbget2 : tb.get 2 = some ⟨.int .i64, 1, 8, [.int .i64 0]⟩ := rfl
@[simp] theorem tbget3 : tb.get 3 = some ⟨.int .i64, 1, 8, [.int .i64 0]⟩ := rfl
@[simp] theorem tbget4 : tb.get 4 = some ⟨.bool, 1, 1, [.bool false]⟩ := rfl
@[simp] theorem tbget5 : tb.get 5 = some ⟨.int .u8, 1, 1, [.int .u8 0]⟩ := rfl
@[simp] theorem tbget6 : tb.get 6 = some ⟨.int .u8, 1, 1, [.int .u8 0]⟩ := rfl
@[simp] theorem tbget7 : tb.get 7 = some ⟨.struct true [(0, 2), (1, 3), (2, 4), (3, 6)], 4, 24, [.int .i64 0, .int .i64 0, .bool false, .int .u8 0]⟩ := rfl
@[simp] theorem tbget8 : tb.get 8 = some ⟨.struct true [(0, 2), (1, 3), (2, 4), (3, 6)], 4, 24, [.int .i64 0, .int .i64 0, .bool false, .int .u8 0]⟩ := rfl
@[simp] theorem tbget9 : tb.get 9 = some ⟨.str, 1, 16, [.str []]⟩ := rfl
@[simp] theorem tbget10 : tb.get 10 = some ⟨.str, 1, 16, [.str []]⟩ := rfl
@[simp] theorem tbget11 : tb.get 11 = some ⟨.str, 1, 16, [.str []]⟩ := rfl
@[simp] theorem tbget12 : tb.get 12 = some ⟨.int .u64, 1, 8, [.int .u64 0]⟩ := rfl
@[simp] theorem tbget13 : tb.get 13 = some ⟨.struct false [(0, 9), (1, 12)], 2, 24, [.str [], .int .u64 0]⟩ := rfl
@[simp] theorem tbget14 : tb.get 14 = some ⟨.struct false [(0, 9), (1, 12)], 2, 24, [.str [], .int .u64 0]⟩ := rfl
@[simp] theorem tbget15 : tb.get 15 = some ⟨.ptr 105, 1, 8, [.nilptr]⟩ := rfl
@[simp] theorem tbget16 : tb.get 16 = some ⟨.ptr 108, 1, 8, [.nilptr]⟩ := rfl
@[simp] theorem tbget17 : tb.get 17 = some ⟨.ptr 115, 1, 8, [.nilptr]⟩ := rfl
@[simp] theorem tbget18 : tb.get 18 = some ⟨.struct false [(0, 17)], 1, 8, [.nilptr]⟩ := rfl
@[simp] theorem tbget19 : tb.get 19 = some ⟨.struct false [(0, 17)], 1, 8, [.nilptr]⟩ := rfl
@[simp] theorem tbget20 : tb.get 20 = some ⟨.ifc, 1, 16, [.nilif]⟩ := rfl
@[simp] theorem tbget21 : tb.get 21 = some ⟨.int .i32, 1, 4, [.int .i32 0]⟩ := rfl
@[simp] theorem tbget22 : tb.get 22 = some ⟨.sl 39, 1, 24, [.nilsl]⟩ := rfl
@[simp] theorem tbget23 : tb.get 23 = some ⟨.struct true [(0, 5), (1, 5), (2, 4), (3, 4)], 4, 4, [.int .u8 0, .int .u8 0, .bool false, .bool false]⟩ := rfl
@[simp] theorem tbget24 : tb.get 24 = some ⟨.struct true [(0, 5), (1, 5), (2, 4), (3, 4)], 4, 4, [.int .u8 0, .int .u8 0, .bool false, .bool false]⟩ := rfl
@[simp] theorem tbget25 : tb.get 25 = some ⟨.struct true [(0, 3), (1, 3)], 2, 16, [.int .i64 0, .int .i64 0]⟩ := rfl
@[simp] theorem tbget26 : tb.get 26 = some ⟨.struct true [(0, 3), (1, 3)], 2, 16, [.int .i64 0, .int .i64 0]⟩ := rfl
@[simp] theorem tbget28 : tb.get 28 = some ⟨.func, 1, 8, [.nilfn]⟩ := rfl
@[simp] theorem tbget29 : tb.get 29 = some ⟨.func, 1, 8, [.nilfn]⟩ := rfl
@[simp] theorem tbget30 : tb.get 30 = some ⟨.func, 1, 8, [.nilfn]⟩ := rfl
@[simp] theorem tbget31 : tb.get 31 = some ⟨.func, 1, 8, [.nilfn]⟩ := rfl
@[simp] theorem tbget32 : tb.get 32 = some ⟨.func, 1, 8, [.nilfn]⟩ := rfl
@[simp] theorem tbget33 : tb.get 33 = some ⟨.func, 1, 8, [.nilfn]⟩ := rfl
@[simp] theorem tbget34 : tb.get 34 = some ⟨.func, 1, 8, [.nilfn]⟩ := rfl
@[simp] theorem tbget36 : tb.get 36 = some ⟨.func, 1, 8, [.nilfn]⟩ := rfl
@[simp] theorem tbget37 : tb.get 37 = some ⟨.func, 1, 8, [.nilfn]⟩ := rfl
@[simp] theorem tbget38 : tb.get 38 = some ⟨.func, 1, 8, [.nilfn]⟩ := rfl
@[simp] theorem tbget39 : tb.get 39 = some ⟨.sl 9, 1, 24, [.nilsl]⟩ := rfl
@[simp] theorem tbget40 : tb.get 40 = some ⟨.func, 1, 8, [.nilfn]⟩ := rfl
@[simp] theorem tbget41 : tb.get 41 = some ⟨.func, 1, 8, [.nilfn]⟩ := rfl
@[simp] theorem tbget42 : tb.get 42 = some ⟨.func, 1, 8, [.nilfn]⟩ := rfl
@[simp] theorem tbget43 : tb.get 43 = some ⟨.func, 1, 8, [.nilfn]⟩ := rfl
@[simp] theorem tbget44 : tb.get 44 = some ⟨.func, 1, 8, [.nilfn]⟩ := rfl
@[simp] theorem tbget45 : tb.get 45 = some ⟨.func, 1, 8, [.nilfn]⟩ := rfl
@[simp] theorem tbget47 : tb.get 47 = some ⟨.func, 1, 8, [.nilfn]⟩ := rfl
@[simp] theorem tbget49 : tb.get 49 = some ⟨.func, 1, 8, [.nilfn]⟩ := rfl
@[simp] theorem tbget50 : tb.get 50 = some ⟨.func, 1, 8, [.nilfn]⟩ := rfl
@[simp] theorem tbget51 : tb.get 51 = some ⟨.func, 1, 8, [.nilfn]⟩ := rfl
@[simp] theorem tbget52 : tb.get 52 = some ⟨.func, 1, 8, [.nilfn]⟩ := rfl
@[simp] theorem tbget53 : tb.get 53 = some ⟨.ptr 56, 1, 8, [.nilptr]⟩ := rfl
@[simp] theorem tbget54 : tb.get 54 = some ⟨.sl 5, 1, 24, [.nilsl]⟩ := rfl
@[simp] theorem tbget55 : tb.get 55 = some ⟨.struct false [(0, 53), (1, 54)], 2, 32, [.nilptr, .nilsl]⟩ := rfl
@[simp] theorem tbget56 : tb.get 56 = some ⟨.struct false [(0, 53), (1, 54)], 2, 32, [.nilptr, .nilsl]⟩ := rfl
@[simp] theorem tbget57 : tb.get 57 = some ⟨.ifc, 1, 16, [.nilif]⟩ := rfl
@[simp] theorem tbget58 : tb.get 58 = some ⟨.ifc, 1, 16, [.nilif]⟩ := rfl
@[simp] theorem tbget59 : tb.get 59 = some ⟨.func, 1, 8, [.nilfn]⟩ := rfl
@[simp] theorem tbget61 : tb.get 61 = some ⟨.func, 1, 8, [.nilfn]⟩ := rfl
@[simp] theorem tbget62 : tb.get 62 = some ⟨.func, 1, 8, [.nilfn]⟩ := rfl
@[simp] theorem tbget63 : tb.get 63 = some ⟨.func, 1, 8, [.nilfn]⟩ := rfl
@[simp] theorem tbget64 : tb.get 64 = some ⟨.func, 1, 8, [.nilfn]⟩ := rfl
@[simp] theorem tbget65 : tb.get 65 = some ⟨.func, 1, 8, [.nilfn]⟩ := rfl
@[simp] theorem tbget66 : tb.get 66 = some ⟨.func, 1, 8, [.nilfn]⟩ := rfl
@[simp] theorem tbget67 : tb.get 67 = some ⟨.ptr 69, 1, 8, [.nilptr]⟩ := rfl
@[simp] theorem tbget68 : tb.get 68 = some ⟨.struct true [(0, 24), (4, 9), (5, 3)], 6, 32, [.int .u8 0, .int .u8 0, .bool false, .bool false, .str [], .int .i64 0]⟩ := rfl
@[simp] theorem tbget69 : tb.get 69 = some ⟨.struct true [(0, 24), (4, 9), (5, 3)], 6, 32, [.int .u8 0, .int .u8 0, .bool false, .bool false, .str [], .int .i64 0]⟩ := rfl
@[simp] theorem tbget71 : tb.get 71 = some ⟨.func, 1, 8, [.nilfn]⟩ := rfl
@[simp] theorem tbget72 : tb.get 72 = some ⟨.func, 1, 8, [.nilfn]⟩ := rfl
@[simp] theorem tbget73 : tb.get 73 = some ⟨.func, 1, 8, [.nilfn]⟩ := rfl
@[simp] theorem tbget74 : tb.get 74 = some ⟨.sl 3, 1, 24, [.nilsl]⟩ := rfl
@[simp] theorem tbget75 : tb.get 75 = some ⟨.func, 1, 8, [.nilfn]⟩ := rfl
@[simp] theorem tbget76 : tb.get 76 = some ⟨.func, 1, 8, [.nilfn]⟩ := rfl
@[simp] theorem tbget77 : tb.get 77 = some ⟨.func, 1, 8, [.nilfn]⟩ := rfl
@[simp] theorem tbget78 : tb.get 78 = some ⟨.func, 1, 8, [.nilfn]⟩ := rfl
@[simp] theorem tbget79 : tb.get 79 = some ⟨.func, 1, 8, [.nilfn]⟩ := rfl
@[simp] theorem tbget80 : tb.get 80 = some ⟨.func, 1, 8, [.nilfn]⟩ := rfl
@[simp] theorem tbget81 : tb.get 81 = some ⟨.func, 1, 8, [.nilfn]⟩ := rfl
@[simp] theorem tbget82 : tb.get 82 = some ⟨.ptr 5, 1, 8, [.nilptr]⟩ := rfl
@[simp] theorem tbget84 : tb.get 84 = some ⟨.func, 1, 8, [.nilfn]⟩ := rfl
@[simp] theorem tbget85 : tb.get 85 = some ⟨.func, 1, 8, [.nilfn]⟩ := rfl
@[simp] theorem tbget87 : tb.get 87 = some ⟨.func, 1, 8, [.nilfn]⟩ := rfl
@[simp] theorem tbget88 : tb.get 88 = some ⟨.func, 1, 8, [.nilfn]⟩ := rfl
@[simp] theorem tbget89 : tb.get 89 = some ⟨.func, 1, 8, [.nilfn]⟩ := rfl
@[simp] theorem tbget90 : tb.get 90 = some ⟨.func, 1, 8, [.nilfn]⟩ := rfl
@[simp] theorem tbget92 : tb.get 92 = some ⟨.func, 1, 8, [.nilfn]⟩ := rfl
@[simp] theorem tbget93 : tb.get 93 = some ⟨.func, 1, 8, [.nilfn]⟩ := rfl
@[simp] theorem tbget94 : tb.get 94 = some ⟨.func, 1, 8, [.nilfn]⟩ := rfl
@[simp] theorem tbget95 : tb.get 95 = some ⟨.func, 1, 8, [.nilfn]⟩ := rfl
@[simp] theorem tbget96 : tb.get 96 = some ⟨.int .u64, 1, 8, [.int .u64 0]⟩ := rfl
@[simp] theorem tbget97 : tb.get 97 = some ⟨.arr true 256 5, 256, 256, [.int .u8 0, .int .u8 0, .int .u8 0, .int .u8 0, .int .u8 0, .int .u8 0, .int .u8 0, .int .u8 0, .int .u8 0, .int .u8 0, .int .u8 0, .int .u8 0, .int .u8 0, .int .u8 0, .int .u8 0, .int .u8 0, .int .u8 0, .int .u8 0, .int .u8 0, .int .u8 0, .int .u8 0, .int .u8 0, .int .u8 0, .int .u8 0, .int .u8 0, .int .u8 0, .int .u8 0, .int .u8 0, .int .u8 0, .int .u8 0, .int .u8 0, .int .u8 0, .int .u8 0, .int .u8 0, .int .u8 0, .int .u8 0, .int .u8 0, .int .u8 0, .int .u8 0, .int .u8 0, .int .u8 0, .int .u8 0, .int .u8 0, .int .u8 0, .int .u8 0, .int .u8 0, .int .u8 0, .int .u8 0, .int .u8 0, .int .u8 0, .int .u8 0, .int .u8 0, .int .u8 0, .int .u8 0, .int .u8 0, .int .u8 0, .int .u8 0, .int .u8 0, .int .u8 0, .int .u8 0, .int .u8 0, .int .u8 0, .int .u8 0, .int .u8 0, .int .u8 0, .int .u8 0, .int .u8 0, .int .u8 0, .int .u8 0, .int .u8 0, .int .u8 0, .int .u8 0, .int .u8 0, .int .u8 0, .int .u8 0, .int .u8 0, .int .u8 0, .int .u8 0, .int .u8 0, .int .u8 0, .int .u8 0, .int .u8 0, .int .u8 0, .int .u8 0, .int .u8 0, .int .u8 0, .int .u8 0, .int .u8 0, .int .u8 0, .int .u8 0, .int .u8 0, .int .u8 0, .int .u8 0, .int .u8 0, .int .u8 0, .int .u8 0, .int .u8 0, .int .u8 0, .int .u8 0, .int .u8 0, .int .u8 0, .int .u8 0, .int .u8 0, .int .u8 0, .int .u8 0, .int .u8 0, .int .u8 0, .int .u8 0, .int .u8 0, .int .u8 0, .int .u8 0, .int .u8 0, .int .u8 0, .int .u8 0, .int .u8 0, .int .u8 0, .int .u8 0, .int .u8 0, .int .u8 0, .int .u8 0, .int .u8 0, .int .u8 0, .int .u8 0, .int .u8 0, .int .u8 0, .int .u8 0, .int .u8 0, .int .u8 0, .int .u8 0, .int .u8 0, .int .u8 0, .int .u8 0, .int .u8 0, .int .u8 0, .int .u8 0, .int .u8 0, .int .u8 0, .int .u8 0, .int .u8 0, .int .u8 0, .int .u8 0, .int .u8 0, .int .u8 0, .int .u8 0, .int .u8 0, .int .u8 0, .int .u8 0, .int .u8 0, .int .u8 0, .int .u8 0, .int .u8 0, .int .u8 0, .int .u8 0, .int .u8 0, .int .u8 0, .int .u8 0, .int .u8 0, .int .u8 0, .int .u8 0, .int .u8 0, .int .u8 0, .int .u8 0, .int .u8 0, .int .u8 0, .int .u8 0, .int .u8 0, .int .u8 0, .int .u8 0, .int .u8 0, .int .u8 0, .int .u8 0, .int .u8 0, .int .u8 0, .int .u8 0, .int .u8 0, .int .u8 0, .int .u8 0, .int .u8 0, .int .u8 0, .int .u8 0, .int .u8 0, .int .u8 0, .int .u8 0, .int .u8 0, .int .u8 0, .int .u8 0, .int .u8 0, .int .u8 0, .int .u8 0, .int .u8 0, .int .u8 0, .int .u8 0, .int .u8 0, .int .u8 0, .int .u8 0, .int .u8 0, .int .u8 0, .int .u8 0, .int .u8 0, .int .u8 0, .int .u8 0, .int .u8 0, .int .u8 0, .int .u8 0, .int .u8 0, .int .u8 0, .int .u8 0, .int .u8 0, .int .u8 0, .int .u8 0, .int .u8 0, .int .u8 0, .int .u8 0, .int .u8 0, .int .u8 0, .int .u8 0, .int .u8 0, .int .u8 0, .int .u8 0, .int .u8 0, .int .u8 0, .int .u8 0, .int .u8 0, .int .u8 0, .int .u8 0, .int .u8 0, .int .u8 0, .int .u8 0, .int .u8 0, .int .u8 0, .int .u8 0, .int .u8 0, .int .u8 0, .int .u8 0, .int .u8 0, .int .u8 0, .int .u8 0, .int .u8 0, .int .u8 0, .int .u8 0, .int .u8 0, .int .u8 0, .int .u8 0, .int .u8 0, .int .u8 0, .int .u8 0, .int .u8 0, .int .u8 0, .int .u8 0, .int .u8 0, .int .u8 0, .int .u8 0, .int .u8 0, .int .u8 0, .int .u8 0, .int .u8 0]⟩ := rfl
@[simp] theorem tbget98 : tb.get 98 = some ⟨.struct true [(0, 5), (1, 5)], 2, 2, [.int .u8 0, .int .u8 0]⟩ := rfl
@[simp] theorem tbget99 : tb.get 99 = some ⟨.struct true [(0, 5), (1, 5)], 2, 2, [.int .u8 0, .int .u8 0]⟩ := rfl
@[simp] theorem tbget100 : tb.get 100 = some ⟨.arr true 16 99, 32, 32, [.int .u8 0, .int .u8 0, .int .u8 0, .int .u8 0, .int .u8 0, .int .u8 0, .int .u8 0, .int .u8 0, .int .u8 0, .int .u8 0, .int .u8 0, .int .u8 0, .int .u8 0, .int .u8 0, .int .u8 0, .int .u8 0, .int .u8 0, .int .u8 0, .int .u8 0, .int .u8 0, .int .u8 0, .int .u8 0, .int .u8 0, .int .u8 0, .int .u8 0, .int .u8 0, .int .u8 0, .int .u8 0, .int .u8 0, .int .u8 0, .int .u8 0, .int .u8 0]⟩ := rfl
@[simp] theorem tbget101 : tb.get 101 = some ⟨.int .u32, 1, 4, [.int .u32 0]⟩ := rfl
@[simp] theorem tbget103 : tb.get 103 = some ⟨.func, 1, 8, [.nilfn]⟩ := rfl
@[simp] theorem tbget104 : tb.get 104 = some ⟨.struct false [(0, 17), (1, 17), (2, 17), (3, 9)], 4, 40, [.nilptr, .nilptr, .nilptr, .str []]⟩ := rfl
@[simp] theorem tbget105 : tb.get 105 = some ⟨.struct false [(0, 17), (1, 17), (2, 17), (3, 9)], 4, 40, [.nilptr, .nilptr, .nilptr, .str []]⟩ := rfl
@[simp] theorem tbget106 : tb.get 106 = some ⟨.arr false 0 16, 0, 0, []⟩ := rfl
@[simp] theorem tbget107 : tb.get 107 = some ⟨.struct false [(0, 106)], 0, 0, []⟩ := rfl
@[simp] theorem tbget108 : tb.get 108 = some ⟨.struct false [(0, 106)], 0, 0, []⟩ := rfl
@[simp] theorem tbget109 : tb.get 109 = some ⟨.int .u8, 1, 1, [.int .u8 0]⟩ := rfl
@[simp] theorem tbget110 : tb.get 110 = some ⟨.int .u8, 1, 1, [.int .u8 0]⟩ := rfl
@[simp] theorem tbget111 : tb.get 111 = some ⟨.func, 1, 8, [.nilfn]⟩ := rfl
@[simp] theorem tbget112 : tb.get 112 = some ⟨.int .i32, 1, 4, [.int .i32 0]⟩ := rfl
@[simp] theorem tbget113 : tb.get 113 = some ⟨.int .i32, 1, 4, [.int .i32 0]⟩ := rfl
@[simp] theorem tbget114 : tb.get 114 = some ⟨.struct false [(0, 12), (1, 12), (2, 101), (3, 109), (4, 5), (5, 5), (6, 110), (7, 111), (8, 82), (9, 112), (10, 113)], 11, 48, [.int .u64 0, .int .u64 0, .int .u32 0, .int .u8 0, .int .u8 0, .int .u8 0, .int .u8 0, .nilfn, .nilptr, .int .i32 0, .int .i32 0]⟩ := rfl
@[simp] theorem tbget115 : tb.get 115 = some ⟨.struct false [(0, 12), (1, 12), (2, 101), (3, 109), (4, 5), (5, 5), (6, 110), (7, 111), (8, 82), (9, 112), (10, 113)], 11, 48, [.int .u64 0, .int .u64 0, .int .u32 0, .int .u8 0, .int .u8 0, .int .u8 0, .int .u8 0, .nilfn, .nilptr, .int .i32 0, .int .i32 0]⟩ := rfl
end Go.Vm
