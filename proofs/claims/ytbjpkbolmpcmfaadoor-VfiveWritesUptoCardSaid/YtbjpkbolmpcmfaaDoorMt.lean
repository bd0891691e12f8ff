/- The evaluator's table of this translation's types (printed by wip/tab.py of this place), held against the program. -/
import Derived.Test.YtbjpkbolmpcmfaaDoorMa
import Derived.Test.YtbjpkbolmpcmfaaDoorProg
namespace Go.Proofs.YtbjpkbolmpcmfaaDoor
open Go.Ev

def tbl : List (Nat × Ti) := [
  (2, ⟨.int .i64, 1, 8, [i0 .i64], true⟩),
  (3, ⟨.int .i64, 1, 8, [i0 .i64], true⟩),
  (4, ⟨.bool, 1, 1, [b0], true⟩),
  (5, ⟨.int .u8, 1, 1, [i0 .u8], true⟩),
  (9, ⟨.str, 1, 16, [s0], true⟩),
  (12, ⟨.int .u64, 1, 8, [i0 .u64], true⟩),
  (20, ⟨.other, 1, 16, [n0], false⟩),
  (21, ⟨.int .i32, 1, 4, [i0 .i32], true⟩),
  (22, ⟨.sl 5, 1, 24, [l0 1 5 [i0 .u8]], false⟩),
  (23, ⟨.int .u32, 1, 4, [i0 .u32], true⟩),
  (24, ⟨.int .u16, 1, 2, [i0 .u16], true⟩),
  (25, ⟨.struct [(0, 23), (1, 23), (2, 23), (3, 23), (4, 5), (5, 5), (6, 24)], 7, 20, [i0 .u32, i0 .u32, i0 .u32, i0 .u32, i0 .u8, i0 .u8, i0 .u16], true⟩),
  (26, ⟨.struct [(0, 23), (1, 23), (2, 23), (3, 23), (4, 5), (5, 5), (6, 24)], 7, 20, [i0 .u32, i0 .u32, i0 .u32, i0 .u32, i0 .u8, i0 .u8, i0 .u16], true⟩),
  (27, ⟨.sl 52, 1, 24, [l0 18 52 [i0 .u32, i0 .u32, i0 .u32, i0 .u16, i0 .u16, i0 .u32, i0 .u32, i0 .u32, i0 .u32, i0 .u16, i0 .u16, i0 .u8, i0 .u8, i0 .u8, i0 .u16, i0 .u16, i0 .u8, i0 .u8]], false⟩),
  (28, ⟨.int .i64, 1, 8, [i0 .i64], true⟩),
  (31, ⟨.sl 49, 1, 24, [l0 22 49 [i0 .i64, i0 .i64, i0 .u64, i0 .u64, s0, i0 .i64, i0 .i64, i0 .u64, i0 .u64, s0, i0 .i64, i0 .i64, i0 .u64, i0 .u64, s0, i0 .i64, i0 .i64, i0 .u64, i0 .u64, s0, i0 .u64, i0 .u64]], false⟩),
  (44, ⟨.int .u64, 1, 8, [i0 .u64], true⟩),
  (45, ⟨.struct [(0, 3), (1, 3), (2, 44), (3, 44), (4, 9)], 5, 48, [i0 .i64, i0 .i64, i0 .u64, i0 .u64, s0], true⟩),
  (46, ⟨.struct [(0, 3), (1, 3), (2, 44), (3, 44), (4, 9)], 5, 48, [i0 .i64, i0 .i64, i0 .u64, i0 .u64, s0], true⟩),
  (47, ⟨.arr 2 46, 10, 96, [i0 .i64, i0 .i64, i0 .u64, i0 .u64, s0, i0 .i64, i0 .i64, i0 .u64, i0 .u64, s0], true⟩),
  (48, ⟨.struct [(0, 47), (10, 47), (20, 44), (21, 44)], 22, 208, [i0 .i64, i0 .i64, i0 .u64, i0 .u64, s0, i0 .i64, i0 .i64, i0 .u64, i0 .u64, s0, i0 .i64, i0 .i64, i0 .u64, i0 .u64, s0, i0 .i64, i0 .i64, i0 .u64, i0 .u64, s0, i0 .u64, i0 .u64], true⟩),
  (49, ⟨.struct [(0, 47), (10, 47), (20, 44), (21, 44)], 22, 208, [i0 .i64, i0 .i64, i0 .u64, i0 .u64, s0, i0 .i64, i0 .i64, i0 .u64, i0 .u64, s0, i0 .i64, i0 .i64, i0 .u64, i0 .u64, s0, i0 .i64, i0 .i64, i0 .u64, i0 .u64, s0, i0 .u64, i0 .u64], true⟩),
  (51, ⟨.struct [(0, 23), (1, 23), (2, 23), (3, 24), (4, 24), (5, 23), (6, 23), (7, 23), (8, 23), (9, 24), (10, 24), (11, 5), (12, 5), (13, 5), (14, 24), (15, 24), (16, 5), (17, 5)], 18, 48, [i0 .u32, i0 .u32, i0 .u32, i0 .u16, i0 .u16, i0 .u32, i0 .u32, i0 .u32, i0 .u32, i0 .u16, i0 .u16, i0 .u8, i0 .u8, i0 .u8, i0 .u16, i0 .u16, i0 .u8, i0 .u8], true⟩),
  (52, ⟨.struct [(0, 23), (1, 23), (2, 23), (3, 24), (4, 24), (5, 23), (6, 23), (7, 23), (8, 23), (9, 24), (10, 24), (11, 5), (12, 5), (13, 5), (14, 24), (15, 24), (16, 5), (17, 5)], 18, 48, [i0 .u32, i0 .u32, i0 .u32, i0 .u16, i0 .u16, i0 .u32, i0 .u32, i0 .u32, i0 .u32, i0 .u16, i0 .u16, i0 .u8, i0 .u8, i0 .u8, i0 .u16, i0 .u16, i0 .u8, i0 .u8], true⟩),
  (59, ⟨.ptr, 1, 8, [p0], false⟩),
  (61, ⟨.struct [(0, 59)], 1, 8, [p0], false⟩),
  (62, ⟨.struct [(0, 59)], 1, 8, [p0], false⟩),
  (69, ⟨.ptr, 1, 8, [p0], false⟩),
  (70, ⟨.struct [(0, 22)], 1, 24, [l0 1 5 [i0 .u8]], false⟩),
  (71, ⟨.struct [(0, 22)], 1, 24, [l0 1 5 [i0 .u8]], false⟩),
  (72, ⟨.struct [(0, 69)], 1, 8, [p0], false⟩),
  (73, ⟨.struct [(0, 69)], 1, 8, [p0], false⟩),
  (81, ⟨.sl 23, 1, 24, [l0 1 23 [i0 .u32]], false⟩),
  (84, ⟨.struct [(0, 4), (1, 22), (2, 28)], 3, 40, [b0, l0 1 5 [i0 .u8], i0 .i64], false⟩),
  (85, ⟨.struct [(0, 4), (1, 22), (2, 28)], 3, 40, [b0, l0 1 5 [i0 .u8], i0 .i64], false⟩),
  (91, ⟨.sl 24, 1, 24, [l0 1 24 [i0 .u16]], false⟩),
  (94, ⟨.struct [(0, 44), (1, 44)], 2, 16, [i0 .u64, i0 .u64], true⟩),
  (95, ⟨.struct [(0, 44), (1, 44)], 2, 16, [i0 .u64, i0 .u64], true⟩),
  (99, ⟨.int .u64, 1, 8, [i0 .u64], true⟩),
  (106, ⟨.sl 9, 1, 24, [l0 1 9 [s0]], false⟩),
  (121, ⟨.struct [(0, 5), (1, 5)], 2, 2, [i0 .u8, i0 .u8], true⟩),
  (122, ⟨.struct [(0, 5), (1, 5)], 2, 2, [i0 .u8, i0 .u8], true⟩),
  (123, ⟨.arr 16 122, 32, 32, [i0 .u8, i0 .u8, i0 .u8, i0 .u8, i0 .u8, i0 .u8, i0 .u8, i0 .u8, i0 .u8, i0 .u8, i0 .u8, i0 .u8, i0 .u8, i0 .u8, i0 .u8, i0 .u8, i0 .u8, i0 .u8, i0 .u8, i0 .u8, i0 .u8, i0 .u8, i0 .u8, i0 .u8, i0 .u8, i0 .u8, i0 .u8, i0 .u8, i0 .u8, i0 .u8, i0 .u8, i0 .u8], true⟩),
  (129, ⟨.arr 0 16, 0, 0, [], false⟩),
  (135, ⟨.ptr, 1, 8, [p0], false⟩),
  (138, ⟨.struct [(0, 12), (1, 12), (2, 23), (3, 132), (4, 5), (5, 5), (6, 133), (7, 134), (8, 135), (9, 136), (10, 137)], 11, 48, [i0 .u64, i0 .u64, i0 .u32, i0 .u8, i0 .u8, i0 .u8, i0 .u8, f0, p0, i0 .i32, i0 .i32], false⟩)]
def tb : Tb := tbGet tbl
theorem tb_ok : TbOk Tryd.prog tb := tbOk_of (by kernel_rfl)
end Go.Proofs.YtbjpkbolmpcmfaaDoor
