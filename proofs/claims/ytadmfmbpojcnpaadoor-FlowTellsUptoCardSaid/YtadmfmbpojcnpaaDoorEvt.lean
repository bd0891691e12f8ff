/- The evaluator's table of this translation's types (printed by wip/tab.py of this place), held against the program. -/
import Derived.Test.YtadmfmbpojcnpaaDoorEvb
import Derived.Test.YtadmfmbpojcnpaaDoorProg
namespace Go.Proofs.YtadmfmbpojcnpaaDoor
open Go.Ev

def tbl : List (Nat × Ti) := [
  (2, ⟨.int .i64, 1, 8, [i0 .i64], true⟩),
  (3, ⟨.int .i64, 1, 8, [i0 .i64], true⟩),
  (4, ⟨.bool, 1, 1, [b0], true⟩),
  (5, ⟨.int .u8, 1, 1, [i0 .u8], true⟩),
  (9, ⟨.str, 1, 16, [s0], true⟩),
  (12, ⟨.int .u64, 1, 8, [i0 .u64], true⟩),
  (20, ⟨.other, 1, 16, [n0], false⟩),
  (21, ⟨.int .i32, 1, 4, [i0 .i32], true⟩),
  (22, ⟨.int .u64, 1, 8, [i0 .u64], true⟩),
  (23, ⟨.struct [(0, 3), (1, 3), (2, 22), (3, 22), (4, 9)], 5, 48, [i0 .i64, i0 .i64, i0 .u64, i0 .u64, s0], true⟩),
  (24, ⟨.struct [(0, 3), (1, 3), (2, 22), (3, 22), (4, 9)], 5, 48, [i0 .i64, i0 .i64, i0 .u64, i0 .u64, s0], true⟩),
  (25, ⟨.arr 2 24, 10, 96, [i0 .i64, i0 .i64, i0 .u64, i0 .u64, s0, i0 .i64, i0 .i64, i0 .u64, i0 .u64, s0], true⟩),
  (26, ⟨.struct [(0, 25), (10, 25), (20, 22), (21, 22)], 22, 208, [i0 .i64, i0 .i64, i0 .u64, i0 .u64, s0, i0 .i64, i0 .i64, i0 .u64, i0 .u64, s0, i0 .i64, i0 .i64, i0 .u64, i0 .u64, s0, i0 .i64, i0 .i64, i0 .u64, i0 .u64, s0, i0 .u64, i0 .u64], true⟩),
  (27, ⟨.struct [(0, 25), (10, 25), (20, 22), (21, 22)], 22, 208, [i0 .i64, i0 .i64, i0 .u64, i0 .u64, s0, i0 .i64, i0 .i64, i0 .u64, i0 .u64, s0, i0 .i64, i0 .i64, i0 .u64, i0 .u64, s0, i0 .i64, i0 .i64, i0 .u64, i0 .u64, s0, i0 .u64, i0 .u64], true⟩),
  (28, ⟨.struct [(0, 3), (1, 3), (2, 3)], 3, 24, [i0 .i64, i0 .i64, i0 .i64], true⟩),
  (29, ⟨.struct [(0, 3), (1, 3), (2, 3)], 3, 24, [i0 .i64, i0 .i64, i0 .i64], true⟩),
  (30, ⟨.arr 2 29, 6, 48, [i0 .i64, i0 .i64, i0 .i64, i0 .i64, i0 .i64, i0 .i64], true⟩),
  (31, ⟨.struct [(0, 3), (1, 30)], 7, 56, [i0 .i64, i0 .i64, i0 .i64, i0 .i64, i0 .i64, i0 .i64, i0 .i64], true⟩),
  (32, ⟨.struct [(0, 3), (1, 30)], 7, 56, [i0 .i64, i0 .i64, i0 .i64, i0 .i64, i0 .i64, i0 .i64, i0 .i64], true⟩),
  (35, ⟨.arr 2 3, 2, 16, [i0 .i64, i0 .i64], true⟩),
  (36, ⟨.struct [(0, 35), (2, 25)], 12, 112, [i0 .i64, i0 .i64, i0 .i64, i0 .i64, i0 .u64, i0 .u64, s0, i0 .i64, i0 .i64, i0 .u64, i0 .u64, s0], true⟩),
  (37, ⟨.struct [(0, 35), (2, 25)], 12, 112, [i0 .i64, i0 .i64, i0 .i64, i0 .i64, i0 .u64, i0 .u64, s0, i0 .i64, i0 .i64, i0 .u64, i0 .u64, s0], true⟩),
  (44, ⟨.sl 27, 1, 24, [l0 22 27], false⟩),
  (45, ⟨.int .i64, 1, 8, [i0 .i64], true⟩),
  (56, ⟨.sl 24, 1, 24, [l0 5 24], false⟩),
  (59, ⟨.int .u32, 1, 4, [i0 .u32], true⟩),
  (61, ⟨.struct [(0, 22), (1, 22)], 2, 16, [i0 .u64, i0 .u64], true⟩),
  (62, ⟨.struct [(0, 22), (1, 22)], 2, 16, [i0 .u64, i0 .u64], true⟩),
  (67, ⟨.sl 3, 1, 24, [l0 1 3], false⟩),
  (72, ⟨.sl 9, 1, 24, [l0 1 9], false⟩),
  (85, ⟨.int .u64, 1, 8, [i0 .u64], true⟩),
  (89, ⟨.sl 5, 1, 24, [l0 1 5], false⟩),
  (98, ⟨.struct [(0, 5), (1, 5)], 2, 2, [i0 .u8, i0 .u8], true⟩),
  (99, ⟨.struct [(0, 5), (1, 5)], 2, 2, [i0 .u8, i0 .u8], true⟩),
  (100, ⟨.arr 16 99, 32, 32, [i0 .u8, i0 .u8, i0 .u8, i0 .u8, i0 .u8, i0 .u8, i0 .u8, i0 .u8, i0 .u8, i0 .u8, i0 .u8, i0 .u8, i0 .u8, i0 .u8, i0 .u8, i0 .u8, i0 .u8, i0 .u8, i0 .u8, i0 .u8, i0 .u8, i0 .u8, i0 .u8, i0 .u8, i0 .u8, i0 .u8, i0 .u8, i0 .u8, i0 .u8, i0 .u8, i0 .u8, i0 .u8], true⟩),
  (106, ⟨.arr 0 16, 0, 0, [], false⟩),
  (113, ⟨.other, 1, 8, [p0], false⟩),
  (116, ⟨.struct [(0, 12), (1, 12), (2, 59), (3, 110), (4, 5), (5, 5), (6, 111), (7, 112), (8, 113), (9, 114), (10, 115)], 11, 48, [i0 .u64, i0 .u64, i0 .u32, i0 .u8, i0 .u8, i0 .u8, i0 .u8, f0, p0, i0 .i32, i0 .i32], false⟩)]
def tb : Tb := tbGet tbl
theorem tb_ok : TbOk Tryd.prog tb := tbOk_of (by kernel_rfl)
end Go.Proofs.YtadmfmbpojcnpaaDoor
