/- The shapes of this program's plain types; which orders its machine draws. -/
import Derived.Test.YtklobcelbpjjcabProg
import Derived.Test.YtklobcelbpjjcabHwM
namespace Go.Proofs.Ytklobcelbpjjcab.Fw
open Go Go.Hw Go.Proofs
def tSh : List (Nat × Sh) := [(2, .int .i64), (3, .int .i64), (4, .bool), (5, .int .u8), (9, .str), (22, .slice), (23, .ptr), (24, .int .i64), (32, .slice), (36, .ptr), (37, .slice), (38, .slice), (46, .slice), (56, .slice), (60, .slice), (63, .slice), (69, .slice), (94, .slice), (95, .slice), (96, .int .u64), (99, .slice), (109, .slice), (112, .slice), (119, .slice), (132, .slice), (133, .slice), (138, .ptr), (155, .ptr), (170, .ptr), (179, .slice), (188, .slice)]
def tTup : List (Nat × List Sh) := [(0, []), (25, [.ptr, .int .i64]), (28, [.int .i64, .int .i64]), (47, [.bool, .int .i64]), (50, [.slice, .int .i64]), (52, [.slice, .int .i64]), (64, [.slice, .int .i64]), (66, [.slice, .int .i64, .int .i64]), (70, [.slice, .slice, .int .i64]), (74, [.slice, .int .i64, .bool]), (84, [.slice, .int .i64]), (97, [.slice, .slice, .int .u64, .int .i64]), (100, [.slice, .int .i64]), (103, [.slice, .int .u64, .int .i64]), (113, [.other, .slice, .int .i64]), (117, [.other, .other, .int .i64]), (120, [.other, .slice, .int .i64]), (158, [.int .u64, .int .i64]), (162, [.other, .bool]), (165, [.int .i64, .int .i64, .bool]), (167, [.int .u64, .bool]), (177, [.other, .other]), (182, [.other, .int .i64]), (185, [.int .i64, .int .i64, .int .i64]), (194, [.slice, .int .i64, .int .i64])]
theorem mixed : Try.prog.follows .mixedOrders = true := by kernel_rfl
end Go.Proofs.Ytklobcelbpjjcab.Fw
