/- The shapes of this program's plain types; which orders its machine draws. -/
import Derived.Test.YtklobcelbpjjcacProg
import Derived.Test.YtklobcelbpjjcacHwM
namespace Go.Proofs.Ytklobcelbpjjcac.Fw
open Go Go.Hw Go.Proofs
def tSh : List (Nat × Sh) := [(2, .int .i64), (3, .int .i64), (4, .bool), (5, .int .u8), (9, .str), (22, .slice), (23, .slice), (26, .slice), (27, .int .i64), (35, .slice), (36, .slice), (42, .slice), (43, .slice), (56, .slice), (57, .slice), (65, .slice), (70, .int .u64), (78, .slice), (97, .slice), (98, .slice), (99, .ptr), (103, .slice), (108, .ptr), (109, .ptr), (123, .slice), (124, .slice), (144, .slice), (152, .slice), (172, .int .u64), (182, .ptr), (192, .slice), (194, .slice), (209, .ptr), (220, .slice), (224, .slice)]
def tTup : List (Nat × List Sh) := [(0, []), (28, [.int .i64, .int .i64]), (30, [.slice, .int .i64]), (32, [.slice, .slice, .int .i64]), (52, [.slice, .slice]), (60, [.other, .slice, .int .i64]), (66, [.slice, .int .i64]), (73, [.other, .bool]), (81, [.other, .int .i64]), (83, [.other, .int .i64, .int .i64]), (85, [.other, .slice, .int .i64]), (100, [.ptr, .int .i64]), (128, [.int .i64, .int .i64]), (131, [.slice, .int .i64]), (147, [.slice, .int .i64]), (150, [.bool, .int .i64]), (153, [.slice, .slice, .int .i64]), (155, [.other, .bool]), (178, [.slice, .bool]), (189, [.int .i64, .int .i64, .bool]), (197, [.int .i64, .bool]), (226, [.int .i64, .bool, .int .i64]), (228, [.other, .int .i64]), (250, [.int .i64, .int .i64, .int .i64]), (253, [.slice, .int .i64, .int .i64]), (257, [.int .u64, .int .i64])]
theorem mixed : Try.prog.follows .mixedOrders = true := by kernel_rfl
end Go.Proofs.Ytklobcelbpjjcac.Fw
