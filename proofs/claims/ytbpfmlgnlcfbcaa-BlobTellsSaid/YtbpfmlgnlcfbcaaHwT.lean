/- The shapes of this program's plain types; which orders its machine draws. -/
import Derived.Test.YtbpfmlgnlcfbcaaProg
import Derived.Test.YtbpfmlgnlcfbcaaHwM
namespace Go.Proofs.Ytbpfmlgnlcfbcaa.Fw
open Go Go.Hw Go.Proofs
def tSh : List (Nat × Sh) := [(2, .int .i64), (3, .int .i64), (4, .bool), (5, .int .u8), (9, .str), (21, .int .i32), (22, .slice), (23, .ptr), (25, .int .i64), (27, .slice), (39, .int .u64), (40, .slice), (57, .ptr), (60, .ptr), (61, .slice), (66, .ptr), (74, .int .u64), (77, .slice), (90, .ptr), (93, .ptr), (94, .slice), (102, .slice), (121, .slice), (135, .slice), (136, .slice), (137, .ptr), (141, .slice), (142, .slice), (144, .int .u32), (147, .ptr), (174, .slice), (179, .ptr)]
def tTup : List (Nat × List Sh) := [(0, []), (29, [.int .i64, .int .i64, .int .i64]), (32, [.int .i64, .int .i64]), (43, [.int .u64, .int .i64]), (45, [.int .i64, .int .i64, .int .i64]), (47, [.int .u64, .bool]), (49, [.other, .bool]), (53, [.int .i64, .int .i64, .bool]), (71, [.slice, .int .i64]), (82, [.slice, .int .i64]), (91, [.ptr, .int .i64]), (99, [.int .i64, .int .i64, .int .i64, .int .i64]), (108, [.other, .int .i64]), (111, [.slice, .int .i64]), (122, [.slice, .int .i64, .int .i64]), (124, [.str, .int .i64]), (126, [.slice, .bool, .int .i64]), (138, [.ptr, .int .i64]), (172, [.int .i64, .bool]), (180, [.int .i64, .int .i64])]
theorem mixed : Try.prog.follows .mixedOrders = true := by kernel_rfl
end Go.Proofs.Ytbpfmlgnlcfbcaa.Fw
