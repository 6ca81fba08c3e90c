/- The shapes of this program's plain types; which orders its machine draws. -/
import Derived.Test.YtklobcelbpjjcaaProg
import Derived.Test.YtklobcelbpjjcaaHwM
namespace Go.Proofs.Ytklobcelbpjjcaa.Fw
open Go Go.Hw Go.Proofs
def tSh : List (Nat × Sh) := [(3, .int .i64), (4, .bool), (5, .int .u8), (9, .str), (21, .int .i32), (22, .slice), (25, .slice), (31, .int .i64), (46, .slice), (47, .slice), (48, .slice), (49, .ptr), (53, .slice), (54, .slice), (56, .int .u32), (59, .ptr), (62, .slice), (83, .int .u64), (89, .slice), (94, .slice), (96, .slice), (98, .slice), (106, .slice), (107, .slice), (109, .slice), (118, .slice), (124, .slice), (128, .slice), (139, .ptr), (162, .slice), (178, .slice)]
def tTup : List (Nat × List Sh) := [(0, []), (32, [.other, .int .i64]), (35, [.slice, .int .i64]), (50, [.ptr, .int .i64]), (78, [.slice, .int .i64]), (90, [.int .i64, .int .i64]), (102, [.other, .int .i64, .int .i64]), (110, [.slice, .int .i64]), (136, [.slice, .bool]), (142, [.other, .other, .int .i64, .int .i64]), (147, [.int .i64, .int .i64]), (176, [.other, .other, .bool, .int .i64])]
theorem mixed : Try.prog.follows .mixedOrders = true := by kernel_rfl
end Go.Proofs.Ytklobcelbpjjcaa.Fw
