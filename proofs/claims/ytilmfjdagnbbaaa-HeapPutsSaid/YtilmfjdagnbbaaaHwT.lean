/- The shapes of this program's plain types; which orders its machine draws. -/
import Derived.Test.YtilmfjdagnbbaaaProg
import Derived.Test.YtilmfjdagnbbaaaHwM
namespace Go.Proofs.Ytilmfjdagnbbaaa.Fw
open Go Go.Hw Go.Proofs
def tSh : List (Nat × Sh) := [(3, .int .i64), (4, .bool), (5, .int .u8), (9, .str), (22, .slice), (23, .int .i64), (29, .int .u64), (35, .slice), (40, .slice), (42, .slice), (44, .slice), (52, .slice), (53, .slice), (55, .slice), (64, .slice), (70, .slice), (74, .slice), (85, .slice), (86, .slice), (93, .slice), (105, .int .u64), (107, .slice), (110, .slice), (111, .slice), (127, .ptr), (138, .slice), (139, .ptr), (146, .slice), (150, .ptr), (151, .slice), (191, .slice), (203, .slice), (205, .slice), (206, .slice), (210, .ptr), (228, .slice)]
def tTup : List (Nat × List Sh) := [(0, []), (24, [.slice, .int .i64]), (36, [.int .i64, .int .i64]), (48, [.other, .int .i64, .int .i64]), (56, [.slice, .int .i64]), (75, [.slice, .int .i64]), (78, [.slice, .int .i64]), (89, [.slice, .int .i64, .int .i64]), (91, [.other, .int .i64]), (94, [.slice, .int .i64]), (98, [.other, .bool]), (124, [.slice, .bool]), (130, [.other, .other, .int .i64, .int .i64]), (140, [.ptr, .int .i64]), (159, [.bool, .int .i64]), (161, [.slice, .int .i64]), (182, [.int .i64, .slice, .bool]), (185, [.slice, .bool]), (193, [.int .i64, .int .i64]), (200, [.other, .other, .bool, .int .i64])]
theorem mixed : Try.prog.follows .mixedOrders = true := by kernel_rfl
end Go.Proofs.Ytilmfjdagnbbaaa.Fw
