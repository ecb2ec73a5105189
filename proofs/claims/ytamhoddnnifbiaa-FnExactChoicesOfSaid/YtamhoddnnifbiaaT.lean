/- The types of this seat, as the data evaluator reads them. No conditions. -/
import Derived.Test.YtamhoddnnifbiaaEngY
import Derived.Test.YtamhoddnnifbiaaRows
namespace Go.DL
open Go.RowKit Go.Proofs Go.Proofs.Ytamhoddnnifbiaa
def Ta : Tys := [(3, .int), (4, .bool), (5, .u8), (9, .str), (22, .sl 125), (23, .sl 100), (25, .st [.sl, .sl]), (27, .sl 50), (29, .sl 87), (30, .sl 90), (32, .st [.sl, .sl]), (39, .sl 98), (40, .sl 102), (41, .sl 104), (45, .sl 107), (47, .sl 110), (50, .sl 89), (64, .st [.int, .str, .str, .str, .int]), (68, .st [.int, .str, .str, .str, .int]), (71, .sl 64), (74, .sl 68), (85, .sl 9), (87, .st [.str, .sl]), (89, .st [.str, .str]), (90, .sl 136), (98, .st [.str, .str, .int, .int, .int, .int, .int, .int]), (100, .sl 147), (102, .st [.str, .str, .int, .int, .int, .sl]), (104, .st [.str, .str]), (107, .st [.str, .str, .int, .int, .int, .sl]), (110, .st [.str, .str, .int, .int, .int, .int, .int, .int]), (125, .st [.str, .sl]), (134, .sl 4), (136, .st [.int, .str, .str]), (141, .sl 3), (145, .sl 5), (147, .st [.int, .str, .str])]
theorem hTa : TOK Try.prog Ta := TOK_of (by kernel_rfl)
theorem hma : Try.prog.follows .mixedOrders = true := by kernel_rfl
end Go.DL
