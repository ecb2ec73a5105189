/- The types of this seat, as the data evaluator reads them. No conditions. -/
import Derived.Test.YthifncefbpmdiaaEngY
import Derived.Test.YthifncefbpmdiaaRows
namespace Go.DL
open Go.RowKit Go.Proofs Go.Proofs.Ythifncefbpmdiaa
def Ta : Tys := [(3, .int), (4, .bool), (5, .u8), (9, .str), (22, .sl 5), (24, .sl 28), (28, .st [.int, .str, .int, .int, .int]), (31, .sl 104), (41, .sl 9), (43, .sl 114), (44, .sl 118), (47, .sl 3), (49, .sl 120), (51, .sl 124), (60, .sl 132), (63, .sl 134), (70, .sl 146), (79, .sl 182), (80, .sl 116), (82, .st [.sl, .sl]), (86, .sl 163), (87, .sl 122), (89, .st [.sl, .sl]), (104, .st [.int, .str, .int, .int, .int]), (114, .st [.str, .str, .int, .int, .int, .int, .int, .int]), (116, .sl 190), (118, .st [.str, .str, .int, .int, .int, .sl]), (120, .st [.str, .str, .int, .int, .int, .int, .int, .int]), (122, .sl 176), (124, .st [.str, .str, .int, .int, .int, .sl]), (132, .st [.str, .str]), (134, .st [.str, .str]), (146, .st [.str, .int]), (152, .sl 63), (163, .st [.str, .sl]), (168, .st [.sl, .int, .int]), (176, .st [.int, .str, .str]), (182, .st [.str, .sl]), (190, .st [.int, .str, .str]), (194, .sl 4)]
theorem hTa : TOK Try.prog Ta := TOK_of (by kernel_rfl)
theorem hma : Try.prog.follows .mixedOrders = true := by kernel_rfl
end Go.DL
