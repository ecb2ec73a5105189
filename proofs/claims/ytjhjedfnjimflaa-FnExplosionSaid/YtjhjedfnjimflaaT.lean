/- The types of this seat, as the data evaluator reads them. No conditions. -/
import Derived.Test.YtjhjedfnjimflaaEngY
import Derived.Test.YtjhjedfnjimflaaRows
namespace Go.DL
open Go.RowKit Go.Proofs Go.Proofs.Ytjhjedfnjimflaa
def Ta : Tys := [(3, .int), (4, .bool), (5, .u8), (9, .str), (22, .sl 5), (24, .sl 111), (25, .sl 65), (27, .st [.sl, .sl]), (28, .sl 42), (37, .sl 9), (39, .sl 28), (42, .st [.str, .str]), (44, .sl 174), (45, .sl 160), (47, .st [.sl, .sl]), (48, .sl 122), (55, .sl 79), (56, .sl 67), (65, .sl 180), (67, .st [.str, .str, .int, .int, .int, .sl]), (69, .st [.int, .str, .str, .str, .int]), (70, .sl 3), (72, .sl 4), (79, .st [.str, .str, .int, .int, .int, .int, .int, .int]), (83, .sl 69), (89, .sl 94), (94, .st [.str, .int]), (97, .sl 158), (98, .sl 162), (111, .st [.str, .sl]), (122, .st [.str, .str]), (158, .st [.str, .str, .int, .int, .int, .int, .int, .int]), (160, .sl 189), (162, .st [.str, .str, .int, .int, .int, .sl]), (170, .st [.sl, .int, .int]), (174, .st [.str, .sl]), (180, .st [.int, .str, .str]), (189, .st [.int, .str, .str])]
theorem hTa : TOK Try.prog Ta := TOK_of (by kernel_rfl)
theorem hma : Try.prog.follows .mixedOrders = true := by kernel_rfl
end Go.DL
