/- The types of this seat, as the data evaluator reads them. No conditions. -/
import Derived.Test.YthfagmoaoihhpaaEngY
import Derived.Test.YthfagmoaoihhpaaRows
namespace Go.DL
open Go.RowKit Go.Proofs Go.Proofs.Ythfagmoaoihhpaa
def Ta : Tys := [(3, .int), (4, .bool), (5, .u8), (9, .str), (22, .sl 5), (24, .sl 47), (25, .sl 55), (27, .st [.sl, .sl]), (28, .sl 42), (37, .sl 9), (39, .sl 28), (42, .st [.str, .str]), (47, .st [.str, .sl]), (55, .sl 70), (61, .st [.sl, .int, .int]), (68, .sl 4), (70, .st [.int, .str, .str])]
theorem hTa : TOK Try.prog Ta := TOK_of (by kernel_rfl)
theorem hma : Try.prog.follows .mixedOrders = true := by kernel_rfl
end Go.DL
