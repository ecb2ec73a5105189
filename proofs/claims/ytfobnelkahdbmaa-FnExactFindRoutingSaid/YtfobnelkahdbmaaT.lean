/- The types of this seat, as the data evaluator reads them. No conditions. -/
import Derived.Test.YtfobnelkahdbmaaEngX
import Derived.Test.YtfobnelkahdbmaaRows
namespace Go.DL
open Go.RowKit Go.Proofs Go.Proofs.Ytfobnelkahdbmaa
def Ta : Tys := [(3, .int), (4, .bool), (5, .u8), (9, .str), (23, .st [.str, .int, .int]), (26, .st [.str, .int, .int]), (32, .sl 89), (35, .sl 87), (40, .st [.str, .str, .int, .int, .int, .int, .int, .int]), (43, .st [.str, .str, .int, .int, .int, .int, .int, .int]), (52, .sl 40), (55, .sl 43), (59, .sl 96), (62, .sl 97), (66, .sl 23), (68, .st [.str, .sl]), (71, .sl 26), (73, .st [.str, .sl]), (77, .sl 68), (80, .sl 73), (87, .st [.int, .int]), (89, .st [.int, .int]), (96, .st [.int, .str, .int, .int, .int]), (97, .st [.int, .str, .int, .int, .int])]
theorem hTa : TOK Try.prog Ta := TOK_of (by kernel_rfl)
theorem hma : Try.prog.follows .mixedOrders = true := by kernel_rfl
end Go.DL
