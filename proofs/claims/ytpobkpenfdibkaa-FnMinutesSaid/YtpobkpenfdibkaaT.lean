/- The types of this seat, as the data evaluator reads them. No conditions. -/
import Derived.Test.YtpobkpenfdibkaaEngY
import Derived.Test.YtpobkpenfdibkaaRows
namespace Go.DL
open Go.RowKit Go.Proofs Go.Proofs.Ytpobkpenfdibkaa
def Ta : Tys := [(3, .int), (4, .bool), (5, .u8), (9, .str), (22, .sl 5), (24, .sl 34), (26, .st [.str, .sl]), (34, .st [.str, .int, .int]), (36, .st [.str, .str, .int, .int, .int, .int, .int, .int]), (40, .sl 114), (43, .sl 116), (47, .sl 120), (50, .sl 36), (54, .sl 166), (56, .st [.str, .sl]), (61, .sl 56), (64, .sl 26), (69, .st [.int, .str, .str, .str, .int]), (72, .st [.int, .str, .str, .str, .int]), (75, .sl 130), (78, .sl 133), (82, .sl 176), (83, .sl 128), (85, .st [.sl, .sl]), (86, .sl 144), (90, .sl 150), (91, .sl 131), (93, .st [.sl, .sl]), (95, .sl 146), (103, .sl 3), (114, .st [.int, .str, .int, .int, .int]), (116, .st [.int, .str, .int, .int, .int]), (120, .st [.str, .str, .int, .int, .int, .int, .int, .int]), (128, .sl 183), (130, .st [.str, .str, .int, .int, .int, .sl]), (131, .sl 171), (133, .st [.str, .str, .int, .int, .int, .sl]), (144, .st [.str, .str]), (146, .st [.str, .str]), (148, .sl 9), (150, .st [.str, .sl]), (161, .st [.sl, .int, .int]), (166, .st [.str, .int, .int]), (171, .st [.int, .str, .str]), (176, .st [.str, .sl]), (183, .st [.int, .str, .str])]
theorem hTa : TOK Try.prog Ta := TOK_of (by kernel_rfl)
theorem hma : Try.prog.follows .mixedOrders = true := by kernel_rfl
end Go.DL
