import Derived.Test.YtajpnemfppaafaaGreatXAI
set_option linter.unusedSimpArgs false
set_option linter.unusedVariables false
/- fnParseOk: closed facts of its row (4). -/
namespace Go.Proofs.YtajpnemfppaafaaGreat
open Go Go.ChangeShapes Go.WideShapes Go.ChangeAt Go.RowKit Go.AH
theorem jfK_li : (Rows.fnParseOkRow.lifted == Tp.liftsFinal) = true := by kernel_rfl
theorem jfK_mk : (Tp.make == some Rows.fnParseOkRow.make) = true := by kernel_rfl
theorem jfK_mr : mapsRowed Tp = true := by kernel_rfl
end Go.Proofs.YtajpnemfppaafaaGreat
