import Derived.Test.YtajpnemfppaafaaGreatXAI
set_option linter.unusedSimpArgs false
set_option linter.unusedVariables false
/- fnParseOk: closed facts of its row (1). -/
namespace Go.Proofs.YtajpnemfppaafaaGreat
open Go Go.ChangeShapes Go.WideShapes Go.ChangeAt Go.RowKit Go.AH
theorem jfK_inp : (Rows.fnParseOkRow.inPlace == Tp.inPlace 4) = true := by kernel_rfl
theorem jfK_rec : (Rows.fnParseOkRow.recurses == Tp.recurses 4) = true := by kernel_rfl
end Go.Proofs.YtajpnemfppaafaaGreat
