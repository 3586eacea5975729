import Derived.Test.YtajpnemfppaafaaGreatXAI
set_option linter.unusedSimpArgs false
set_option linter.unusedVariables false
/- fnParseOk: closed facts of its row (2). -/
namespace Go.Proofs.YtajpnemfppaafaaGreat
open Go Go.ChangeShapes Go.WideShapes Go.ChangeAt Go.RowKit Go.AH
theorem jfK_named : (Rows.fnParseOkRow.named == Tp.varsNamed 4) = true := by kernel_rfl
theorem jfK_unf : (Rows.fnParseOkRow.unfollowed == Tp.unfollowed 4) = true := by kernel_rfl
end Go.Proofs.YtajpnemfppaafaaGreat
