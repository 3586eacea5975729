import Derived.Test.YtajpnemfppaafaaGreatXAI
set_option linter.unusedSimpArgs false
set_option linter.unusedVariables false
/- fnParseOk: closed facts of its row (3). -/
namespace Go.Proofs.YtajpnemfppaafaaGreat
open Go Go.ChangeShapes Go.WideShapes Go.ChangeAt Go.RowKit Go.AH
theorem jfK_me : Tp.mayEnter = true := by kernel_rfl
theorem jfK_sh : Tp.stopsHeard = true := by kernel_rfl
theorem jfK_pk : (Rows.fnParseOkRow.plainKeys == Tp.plainKeys) = true := by kernel_rfl
end Go.Proofs.YtajpnemfppaafaaGreat
