import Derived.Test.YtajpnemfppaafaaGreatXAJ
import Derived.Test.YtajpnemfppaafaaGreatXAK
import Derived.Test.YtajpnemfppaafaaGreatXAL
import Derived.Test.YtajpnemfppaafaaGreatXAM
import Derived.Test.YtajpnemfppaafaaGreatXAT
set_option linter.unusedSimpArgs false
set_option linter.unusedVariables false
/- FnParseOkSaid holds. -/
namespace Go.Proofs.YtajpnemfppaafaaGreat
open Go Go.ChangeShapes Go.WideShapes Go.ChangeAt Go.RowKit Go.AH
theorem closedK : joinedFacts Tp 4 Tryz.f4 Rows.fnParseOkSpec Rows.fnParseOkRow = true := by
 unfold joinedFacts
 rw [laidB, jfK_mr, jfK_inp, jfK_unf, jfK_rec, jfK_named, jfK_pk, jfK_sh, jfK_me, jfK_li, jfK_mk]
 kernel_rfl
theorem fnParseOk : Rows.FnParseOkSaid :=
 OpenClaim.holds_of_wide 4 Tryz.f4 rfl rfl rfl rfl rfl rfl rfl ⟨rfl, rfl, rfl, rfl, rfl⟩ rfl rfl rfl rfl rfl (by kernel_rfl) (by kernel_rfl) closedK
  (of_decide_eq_true (by kernel_rfl)) (by unfold Func.isWrapper; first | (rw [if_pos (by decide +kernel)]; kernel_rfl) | (rw [if_neg (by decide +kernel)]; exact ⟨rfl, rfl⟩))
  (fun os started H enc _ => pokLifted (fun v xs h x _ => ⟨1060001 + 1, l4P (by decide) (by decide) x⟩) os started H enc)
end Go.Proofs.YtajpnemfppaafaaGreat
