import Derived.Test.YtadmoackacickaaXAE
import Derived.Test.YtadmoackacickaaXAO
set_option linter.unusedSimpArgs false
set_option linter.unusedVariables false
/- FnExactBoxedOf holds. -/
namespace Go.Proofs.Ytadmoackacickaa
open Go.ChangeShapes Go.WideShapes Go.ChangeAt Go.RowKit Go.AH
theorem fnExactBoxedOf : Rows.FnExactBoxedOfSaid :=
 OpenClaim.holds_of_wide 13 Try.f13 rfl rfl rfl rfl rfl rfl rfl ⟨rfl, rfl, rfl, rfl, rfl⟩ rfl rfl rfl rfl rfl (by kernel_rfl) (by kernel_rfl) (by kernel_rfl)
  (of_decide_eq_true (by kernel_rfl)) (by unfold Func.isWrapper; first | (rw [if_pos (by decide +kernel)]; kernel_rfl) | (rw [if_neg (by decide +kernel)]; exact ⟨rfl, rfl⟩))
  (fun os started H enc _ => boxedLifted (fun nv T top h x hb hN => ⟨30000001 + 3010 + 11, l13 (d := 30000001) (by decide) x hb hN⟩) os started H enc)
end Go.Proofs.Ytadmoackacickaa
