import Derived.Test.YtadmoackacickaaXAH
import Derived.Test.YtadmoackacickaaXAO
/- FnExactFold holds. -/
namespace Go.Proofs.Ytadmoackacickaa
open Go.ChangeShapes Go.WideShapes Go.ChangeAt Go.RowKit Go.AH
theorem fnExactFold : Rows.FnExactFoldSaid :=
  OpenClaim.holds_of_wide 10 Try.f10 rfl rfl rfl rfl rfl rfl rfl ⟨rfl, rfl, rfl, rfl, rfl⟩ rfl rfl rfl rfl rfl (by kernel_rfl) (by kernel_rfl) (by kernel_rfl)
    (of_decide_eq_true (by kernel_rfl)) (by unfold Func.isWrapper; first | (rw [if_pos (by decide +kernel)]; kernel_rfl) | (rw [if_neg (by decide +kernel)]; exact ⟨rfl, rfl⟩))
    (fun os started H enc _ => foldLifted (fun nv T top h x hb hN => ⟨1048578 + 13010 + 9, l10 (d := 1048578) (by decide) x hb hN⟩) os started H enc)
end Go.Proofs.Ytadmoackacickaa
