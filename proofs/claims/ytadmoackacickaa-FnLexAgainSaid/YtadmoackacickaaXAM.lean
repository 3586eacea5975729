import Derived.Test.YtadmoackacickaaXAL
/- FnLexAgain holds. -/
namespace Go.Proofs.Ytadmoackacickaa
open Go.ChangeShapes Go.WideShapes Go.ChangeAt Go.RowKit Go.AH
theorem fnLexAgain : Rows.FnLexAgainSaid :=
  OpenClaim.holds_of_wide 8 Try.f8 rfl rfl rfl rfl rfl rfl rfl ⟨rfl, rfl, rfl, rfl, rfl⟩ rfl rfl rfl rfl rfl (by kernel_rfl) (by kernel_rfl) (by kernel_rfl)
    (of_decide_eq_true (by kernel_rfl)) (by unfold Func.isWrapper; first | (rw [if_pos (by decide +kernel)]; kernel_rfl) | (rw [if_neg (by decide +kernel)]; exact ⟨rfl, rfl⟩))
    (fun os started H enc _ => agaLifted (fun v xs h x _ => ⟨5010 + 5, l8 (Nat.le_refl _) x⟩) os started H enc)
end Go.Proofs.Ytadmoackacickaa
