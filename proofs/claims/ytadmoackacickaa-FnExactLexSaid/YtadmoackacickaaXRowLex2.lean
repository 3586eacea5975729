/- FnExactLex: the row. -/
import Derived.Test.YtadmoackacickaaXRowLex
namespace Go.Proofs.Ytadmoackacickaa
open Go.ChangeShapes Go.WideShapes Go.ChangeAt Go.RowKit Go.AH
theorem lexRow (hAH : ∀ s : ByteArray, ∃ d h', call Try.prog Ms d 3 [.string s] h00 = some (.bool true, h')) : Rows.FnExactLexSaid :=
  OpenClaim.holds_of_wide 3 Try.f3 rfl rfl rfl rfl rfl rfl rfl ⟨rfl, rfl, rfl, rfl, rfl⟩ rfl rfl rfl rfl rfl (by kernel_rfl) (by kernel_rfl) (by kernel_rfl)
    (of_decide_eq_true (by kernel_rfl)) (by unfold Func.isWrapper; first | (rw [if_pos (by decide +kernel)]; kernel_rfl) | (rw [if_neg (by decide +kernel)]; exact ⟨rfl, rfl⟩))
    (fun os started H enc _ => lexLifted hAH os started H enc)
end Go.Proofs.Ytadmoackacickaa
