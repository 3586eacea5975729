import Derived.Test.YtajpnemfppaafaaXAP
set_option linter.unusedSimpArgs false
set_option linter.unusedVariables false
/- FnExactTextsOf holds. -/
namespace Go.Proofs.Ytajpnemfppaafaa
open Go.ChangeShapes Go.WideShapes Go.ChangeAt Go.RowKit Go.AH Go.AM
theorem textsAll (wv rv : Value) (a : Ar) (h : AHeap) (H : ArH h wv rv a) (I : ArI a) (h1 : a.ws.length ≤ maxLen) (h2 : a.rs.length ≤ maxLen) : ∃ d h', call Tp Ms d 4 [arV wv rv a] h = some (.bool true, h') := by
 have hm : maxLen ≤ 9223372036854775807 := by decide
 obtain ⟨v, g, e, _, hv⟩ := l4 (D := 3000020) (by omega) H (by omega) (by omega) (fun hl => textsOf I) true rfl
 have hv' : v = .bool true := hv
 subst hv'
 exact ⟨_, g, e⟩
theorem fnExactTextsOf : Rows.FnExactTextsOfSaid :=
 OpenClaim.holds_of_wide 4 Try.f4 rfl rfl rfl rfl rfl rfl rfl ⟨rfl, rfl, rfl, rfl, rfl⟩ rfl rfl rfl rfl rfl (by kernel_rfl) (by kernel_rfl) (by kernel_rfl)
  (of_decide_eq_true (by kernel_rfl)) (by unfold Func.isWrapper; first | (rw [if_pos (by decide +kernel)]; kernel_rfl) | (rw [if_neg (by decide +kernel)]; exact ⟨rfl, rfl⟩))
  (fun os started H enc _ => textsLifted textsAll os started H enc)
end Go.Proofs.Ytajpnemfppaafaa
