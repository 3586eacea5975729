import Derived.Test.YtnjnggejbpkgoaaGreatXAR
set_option linter.unusedSimpArgs false
set_option linter.unusedVariables false
/- FnExactShare holds. -/
namespace Go.Proofs.YtnjnggejbpkgoaaGreat
open Go.ChangeShapes Go.WideShapes Go.ChangeAt Go.RowKit Go.AH Go.AM
theorem shareAll (wv rv : Value) (a : Ar) (h : AHeap) (H : ArH h wv rv a) (I : ArI a) (h1 : a.ws.length ≤ maxLen) (h2 : a.rs.length ≤ maxLen) : ∃ d h', call Tp Ms d 3 [arV wv rv a] h = some (.bool true, h') := by
 have hm : maxLen ≤ 9223372036854775807 := by decide
 obtain ⟨v, g, e, _, hv⟩ := law3 (D := 3000020) (by omega) H (by omega) (by omega) (fun hl => both_ok I hl) true rfl
 have hv' : v = .bool true := hv
 subst hv'
 exact ⟨_, g, e⟩
theorem fnExactShare : Rows.FnExactShareSaid :=
 OpenClaim.holds_of_wide 3 Tryz.f3 rfl rfl rfl rfl rfl rfl rfl ⟨rfl, rfl, rfl, rfl, rfl⟩ rfl rfl rfl rfl rfl (by kernel_rfl) (by kernel_rfl) (by kernel_rfl)
  (of_decide_eq_true (by kernel_rfl)) (by unfold Func.isWrapper; first | (rw [if_pos (by decide +kernel)]; kernel_rfl) | (rw [if_neg (by decide +kernel)]; exact ⟨rfl, rfl⟩))
  (fun os started H enc _ => shareLifted shareAll os started H enc)
end Go.Proofs.YtnjnggejbpkgoaaGreat
