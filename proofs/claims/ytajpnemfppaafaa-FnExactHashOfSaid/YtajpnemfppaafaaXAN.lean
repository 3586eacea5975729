import Derived.Test.YtajpnemfppaafaaXAM
set_option linter.unusedSimpArgs false
set_option linter.unusedVariables false
/- FnExactHashOf holds. -/
namespace Go.Proofs.Ytajpnemfppaafaa
open Go.ChangeShapes Go.WideShapes Go.ChangeAt Go.RowKit Go.AH Go.AM
theorem hashAll (wv rv : Value) (a : Ar) (r : Int) (h : AHeap) (H : ArH h wv rv a) (I : ArI a) (h1 : a.ws.length ≤ maxLen) (h2 : a.rs.length ≤ maxLen) : ∃ d h', call Tp Ms d 3 [arV wv rv a, .int .i64 r] h = some (.bool true, h') := by
 have hm : maxLen ≤ 9223372036854775807 := by decide
 obtain ⟨v, g, e, _, hv⟩ := l3 (D := 2000003) (by omega) H r (by omega) (by omega) (fun hl => hashOf I (by omega) r) true rfl
 have hv' : v = .bool true := hv
 subst hv'
 exact ⟨_, g, e⟩
theorem fnExactHashOf : Rows.FnExactHashOfSaid :=
 OpenClaim.holds_of_wide 3 Try.f3 rfl rfl rfl rfl rfl rfl rfl ⟨rfl, rfl, rfl, rfl, rfl⟩ rfl rfl rfl rfl rfl (by kernel_rfl) (by kernel_rfl) (by kernel_rfl)
  (of_decide_eq_true (by kernel_rfl)) (by unfold Func.isWrapper; first | (rw [if_pos (by decide +kernel)]; kernel_rfl) | (rw [if_neg (by decide +kernel)]; exact ⟨rfl, rfl⟩))
  (fun os started H enc _ => hashLifted hashAll os started H enc)
end Go.Proofs.Ytajpnemfppaafaa
