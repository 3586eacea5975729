import Derived.Test.YtadmoackacickaaXRowB1
/- FnBinds holds. -/
namespace Go.Proofs.Ytadmoackacickaa
open Go.ChangeShapes Go.WideShapes Go.ChangeAt Go.RowKit Go.AH
theorem fnBinds : Rows.FnBindsSaid :=
  OpenClaim.holds_of_wide 6 Try.f6 rfl rfl rfl rfl rfl rfl rfl ⟨rfl, rfl, rfl, rfl, rfl⟩ rfl rfl rfl rfl rfl (by kernel_rfl) (by kernel_rfl) (by kernel_rfl)
    (of_decide_eq_true (by kernel_rfl)) (by unfold Func.isWrapper; first | (rw [if_pos (by decide +kernel)]; kernel_rfl) | (rw [if_neg (by decide +kernel)]; exact ⟨rfl, rfl⟩))
    (fun os started H enc _ => bindsLifted (fun v xs h x hz => ⟨3100 + 23, l6 (d := 3100) (by decide) (by decide) (fun k hk => ev_at hk) x hz⟩) os started H enc)
end Go.Proofs.Ytadmoackacickaa
