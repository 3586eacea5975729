import Derived.Test.YtnjnggejbpkgoaaGreatXAE
import Derived.Test.YtnjnggejbpkgoaaGreatXAM
import Derived.Carry
set_option linter.unusedSimpArgs false
set_option linter.unusedVariables false
/- What all rows with an arena need. -/
namespace Go.Proofs.YtnjnggejbpkgoaaGreat
open Go Go.ChangeShapes Go.WideShapes Go.ChangeAt Go.RowKit Go.ChangeMaps Go.AH Go.AM
theorem laid : laidOutB Tp = true := by kernel_rfl
theorem rArena : Tp.readableRec 25 = true := by kernel_rfl
theorem tArena : (25 : Nat) < Tp.types.size := of_decide_eq_true (by kernel_rfl)
theorem ArW.ari {W : World} {wv rv : Value} {a : Ar} (h : ArW W wv rv a) : ArI a := by
 have e0 : IntKind.u64.min = 0 := by decide
 have e1 : IntKind.u64.max = 18446744073709551615 := by decide
 have e2 : IntKind.i64.min = -9223372036854775808 := by decide
 have e1003 : IntKind.i64.max = 9223372036854775807 := by decide
 refine ⟨fun x hx => ?_, fun x hx => ?_, fun x hx => ?_⟩
 ·have := h.wi x hx
  unfold okI at this
  omega
 ·have := h.ri x hx
  unfold okI at this
  omega
 ·have := h.ii x hx
  unfold okI at this
  omega
end Go.Proofs.YtnjnggejbpkgoaaGreat
