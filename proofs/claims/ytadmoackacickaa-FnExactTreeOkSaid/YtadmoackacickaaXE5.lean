import Derived.Test.YtadmoackacickaaXMs
import Derived.KernelRfl
import Derived.Test.YtadmoackacickaaProg
set_option linter.unusedVariables false
namespace Go.Proofs.Ytadmoackacickaa
open Go Go.AH
/-! 202 slices.IndexFunc[[]int,int] -/
noncomputable def F202_0 (hk : Hk (Value × AHeap)) (C : ACall) (N : Nat) (n1 : Nat) : Nx (Value × AHeap) := evSt hk Try.prog C M202 N Try.f202 [1, 0, 1, 2, 6] [n1]
noncomputable def s202_0 (hk : Hk (Value × AHeap)) (C : ACall) (N : Nat) (n1 : Nat) (x0 : Value) (x1 : Value) (x7 : Int) (x8 : Int) (h : AHeap) := F202_0 hk C N n1 (⟨19, [(0, x0), (1, x1), (7, .int .i64 x7), (8, .int .i64 x8)]⟩) h
theorem e202 (hk : Hk (Value × AHeap)) (C : ACall) (N : Nat) (x0 : Value) (x1 : Value) (h : AHeap) : evFn hk Try.prog C M202 N Try.f202 [x0, x1] h =
    (aLen x0).bind fun v1 => (asI .i64 v1).bind fun n2 => s202_0 hk C N N x0 x1 n2 0 h := by kernel_rfl
theorem s202_0_eq (hk : Hk (Value × AHeap)) (C : ACall) (N : Nat) (n1 : Nat) (x0 : Value) (x1 : Value) (x7 : Int) (x8 : Int) (h : AHeap) : s202_0 hk C N (n1 + 1) x0 x1 x7 x8 h =
    bif decide (x8 < x7) then (aIdx x0 (.int .i64 x8) 1).bind fun v3 => (aLd1 h v3).bind fun v4 => (asI .i64 v4).bind fun n5 => (aCallV C x1 [.int .i64 n5] h).bind fun r6 => (asB r6.1).bind fun b7 => bif b7 then some (.int .i64 x8, r6.2) else s202_0 hk C N n1 x0 x1 x7 (IntKind.i64.wrap (x8 + 1)) r6.2 else some (.int .i64 (-1), h) := by kernel_rfl
theorem c202 (d : Nat) (args : List Value) (h : AHeap) : call Try.prog Ms (d + 1) 202 args h = evFn hk0 Try.prog (call Try.prog Ms d) M202 d Try.f202 args h := by kernel_rfl
end Go.Proofs.Ytadmoackacickaa
