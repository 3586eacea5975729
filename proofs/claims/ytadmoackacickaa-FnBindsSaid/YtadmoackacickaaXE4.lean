import Derived.Test.YtadmoackacickaaXMs
import Derived.KernelRfl
import Derived.Test.YtadmoackacickaaProg
set_option linter.unusedVariables false
namespace Go.Proofs.Ytadmoackacickaa
open Go Go.AH
/-! 145 loop.example/g00101/spec.l9NameOk -/
noncomputable def F145_0 (hk : Hk (Value × AHeap)) (C : ACall) (N : Nat) : Nx (Value × AHeap) := evSt hk Try.prog C M145 N Try.f145 [1, 0, 1] []
noncomputable def s145_0 (hk : Hk (Value × AHeap)) (C : ACall) (N : Nat) (x0 : ByteArray) (x11 : Bool) (h : AHeap) := hk 100002 (⟨23, [(0, .string x0), (11, .bool x11)]⟩) h (F145_0 hk C N)
noncomputable def F145_1 (hk : Hk (Value × AHeap)) (C : ACall) (N : Nat) : Nx (Value × AHeap) := evSt hk Try.prog C M145 N Try.f145 [1, 1] []
noncomputable def s145_1 (hk : Hk (Value × AHeap)) (C : ACall) (N : Nat) (x0 : ByteArray) (h : AHeap) := hk 3 (⟨23, [(0, .string x0)]⟩) h (F145_1 hk C N)
noncomputable def F145_2 (hk : Hk (Value × AHeap)) (C : ACall) (N : Nat) (n1 : Nat) : Nx (Value × AHeap) := evSt hk Try.prog C M145 N Try.f145 [1, 1, 0, 1, 2, 6] [n1]
noncomputable def s145_2 (hk : Hk (Value × AHeap)) (C : ACall) (N : Nat) (n1 : Nat) (x0 : ByteArray) (x3 : Int) (h : AHeap) := F145_2 hk C N n1 (⟨23, [(0, .string x0), (3, .int .i64 x3)]⟩) h
theorem e145 (hk : Hk (Value × AHeap)) (C : ACall) (N : Nat) (x0 : ByteArray) (h : AHeap) : evFn hk Try.prog C M145 N Try.f145 [.string x0] h =
    (C 98 [.int .i64 (ByteArray.size x0 : Int), .int .i64 1, .int .i64 12] h).bind fun r1 => (asB r1.1).bind fun b2 => bif !b2 then s145_0 hk C N x0 true r1.2 else (C 88 [.string x0] r1.2).bind fun r3 => (asB r3.1).bind fun b4 => s145_0 hk C N x0 b4 r3.2 := by kernel_rfl
theorem s145_0_j (C : ACall) (N : Nat) (x0 : ByteArray) (x11 : Bool) (h : AHeap) : s145_0 hk0 C N x0 x11 h = F145_0 hk0 C N (⟨23, [(0, .string x0), (11, .bool x11)]⟩) h := by delta s145_0; exact hk0_app _ _ _ _
theorem s145_0_eq (hk : Hk (Value × AHeap)) (C : ACall) (N : Nat) (x0 : ByteArray) (x11 : Bool) (h : AHeap) : F145_0 hk C N (⟨23, [(0, .string x0), (11, .bool x11)]⟩) h =
    bif x11 then some (.bool false, h) else s145_1 hk C N x0 h := by kernel_rfl
theorem s145_1_j (C : ACall) (N : Nat) (x0 : ByteArray) (h : AHeap) : s145_1 hk0 C N x0 h = F145_1 hk0 C N (⟨23, [(0, .string x0)]⟩) h := by delta s145_1; exact hk0_app _ _ _ _
theorem s145_1_eq (hk : Hk (Value × AHeap)) (C : ACall) (N : Nat) (x0 : ByteArray) (h : AHeap) : F145_1 hk C N (⟨23, [(0, .string x0)]⟩) h =
    s145_2 hk C N N x0 0 h := by kernel_rfl
theorem s145_2_eq (hk : Hk (Value × AHeap)) (C : ACall) (N : Nat) (n1 : Nat) (x0 : ByteArray) (x3 : Int) (h : AHeap) : s145_2 hk C N (n1 + 1) x0 x3 h =
    bif decide (x3 < (ByteArray.size x0 : Int)) then (aStrIx (.string x0) (.int .i64 x3)).bind fun v5 => (asI .u8 v5).bind fun n6 => (C 87 [.int .u8 n6] h).bind fun r7 => (asB r7.1).bind fun b8 => bif !b8 then some (.bool false, r7.2) else s145_2 hk C N n1 x0 (IntKind.i64.wrap (x3 + 1)) r7.2 else some (.bool true, h) := by kernel_rfl
theorem c145 (d : Nat) (args : List Value) (h : AHeap) : call Try.prog Ms (d + 1) 145 args h = evFn hk0 Try.prog (call Try.prog Ms d) M145 d Try.f145 args h := by kernel_rfl

/-! 146 loop.example/g00101/laws.toIntS -/
noncomputable def F146_0 (hk : Hk (Value × AHeap)) (C : ACall) (N : Nat) (n1 : Nat) : Nx (Value × AHeap) := evSt hk Try.prog C M146 N Try.f146 [1, 1, 0, 1, 2, 6] [n1]
noncomputable def s146_0 (hk : Hk (Value × AHeap)) (C : ACall) (N : Nat) (n1 : Nat) (x0 : Value) (x3 : Value) (x4 : Int) (h : AHeap) := F146_0 hk C N n1 (⟨22, [(0, x0), (3, x3), (4, .int .i64 x4)]⟩) h
theorem e146 (hk : Hk (Value × AHeap)) (C : ACall) (N : Nat) (x0 : Value) (h : AHeap) : evFn hk Try.prog C M146 N Try.f146 [x0] h =
    (aLen x0).bind fun v1 => (asI .i64 v1).bind fun n2 => (aMk h 3 [.int .i64 0] 8 (.int .i64 n2) (.int .i64 n2)).bind fun r3 => s146_0 hk C N N x0 r3.1 0 r3.2 := by kernel_rfl
theorem s146_0_eq (hk : Hk (Value × AHeap)) (C : ACall) (N : Nat) (n1 : Nat) (x0 : Value) (x3 : Value) (x4 : Int) (h : AHeap) : s146_0 hk C N (n1 + 1) x0 x3 x4 h =
    (aLen x0).bind fun v4 => (asI .i64 v4).bind fun n5 => bif decide (x4 < n5) then (aIdx x0 (.int .i64 x4) 1).bind fun v6 => (aLd1 h v6).bind fun v7 => (asI .i64 v7).bind fun n8 => (aIdx x3 (.int .i64 x4) 1).bind fun v9 => (aSt h v9 (.int .i64 n8) 1).bind fun h10 => s146_0 hk C N n1 x0 x3 (IntKind.i64.wrap (x4 + 1)) h10 else some (x3, h) := by kernel_rfl
theorem c146 (d : Nat) (args : List Value) (h : AHeap) : call Try.prog Ms (d + 1) 146 args h = evFn hk0 Try.prog (call Try.prog Ms d) M146 d Try.f146 args h := by kernel_rfl

/-! 147 loop.example/g00101/impl.isName -/
theorem e147 (hk : Hk (Value × AHeap)) (C : ACall) (N : Nat) (x0 : ByteArray) (h : AHeap) : evFn hk Try.prog C M147 N Try.f147 [.string x0] h =
    (C 103 [.int .i64 (ByteArray.size x0 : Int), .int .i64 1, .int .i64 12] h).bind fun r1 => (asB r1.1).bind fun b2 => bif b2 then (C 51 [.string x0, .int .i64 0, (.func (.func 92) #[] #[])] r1.2).bind fun r3 => (asI .i64 r3.1).bind fun n4 => bif n4 == (ByteArray.size x0 : Int) then (C 93 [.string x0] r3.2).bind fun r5 => (asB r5.1).bind fun b6 => some (.bool (!b6), r5.2) else some (.bool false, r3.2) else some (.bool false, r1.2) := by kernel_rfl
theorem c147 (d : Nat) (args : List Value) (h : AHeap) : call Try.prog Ms (d + 1) 147 args h = evFn hk0 Try.prog (call Try.prog Ms d) M147 d Try.f147 args h := by kernel_rfl

/-! 148 loop.example/g00101/impl.just -/
theorem e148 (hk : Hk (Value × AHeap)) (C : ACall) (N : Nat) (x0 : Int) (h : AHeap) : evFn hk Try.prog C M148 N Try.f148 [.int .i64 x0] h =
    aNew h 3 [.int .i64 x0] fun p1 h2 => (aFn 185 [] [p1]).bind fun v3 => some (v3, h2) := by kernel_rfl
theorem c148 (d : Nat) (args : List Value) (h : AHeap) : call Try.prog Ms (d + 1) 148 args h = evFn hk0 Try.prog (call Try.prog Ms d) M148 d Try.f148 args h := by kernel_rfl

/-! 149 (*loop.example/g00101/impl.Tree).are -/
theorem e149 (hk : Hk (Value × AHeap)) (C : ACall) (N : Nat) (x0 : Value) (x1 : Value) (x2 : Value) (h : AHeap) : evFn hk Try.prog C M149 N Try.f149 [x0, x1, x2] h =
    (aCells x0).bind fun c1 => aNew h 96 c1 fun p2 h3 => (aCells x2).bind fun c4 => aNew h3 74 c4 fun p5 h6 => (aFn 187 [] [p5, p2]).bind fun v7 => (C 186 [x1, v7] h6).bind fun r8 => (asB r8.1).bind fun b9 => some (.bool (!b9), r8.2) := by kernel_rfl
theorem c149 (d : Nat) (args : List Value) (h : AHeap) : call Try.prog Ms (d + 1) 149 args h = evFn hk0 Try.prog (call Try.prog Ms d) M149 d Try.f149 args h := by kernel_rfl

/-! 150 (*loop.example/g00101/impl.Tree).kidsOk$1 -/
theorem e150 (hk : Hk (Value × AHeap)) (C : ACall) (N : Nat) (x0 : Int) (h : AHeap) : evFn hk Try.prog C M150 N Try.f150 [.int .i64 x0] h =
    bif x0 == 23 then some (.bool true, h) else some (.bool (x0 == 24), h) := by kernel_rfl
theorem c150 (d : Nat) (args : List Value) (h : AHeap) : call Try.prog Ms (d + 1) 150 args h = evFn hk0 Try.prog (call Try.prog Ms d) M150 d Try.f150 args h := by kernel_rfl

/-! 151 (*loop.example/g00101/impl.Tree).kidsAre -/
noncomputable def F151_0 (hk : Hk (Value × AHeap)) (C : ACall) (N : Nat) (n1 : Nat) : Nx (Value × AHeap) := evSt hk Try.prog C M151 N Try.f151 [1, 1, 0, 1, 2, 6] [n1]
noncomputable def s151_0 (hk : Hk (Value × AHeap)) (C : ACall) (N : Nat) (n1 : Nat) (x0 : Value) (x4 : Value) (x15 : Value) (x16 : Int) (x17 : Int) (h : AHeap) := F151_0 hk C N n1 (⟨38, [(0, x0), (4, x4), (15, x15), (16, .int .i64 x16), (17, .int .i64 x17)]⟩) h
theorem e151 (hk : Hk (Value × AHeap)) (C : ACall) (N : Nat) (x0 : Value) (x1 : Value) (x2 : Value) (h : AHeap) : evFn hk Try.prog C M151 N Try.f151 [x0, x1, x2] h =
    (aCells x1).bind fun c1 => aNew h 73 c1 fun p2 h3 => (aOff p2 3).bind fun v4 => (aLd1 h3 v4).bind fun v5 => (aLen v5).bind fun v6 => (asI .i64 v6).bind fun n7 => (aLen x2).bind fun v8 => (asI .i64 v8).bind fun n9 => bif n7 != n9 then some (.bool false, h3) else (aLen x2).bind fun v10 => (asI .i64 v10).bind fun n11 => s151_0 hk C N N x0 p2 x2 n11 0 h3 := by kernel_rfl
theorem s151_0_eq (hk : Hk (Value × AHeap)) (C : ACall) (N : Nat) (n1 : Nat) (x0 : Value) (x4 : Value) (x15 : Value) (x16 : Int) (x17 : Int) (h : AHeap) : s151_0 hk C N (n1 + 1) x0 x4 x15 x16 x17 h =
    bif decide (x17 < x16) then (aIdx x15 (.int .i64 x17) 1).bind fun v12 => (aLd1 h v12).bind fun v13 => (aNil x0).bind fun v14 => (aOff v14 0).bind fun v15 => (aLd1 h v15).bind fun v16 => (aOff x4 3).bind fun v17 => (aLd1 h v17).bind fun v18 => (aIdx v18 (.int .i64 x17) 1).bind fun v19 => (aLd1 h v19).bind fun v20 => (asI .i64 v20).bind fun n21 => (aIdx v16 (.int .i64 n21) 4).bind fun v22 => (aOff v22 0).bind fun v23 => (aLd1 h v23).bind fun v24 => (asI .i64 v24).bind fun n25 => (aCallV C v13 [.int .i64 n25] h).bind fun r26 => (asB r26.1).bind fun b27 => bif !b27 then some (.bool false, r26.2) else s151_0 hk C N n1 x0 x4 x15 x16 (IntKind.i64.wrap (x17 + 1)) r26.2 else some (.bool true, h) := by kernel_rfl
theorem c151 (d : Nat) (args : List Value) (h : AHeap) : call Try.prog Ms (d + 1) 151 args h = evFn hk0 Try.prog (call Try.prog Ms d) M151 d Try.f151 args h := by kernel_rfl

/-! 152 loop.example/g00101/impl.isExpr -/
theorem e152 (hk : Hk (Value × AHeap)) (C : ACall) (N : Nat) (x0 : Int) (h : AHeap) : evFn hk Try.prog C M152 N Try.f152 [.int .i64 x0] h =
    (C 103 [.int .i64 x0, .int .i64 1, .int .i64 13] h).bind fun r1 => (asB r1.1).bind fun b2 => some (.bool b2, r1.2) := by kernel_rfl
theorem c152 (d : Nat) (args : List Value) (h : AHeap) : call Try.prog Ms (d + 1) 152 args h = evFn hk0 Try.prog (call Try.prog Ms d) M152 d Try.f152 args h := by kernel_rfl

/-! 153 loop.example/g00101/impl.isStatement -/
theorem e153 (hk : Hk (Value × AHeap)) (C : ACall) (N : Nat) (x0 : Int) (h : AHeap) : evFn hk Try.prog C M153 N Try.f153 [.int .i64 x0] h =
    (C 103 [.int .i64 x0, .int .i64 14, .int .i64 20] h).bind fun r1 => (asB r1.1).bind fun b2 => some (.bool b2, r1.2) := by kernel_rfl
theorem c153 (d : Nat) (args : List Value) (h : AHeap) : call Try.prog Ms (d + 1) 153 args h = evFn hk0 Try.prog (call Try.prog Ms d) M153 d Try.f153 args h := by kernel_rfl

/-! 185 loop.example/g00101/impl.just$1 -/
theorem e185 (hk : Hk (Value × AHeap)) (C : ACall) (N : Nat) (x0 : Int) (x1 : Value) (h : AHeap) : evFn hk Try.prog C M185 N Try.f185 [.int .i64 x0, x1] h =
    (aLd1 h x1).bind fun v1 => (asI .i64 v1).bind fun n2 => some (.bool (x0 == n2), h) := by kernel_rfl
theorem c185 (d : Nat) (args : List Value) (h : AHeap) : call Try.prog Ms (d + 1) 185 args h = evFn hk0 Try.prog (call Try.prog Ms d) M185 d Try.f185 args h := by kernel_rfl

/-! 186 slices.ContainsFunc[[]int,int] -/
theorem e186 (hk : Hk (Value × AHeap)) (C : ACall) (N : Nat) (x0 : Value) (x1 : Value) (h : AHeap) : evFn hk Try.prog C M186 N Try.f186 [x0, x1] h =
    (C 202 [x0, x1] h).bind fun r1 => (asI .i64 r1.1).bind fun n2 => some (.bool (decide (n2 ≥ 0)), r1.2) := by kernel_rfl
theorem c186 (d : Nat) (args : List Value) (h : AHeap) : call Try.prog Ms (d + 1) 186 args h = evFn hk0 Try.prog (call Try.prog Ms d) M186 d Try.f186 args h := by kernel_rfl

/-! 187 (*loop.example/g00101/impl.Tree).are$1 -/
theorem e187 (hk : Hk (Value × AHeap)) (C : ACall) (N : Nat) (x0 : Int) (x1 : Value) (x2 : Value) (h : AHeap) : evFn hk Try.prog C M187 N Try.f187 [.int .i64 x0, x1, x2] h =
    (aLd1 h x1).bind fun v1 => (aLd1 h x2).bind fun v2 => (aNil v2).bind fun v3 => (aOff v3 0).bind fun v4 => (aLd1 h v4).bind fun v5 => (aIdx v5 (.int .i64 x0) 4).bind fun v6 => (aOff v6 0).bind fun v7 => (aLd1 h v7).bind fun v8 => (asI .i64 v8).bind fun n9 => (aCallV C v1 [.int .i64 n9] h).bind fun r10 => (asB r10.1).bind fun b11 => some (.bool (!b11), r10.2) := by kernel_rfl
theorem c187 (d : Nat) (args : List Value) (h : AHeap) : call Try.prog Ms (d + 1) 187 args h = evFn hk0 Try.prog (call Try.prog Ms d) M187 d Try.f187 args h := by kernel_rfl
end Go.Proofs.Ytadmoackacickaa
