import Derived.Test.YtadmoackacickaaXAD
import Derived.KernelRfl
import Derived.Test.YtadmoackacickaaProg
import Derived.Test.YtadmoackacickaaXAF
import Derived.Test.YtadmoackacickaaRows
import Derived.Test.YtadmoackacickaaChecked
set_option linter.unusedVariables false
namespace Go.Proofs.Ytadmoackacickaa
open Go Go.AH
/-! 4 loop.example/g00101/laws.FnExactTreeOk -/
theorem e4 (hk : Hk (Value × AHeap)) (C : ACall) (N : Nat) (x0 : Value) (h : AHeap) : evFn hk Try.prog C M4 N Try.f4 [x0] h =
    (aCells x0).bind fun c1 => aNew h 30 c1 fun p2 h3 => (aLdN h3 p2 2).bind fun v4 => (C 19 [v4, .int .i64 1048576] h3).bind fun r5 => (asI .i64 r5.1).bind fun n6 => bif decide (n6 < 0) then some (.bool true, r5.2) else (aLdN r5.2 p2 2).bind fun v7 => (C 21 [v7] r5.2).bind fun r8 => (C 20 [r8.1] r8.2).bind fun r9 => (asB r9.1).bind fun b10 => (aLdN r9.2 p2 2).bind fun v11 => (C 21 [v11] r9.2).bind fun r12 => aNew r12.2 35 [.slice none 0 0, .int .i64 0] fun p13 h14 => (aSt h14 p13 r12.1 2).bind fun h15 => (aLdN h15 p13 2).bind fun v16 => (C 22 [v16] h15).bind fun r17 => (asB r17.1).bind fun b18 => bif !(b18 == b10) then some (.bool false, r17.2) else (aLdN r17.2 p13 2).bind fun v19 => (aLdN r17.2 p2 2).bind fun v20 => (C 21 [v20] r17.2).bind fun r21 => ((aLdN r21.2 p13 2).bind fun v22 => some (vbeq v22 v19)).bind fun b23 => bif b23 then (C 23 [v19, r21.1] r21.2).bind fun r24 => (asB r24.1).bind fun b25 => bif !b25 then some (.bool false, r24.2) else some (.bool true, r24.2) else none := by kernel_rfl
theorem c4 (d : Nat) (args : List Value) (h : AHeap) : call Try.prog Ms (d + 1) 4 args h = evFn hk0 Try.prog (call Try.prog Ms d) M4 d Try.f4 args h := by kernel_rfl

/-! 19 loop.example/g00101/laws.szTree -/
theorem e19 (hk : Hk (Value × AHeap)) (C : ACall) (N : Nat) (x0 : Value) (x1 : Int) (h : AHeap) : evFn hk Try.prog C M19 N Try.f19 [x0, .int .i64 x1] h =
    (aCells x0).bind fun c1 => aNew h 30 c1 fun p2 h3 => (aOff p2 0).bind fun v4 => (aLd1 h3 v4).bind fun v5 => (C 56 [v5, .int .i64 x1] h3).bind fun r6 => (asI .i64 r6.1).bind fun n7 => bif decide (n7 < 0) then some (.int .i64 (-1), r6.2) else some (.int .i64 n7, r6.2) := by kernel_rfl
theorem c19 (d : Nat) (args : List Value) (h : AHeap) : call Try.prog Ms (d + 1) 19 args h = evFn hk0 Try.prog (call Try.prog Ms d) M19 d Try.f19 args h := by kernel_rfl

/-! 20 loop.example/g00101/spec.TreeOk -/
theorem e20 (hk : Hk (Value × AHeap)) (C : ACall) (N : Nat) (x0 : Value) (h : AHeap) : evFn hk Try.prog C M20 N Try.f20 [x0] h =
    (aCells x0).bind fun c1 => aNew h 35 c1 fun p2 h3 => (aOff p2 0).bind fun v4 => (aLd1 h3 v4).bind fun v5 => (aLen v5).bind fun v6 => (asI .i64 v6).bind fun n7 => bif decide (n7 > 3000) then some (.bool false, h3) else (aLdN h3 p2 2).bind fun v8 => (aOff p2 1).bind fun v9 => (aLd1 h3 v9).bind fun v10 => (asI .i64 v10).bind fun n11 => (aOff p2 0).bind fun v12 => (aLd1 h3 v12).bind fun v13 => (aLen v13).bind fun v14 => (asI .i64 v14).bind fun n15 => (aMk h3 4 [.bool false] 1 (.int .i64 n15) (.int .i64 n15)).bind fun r16 => ((aLdN r16.2 p2 2).bind fun v17 => some (vbeq v17 v8)).bind fun b18 => bif b18 then ((aLd1 r16.2 v9).bind fun v19 => (asI .i64 v19).bind fun n20 => some (vbeq (.int .i64 n20) (.int .i64 n11))).bind fun b21 => bif b21 then (C 57 [v8, .int .i64 n11, .int .i64 3, .int .i64 0, r16.1] r16.2).bind fun r22 => (aExt r22.1 0).bind fun v23 => (asI .i64 v23).bind fun n24 => (aExt r22.1 1).bind fun v25 => (asB v25).bind fun b26 => bif b26 then (aOff p2 0).bind fun v27 => (aLd1 r22.2 v27).bind fun v28 => (aLen v28).bind fun v29 => (asI .i64 v29).bind fun n30 => some (.bool (n24 == n30), r22.2) else some (.bool false, r22.2) else none else none := by kernel_rfl
theorem c20 (d : Nat) (args : List Value) (h : AHeap) : call Try.prog Ms (d + 1) 20 args h = evFn hk0 Try.prog (call Try.prog Ms d) M20 d Try.f20 args h := by kernel_rfl

/-! 21 loop.example/g00101/laws.toTree -/
theorem e21 (hk : Hk (Value × AHeap)) (C : ACall) (N : Nat) (x0 : Value) (h : AHeap) : evFn hk Try.prog C M21 N Try.f21 [x0] h =
    (aCells x0).bind fun c1 => aNew h 30 c1 fun p2 h3 => aNew h3 35 [.slice none 0 0, .int .i64 0] fun p4 h5 => aNew h5 35 [.slice none 0 0, .int .i64 0] fun p6 h7 => (aOff p2 0).bind fun v8 => (aLd1 h7 v8).bind fun v9 => (C 58 [v9] h7).bind fun r10 => (aOff p6 0).bind fun v11 => (aSt r10.2 v11 r10.1 1).bind fun h12 => (aOff p2 1).bind fun v13 => (aLd1 h12 v13).bind fun v14 => (asI .i64 v14).bind fun n15 => (aOff p6 1).bind fun v16 => (aSt h12 v16 (.int .i64 n15) 1).bind fun h17 => (aLdN h17 p6 2).bind fun v18 => (aSt h17 p4 v18 2).bind fun h19 => (aLdN h19 p4 2).bind fun v20 => some (v20, h19) := by kernel_rfl
theorem c21 (d : Nat) (args : List Value) (h : AHeap) : call Try.prog Ms (d + 1) 21 args h = evFn hk0 Try.prog (call Try.prog Ms d) M21 d Try.f21 args h := by kernel_rfl

/-! 22 loop.example/g00101/impl.TreeOk -/
noncomputable def F22_0 (hk : Hk (Value × AHeap)) (C : ACall) (N : Nat) : Nx (Value × AHeap) := evSt hk Try.prog C M22 N Try.f22 [1, 1, 0, 1] []
noncomputable def s22_0 (hk : Hk (Value × AHeap)) (C : ACall) (N : Nat) (x1 : Value) (x3 : Int) (x31 : Bool) (h : AHeap) := hk 100003 (⟨48, [(1, x1), (3, .int .i64 x3), (31, .bool x31)]⟩) h (F22_0 hk C N)
noncomputable def F22_1 (hk : Hk (Value × AHeap)) (C : ACall) (N : Nat) : Nx (Value × AHeap) := evSt hk Try.prog C M22 N Try.f22 [1, 1, 1] []
noncomputable def s22_1 (hk : Hk (Value × AHeap)) (C : ACall) (N : Nat) (x1 : Value) (x3 : Int) (h : AHeap) := hk 4 (⟨48, [(1, x1), (3, .int .i64 x3)]⟩) h (F22_1 hk C N)
noncomputable def F22_2 (hk : Hk (Value × AHeap)) (C : ACall) (N : Nat) (n1 : Nat) : Nx (Value × AHeap) := evSt hk Try.prog C M22 N Try.f22 [1, 1, 1, 0, 1, 2, 6] [n1]
noncomputable def s22_2 (hk : Hk (Value × AHeap)) (C : ACall) (N : Nat) (n1 : Nat) (x1 : Value) (x3 : Int) (x34 : Int) (x35 : Int) (h : AHeap) := F22_2 hk C N n1 (⟨48, [(1, x1), (3, .int .i64 x3), (34, .int .i64 x34), (35, .int .i64 x35)]⟩) h
theorem e22 (hk : Hk (Value × AHeap)) (C : ACall) (N : Nat) (x0 : Value) (h : AHeap) : evFn hk Try.prog C M22 N Try.f22 [x0] h =
    (aCells x0).bind fun c1 => aNew h 35 c1 fun p2 h3 => (aOff p2 0).bind fun v4 => (aLd1 h3 v4).bind fun v5 => (aLen v5).bind fun v6 => (asI .i64 v6).bind fun n7 => (aOff p2 0).bind fun v8 => (aLd1 h3 v8).bind fun v9 => (aLen v9).bind fun v10 => (asI .i64 v10).bind fun n11 => bif decide (n11 > 3000) then s22_0 hk C N p2 (IntKind.i64.wrap (n7 - 1)) true h3 else bif decide ((IntKind.i64.wrap (n7 - 1)) < 0) then s22_0 hk C N p2 (IntKind.i64.wrap (n7 - 1)) true h3 else (aOff p2 1).bind fun v12 => (aLd1 h3 v12).bind fun v13 => (asI .i64 v13).bind fun n14 => bif n14 != (IntKind.i64.wrap (n7 - 1)) then s22_0 hk C N p2 (IntKind.i64.wrap (n7 - 1)) true h3 else (aOff p2 0).bind fun v15 => (aLd1 h3 v15).bind fun v16 => (aIdx v16 (.int .i64 (IntKind.i64.wrap (n7 - 1))) 4).bind fun v17 => (aOff v17 0).bind fun v18 => (aLd1 h3 v18).bind fun v19 => (asI .i64 v19).bind fun n20 => s22_0 hk C N p2 (IntKind.i64.wrap (n7 - 1)) (n20 != 21) h3 := by kernel_rfl
theorem s22_0_j (C : ACall) (N : Nat) (x1 : Value) (x3 : Int) (x31 : Bool) (h : AHeap) : s22_0 hk0 C N x1 x3 x31 h = F22_0 hk0 C N (⟨48, [(1, x1), (3, .int .i64 x3), (31, .bool x31)]⟩) h := by delta s22_0; exact hk0_app _ _ _ _
theorem s22_0_eq (hk : Hk (Value × AHeap)) (C : ACall) (N : Nat) (x1 : Value) (x3 : Int) (x31 : Bool) (h : AHeap) : F22_0 hk C N (⟨48, [(1, x1), (3, .int .i64 x3), (31, .bool x31)]⟩) h =
    bif x31 then some (.bool false, h) else s22_1 hk C N x1 x3 h := by kernel_rfl
theorem s22_1_j (C : ACall) (N : Nat) (x1 : Value) (x3 : Int) (h : AHeap) : s22_1 hk0 C N x1 x3 h = F22_1 hk0 C N (⟨48, [(1, x1), (3, .int .i64 x3)]⟩) h := by delta s22_1; exact hk0_app _ _ _ _
theorem s22_1_eq (hk : Hk (Value × AHeap)) (C : ACall) (N : Nat) (x1 : Value) (x3 : Int) (h : AHeap) : F22_1 hk C N (⟨48, [(1, x1), (3, .int .i64 x3)]⟩) h =
    (aOff x1 0).bind fun v21 => (aLd1 h v21).bind fun v22 => (aLen v22).bind fun v23 => (asI .i64 v23).bind fun n24 => s22_2 hk C N N x1 x3 n24 0 h := by kernel_rfl
theorem s22_2_eq (hk : Hk (Value × AHeap)) (C : ACall) (N : Nat) (n1 : Nat) (x1 : Value) (x3 : Int) (x34 : Int) (x35 : Int) (h : AHeap) : s22_2 hk C N (n1 + 1) x1 x3 x34 x35 h =
    bif decide (x35 < x34) then (C 59 [x1, .int .i64 x35] h).bind fun r25 => (asB r25.1).bind fun b26 => bif !b26 then some (.bool false, r25.2) else s22_2 hk C N n1 x1 x3 x34 (IntKind.i64.wrap (x35 + 1)) r25.2 else (aOff x1 0).bind fun v27 => (aLd1 h v27).bind fun v28 => (aLen v28).bind fun v29 => (asI .i64 v29).bind fun n30 => (C 60 [x1, .int .i64 x3, .int .i64 0] h).bind fun r31 => (asI .i64 r31.1).bind fun n32 => ((aLd1 r31.2 v27).bind fun v33 => some (vbeq v33 v28)).bind fun b34 => bif b34 then some (.bool (n32 == n30), r31.2) else none := by kernel_rfl
theorem c22 (d : Nat) (args : List Value) (h : AHeap) : call Try.prog Ms (d + 1) 22 args h = evFn hk0 Try.prog (call Try.prog Ms d) M22 d Try.f22 args h := by kernel_rfl

/-! 23 loop.example/g00101/laws.eqTree -/
theorem e23 (hk : Hk (Value × AHeap)) (C : ACall) (N : Nat) (x0 : Value) (x1 : Value) (h : AHeap) : evFn hk Try.prog C M23 N Try.f23 [x0, x1] h =
    (aCells x0).bind fun c1 => aNew h 35 c1 fun p2 h3 => (aCells x1).bind fun c4 => aNew h3 35 c4 fun p5 h6 => (aOff p2 0).bind fun v7 => (aLd1 h6 v7).bind fun v8 => (aOff p5 0).bind fun v9 => (aLd1 h6 v9).bind fun v10 => (C 61 [v8, v10] h6).bind fun r11 => (asB r11.1).bind fun b12 => bif !b12 then some (.bool false, r11.2) else (aOff p2 1).bind fun v13 => (aLd1 r11.2 v13).bind fun v14 => (asI .i64 v14).bind fun n15 => (aOff p5 1).bind fun v16 => (aLd1 r11.2 v16).bind fun v17 => (asI .i64 v17).bind fun n18 => bif n15 != n18 then some (.bool false, r11.2) else some (.bool true, r11.2) := by kernel_rfl
theorem c23 (d : Nat) (args : List Value) (h : AHeap) : call Try.prog Ms (d + 1) 23 args h = evFn hk0 Try.prog (call Try.prog Ms d) M23 d Try.f23 args h := by kernel_rfl

/-! 32 loop.example/g00101/laws.eqIntS -/
noncomputable def F32_0 (hk : Hk (Value × AHeap)) (C : ACall) (N : Nat) (n1 : Nat) : Nx (Value × AHeap) := evSt hk Try.prog C M32 N Try.f32 [1, 1, 0, 1, 2, 6] [n1]
noncomputable def s32_0 (hk : Hk (Value × AHeap)) (C : ACall) (N : Nat) (n1 : Nat) (x0 : Value) (x1 : Value) (x5 : Int) (h : AHeap) := F32_0 hk C N n1 (⟨26, [(0, x0), (1, x1), (5, .int .i64 x5)]⟩) h
theorem e32 (hk : Hk (Value × AHeap)) (C : ACall) (N : Nat) (x0 : Value) (x1 : Value) (h : AHeap) : evFn hk Try.prog C M32 N Try.f32 [x0, x1] h =
    (aLen x0).bind fun v1 => (asI .i64 v1).bind fun n2 => (aLen x1).bind fun v3 => (asI .i64 v3).bind fun n4 => bif n2 != n4 then some (.bool false, h) else s32_0 hk C N N x0 x1 0 h := by kernel_rfl
theorem s32_0_eq (hk : Hk (Value × AHeap)) (C : ACall) (N : Nat) (n1 : Nat) (x0 : Value) (x1 : Value) (x5 : Int) (h : AHeap) : s32_0 hk C N (n1 + 1) x0 x1 x5 h =
    (aLen x0).bind fun v5 => (asI .i64 v5).bind fun n6 => bif decide (x5 < n6) then (aIdx x0 (.int .i64 x5) 1).bind fun v7 => (aLd1 h v7).bind fun v8 => (asI .i64 v8).bind fun n9 => (aIdx x1 (.int .i64 x5) 1).bind fun v10 => (aLd1 h v10).bind fun v11 => (asI .i64 v11).bind fun n12 => bif n9 != n12 then some (.bool false, h) else s32_0 hk C N n1 x0 x1 (IntKind.i64.wrap (x5 + 1)) h else some (.bool true, h) := by kernel_rfl
theorem c32 (d : Nat) (args : List Value) (h : AHeap) : call Try.prog Ms (d + 1) 32 args h = evFn hk0 Try.prog (call Try.prog Ms d) M32 d Try.f32 args h := by kernel_rfl

/-! 56 loop.example/g00101/laws.szKnotS -/
noncomputable def F56_0 (hk : Hk (Value × AHeap)) (C : ACall) (N : Nat) (n1 : Nat) : Nx (Value × AHeap) := evSt hk Try.prog C M56 N Try.f56 [1, 1, 1, 0, 1, 2, 6] [n1]
noncomputable def s56_0 (hk : Hk (Value × AHeap)) (C : ACall) (N : Nat) (n1 : Nat) (x0 : Value) (x1 : Int) (x5 : Int) (h : AHeap) := F56_0 hk C N n1 (⟨27, [(0, x0), (1, .int .i64 x1), (5, .int .i64 x5)]⟩) h
theorem e56 (hk : Hk (Value × AHeap)) (C : ACall) (N : Nat) (x0 : Value) (x1 : Int) (h : AHeap) : evFn hk Try.prog C M56 N Try.f56 [x0, .int .i64 x1] h =
    (aLen x0).bind fun v1 => (asI .i64 v1).bind fun n2 => bif decide ((IntKind.i64.wrap (x1 - n2)) < 0) then some (.int .i64 (-1), h) else s56_0 hk C N N x0 (IntKind.i64.wrap (x1 - n2)) 0 h := by kernel_rfl
theorem s56_0_eq (hk : Hk (Value × AHeap)) (C : ACall) (N : Nat) (n1 : Nat) (x0 : Value) (x1 : Int) (x5 : Int) (h : AHeap) : s56_0 hk C N (n1 + 1) x0 x1 x5 h =
    (aLen x0).bind fun v3 => (asI .i64 v3).bind fun n4 => bif decide (x5 < n4) then (aIdx x0 (.int .i64 x5) 4).bind fun v5 => (aLdN h v5 4).bind fun v6 => (C 97 [v6, .int .i64 x1] h).bind fun r7 => (asI .i64 r7.1).bind fun n8 => bif decide (n8 < 0) then some (.int .i64 (-1), r7.2) else s56_0 hk C N n1 x0 n8 (IntKind.i64.wrap (x5 + 1)) r7.2 else some (.int .i64 x1, h) := by kernel_rfl
theorem c56 (d : Nat) (args : List Value) (h : AHeap) : call Try.prog Ms (d + 1) 56 args h = evFn hk0 Try.prog (call Try.prog Ms d) M56 d Try.f56 args h := by kernel_rfl

/-! 57 loop.example/g00101/spec.l9Fits -/
noncomputable def F57_0 (hk : Hk (Value × AHeap)) (C : ACall) (N : Nat) : Nx (Value × AHeap) := evSt hk Try.prog C M57 N Try.f57 [1, 0, 1] []
noncomputable def s57_0 (hk : Hk (Value × AHeap)) (C : ACall) (N : Nat) (x1 : Int) (x2 : Int) (x3 : Int) (x4 : Value) (x5 : Value) (x31 : Bool) (h : AHeap) := hk 100002 (⟨108, [(1, .int .i64 x1), (2, .int .i64 x2), (3, .int .i64 x3), (4, x4), (5, x5), (31, .bool x31)]⟩) h (F57_0 hk C N)
noncomputable def F57_1 (hk : Hk (Value × AHeap)) (C : ACall) (N : Nat) : Nx (Value × AHeap) := evSt hk Try.prog C M57 N Try.f57 [1, 1] []
noncomputable def s57_1 (hk : Hk (Value × AHeap)) (C : ACall) (N : Nat) (x1 : Int) (x2 : Int) (x3 : Int) (x4 : Value) (x5 : Value) (h : AHeap) := hk 3 (⟨108, [(1, .int .i64 x1), (2, .int .i64 x2), (3, .int .i64 x3), (4, x4), (5, x5)]⟩) h (F57_1 hk C N)
noncomputable def F57_2 (hk : Hk (Value × AHeap)) (C : ACall) (N : Nat) : Nx (Value × AHeap) := evSt hk Try.prog C M57 N Try.f57 [1, 1, 1, 1, 1] []
noncomputable def s57_2 (hk : Hk (Value × AHeap)) (C : ACall) (N : Nat) (x1 : Int) (x2 : Int) (x3 : Int) (x4 : Value) (x5 : Value) (x12 : Value) (x13 : Bool) (h : AHeap) := hk 6 (⟨108, [(1, .int .i64 x1), (2, .int .i64 x2), (3, .int .i64 x3), (4, x4), (5, x5), (12, x12), (13, .bool x13)]⟩) h (F57_2 hk C N)
noncomputable def F57_3 (hk : Hk (Value × AHeap)) (C : ACall) (N : Nat) : Nx (Value × AHeap) := evSt hk Try.prog C M57 N Try.f57 [1, 1, 1, 1, 1, 1] []
noncomputable def s57_3 (hk : Hk (Value × AHeap)) (C : ACall) (N : Nat) (x1 : Int) (x3 : Int) (x4 : Value) (x5 : Value) (x12 : Value) (x13 : Bool) (h : AHeap) := hk 8 (⟨108, [(1, .int .i64 x1), (3, .int .i64 x3), (4, x4), (5, x5), (12, x12), (13, .bool x13)]⟩) h (F57_3 hk C N)
noncomputable def F57_4 (hk : Hk (Value × AHeap)) (C : ACall) (N : Nat) : Nx (Value × AHeap) := evSt hk Try.prog C M57 N Try.f57 [1, 1, 1, 1, 1, 1, 1, 0, 1] []
noncomputable def s57_4 (hk : Hk (Value × AHeap)) (C : ACall) (N : Nat) (x1 : Int) (x3 : Int) (x4 : Value) (x5 : Value) (x12 : Value) (x14 : Value) (x69 : Bool) (h : AHeap) := hk 100010 (⟨108, [(1, .int .i64 x1), (3, .int .i64 x3), (4, x4), (5, x5), (12, x12), (14, x14), (69, .bool x69)]⟩) h (F57_4 hk C N)
noncomputable def F57_5 (hk : Hk (Value × AHeap)) (C : ACall) (N : Nat) : Nx (Value × AHeap) := evSt hk Try.prog C M57 N Try.f57 [1, 1, 1, 1, 1, 1, 1, 1] []
noncomputable def s57_5 (hk : Hk (Value × AHeap)) (C : ACall) (N : Nat) (x1 : Int) (x3 : Int) (x4 : Value) (x5 : Value) (x12 : Value) (x14 : Value) (h : AHeap) := hk 11 (⟨108, [(1, .int .i64 x1), (3, .int .i64 x3), (4, x4), (5, x5), (12, x12), (14, x14)]⟩) h (F57_5 hk C N)
noncomputable def F57_6 (hk : Hk (Value × AHeap)) (C : ACall) (N : Nat) (n1 : Nat) : Nx (Value × AHeap) := evSt hk Try.prog C M57 N Try.f57 [1, 1, 1, 1, 1, 1, 1, 1, 0, 1, 2, 6] [n1]
noncomputable def s57_6 (hk : Hk (Value × AHeap)) (C : ACall) (N : Nat) (n1 : Nat) (x1 : Int) (x3 : Int) (x4 : Value) (x5 : Value) (x12 : Value) (x14 : Value) (x16 : Int) (h : AHeap) := F57_6 hk C N n1 (⟨108, [(1, .int .i64 x1), (3, .int .i64 x3), (4, x4), (5, x5), (12, x12), (14, x14), (16, .int .i64 x16)]⟩) h
theorem e57 (hk : Hk (Value × AHeap)) (C : ACall) (N : Nat) (x0 : Value) (x1 : Int) (x2 : Int) (x3 : Int) (x4 : Value) (h : AHeap) : evFn hk Try.prog C M57 N Try.f57 [x0, .int .i64 x1, .int .i64 x2, .int .i64 x3, x4] h =
    (aCells x0).bind fun c1 => aNew h 35 c1 fun p2 h3 => (aOff p2 0).bind fun v4 => (aLd1 h3 v4).bind fun v5 => (aLen v5).bind fun v6 => (asI .i64 v6).bind fun n7 => (C 98 [.int .i64 x1, .int .i64 0, .int .i64 (IntKind.i64.wrap (n7 - 1))] h3).bind fun r8 => (asB r8.1).bind fun b9 => bif !b9 then s57_0 hk C N x1 x2 x3 x4 p2 true r8.2 else (aIdx x4 (.int .i64 x1) 1).bind fun v10 => (aLd1 r8.2 v10).bind fun v11 => (asB v11).bind fun b12 => s57_0 hk C N x1 x2 x3 x4 p2 b12 r8.2 := by kernel_rfl
theorem s57_0_j (C : ACall) (N : Nat) (x1 : Int) (x2 : Int) (x3 : Int) (x4 : Value) (x5 : Value) (x31 : Bool) (h : AHeap) : s57_0 hk0 C N x1 x2 x3 x4 x5 x31 h = F57_0 hk0 C N (⟨108, [(1, .int .i64 x1), (2, .int .i64 x2), (3, .int .i64 x3), (4, x4), (5, x5), (31, .bool x31)]⟩) h := by delta s57_0; exact hk0_app _ _ _ _
theorem s57_0_eq (hk : Hk (Value × AHeap)) (C : ACall) (N : Nat) (x1 : Int) (x2 : Int) (x3 : Int) (x4 : Value) (x5 : Value) (x31 : Bool) (h : AHeap) : F57_0 hk C N (⟨108, [(1, .int .i64 x1), (2, .int .i64 x2), (3, .int .i64 x3), (4, x4), (5, x5), (31, .bool x31)]⟩) h =
    bif x31 then some (.tuple (List.toArray [.int .i64 0, .bool false]), h) else s57_1 hk C N x1 x2 x3 x4 x5 h := by kernel_rfl
theorem s57_1_j (C : ACall) (N : Nat) (x1 : Int) (x2 : Int) (x3 : Int) (x4 : Value) (x5 : Value) (h : AHeap) : s57_1 hk0 C N x1 x2 x3 x4 x5 h = F57_1 hk0 C N (⟨108, [(1, .int .i64 x1), (2, .int .i64 x2), (3, .int .i64 x3), (4, x4), (5, x5)]⟩) h := by delta s57_1; exact hk0_app _ _ _ _
theorem s57_1_eq (hk : Hk (Value × AHeap)) (C : ACall) (N : Nat) (x1 : Int) (x2 : Int) (x3 : Int) (x4 : Value) (x5 : Value) (h : AHeap) : F57_1 hk C N (⟨108, [(1, .int .i64 x1), (2, .int .i64 x2), (3, .int .i64 x3), (4, x4), (5, x5)]⟩) h =
    (aIdx x4 (.int .i64 x1) 1).bind fun v13 => (aSt h v13 (.bool true) 1).bind fun h14 => (aOff x5 0).bind fun v15 => (aLd1 h14 v15).bind fun v16 => (aIdx v16 (.int .i64 x1) 4).bind fun v17 => (aLdN h14 v17 4).bind fun v18 => aNew h14 73 [.int .i64 0, .string ⟨#[]⟩, .int .i64 0, .slice none 0 0] fun p19 h20 => (aSt h20 p19 v18 4).bind fun h21 => (aOff p19 0).bind fun v22 => (aLd1 h21 v22).bind fun v23 => (asI .i64 v23).bind fun n24 => (C 99 [.int .i64 n24] h21).bind fun r25 => (asI .i64 r25.1).bind fun n26 => bif n26 == x2 then s57_2 hk C N x1 x2 x3 x4 x5 p19 (x2 != 0) r25.2 else s57_2 hk C N x1 x2 x3 x4 x5 p19 false r25.2 := by kernel_rfl
theorem s57_2_j (C : ACall) (N : Nat) (x1 : Int) (x2 : Int) (x3 : Int) (x4 : Value) (x5 : Value) (x12 : Value) (x13 : Bool) (h : AHeap) : s57_2 hk0 C N x1 x2 x3 x4 x5 x12 x13 h = F57_2 hk0 C N (⟨108, [(1, .int .i64 x1), (2, .int .i64 x2), (3, .int .i64 x3), (4, x4), (5, x5), (12, x12), (13, .bool x13)]⟩) h := by delta s57_2; exact hk0_app _ _ _ _
theorem s57_2_eq (hk : Hk (Value × AHeap)) (C : ACall) (N : Nat) (x1 : Int) (x2 : Int) (x3 : Int) (x4 : Value) (x5 : Value) (x12 : Value) (x13 : Bool) (h : AHeap) : F57_2 hk C N (⟨108, [(1, .int .i64 x1), (2, .int .i64 x2), (3, .int .i64 x3), (4, x4), (5, x5), (12, x12), (13, .bool x13)]⟩) h =
    bif x2 == 6 then (aOff x12 0).bind fun v27 => (aLd1 h v27).bind fun v28 => (asI .i64 v28).bind fun n29 => s57_3 hk C N x1 x3 x4 x5 x12 (n29 == 9) h else s57_3 hk C N x1 x3 x4 x5 x12 x13 h := by kernel_rfl
theorem s57_3_j (C : ACall) (N : Nat) (x1 : Int) (x3 : Int) (x4 : Value) (x5 : Value) (x12 : Value) (x13 : Bool) (h : AHeap) : s57_3 hk0 C N x1 x3 x4 x5 x12 x13 h = F57_3 hk0 C N (⟨108, [(1, .int .i64 x1), (3, .int .i64 x3), (4, x4), (5, x5), (12, x12), (13, .bool x13)]⟩) h := by delta s57_3; exact hk0_app _ _ _ _
theorem s57_3_eq (hk : Hk (Value × AHeap)) (C : ACall) (N : Nat) (x1 : Int) (x3 : Int) (x4 : Value) (x5 : Value) (x12 : Value) (x13 : Bool) (h : AHeap) : F57_3 hk C N (⟨108, [(1, .int .i64 x1), (3, .int .i64 x3), (4, x4), (5, x5), (12, x12), (13, .bool x13)]⟩) h =
    (aLdN h x12 4).bind fun v30 => (C 100 [v30] h).bind fun r31 => (aExt r31.1 0).bind fun v32 => (aExt r31.1 1).bind fun v33 => (asB v33).bind fun b34 => bif !x13 then s57_4 hk C N x1 x3 x4 x5 x12 v32 true r31.2 else bif !b34 then s57_4 hk C N x1 x3 x4 x5 x12 v32 true r31.2 else (aLdN r31.2 x12 4).bind fun v35 => (C 101 [v35] r31.2).bind fun r36 => (asB r36.1).bind fun b37 => s57_4 hk C N x1 x3 x4 x5 x12 v32 (!b37) r36.2 := by kernel_rfl
theorem s57_4_j (C : ACall) (N : Nat) (x1 : Int) (x3 : Int) (x4 : Value) (x5 : Value) (x12 : Value) (x14 : Value) (x69 : Bool) (h : AHeap) : s57_4 hk0 C N x1 x3 x4 x5 x12 x14 x69 h = F57_4 hk0 C N (⟨108, [(1, .int .i64 x1), (3, .int .i64 x3), (4, x4), (5, x5), (12, x12), (14, x14), (69, .bool x69)]⟩) h := by delta s57_4; exact hk0_app _ _ _ _
theorem s57_4_eq (hk : Hk (Value × AHeap)) (C : ACall) (N : Nat) (x1 : Int) (x3 : Int) (x4 : Value) (x5 : Value) (x12 : Value) (x14 : Value) (x69 : Bool) (h : AHeap) : F57_4 hk C N (⟨108, [(1, .int .i64 x1), (3, .int .i64 x3), (4, x4), (5, x5), (12, x12), (14, x14), (69, .bool x69)]⟩) h =
    bif x69 then some (.tuple (List.toArray [.int .i64 0, .bool false]), h) else s57_5 hk C N x1 x3 x4 x5 x12 x14 h := by kernel_rfl
theorem s57_5_j (C : ACall) (N : Nat) (x1 : Int) (x3 : Int) (x4 : Value) (x5 : Value) (x12 : Value) (x14 : Value) (h : AHeap) : s57_5 hk0 C N x1 x3 x4 x5 x12 x14 h = F57_5 hk0 C N (⟨108, [(1, .int .i64 x1), (3, .int .i64 x3), (4, x4), (5, x5), (12, x12), (14, x14)]⟩) h := by delta s57_5; exact hk0_app _ _ _ _
theorem s57_5_eq (hk : Hk (Value × AHeap)) (C : ACall) (N : Nat) (x1 : Int) (x3 : Int) (x4 : Value) (x5 : Value) (x12 : Value) (x14 : Value) (h : AHeap) : F57_5 hk C N (⟨108, [(1, .int .i64 x1), (3, .int .i64 x3), (4, x4), (5, x5), (12, x12), (14, x14)]⟩) h =
    s57_6 hk C N N x1 x3 x4 x5 x12 x14 0 h := by kernel_rfl
theorem s57_6_eq (hk : Hk (Value × AHeap)) (C : ACall) (N : Nat) (n1 : Nat) (x1 : Int) (x3 : Int) (x4 : Value) (x5 : Value) (x12 : Value) (x14 : Value) (x16 : Int) (h : AHeap) : s57_6 hk C N (n1 + 1) x1 x3 x4 x5 x12 x14 x16 h =
    (aOff x12 3).bind fun v38 => (aLd1 h v38).bind fun v39 => (aLen v39).bind fun v40 => (asI .i64 v40).bind fun n41 => bif decide (x16 < n41) then (aOff x12 3).bind fun v42 => (aLd1 h v42).bind fun v43 => (aIdx v43 (.int .i64 x16) 1).bind fun v44 => (aLd1 h v44).bind fun v45 => (asI .i64 v45).bind fun n46 => bif decide (n46 ≥ x1) then some (.tuple (List.toArray [.int .i64 0, .bool false]), h) else (aLdN h x5 2).bind fun v47 => (aOff x12 3).bind fun v48 => (aLd1 h v48).bind fun v49 => (aIdx v49 (.int .i64 x16) 1).bind fun v50 => (aLd1 h v50).bind fun v51 => (asI .i64 v51).bind fun n52 => (aIdx x14 (.int .i64 x16) 1).bind fun v53 => (aLd1 h v53).bind fun v54 => (asI .i64 v54).bind fun n55 => (C 57 [v47, .int .i64 n52, .int .i64 n55, .int .i64 x3, x4] h).bind fun r56 => (aExt r56.1 0).bind fun v57 => (asI .i64 v57).bind fun n58 => (aExt r56.1 1).bind fun v59 => (asB v59).bind fun b60 => bif !b60 then some (.tuple (List.toArray [.int .i64 0, .bool false]), r56.2) else s57_6 hk C N n1 x1 n58 x4 x5 x12 x14 (IntKind.i64.wrap (x16 + 1)) r56.2 else some (.tuple (List.toArray [.int .i64 (IntKind.i64.wrap (x3 + 1)), .bool (x3 == x1)]), h) := by kernel_rfl
theorem c57 (d : Nat) (args : List Value) (h : AHeap) : call Try.prog Ms (d + 1) 57 args h = evFn hk0 Try.prog (call Try.prog Ms d) M57 d Try.f57 args h := by kernel_rfl

/-! 58 loop.example/g00101/laws.toKnotS -/
noncomputable def F58_0 (hk : Hk (Value × AHeap)) (C : ACall) (N : Nat) (n1 : Nat) : Nx (Value × AHeap) := evSt hk Try.prog C M58 N Try.f58 [1, 1, 0, 1, 2, 6] [n1]
noncomputable def s58_0 (hk : Hk (Value × AHeap)) (C : ACall) (N : Nat) (n1 : Nat) (x0 : Value) (x3 : Value) (x4 : Int) (h : AHeap) := F58_0 hk C N n1 (⟨23, [(0, x0), (3, x3), (4, .int .i64 x4)]⟩) h
theorem e58 (hk : Hk (Value × AHeap)) (C : ACall) (N : Nat) (x0 : Value) (h : AHeap) : evFn hk Try.prog C M58 N Try.f58 [x0] h =
    (aLen x0).bind fun v1 => (asI .i64 v1).bind fun n2 => (aMk h 73 [.int .i64 0, .string ⟨#[]⟩, .int .i64 0, .slice none 0 0] 56 (.int .i64 n2) (.int .i64 n2)).bind fun r3 => s58_0 hk C N N x0 r3.1 0 r3.2 := by kernel_rfl
theorem s58_0_eq (hk : Hk (Value × AHeap)) (C : ACall) (N : Nat) (n1 : Nat) (x0 : Value) (x3 : Value) (x4 : Int) (h : AHeap) : s58_0 hk C N (n1 + 1) x0 x3 x4 h =
    (aLen x0).bind fun v4 => (asI .i64 v4).bind fun n5 => bif decide (x4 < n5) then (aIdx x0 (.int .i64 x4) 4).bind fun v6 => (aLdN h v6 4).bind fun v7 => (C 102 [v7] h).bind fun r8 => (aIdx x3 (.int .i64 x4) 4).bind fun v9 => (aSt r8.2 v9 r8.1 4).bind fun h10 => s58_0 hk C N n1 x0 x3 (IntKind.i64.wrap (x4 + 1)) h10 else some (x3, h) := by kernel_rfl
theorem c58 (d : Nat) (args : List Value) (h : AHeap) : call Try.prog Ms (d + 1) 58 args h = evFn hk0 Try.prog (call Try.prog Ms d) M58 d Try.f58 args h := by kernel_rfl

/-! 59 (*loop.example/g00101/impl.Tree).nodeOk -/
noncomputable def F59_0 (hk : Hk (Value × AHeap)) (C : ACall) (N : Nat) (n1 : Nat) : Nx (Value × AHeap) := evSt hk Try.prog C M59 N Try.f59 [1, 1, 0, 1, 2, 6] [n1]
noncomputable def s59_0 (hk : Hk (Value × AHeap)) (C : ACall) (N : Nat) (n1 : Nat) (x0 : Value) (x1 : Int) (x5 : Value) (x16 : Value) (x17 : Int) (x18 : Int) (h : AHeap) := F59_0 hk C N n1 (⟨35, [(0, x0), (1, .int .i64 x1), (5, x5), (16, x16), (17, .int .i64 x17), (18, .int .i64 x18)]⟩) h
theorem e59 (hk : Hk (Value × AHeap)) (C : ACall) (N : Nat) (x0 : Value) (x1 : Int) (h : AHeap) : evFn hk Try.prog C M59 N Try.f59 [x0, .int .i64 x1] h =
    (aNil x0).bind fun v1 => (aOff v1 0).bind fun v2 => (aLd1 h v2).bind fun v3 => (aIdx v3 (.int .i64 x1) 4).bind fun v4 => (aLdN h v4 4).bind fun v5 => aNew h 73 [.int .i64 0, .string ⟨#[]⟩, .int .i64 0, .slice none 0 0] fun p6 h7 => (aSt h7 p6 v5 4).bind fun h8 => (aOff p6 3).bind fun v9 => (aLd1 h8 v9).bind fun v10 => (aLen v10).bind fun v11 => (asI .i64 v11).bind fun n12 => s59_0 hk C N N x0 x1 p6 v10 n12 0 h8 := by kernel_rfl
theorem s59_0_eq (hk : Hk (Value × AHeap)) (C : ACall) (N : Nat) (n1 : Nat) (x0 : Value) (x1 : Int) (x5 : Value) (x16 : Value) (x17 : Int) (x18 : Int) (h : AHeap) : s59_0 hk C N (n1 + 1) x0 x1 x5 x16 x17 x18 h =
    bif decide (x18 < x17) then (aIdx x16 (.int .i64 x18) 1).bind fun v13 => (aLd1 h v13).bind fun v14 => (asI .i64 v14).bind fun n15 => (C 103 [.int .i64 n15, .int .i64 0, .int .i64 (IntKind.i64.wrap (x1 - 1))] h).bind fun r16 => (asB r16.1).bind fun b17 => bif !b17 then some (.bool false, r16.2) else s59_0 hk C N n1 x0 x1 x5 x16 x17 (IntKind.i64.wrap (x18 + 1)) r16.2 else (aLdN h x5 4).bind fun v18 => (C 104 [v18] h).bind fun r19 => (asB r19.1).bind fun b20 => bif b20 then (aLdN r19.2 x5 4).bind fun v21 => (C 105 [x0, v21] r19.2).bind fun r22 => (asB r22.1).bind fun b23 => some (.bool b23, r22.2) else some (.bool false, r19.2) := by kernel_rfl
theorem c59 (d : Nat) (args : List Value) (h : AHeap) : call Try.prog Ms (d + 1) 59 args h = evFn hk0 Try.prog (call Try.prog Ms d) M59 d Try.f59 args h := by kernel_rfl

/-! 60 (*loop.example/g00101/impl.Tree).numbered -/
noncomputable def F60_0 (hk : Hk (Value × AHeap)) (C : ACall) (N : Nat) (n1 : Nat) : Nx (Value × AHeap) := evSt hk Try.prog C M60 N Try.f60 [1, 0, 1, 2, 6] [n1]
noncomputable def s60_0 (hk : Hk (Value × AHeap)) (C : ACall) (N : Nat) (n1 : Nat) (x0 : Value) (x1 : Int) (x2 : Int) (x16 : Value) (x17 : Int) (x18 : Int) (h : AHeap) := F60_0 hk C N n1 (⟨34, [(0, x0), (1, .int .i64 x1), (2, .int .i64 x2), (16, x16), (17, .int .i64 x17), (18, .int .i64 x18)]⟩) h
theorem e60 (hk : Hk (Value × AHeap)) (C : ACall) (N : Nat) (x0 : Value) (x1 : Int) (x2 : Int) (h : AHeap) : evFn hk Try.prog C M60 N Try.f60 [x0, .int .i64 x1, .int .i64 x2] h =
    (aNil x0).bind fun v1 => (aOff v1 0).bind fun v2 => (aLd1 h v2).bind fun v3 => (aIdx v3 (.int .i64 x1) 4).bind fun v4 => (aOff v4 3).bind fun v5 => (aLd1 h v5).bind fun v6 => (aLen v6).bind fun v7 => (asI .i64 v7).bind fun n8 => s60_0 hk C N N x0 x1 x2 v6 n8 0 h := by kernel_rfl
theorem s60_0_eq (hk : Hk (Value × AHeap)) (C : ACall) (N : Nat) (n1 : Nat) (x0 : Value) (x1 : Int) (x2 : Int) (x16 : Value) (x17 : Int) (x18 : Int) (h : AHeap) : s60_0 hk C N (n1 + 1) x0 x1 x2 x16 x17 x18 h =
    bif decide (x18 < x17) then (aIdx x16 (.int .i64 x18) 1).bind fun v9 => (aLd1 h v9).bind fun v10 => (asI .i64 v10).bind fun n11 => (C 60 [x0, .int .i64 n11, .int .i64 x2] h).bind fun r12 => (asI .i64 r12.1).bind fun n13 => bif decide (n13 < 0) then some (.int .i64 (-1), r12.2) else s60_0 hk C N n1 x0 x1 n13 x16 x17 (IntKind.i64.wrap (x18 + 1)) r12.2 else bif x1 != x2 then some (.int .i64 (-1), h) else some (.int .i64 (IntKind.i64.wrap (x2 + 1)), h) := by kernel_rfl
theorem c60 (d : Nat) (args : List Value) (h : AHeap) : call Try.prog Ms (d + 1) 60 args h = evFn hk0 Try.prog (call Try.prog Ms d) M60 d Try.f60 args h := by kernel_rfl
end Go.Proofs.Ytadmoackacickaa
set_option linter.unusedVariables false
namespace Go.Proofs.Ytadmoackacickaa
open Go Go.AH
/-! 61 loop.example/g00101/laws.eqKnotS -/
noncomputable def F61_0 (hk : Hk (Value × AHeap)) (C : ACall) (N : Nat) (n1 : Nat) : Nx (Value × AHeap) := evSt hk Try.prog C M61 N Try.f61 [1, 1, 0, 1, 2, 6] [n1]
noncomputable def s61_0 (hk : Hk (Value × AHeap)) (C : ACall) (N : Nat) (n1 : Nat) (x0 : Value) (x1 : Value) (x5 : Int) (h : AHeap) := F61_0 hk C N n1 (⟨27, [(0, x0), (1, x1), (5, .int .i64 x5)]⟩) h
theorem e61 (hk : Hk (Value × AHeap)) (C : ACall) (N : Nat) (x0 : Value) (x1 : Value) (h : AHeap) : evFn hk Try.prog C M61 N Try.f61 [x0, x1] h =
    (aLen x0).bind fun v1 => (asI .i64 v1).bind fun n2 => (aLen x1).bind fun v3 => (asI .i64 v3).bind fun n4 => bif n2 != n4 then some (.bool false, h) else s61_0 hk C N N x0 x1 0 h := by kernel_rfl
theorem s61_0_eq (hk : Hk (Value × AHeap)) (C : ACall) (N : Nat) (n1 : Nat) (x0 : Value) (x1 : Value) (x5 : Int) (h : AHeap) : s61_0 hk C N (n1 + 1) x0 x1 x5 h =
    (aLen x0).bind fun v5 => (asI .i64 v5).bind fun n6 => bif decide (x5 < n6) then (aIdx x0 (.int .i64 x5) 4).bind fun v7 => (aLdN h v7 4).bind fun v8 => (aIdx x1 (.int .i64 x5) 4).bind fun v9 => (aLdN h v9 4).bind fun v10 => (C 106 [v8, v10] h).bind fun r11 => (asB r11.1).bind fun b12 => bif !b12 then some (.bool false, r11.2) else s61_0 hk C N n1 x0 x1 (IntKind.i64.wrap (x5 + 1)) r11.2 else some (.bool true, h) := by kernel_rfl
theorem c61 (d : Nat) (args : List Value) (h : AHeap) : call Try.prog Ms (d + 1) 61 args h = evFn hk0 Try.prog (call Try.prog Ms d) M61 d Try.f61 args h := by kernel_rfl

/-! 97 loop.example/g00101/laws.szKnot -/
theorem e97 (hk : Hk (Value × AHeap)) (C : ACall) (N : Nat) (x0 : Value) (x1 : Int) (h : AHeap) : evFn hk Try.prog C M97 N Try.f97 [x0, .int .i64 x1] h =
    (aCells x0).bind fun c1 => aNew h 133 c1 fun p2 h3 => (aOff p2 1).bind fun v4 => (aLd1 h3 v4).bind fun v5 => (asS v5).bind fun t6 => bif decide ((IntKind.i64.wrap (x1 - (ByteArray.size t6 : Int))) < 0) then some (.int .i64 (-1), h3) else (aOff p2 3).bind fun v7 => (aLd1 h3 v7).bind fun v8 => (C 144 [v8, .int .i64 (IntKind.i64.wrap (x1 - (ByteArray.size t6 : Int)))] h3).bind fun r9 => (asI .i64 r9.1).bind fun n10 => bif decide (n10 < 0) then some (.int .i64 (-1), r9.2) else some (.int .i64 n10, r9.2) := by kernel_rfl
theorem c97 (d : Nat) (args : List Value) (h : AHeap) : call Try.prog Ms (d + 1) 97 args h = evFn hk0 Try.prog (call Try.prog Ms d) M97 d Try.f97 args h := by kernel_rfl

/-! 98 loop.example/g00101/spec.l1In -/
theorem e98 (hk : Hk (Value × AHeap)) (C : ACall) (N : Nat) (x0 : Int) (x1 : Int) (x2 : Int) (h : AHeap) : evFn hk Try.prog C M98 N Try.f98 [.int .i64 x0, .int .i64 x1, .int .i64 x2] h =
    bif decide (x0 ≥ x1) then some (.bool (decide (x0 ≤ x2)), h) else some (.bool false, h) := by kernel_rfl
theorem c98 (d : Nat) (args : List Value) (h : AHeap) : call Try.prog Ms (d + 1) 98 args h = evFn hk0 Try.prog (call Try.prog Ms d) M98 d Try.f98 args h := by kernel_rfl

/-! 99 loop.example/g00101/spec.l9Class -/
noncomputable def F99_0 (hk : Hk (Value × AHeap)) (C : ACall) (N : Nat) : Nx (Value × AHeap) := evSt hk Try.prog C M99 N Try.f99 [1, 0, 2, 1] []
noncomputable def s99_0 (hk : Hk (Value × AHeap)) (C : ACall) (N : Nat) (x0 : Int) (x3 : Bool) (h : AHeap) := hk 100002 (⟨30, [(0, .int .i64 x0), (3, .bool x3)]⟩) h (F99_0 hk C N)
noncomputable def F99_1 (hk : Hk (Value × AHeap)) (C : ACall) (N : Nat) : Nx (Value × AHeap) := evSt hk Try.prog C M99 N Try.f99 [1, 0, 2, 1, 5, 1] []
noncomputable def s99_1 (hk : Hk (Value × AHeap)) (C : ACall) (N : Nat) (x0 : Int) (x10 : Bool) (h : AHeap) := hk 100004 (⟨30, [(0, .int .i64 x0), (10, .bool x10)]⟩) h (F99_1 hk C N)
noncomputable def F99_2 (hk : Hk (Value × AHeap)) (C : ACall) (N : Nat) : Nx (Value × AHeap) := evSt hk Try.prog C M99 N Try.f99 [1, 0, 2, 1, 5, 1, 5, 1, 5, 1, 5, 1] []
noncomputable def s99_2 (hk : Hk (Value × AHeap)) (C : ACall) (N : Nat) (x23 : Bool) (h : AHeap) := hk 100010 (⟨30, [(23, .bool x23)]⟩) h (F99_2 hk C N)
theorem e99 (hk : Hk (Value × AHeap)) (C : ACall) (N : Nat) (x0 : Int) (h : AHeap) : evFn hk Try.prog C M99 N Try.f99 [.int .i64 x0] h =
    bif decide (x0 ≥ 1) then s99_0 hk C N x0 (decide (x0 ≤ 13)) h else s99_0 hk C N x0 false h := by kernel_rfl
theorem s99_0_j (C : ACall) (N : Nat) (x0 : Int) (x3 : Bool) (h : AHeap) : s99_0 hk0 C N x0 x3 h = F99_0 hk0 C N (⟨30, [(0, .int .i64 x0), (3, .bool x3)]⟩) h := by delta s99_0; exact hk0_app _ _ _ _
theorem s99_0_eq (hk : Hk (Value × AHeap)) (C : ACall) (N : Nat) (x0 : Int) (x3 : Bool) (h : AHeap) : F99_0 hk C N (⟨30, [(0, .int .i64 x0), (3, .bool x3)]⟩) h =
    bif x3 then some (.int .i64 1, h) else bif decide (x0 ≥ 14) then s99_1 hk C N x0 (decide (x0 ≤ 20)) h else s99_1 hk C N x0 false h := by kernel_rfl
theorem s99_1_j (C : ACall) (N : Nat) (x0 : Int) (x10 : Bool) (h : AHeap) : s99_1 hk0 C N x0 x10 h = F99_1 hk0 C N (⟨30, [(0, .int .i64 x0), (10, .bool x10)]⟩) h := by delta s99_1; exact hk0_app _ _ _ _
theorem s99_1_eq (hk : Hk (Value × AHeap)) (C : ACall) (N : Nat) (x0 : Int) (x10 : Bool) (h : AHeap) : F99_1 hk C N (⟨30, [(0, .int .i64 x0), (10, .bool x10)]⟩) h =
    bif x10 then some (.int .i64 2, h) else bif x0 == 21 then some (.int .i64 3, h) else bif x0 == 22 then some (.int .i64 4, h) else bif x0 == 23 then s99_2 hk C N true h else s99_2 hk C N (x0 == 24) h := by kernel_rfl
theorem s99_2_j (C : ACall) (N : Nat) (x23 : Bool) (h : AHeap) : s99_2 hk0 C N x23 h = F99_2 hk0 C N (⟨30, [(23, .bool x23)]⟩) h := by delta s99_2; exact hk0_app _ _ _ _
theorem s99_2_eq (hk : Hk (Value × AHeap)) (C : ACall) (N : Nat) (x23 : Bool) (h : AHeap) : F99_2 hk C N (⟨30, [(23, .bool x23)]⟩) h =
    bif x23 then some (.int .i64 5, h) else some (.int .i64 0, h) := by kernel_rfl
theorem c99 (d : Nat) (args : List Value) (h : AHeap) : call Try.prog Ms (d + 1) 99 args h = evFn hk0 Try.prog (call Try.prog Ms d) M99 d Try.f99 args h := by kernel_rfl

/-! 100 loop.example/g00101/spec.l9Shape -/
noncomputable def F100_0 (hk : Hk (Value × AHeap)) (C : ACall) (N : Nat) (n1 : Nat) : Nx (Value × AHeap) := evSt hk Try.prog C M100 N Try.f100 [1, 1, 1, 1, 0, 1, 2, 1, 4, 0, 2, 6] [n1]
noncomputable def s100_0 (hk : Hk (Value × AHeap)) (C : ACall) (N : Nat) (n1 : Nat) (x4 : Int) (x5 : Value) (x6 : Int) (h : AHeap) := F100_0 hk C N n1 (⟨88, [(4, .int .i64 x4), (5, x5), (6, .int .i64 x6)]⟩) h
noncomputable def F100_4 (hk : Hk (Value × AHeap)) (C : ACall) (N : Nat) : Nx (Value × AHeap) := evSt hk Try.prog C M100 N Try.f100 [1, 1, 1, 1, 1] []
noncomputable def s100_4 (hk : Hk (Value × AHeap)) (C : ACall) (N : Nat) (x4 : Int) (x5 : Value) (x6 : Int) (h : AHeap) := hk 39 (⟨88, [(4, .int .i64 x4), (5, x5), (6, .int .i64 x6)]⟩) h (F100_4 hk C N)
noncomputable def F100_1 (hk : Hk (Value × AHeap)) (C : ACall) (N : Nat) : Nx (Value × AHeap) := evSt hk Try.prog C M100 N Try.f100 [1, 1, 1, 1, 0, 1, 2, 1, 5, 1, 5, 1] []
noncomputable def s100_1 (hk : Hk (Value × AHeap)) (C : ACall) (N : Nat) (x4 : Int) (x5 : Value) (x6 : Int) (x13 : Int) (x29 : Bool) (h : AHeap) := hk 100016 (⟨88, [(4, .int .i64 x4), (5, x5), (6, .int .i64 x6), (13, .int .i64 x13), (29, .bool x29)]⟩) h (F100_1 hk C N)
noncomputable def F100_5 (hk : Hk (Value × AHeap)) (C : ACall) (N : Nat) (n1 : Nat) : Nx (Value × AHeap) := evSt hk Try.prog C M100 N Try.f100 [1, 1, 1, 1, 1, 0, 1, 2, 6] [n1]
noncomputable def s100_5 (hk : Hk (Value × AHeap)) (C : ACall) (N : Nat) (n1 : Nat) (x4 : Int) (x5 : Value) (x6 : Int) (x7 : Int) (h : AHeap) := F100_5 hk C N n1 (⟨88, [(4, .int .i64 x4), (5, x5), (6, .int .i64 x6), (7, .int .i64 x7)]⟩) h
noncomputable def F100_2 (hk : Hk (Value × AHeap)) (C : ACall) (N : Nat) (n1 : Nat) : Nx (Value × AHeap) := evSt hk Try.prog C M100 N Try.f100 [1, 1, 1, 1, 0, 1, 2, 1, 5, 1, 5, 1, 5, 1, 4, 1, 2, 6] [n1]
noncomputable def s100_2 (hk : Hk (Value × AHeap)) (C : ACall) (N : Nat) (n1 : Nat) (x4 : Int) (x5 : Value) (x6 : Int) (h : AHeap) := F100_2 hk C N n1 (⟨88, [(4, .int .i64 x4), (5, x5), (6, .int .i64 x6)]⟩) h
noncomputable def F100_3 (hk : Hk (Value × AHeap)) (C : ACall) (N : Nat) : Nx (Value × AHeap) := evSt hk Try.prog C M100 N Try.f100 [1, 1, 1, 1, 0, 1, 2, 1, 5, 1, 5, 1, 5, 1, 5, 1] []
noncomputable def s100_3 (hk : Hk (Value × AHeap)) (C : ACall) (N : Nat) (x4 : Int) (x5 : Value) (x6 : Int) (x13 : Int) (x46 : Bool) (h : AHeap) := hk 100026 (⟨88, [(4, .int .i64 x4), (5, x5), (6, .int .i64 x6), (13, .int .i64 x13), (46, .bool x46)]⟩) h (F100_3 hk C N)
noncomputable def F100_6 (hk : Hk (Value × AHeap)) (C : ACall) (N : Nat) (n1 : Nat) : Nx (Value × AHeap) := evSt hk Try.prog C M100 N Try.f100 [1, 1, 1, 1, 1, 0, 1, 2, 3, 1] [n1]
noncomputable def s100_6 (hk : Hk (Value × AHeap)) (C : ACall) (N : Nat) (n1 : Nat) (x4 : Int) (x5 : Value) (x6 : Int) (x7 : Int) (h : AHeap) := hk 42 (⟨88, [(4, .int .i64 x4), (5, x5), (6, .int .i64 x6), (7, .int .i64 x7)]⟩) h (F100_6 hk C N n1)
theorem e100 (hk : Hk (Value × AHeap)) (C : ACall) (N : Nat) (x0 : Value) (h : AHeap) : evFn hk Try.prog C M100 N Try.f100 [x0] h =
    (aCells x0).bind fun c1 => aNew h 73 c1 fun p2 h3 => (aOff p2 3).bind fun v4 => (aLd1 h3 v4).bind fun v5 => (aLen v5).bind fun v6 => (asI .i64 v6).bind fun n7 => aNewS h3 3 [] 0 fun p8 h9 => (aOff p2 0).bind fun v10 => (aLd1 h9 v10).bind fun v11 => (asI .i64 v11).bind fun n12 => bif n12 == 6 then s100_0 hk C N N n7 p8 0 h9 else bif n12 == 7 then s100_4 hk C N n7 p8 5 h9 else bif n12 == 8 then s100_1 hk C N n7 p8 0 n12 (n12 == 8) h9 else bif n12 == 10 then s100_1 hk C N n7 p8 0 n12 (n12 == 10) h9 else bif n12 == 12 then s100_1 hk C N n7 p8 0 n12 (n12 == 12) h9 else bif n12 == 13 then s100_1 hk C N n7 p8 0 n12 (n12 == 13) h9 else s100_1 hk C N n7 p8 0 n12 (n12 == 24) h9 := by kernel_rfl
theorem s100_0_eq (hk : Hk (Value × AHeap)) (C : ACall) (N : Nat) (n1 : Nat) (x4 : Int) (x5 : Value) (x6 : Int) (h : AHeap) : s100_0 hk C N (n1 + 1) x4 x5 x6 h =
    (aLen x5).bind fun v13 => (asI .i64 v13).bind fun n14 => bif decide ((IntKind.i64.wrap (n14 + 1)) < x4) then aNewS h 3 [.int .i64 4] 1 fun p15 h16 => (aApp h16 3 1 8 x5 p15).bind fun r17 => s100_0 hk C N n1 x4 r17.1 x6 r17.2 else aNewS h 3 [.int .i64 3] 1 fun p18 h19 => (aApp h19 3 1 8 x5 p18).bind fun r20 => s100_4 hk C N x4 r20.1 x6 r20.2 := by kernel_rfl
theorem s100_4_j (C : ACall) (N : Nat) (x4 : Int) (x5 : Value) (x6 : Int) (h : AHeap) : s100_4 hk0 C N x4 x5 x6 h = F100_4 hk0 C N (⟨88, [(4, .int .i64 x4), (5, x5), (6, .int .i64 x6)]⟩) h := by delta s100_4; exact hk0_app _ _ _ _
theorem s100_4_eq (hk : Hk (Value × AHeap)) (C : ACall) (N : Nat) (x4 : Int) (x5 : Value) (x6 : Int) (h : AHeap) : F100_4 hk C N (⟨88, [(4, .int .i64 x4), (5, x5), (6, .int .i64 x6)]⟩) h =
    s100_5 hk C N N x4 x5 x6 0 h := by kernel_rfl
theorem s100_1_j (C : ACall) (N : Nat) (x4 : Int) (x5 : Value) (x6 : Int) (x13 : Int) (x29 : Bool) (h : AHeap) : s100_1 hk0 C N x4 x5 x6 x13 x29 h = F100_1 hk0 C N (⟨88, [(4, .int .i64 x4), (5, x5), (6, .int .i64 x6), (13, .int .i64 x13), (29, .bool x29)]⟩) h := by delta s100_1; exact hk0_app _ _ _ _
theorem s100_1_eq (hk : Hk (Value × AHeap)) (C : ACall) (N : Nat) (x4 : Int) (x5 : Value) (x6 : Int) (x13 : Int) (x29 : Bool) (h : AHeap) : F100_1 hk C N (⟨88, [(4, .int .i64 x4), (5, x5), (6, .int .i64 x6), (13, .int .i64 x13), (29, .bool x29)]⟩) h =
    bif x29 then aNewS h 3 [.int .i64 1, .int .i64 1] 2 fun p21 h22 => s100_4 hk C N x4 p21 x6 h22 else bif x13 == 9 then aNewS h 3 [.int .i64 1] 1 fun p23 h24 => s100_2 hk C N N x4 p23 x6 h24 else bif x13 == 11 then s100_3 hk C N x4 x5 x6 x13 (x13 == 11) h else bif x13 == 14 then s100_3 hk C N x4 x5 x6 x13 (x13 == 14) h else bif x13 == 15 then s100_3 hk C N x4 x5 x6 x13 (x13 == 15) h else bif x13 == 19 then s100_3 hk C N x4 x5 x6 x13 (x13 == 19) h else s100_3 hk C N x4 x5 x6 x13 (x13 == 23) h := by kernel_rfl
theorem s100_5_eq (hk : Hk (Value × AHeap)) (C : ACall) (N : Nat) (n1 : Nat) (x4 : Int) (x5 : Value) (x6 : Int) (x7 : Int) (h : AHeap) : s100_5 hk C N (n1 + 1) x4 x5 x6 x7 h =
    bif decide (x7 < x4) then bif x6 != 0 then s100_6 hk C N n1 x4 x5 x6 x7 h else (aLen x5).bind fun v25 => (asI .i64 v25).bind fun n26 => bif List.all [x5, .bool (n26 == x4)] isS2 then some (.tuple (List.toArray [x5, .bool (n26 == x4)]), h) else none else (aLen x5).bind fun v27 => (asI .i64 v27).bind fun n28 => bif List.all [x5, .bool (n28 == x4)] isS2 then some (.tuple (List.toArray [x5, .bool (n28 == x4)]), h) else none := by kernel_rfl
theorem s100_2_eq (hk : Hk (Value × AHeap)) (C : ACall) (N : Nat) (n1 : Nat) (x4 : Int) (x5 : Value) (x6 : Int) (h : AHeap) : s100_2 hk C N (n1 + 1) x4 x5 x6 h =
    (aLen x5).bind fun v29 => (asI .i64 v29).bind fun n30 => bif decide (n30 < x4) then aNewS h 3 [.int .i64 1] 1 fun p31 h32 => (aApp h32 3 1 8 x5 p31).bind fun r33 => s100_2 hk C N n1 x4 r33.1 x6 r33.2 else s100_4 hk C N x4 x5 x6 h := by kernel_rfl
theorem s100_3_j (C : ACall) (N : Nat) (x4 : Int) (x5 : Value) (x6 : Int) (x13 : Int) (x46 : Bool) (h : AHeap) : s100_3 hk0 C N x4 x5 x6 x13 x46 h = F100_3 hk0 C N (⟨88, [(4, .int .i64 x4), (5, x5), (6, .int .i64 x6), (13, .int .i64 x13), (46, .bool x46)]⟩) h := by delta s100_3; exact hk0_app _ _ _ _
theorem s100_3_eq (hk : Hk (Value × AHeap)) (C : ACall) (N : Nat) (x4 : Int) (x5 : Value) (x6 : Int) (x13 : Int) (x46 : Bool) (h : AHeap) : F100_3 hk C N (⟨88, [(4, .int .i64 x4), (5, x5), (6, .int .i64 x6), (13, .int .i64 x13), (46, .bool x46)]⟩) h =
    bif x46 then aNewS h 3 [.int .i64 1] 1 fun p34 h35 => s100_4 hk C N x4 p34 x6 h35 else bif x13 == 16 then aNewS h 3 [.int .i64 1, .int .i64 1, .int .i64 1] 3 fun p36 h37 => s100_4 hk C N x4 p36 x6 h37 else bif x13 == 17 then aNewS h 3 [.int .i64 1, .int .i64 3] 2 fun p38 h39 => bif x4 == 3 then aNewS h39 3 [.int .i64 1, .int .i64 3, .int .i64 3] 3 fun p40 h41 => s100_4 hk C N x4 p40 x6 h41 else s100_4 hk C N x4 p38 x6 h39 else bif x13 == 18 then aNewS h 3 [.int .i64 1, .int .i64 3] 2 fun p42 h43 => s100_4 hk C N x4 p42 x6 h43 else bif x13 == 20 then aNewS h 3 [.int .i64 6] 1 fun p44 h45 => s100_4 hk C N x4 p44 x6 h45 else bif x13 == 21 then s100_4 hk C N x4 x5 2 h else s100_4 hk C N x4 x5 x6 h := by kernel_rfl
theorem s100_6_j (C : ACall) (N : Nat) (n1 : Nat) (x4 : Int) (x5 : Value) (x6 : Int) (x7 : Int) (h : AHeap) : s100_6 hk0 C N n1 x4 x5 x6 x7 h = F100_6 hk0 C N n1 (⟨88, [(4, .int .i64 x4), (5, x5), (6, .int .i64 x6), (7, .int .i64 x7)]⟩) h := by delta s100_6; exact hk0_app _ _ _ _
theorem s100_6_eq (hk : Hk (Value × AHeap)) (C : ACall) (N : Nat) (n1 : Nat) (x4 : Int) (x5 : Value) (x6 : Int) (x7 : Int) (h : AHeap) : F100_6 hk C N n1 (⟨88, [(4, .int .i64 x4), (5, x5), (6, .int .i64 x6), (7, .int .i64 x7)]⟩) h =
    aNewS h 3 [.int .i64 x6] 1 fun p46 h47 => (aApp h47 3 1 8 x5 p46).bind fun r48 => s100_5 hk C N n1 x4 r48.1 x6 (IntKind.i64.wrap (x7 + 1)) r48.2 := by kernel_rfl
theorem c100 (d : Nat) (args : List Value) (h : AHeap) : call Try.prog Ms (d + 1) 100 args h = evFn hk0 Try.prog (call Try.prog Ms d) M100 d Try.f100 args h := by kernel_rfl

/-! 101 loop.example/g00101/spec.l9Has -/
noncomputable def F101_0 (hk : Hk (Value × AHeap)) (C : ACall) (N : Nat) : Nx (Value × AHeap) := evSt hk Try.prog C M101 N Try.f101 [1, 0, 1, 2, 1] []
noncomputable def s101_0 (hk : Hk (Value × AHeap)) (C : ACall) (N : Nat) (x1 : Value) (x5 : Int) (x6 : Bool) (h : AHeap) := hk 100006 (⟨76, [(1, x1), (5, .int .i64 x5), (6, .bool x6)]⟩) h (F101_0 hk C N)
noncomputable def F101_1 (hk : Hk (Value × AHeap)) (C : ACall) (N : Nat) (n1 : Nat) : Nx (Value × AHeap) := evSt hk Try.prog C M101 N Try.f101 [1, 0, 1, 2, 1, 5, 1, 4, 0, 1, 2, 6] [n1]
noncomputable def s101_1 (hk : Hk (Value × AHeap)) (C : ACall) (N : Nat) (n1 : Nat) (x1 : Value) (x3 : Int) (h : AHeap) := F101_1 hk C N n1 (⟨76, [(1, x1), (3, .int .i64 x3)]⟩) h
noncomputable def F101_2 (hk : Hk (Value × AHeap)) (C : ACall) (N : Nat) : Nx (Value × AHeap) := evSt hk Try.prog C M101 N Try.f101 [1, 1] []
noncomputable def s101_2 (hk : Hk (Value × AHeap)) (C : ACall) (N : Nat) (x1 : Value) (h : AHeap) := hk 14 (⟨76, [(1, x1)]⟩) h (F101_2 hk C N)
theorem e101 (hk : Hk (Value × AHeap)) (C : ACall) (N : Nat) (x0 : Value) (h : AHeap) : evFn hk Try.prog C M101 N Try.f101 [x0] h =
    (aCells x0).bind fun c1 => aNew h 73 c1 fun p2 h3 => (aOff p2 0).bind fun v4 => (aLd1 h3 v4).bind fun v5 => (asI .i64 v5).bind fun n6 => bif n6 == 5 then s101_0 hk C N p2 n6 (n6 == 5) h3 else bif n6 == 14 then s101_0 hk C N p2 n6 (n6 == 14) h3 else bif n6 == 15 then s101_0 hk C N p2 n6 (n6 == 15) h3 else s101_0 hk C N p2 n6 (n6 == 22) h3 := by kernel_rfl
theorem s101_0_j (C : ACall) (N : Nat) (x1 : Value) (x5 : Int) (x6 : Bool) (h : AHeap) : s101_0 hk0 C N x1 x5 x6 h = F101_0 hk0 C N (⟨76, [(1, x1), (5, .int .i64 x5), (6, .bool x6)]⟩) h := by delta s101_0; exact hk0_app _ _ _ _
theorem s101_0_eq (hk : Hk (Value × AHeap)) (C : ACall) (N : Nat) (x1 : Value) (x5 : Int) (x6 : Bool) (h : AHeap) : F101_0 hk C N (⟨76, [(1, x1), (5, .int .i64 x5), (6, .bool x6)]⟩) h =
    bif x6 then (aOff x1 1).bind fun v7 => (aLd1 h v7).bind fun v8 => (asS v8).bind fun t9 => (C 145 [.string t9] h).bind fun r10 => (asB r10.1).bind fun b11 => bif b11 then (aOff x1 2).bind fun v12 => (aLd1 r10.2 v12).bind fun v13 => (asI .i64 v13).bind fun n14 => some (.bool (n14 == 0), r10.2) else some (.bool false, r10.2) else bif x5 == 4 then s101_1 hk C N N x1 0 h else s101_2 hk C N x1 h := by kernel_rfl
theorem s101_1_eq (hk : Hk (Value × AHeap)) (C : ACall) (N : Nat) (n1 : Nat) (x1 : Value) (x3 : Int) (h : AHeap) : s101_1 hk C N (n1 + 1) x1 x3 h =
    (aOff x1 1).bind fun v15 => (aLd1 h v15).bind fun v16 => (asS v16).bind fun t17 => bif decide (x3 < (ByteArray.size t17 : Int)) then (aOff x1 1).bind fun v18 => (aLd1 h v18).bind fun v19 => (asS v19).bind fun t20 => (aStrIx (.string t20) (.int .i64 x3)).bind fun v21 => (asI .u8 v21).bind fun n22 => (C 90 [.int .u8 n22] h).bind fun r23 => (asB r23.1).bind fun b24 => bif !b24 then some (.bool false, r23.2) else s101_1 hk C N n1 x1 (IntKind.i64.wrap (x3 + 1)) r23.2 else (aOff x1 1).bind fun v25 => (aLd1 h v25).bind fun v26 => (asS v26).bind fun t27 => bif decide ((ByteArray.size t27 : Int) ≤ 160) then (aOff x1 2).bind fun v28 => (aLd1 h v28).bind fun v29 => (asI .i64 v29).bind fun n30 => some (.bool (n30 == 0), h) else some (.bool false, h) := by kernel_rfl
theorem s101_2_j (C : ACall) (N : Nat) (x1 : Value) (h : AHeap) : s101_2 hk0 C N x1 h = F101_2 hk0 C N (⟨76, [(1, x1)]⟩) h := by delta s101_2; exact hk0_app _ _ _ _
theorem s101_2_eq (hk : Hk (Value × AHeap)) (C : ACall) (N : Nat) (x1 : Value) (h : AHeap) : F101_2 hk C N (⟨76, [(1, x1)]⟩) h =
    (aOff x1 1).bind fun v31 => (aLd1 h v31).bind fun v32 => (asS v32).bind fun t33 => bif !(t33.toList == (⟨#[]⟩ : ByteArray).toList) then some (.bool false, h) else (aOff x1 0).bind fun v34 => (aLd1 h v34).bind fun v35 => (asI .i64 v35).bind fun n36 => bif n36 == 2 then (aOff x1 2).bind fun v37 => (aLd1 h v37).bind fun v38 => (asI .i64 v38).bind fun n39 => bif n39 == 0 then some (.bool true, h) else (aOff x1 2).bind fun v40 => (aLd1 h v40).bind fun v41 => (asI .i64 v41).bind fun n42 => some (.bool (n42 == 1), h) else bif n36 == 3 then (aOff x1 2).bind fun v43 => (aLd1 h v43).bind fun v44 => (asI .i64 v44).bind fun n45 => (C 98 [.int .i64 n45, .int .i64 0, .int .i64 999999999999999] h).bind fun r46 => (asB r46.1).bind fun b47 => some (.bool b47, r46.2) else bif n36 == 10 then (aOff x1 2).bind fun v48 => (aLd1 h v48).bind fun v49 => (asI .i64 v49).bind fun n50 => (C 98 [.int .i64 n50, .int .i64 1, .int .i64 10] h).bind fun r51 => (asB r51.1).bind fun b52 => some (.bool b52, r51.2) else bif n36 == 11 then (aOff x1 2).bind fun v53 => (aLd1 h v53).bind fun v54 => (asI .i64 v54).bind fun n55 => (C 98 [.int .i64 n55, .int .i64 1, .int .i64 3] h).bind fun r56 => (asB r56.1).bind fun b57 => some (.bool b57, r56.2) else (aOff x1 2).bind fun v58 => (aLd1 h v58).bind fun v59 => (asI .i64 v59).bind fun n60 => some (.bool (n60 == 0), h) := by kernel_rfl
theorem c101 (d : Nat) (args : List Value) (h : AHeap) : call Try.prog Ms (d + 1) 101 args h = evFn hk0 Try.prog (call Try.prog Ms d) M101 d Try.f101 args h := by kernel_rfl

/-! 102 loop.example/g00101/laws.toKnot -/
theorem e102 (hk : Hk (Value × AHeap)) (C : ACall) (N : Nat) (x0 : Value) (h : AHeap) : evFn hk Try.prog C M102 N Try.f102 [x0] h =
    (aCells x0).bind fun c1 => aNew h 133 c1 fun p2 h3 => aNew h3 73 [.int .i64 0, .string ⟨#[]⟩, .int .i64 0, .slice none 0 0] fun p4 h5 => aNew h5 73 [.int .i64 0, .string ⟨#[]⟩, .int .i64 0, .slice none 0 0] fun p6 h7 => (aOff p2 0).bind fun v8 => (aLd1 h7 v8).bind fun v9 => (asI .i64 v9).bind fun n10 => (aOff p6 0).bind fun v11 => (aSt h7 v11 (.int .i64 n10) 1).bind fun h12 => (aOff p2 1).bind fun v13 => (aLd1 h12 v13).bind fun v14 => (asS v14).bind fun t15 => (aOff p6 1).bind fun v16 => (aSt h12 v16 (.string t15) 1).bind fun h17 => (aOff p2 2).bind fun v18 => (aLd1 h17 v18).bind fun v19 => (asI .i64 v19).bind fun n20 => (aOff p6 2).bind fun v21 => (aSt h17 v21 (.int .i64 n20) 1).bind fun h22 => (aOff p2 3).bind fun v23 => (aLd1 h22 v23).bind fun v24 => (C 146 [v24] h22).bind fun r25 => (aOff p6 3).bind fun v26 => (aSt r25.2 v26 r25.1 1).bind fun h27 => (aLdN h27 p6 4).bind fun v28 => (aSt h27 p4 v28 4).bind fun h29 => (aLdN h29 p4 4).bind fun v30 => some (v30, h29) := by kernel_rfl
theorem c102 (d : Nat) (args : List Value) (h : AHeap) : call Try.prog Ms (d + 1) 102 args h = evFn hk0 Try.prog (call Try.prog Ms d) M102 d Try.f102 args h := by kernel_rfl

/-! 103 loop.example/g00101/impl.within -/
theorem e103 (hk : Hk (Value × AHeap)) (C : ACall) (N : Nat) (x0 : Int) (x1 : Int) (x2 : Int) (h : AHeap) : evFn hk Try.prog C M103 N Try.f103 [.int .i64 x0, .int .i64 x1, .int .i64 x2] h =
    bif decide (x0 ≥ x1) then some (.bool (decide (x0 ≤ x2)), h) else some (.bool false, h) := by kernel_rfl
theorem c103 (d : Nat) (args : List Value) (h : AHeap) : call Try.prog Ms (d + 1) 103 args h = evFn hk0 Try.prog (call Try.prog Ms d) M103 d Try.f103 args h := by kernel_rfl

/-! 104 loop.example/g00101/impl.wordsOk -/
noncomputable def F104_0 (hk : Hk (Value × AHeap)) (C : ACall) (N : Nat) : Nx (Value × AHeap) := evSt hk Try.prog C M104 N Try.f104 [1, 0, 1, 2, 1] []
noncomputable def s104_0 (hk : Hk (Value × AHeap)) (C : ACall) (N : Nat) (x1 : Value) (x4 : Int) (x5 : Bool) (h : AHeap) := hk 100006 (⟨86, [(1, x1), (4, .int .i64 x4), (5, .bool x5)]⟩) h (F104_0 hk C N)
noncomputable def F104_1 (hk : Hk (Value × AHeap)) (C : ACall) (N : Nat) : Nx (Value × AHeap) := evSt hk Try.prog C M104 N Try.f104 [1, 1] []
noncomputable def s104_1 (hk : Hk (Value × AHeap)) (C : ACall) (N : Nat) (x1 : Value) (h : AHeap) := hk 17 (⟨86, [(1, x1)]⟩) h (F104_1 hk C N)
theorem e104 (hk : Hk (Value × AHeap)) (C : ACall) (N : Nat) (x0 : Value) (h : AHeap) : evFn hk Try.prog C M104 N Try.f104 [x0] h =
    (aCells x0).bind fun c1 => aNew h 73 c1 fun p2 h3 => (aOff p2 0).bind fun v4 => (aLd1 h3 v4).bind fun v5 => (asI .i64 v5).bind fun n6 => bif n6 == 5 then s104_0 hk C N p2 n6 (n6 == 5) h3 else bif n6 == 14 then s104_0 hk C N p2 n6 (n6 == 14) h3 else bif n6 == 15 then s104_0 hk C N p2 n6 (n6 == 15) h3 else s104_0 hk C N p2 n6 (n6 == 22) h3 := by kernel_rfl
theorem s104_0_j (C : ACall) (N : Nat) (x1 : Value) (x4 : Int) (x5 : Bool) (h : AHeap) : s104_0 hk0 C N x1 x4 x5 h = F104_0 hk0 C N (⟨86, [(1, x1), (4, .int .i64 x4), (5, .bool x5)]⟩) h := by delta s104_0; exact hk0_app _ _ _ _
theorem s104_0_eq (hk : Hk (Value × AHeap)) (C : ACall) (N : Nat) (x1 : Value) (x4 : Int) (x5 : Bool) (h : AHeap) : F104_0 hk C N (⟨86, [(1, x1), (4, .int .i64 x4), (5, .bool x5)]⟩) h =
    bif x5 then (aOff x1 1).bind fun v7 => (aLd1 h v7).bind fun v8 => (asS v8).bind fun t9 => (C 147 [.string t9] h).bind fun r10 => (asB r10.1).bind fun b11 => bif b11 then (aOff x1 2).bind fun v12 => (aLd1 r10.2 v12).bind fun v13 => (asI .i64 v13).bind fun n14 => some (.bool (n14 == 0), r10.2) else some (.bool false, r10.2) else bif x4 == 4 then (aOff x1 1).bind fun v15 => (aLd1 h v15).bind fun v16 => (asS v16).bind fun t17 => bif decide ((ByteArray.size t17 : Int) ≤ 160) then (aOff x1 1).bind fun v18 => (aLd1 h v18).bind fun v19 => (asS v19).bind fun t20 => (aOff x1 1).bind fun v21 => (aLd1 h v21).bind fun v22 => (asS v22).bind fun t23 => (C 51 [.string t20, .int .i64 0, (.func (.func 96) #[] #[])] h).bind fun r24 => (asI .i64 r24.1).bind fun n25 => ((aLd1 r24.2 v21).bind fun v26 => (asS v26).bind fun t27 => some (vbeq (.string t27) (.string t23))).bind fun b28 => bif b28 then bif n25 == (ByteArray.size t23 : Int) then (aOff x1 2).bind fun v29 => (aLd1 r24.2 v29).bind fun v30 => (asI .i64 v30).bind fun n31 => some (.bool (n31 == 0), r24.2) else some (.bool false, r24.2) else none else some (.bool false, h) else bif x4 == 2 then (aOff x1 1).bind fun v32 => (aLd1 h v32).bind fun v33 => (asS v33).bind fun t34 => bif t34.toList == (⟨#[]⟩ : ByteArray).toList then (aOff x1 2).bind fun v35 => (aLd1 h v35).bind fun v36 => (asI .i64 v36).bind fun n37 => (C 103 [.int .i64 n37, .int .i64 0, .int .i64 1] h).bind fun r38 => (asB r38.1).bind fun b39 => some (.bool b39, r38.2) else some (.bool false, h) else bif x4 == 3 then (aOff x1 1).bind fun v40 => (aLd1 h v40).bind fun v41 => (asS v41).bind fun t42 => bif t42.toList == (⟨#[]⟩ : ByteArray).toList then (aOff x1 2).bind fun v43 => (aLd1 h v43).bind fun v44 => (asI .i64 v44).bind fun n45 => (C 103 [.int .i64 n45, .int .i64 0, .int .i64 999999999999999] h).bind fun r46 => (asB r46.1).bind fun b47 => some (.bool b47, r46.2) else some (.bool false, h) else bif x4 == 10 then (aOff x1 1).bind fun v48 => (aLd1 h v48).bind fun v49 => (asS v49).bind fun t50 => bif t50.toList == (⟨#[]⟩ : ByteArray).toList then (aOff x1 2).bind fun v51 => (aLd1 h v51).bind fun v52 => (asI .i64 v52).bind fun n53 => (C 103 [.int .i64 n53, .int .i64 1, .int .i64 10] h).bind fun r54 => (asB r54.1).bind fun b55 => some (.bool b55, r54.2) else some (.bool false, h) else bif x4 == 11 then (aOff x1 1).bind fun v56 => (aLd1 h v56).bind fun v57 => (asS v57).bind fun t58 => bif t58.toList == (⟨#[]⟩ : ByteArray).toList then (aOff x1 2).bind fun v59 => (aLd1 h v59).bind fun v60 => (asI .i64 v60).bind fun n61 => (C 103 [.int .i64 n61, .int .i64 1, .int .i64 3] h).bind fun r62 => (asB r62.1).bind fun b63 => some (.bool b63, r62.2) else some (.bool false, h) else s104_1 hk C N x1 h := by kernel_rfl
theorem s104_1_j (C : ACall) (N : Nat) (x1 : Value) (h : AHeap) : s104_1 hk0 C N x1 h = F104_1 hk0 C N (⟨86, [(1, x1)]⟩) h := by delta s104_1; exact hk0_app _ _ _ _
theorem s104_1_eq (hk : Hk (Value × AHeap)) (C : ACall) (N : Nat) (x1 : Value) (h : AHeap) : F104_1 hk C N (⟨86, [(1, x1)]⟩) h =
    (aOff x1 1).bind fun v64 => (aLd1 h v64).bind fun v65 => (asS v65).bind fun t66 => bif t66.toList == (⟨#[]⟩ : ByteArray).toList then (aOff x1 2).bind fun v67 => (aLd1 h v67).bind fun v68 => (asI .i64 v68).bind fun n69 => some (.bool (n69 == 0), h) else some (.bool false, h) := by kernel_rfl
theorem c104 (d : Nat) (args : List Value) (h : AHeap) : call Try.prog Ms (d + 1) 104 args h = evFn hk0 Try.prog (call Try.prog Ms d) M104 d Try.f104 args h := by kernel_rfl

/-! 105 (*loop.example/g00101/impl.Tree).kidsOk -/
noncomputable def F105_0 (hk : Hk (Value × AHeap)) (C : ACall) (N : Nat) : Nx (Value × AHeap) := evSt hk Try.prog C M105 N Try.f105 [1, 1, 0, 1, 2, 1] []
noncomputable def s105_0 (hk : Hk (Value × AHeap)) (C : ACall) (N : Nat) (x0 : Value) (x3 : Value) (x5 : Value) (x9 : Int) (x10 : Bool) (h : AHeap) := hk 100009 (⟨132, [(0, x0), (3, x3), (5, x5), (9, .int .i64 x9), (10, .bool x10)]⟩) h (F105_0 hk C N)
noncomputable def F105_1 (hk : Hk (Value × AHeap)) (C : ACall) (N : Nat) : Nx (Value × AHeap) := evSt hk Try.prog C M105 N Try.f105 [1, 1, 0, 1, 2, 1, 5, 1, 5, 1, 5, 1] []
noncomputable def s105_1 (hk : Hk (Value × AHeap)) (C : ACall) (N : Nat) (x0 : Value) (x3 : Value) (x5 : Value) (x9 : Int) (x59 : Bool) (h : AHeap) := hk 100020 (⟨132, [(0, x0), (3, x3), (5, x5), (9, .int .i64 x9), (59, .bool x59)]⟩) h (F105_1 hk C N)
noncomputable def F105_2 (hk : Hk (Value × AHeap)) (C : ACall) (N : Nat) : Nx (Value × AHeap) := evSt hk Try.prog C M105 N Try.f105 [1, 1, 0, 1, 2, 1, 5, 1, 5, 1, 5, 1, 5, 1, 5, 1] []
noncomputable def s105_2 (hk : Hk (Value × AHeap)) (C : ACall) (N : Nat) (x0 : Value) (x3 : Value) (x5 : Value) (x9 : Int) (x81 : Bool) (h : AHeap) := hk 100028 (⟨132, [(0, x0), (3, x3), (5, x5), (9, .int .i64 x9), (81, .bool x81)]⟩) h (F105_2 hk C N)
theorem e105 (hk : Hk (Value × AHeap)) (C : ACall) (N : Nat) (x0 : Value) (x1 : Value) (h : AHeap) : evFn hk Try.prog C M105 N Try.f105 [x0, x1] h =
    (aCells x1).bind fun c1 => aNew h 73 c1 fun p2 h3 => (C 148 [.int .i64 21] h3).bind fun r4 => (aOff p2 0).bind fun v5 => (aLd1 r4.2 v5).bind fun v6 => (asI .i64 v6).bind fun n7 => bif n7 == 1 then s105_0 hk C N x0 p2 r4.1 n7 (n7 == 1) r4.2 else bif n7 == 2 then s105_0 hk C N x0 p2 r4.1 n7 (n7 == 2) r4.2 else bif n7 == 3 then s105_0 hk C N x0 p2 r4.1 n7 (n7 == 3) r4.2 else bif n7 == 4 then s105_0 hk C N x0 p2 r4.1 n7 (n7 == 4) r4.2 else bif n7 == 5 then s105_0 hk C N x0 p2 r4.1 n7 (n7 == 5) r4.2 else s105_0 hk C N x0 p2 r4.1 n7 (n7 == 22) r4.2 := by kernel_rfl
theorem s105_0_j (C : ACall) (N : Nat) (x0 : Value) (x3 : Value) (x5 : Value) (x9 : Int) (x10 : Bool) (h : AHeap) : s105_0 hk0 C N x0 x3 x5 x9 x10 h = F105_0 hk0 C N (⟨132, [(0, x0), (3, x3), (5, x5), (9, .int .i64 x9), (10, .bool x10)]⟩) h := by delta s105_0; exact hk0_app _ _ _ _
theorem s105_0_eq (hk : Hk (Value × AHeap)) (C : ACall) (N : Nat) (x0 : Value) (x3 : Value) (x5 : Value) (x9 : Int) (x10 : Bool) (h : AHeap) : F105_0 hk C N (⟨132, [(0, x0), (3, x3), (5, x5), (9, .int .i64 x9), (10, .bool x10)]⟩) h =
    bif x10 then (aOff x3 3).bind fun v8 => (aLd1 h v8).bind fun v9 => (aLen v9).bind fun v10 => (asI .i64 v10).bind fun n11 => some (.bool (n11 == 0), h) else bif x9 == 6 then (aOff x3 3).bind fun v12 => (aLd1 h v12).bind fun v13 => (aLen v13).bind fun v14 => (asI .i64 v14).bind fun n15 => bif decide ((IntKind.i64.wrap (n15 - 1)) ≥ 0) then (aOff x3 3).bind fun v16 => (aLd1 h v16).bind fun v17 => (aSub h 3 v17 none (some (.int .i64 (IntKind.i64.wrap (n15 - 1)))) 1).bind fun v18 => (C 148 [.int .i64 22] h).bind fun r19 => ((aLd1 r19.2 v16).bind fun v20 => some (vbeq v20 v17)).bind fun b21 => bif b21 then ((aSub r19.2 3 v17 none (some (.int .i64 (IntKind.i64.wrap (n15 - 1)))) 1).bind fun v22 => some (vbeq v22 v18)).bind fun b23 => bif b23 then (C 149 [x0, v18, r19.1] r19.2).bind fun r24 => (asB r24.1).bind fun b25 => bif b25 then (aNil x0).bind fun v26 => (aOff v26 0).bind fun v27 => (aLd1 r24.2 v27).bind fun v28 => (aOff x3 3).bind fun v29 => (aLd1 r24.2 v29).bind fun v30 => (aIdx v30 (.int .i64 (IntKind.i64.wrap (n15 - 1))) 1).bind fun v31 => (aLd1 r24.2 v31).bind fun v32 => (asI .i64 v32).bind fun n33 => (aIdx v28 (.int .i64 n33) 4).bind fun v34 => (aOff v34 0).bind fun v35 => (aLd1 r24.2 v35).bind fun v36 => (asI .i64 v36).bind fun n37 => some (.bool (n37 == 21), r24.2) else some (.bool false, r24.2) else none else none else some (.bool false, h) else bif x9 == 7 then (aOff x3 3).bind fun v38 => (aLd1 h v38).bind fun v39 => (C 149 [x0, v39, (.func (.func 150) #[] #[])] h).bind fun r40 => (asB r40.1).bind fun b41 => some (.bool b41, r40.2) else bif x9 == 8 then s105_1 hk C N x0 x3 x5 x9 (x9 == 8) h else bif x9 == 10 then s105_1 hk C N x0 x3 x5 x9 (x9 == 10) h else bif x9 == 12 then s105_1 hk C N x0 x3 x5 x9 (x9 == 12) h else bif x9 == 13 then s105_1 hk C N x0 x3 x5 x9 (x9 == 13) h else s105_1 hk C N x0 x3 x5 x9 (x9 == 24) h := by kernel_rfl
theorem s105_1_j (C : ACall) (N : Nat) (x0 : Value) (x3 : Value) (x5 : Value) (x9 : Int) (x59 : Bool) (h : AHeap) : s105_1 hk0 C N x0 x3 x5 x9 x59 h = F105_1 hk0 C N (⟨132, [(0, x0), (3, x3), (5, x5), (9, .int .i64 x9), (59, .bool x59)]⟩) h := by delta s105_1; exact hk0_app _ _ _ _
theorem s105_1_eq (hk : Hk (Value × AHeap)) (C : ACall) (N : Nat) (x0 : Value) (x3 : Value) (x5 : Value) (x9 : Int) (x59 : Bool) (h : AHeap) : F105_1 hk C N (⟨132, [(0, x0), (3, x3), (5, x5), (9, .int .i64 x9), (59, .bool x59)]⟩) h =
    bif x59 then (aLdN h x3 4).bind fun v42 => (aFill [.nilFunc, .nilFunc] [(0, 1, (.func (.func 152) #[] #[])), (1, 1, (.func (.func 152) #[] #[]))]).bind fun c43 => aNewS h 74 c43 2 fun p44 h45 => (C 151 [x0, v42, p44] h45).bind fun r46 => (asB r46.1).bind fun b47 => some (.bool b47, r46.2) else bif x9 == 9 then (aOff x3 3).bind fun v48 => (aLd1 h v48).bind fun v49 => (aLen v49).bind fun v50 => (asI .i64 v50).bind fun n51 => bif decide (n51 > 0) then (aOff x3 3).bind fun v52 => (aLd1 h v52).bind fun v53 => (C 149 [x0, v53, (.func (.func 152) #[] #[])] h).bind fun r54 => (asB r54.1).bind fun b55 => some (.bool b55, r54.2) else some (.bool false, h) else bif x9 == 11 then s105_2 hk C N x0 x3 x5 x9 (x9 == 11) h else bif x9 == 14 then s105_2 hk C N x0 x3 x5 x9 (x9 == 14) h else bif x9 == 15 then s105_2 hk C N x0 x3 x5 x9 (x9 == 15) h else bif x9 == 19 then s105_2 hk C N x0 x3 x5 x9 (x9 == 19) h else s105_2 hk C N x0 x3 x5 x9 (x9 == 23) h := by kernel_rfl
theorem s105_2_j (C : ACall) (N : Nat) (x0 : Value) (x3 : Value) (x5 : Value) (x9 : Int) (x81 : Bool) (h : AHeap) : s105_2 hk0 C N x0 x3 x5 x9 x81 h = F105_2 hk0 C N (⟨132, [(0, x0), (3, x3), (5, x5), (9, .int .i64 x9), (81, .bool x81)]⟩) h := by delta s105_2; exact hk0_app _ _ _ _
theorem s105_2_eq (hk : Hk (Value × AHeap)) (C : ACall) (N : Nat) (x0 : Value) (x3 : Value) (x5 : Value) (x9 : Int) (x81 : Bool) (h : AHeap) : F105_2 hk C N (⟨132, [(0, x0), (3, x3), (5, x5), (9, .int .i64 x9), (81, .bool x81)]⟩) h =
    bif x81 then (aLdN h x3 4).bind fun v56 => (aFill [.nilFunc] [(0, 1, (.func (.func 152) #[] #[]))]).bind fun c57 => aNewS h 74 c57 1 fun p58 h59 => (C 151 [x0, v56, p58] h59).bind fun r60 => (asB r60.1).bind fun b61 => some (.bool b61, r60.2) else bif x9 == 16 then (aLdN h x3 4).bind fun v62 => (aFill [.nilFunc, .nilFunc, .nilFunc] [(0, 1, (.func (.func 152) #[] #[])), (1, 1, (.func (.func 152) #[] #[])), (2, 1, (.func (.func 152) #[] #[]))]).bind fun c63 => aNewS h 74 c63 3 fun p64 h65 => (C 151 [x0, v62, p64] h65).bind fun r66 => (asB r66.1).bind fun b67 => some (.bool b67, r66.2) else bif x9 == 17 then (aLdN h x3 4).bind fun v68 => (aFill [.nilFunc, .nilFunc] [(0, 1, (.func (.func 152) #[] #[])), (1, 1, x5)]).bind fun c69 => aNewS h 74 c69 2 fun p70 h71 => (C 151 [x0, v68, p70] h71).bind fun r72 => (asB r72.1).bind fun b73 => bif b73 then some (.bool true, r72.2) else (aLdN r72.2 x3 4).bind fun v74 => (aFill [.nilFunc, .nilFunc, .nilFunc] [(0, 1, (.func (.func 152) #[] #[])), (1, 1, x5), (2, 1, x5)]).bind fun c75 => aNewS r72.2 74 c75 3 fun p76 h77 => (C 151 [x0, v74, p76] h77).bind fun r78 => (asB r78.1).bind fun b79 => some (.bool b79, r78.2) else bif x9 == 18 then (aLdN h x3 4).bind fun v80 => (aFill [.nilFunc, .nilFunc] [(0, 1, (.func (.func 152) #[] #[])), (1, 1, x5)]).bind fun c81 => aNewS h 74 c81 2 fun p82 h83 => (C 151 [x0, v80, p82] h83).bind fun r84 => (asB r84.1).bind fun b85 => some (.bool b85, r84.2) else bif x9 == 20 then (aLdN h x3 4).bind fun v86 => (C 148 [.int .i64 9] h).bind fun r87 => ((aLdN r87.2 x3 4).bind fun v88 => some (vbeq v88 v86)).bind fun b89 => bif b89 then (aFill [.nilFunc] [(0, 1, r87.1)]).bind fun c90 => aNewS r87.2 74 c90 1 fun p91 h92 => ((aLdN h92 x3 4).bind fun v93 => some (vbeq v93 v86)).bind fun b94 => bif b94 then (C 151 [x0, v86, p91] h92).bind fun r95 => (asB r95.1).bind fun b96 => some (.bool b96, r95.2) else none else none else bif x9 == 21 then (aOff x3 3).bind fun v97 => (aLd1 h v97).bind fun v98 => (C 149 [x0, v98, (.func (.func 153) #[] #[])] h).bind fun r99 => (asB r99.1).bind fun b100 => some (.bool b100, r99.2) else some (.bool false, h) := by kernel_rfl
theorem c105 (d : Nat) (args : List Value) (h : AHeap) : call Try.prog Ms (d + 1) 105 args h = evFn hk0 Try.prog (call Try.prog Ms d) M105 d Try.f105 args h := by kernel_rfl

/-! 106 loop.example/g00101/laws.eqKnot -/
theorem e106 (hk : Hk (Value × AHeap)) (C : ACall) (N : Nat) (x0 : Value) (x1 : Value) (h : AHeap) : evFn hk Try.prog C M106 N Try.f106 [x0, x1] h =
    (aCells x0).bind fun c1 => aNew h 73 c1 fun p2 h3 => (aCells x1).bind fun c4 => aNew h3 73 c4 fun p5 h6 => (aOff p2 0).bind fun v7 => (aLd1 h6 v7).bind fun v8 => (asI .i64 v8).bind fun n9 => (aOff p5 0).bind fun v10 => (aLd1 h6 v10).bind fun v11 => (asI .i64 v11).bind fun n12 => bif n9 != n12 then some (.bool false, h6) else (aOff p2 1).bind fun v13 => (aLd1 h6 v13).bind fun v14 => (asS v14).bind fun t15 => (aOff p5 1).bind fun v16 => (aLd1 h6 v16).bind fun v17 => (asS v17).bind fun t18 => bif !(t15.toList == t18.toList) then some (.bool false, h6) else (aOff p2 2).bind fun v19 => (aLd1 h6 v19).bind fun v20 => (asI .i64 v20).bind fun n21 => (aOff p5 2).bind fun v22 => (aLd1 h6 v22).bind fun v23 => (asI .i64 v23).bind fun n24 => bif n21 != n24 then some (.bool false, h6) else (aOff p2 3).bind fun v25 => (aLd1 h6 v25).bind fun v26 => (aOff p5 3).bind fun v27 => (aLd1 h6 v27).bind fun v28 => (C 32 [v26, v28] h6).bind fun r29 => (asB r29.1).bind fun b30 => bif !b30 then some (.bool false, r29.2) else some (.bool true, r29.2) := by kernel_rfl
theorem c106 (d : Nat) (args : List Value) (h : AHeap) : call Try.prog Ms (d + 1) 106 args h = evFn hk0 Try.prog (call Try.prog Ms d) M106 d Try.f106 args h := by kernel_rfl

/-! 144 loop.example/g00101/laws.szIntS -/
theorem e144 (hk : Hk (Value × AHeap)) (C : ACall) (N : Nat) (x0 : Value) (x1 : Int) (h : AHeap) : evFn hk Try.prog C M144 N Try.f144 [x0, .int .i64 x1] h =
    (aLen x0).bind fun v1 => (asI .i64 v1).bind fun n2 => bif decide ((IntKind.i64.wrap (x1 - n2)) < 0) then some (.int .i64 (-1), h) else some (.int .i64 (IntKind.i64.wrap (x1 - n2)), h) := by kernel_rfl
theorem c144 (d : Nat) (args : List Value) (h : AHeap) : call Try.prog Ms (d + 1) 144 args h = evFn hk0 Try.prog (call Try.prog Ms d) M144 d Try.f144 args h := by kernel_rfl
end Go.Proofs.Ytadmoackacickaa
set_option linter.unusedVariables false
namespace Go.Proofs.Ytadmoackacickaa
open Go Go.AH
/-! 145 loop.example/g00101/spec.l9NameOk -/
noncomputable def F145_0 (hk : Hk (Value × AHeap)) (C : ACall) (N : Nat) : Nx (Value × AHeap) := evSt hk Try.prog C M145 N Try.f145 [1, 0, 1] []
noncomputable def s145_0 (hk : Hk (Value × AHeap)) (C : ACall) (N : Nat) (x0 : ByteArray) (x11 : Bool) (h : AHeap) := hk 100002 (⟨23, [(0, .string x0), (11, .bool x11)]⟩) h (F145_0 hk C N)
noncomputable def F145_1 (hk : Hk (Value × AHeap)) (C : ACall) (N : Nat) : Nx (Value × AHeap) := evSt hk Try.prog C M145 N Try.f145 [1, 1] []
noncomputable def s145_1 (hk : Hk (Value × AHeap)) (C : ACall) (N : Nat) (x0 : ByteArray) (h : AHeap) := hk 3 (⟨23, [(0, .string x0)]⟩) h (F145_1 hk C N)
noncomputable def F145_2 (hk : Hk (Value × AHeap)) (C : ACall) (N : Nat) (n1 : Nat) : Nx (Value × AHeap) := evSt hk Try.prog C M145 N Try.f145 [1, 1, 0, 1, 2, 6] [n1]
noncomputable def s145_2 (hk : Hk (Value × AHeap)) (C : ACall) (N : Nat) (n1 : Nat) (x0 : ByteArray) (x3 : Int) (h : AHeap) := F145_2 hk C N n1 (⟨23, [(0, .string x0), (3, .int .i64 x3)]⟩) h
theorem e145 (hk : Hk (Value × AHeap)) (C : ACall) (N : Nat) (x0 : ByteArray) (h : AHeap) : evFn hk Try.prog C M145 N Try.f145 [.string x0] h =
    (C 98 [.int .i64 (ByteArray.size x0 : Int), .int .i64 1, .int .i64 12] h).bind fun r1 => (asB r1.1).bind fun b2 => bif !b2 then s145_0 hk C N x0 true r1.2 else (C 88 [.string x0] r1.2).bind fun r3 => (asB r3.1).bind fun b4 => s145_0 hk C N x0 b4 r3.2 := by kernel_rfl
theorem s145_0_j (C : ACall) (N : Nat) (x0 : ByteArray) (x11 : Bool) (h : AHeap) : s145_0 hk0 C N x0 x11 h = F145_0 hk0 C N (⟨23, [(0, .string x0), (11, .bool x11)]⟩) h := by delta s145_0; exact hk0_app _ _ _ _
theorem s145_0_eq (hk : Hk (Value × AHeap)) (C : ACall) (N : Nat) (x0 : ByteArray) (x11 : Bool) (h : AHeap) : F145_0 hk C N (⟨23, [(0, .string x0), (11, .bool x11)]⟩) h =
    bif x11 then some (.bool false, h) else s145_1 hk C N x0 h := by kernel_rfl
theorem s145_1_j (C : ACall) (N : Nat) (x0 : ByteArray) (h : AHeap) : s145_1 hk0 C N x0 h = F145_1 hk0 C N (⟨23, [(0, .string x0)]⟩) h := by delta s145_1; exact hk0_app _ _ _ _
theorem s145_1_eq (hk : Hk (Value × AHeap)) (C : ACall) (N : Nat) (x0 : ByteArray) (h : AHeap) : F145_1 hk C N (⟨23, [(0, .string x0)]⟩) h =
    s145_2 hk C N N x0 0 h := by kernel_rfl
theorem s145_2_eq (hk : Hk (Value × AHeap)) (C : ACall) (N : Nat) (n1 : Nat) (x0 : ByteArray) (x3 : Int) (h : AHeap) : s145_2 hk C N (n1 + 1) x0 x3 h =
    bif decide (x3 < (ByteArray.size x0 : Int)) then (aStrIx (.string x0) (.int .i64 x3)).bind fun v5 => (asI .u8 v5).bind fun n6 => (C 87 [.int .u8 n6] h).bind fun r7 => (asB r7.1).bind fun b8 => bif !b8 then some (.bool false, r7.2) else s145_2 hk C N n1 x0 (IntKind.i64.wrap (x3 + 1)) r7.2 else some (.bool true, h) := by kernel_rfl
theorem c145 (d : Nat) (args : List Value) (h : AHeap) : call Try.prog Ms (d + 1) 145 args h = evFn hk0 Try.prog (call Try.prog Ms d) M145 d Try.f145 args h := by kernel_rfl

/-! 146 loop.example/g00101/laws.toIntS -/
noncomputable def F146_0 (hk : Hk (Value × AHeap)) (C : ACall) (N : Nat) (n1 : Nat) : Nx (Value × AHeap) := evSt hk Try.prog C M146 N Try.f146 [1, 1, 0, 1, 2, 6] [n1]
noncomputable def s146_0 (hk : Hk (Value × AHeap)) (C : ACall) (N : Nat) (n1 : Nat) (x0 : Value) (x3 : Value) (x4 : Int) (h : AHeap) := F146_0 hk C N n1 (⟨22, [(0, x0), (3, x3), (4, .int .i64 x4)]⟩) h
theorem e146 (hk : Hk (Value × AHeap)) (C : ACall) (N : Nat) (x0 : Value) (h : AHeap) : evFn hk Try.prog C M146 N Try.f146 [x0] h =
    (aLen x0).bind fun v1 => (asI .i64 v1).bind fun n2 => (aMk h 3 [.int .i64 0] 8 (.int .i64 n2) (.int .i64 n2)).bind fun r3 => s146_0 hk C N N x0 r3.1 0 r3.2 := by kernel_rfl
theorem s146_0_eq (hk : Hk (Value × AHeap)) (C : ACall) (N : Nat) (n1 : Nat) (x0 : Value) (x3 : Value) (x4 : Int) (h : AHeap) : s146_0 hk C N (n1 + 1) x0 x3 x4 h =
    (aLen x0).bind fun v4 => (asI .i64 v4).bind fun n5 => bif decide (x4 < n5) then (aIdx x0 (.int .i64 x4) 1).bind fun v6 => (aLd1 h v6).bind fun v7 => (asI .i64 v7).bind fun n8 => (aIdx x3 (.int .i64 x4) 1).bind fun v9 => (aSt h v9 (.int .i64 n8) 1).bind fun h10 => s146_0 hk C N n1 x0 x3 (IntKind.i64.wrap (x4 + 1)) h10 else some (x3, h) := by kernel_rfl
theorem c146 (d : Nat) (args : List Value) (h : AHeap) : call Try.prog Ms (d + 1) 146 args h = evFn hk0 Try.prog (call Try.prog Ms d) M146 d Try.f146 args h := by kernel_rfl

/-! 147 loop.example/g00101/impl.isName -/
theorem e147 (hk : Hk (Value × AHeap)) (C : ACall) (N : Nat) (x0 : ByteArray) (h : AHeap) : evFn hk Try.prog C M147 N Try.f147 [.string x0] h =
    (C 103 [.int .i64 (ByteArray.size x0 : Int), .int .i64 1, .int .i64 12] h).bind fun r1 => (asB r1.1).bind fun b2 => bif b2 then (C 51 [.string x0, .int .i64 0, (.func (.func 92) #[] #[])] r1.2).bind fun r3 => (asI .i64 r3.1).bind fun n4 => bif n4 == (ByteArray.size x0 : Int) then (C 93 [.string x0] r3.2).bind fun r5 => (asB r5.1).bind fun b6 => some (.bool (!b6), r5.2) else some (.bool false, r3.2) else some (.bool false, r1.2) := by kernel_rfl
theorem c147 (d : Nat) (args : List Value) (h : AHeap) : call Try.prog Ms (d + 1) 147 args h = evFn hk0 Try.prog (call Try.prog Ms d) M147 d Try.f147 args h := by kernel_rfl

/-! 148 loop.example/g00101/impl.just -/
theorem e148 (hk : Hk (Value × AHeap)) (C : ACall) (N : Nat) (x0 : Int) (h : AHeap) : evFn hk Try.prog C M148 N Try.f148 [.int .i64 x0] h =
    aNew h 3 [.int .i64 x0] fun p1 h2 => (aFn 185 [] [p1]).bind fun v3 => some (v3, h2) := by kernel_rfl
theorem c148 (d : Nat) (args : List Value) (h : AHeap) : call Try.prog Ms (d + 1) 148 args h = evFn hk0 Try.prog (call Try.prog Ms d) M148 d Try.f148 args h := by kernel_rfl

/-! 149 (*loop.example/g00101/impl.Tree).are -/
theorem e149 (hk : Hk (Value × AHeap)) (C : ACall) (N : Nat) (x0 : Value) (x1 : Value) (x2 : Value) (h : AHeap) : evFn hk Try.prog C M149 N Try.f149 [x0, x1, x2] h =
    (aCells x0).bind fun c1 => aNew h 96 c1 fun p2 h3 => (aCells x2).bind fun c4 => aNew h3 74 c4 fun p5 h6 => (aFn 187 [] [p5, p2]).bind fun v7 => (C 186 [x1, v7] h6).bind fun r8 => (asB r8.1).bind fun b9 => some (.bool (!b9), r8.2) := by kernel_rfl
theorem c149 (d : Nat) (args : List Value) (h : AHeap) : call Try.prog Ms (d + 1) 149 args h = evFn hk0 Try.prog (call Try.prog Ms d) M149 d Try.f149 args h := by kernel_rfl

/-! 150 (*loop.example/g00101/impl.Tree).kidsOk$1 -/
theorem e150 (hk : Hk (Value × AHeap)) (C : ACall) (N : Nat) (x0 : Int) (h : AHeap) : evFn hk Try.prog C M150 N Try.f150 [.int .i64 x0] h =
    bif x0 == 23 then some (.bool true, h) else some (.bool (x0 == 24), h) := by kernel_rfl
theorem c150 (d : Nat) (args : List Value) (h : AHeap) : call Try.prog Ms (d + 1) 150 args h = evFn hk0 Try.prog (call Try.prog Ms d) M150 d Try.f150 args h := by kernel_rfl

/-! 151 (*loop.example/g00101/impl.Tree).kidsAre -/
noncomputable def F151_0 (hk : Hk (Value × AHeap)) (C : ACall) (N : Nat) (n1 : Nat) : Nx (Value × AHeap) := evSt hk Try.prog C M151 N Try.f151 [1, 1, 0, 1, 2, 6] [n1]
noncomputable def s151_0 (hk : Hk (Value × AHeap)) (C : ACall) (N : Nat) (n1 : Nat) (x0 : Value) (x4 : Value) (x15 : Value) (x16 : Int) (x17 : Int) (h : AHeap) := F151_0 hk C N n1 (⟨38, [(0, x0), (4, x4), (15, x15), (16, .int .i64 x16), (17, .int .i64 x17)]⟩) h
theorem e151 (hk : Hk (Value × AHeap)) (C : ACall) (N : Nat) (x0 : Value) (x1 : Value) (x2 : Value) (h : AHeap) : evFn hk Try.prog C M151 N Try.f151 [x0, x1, x2] h =
    (aCells x1).bind fun c1 => aNew h 73 c1 fun p2 h3 => (aOff p2 3).bind fun v4 => (aLd1 h3 v4).bind fun v5 => (aLen v5).bind fun v6 => (asI .i64 v6).bind fun n7 => (aLen x2).bind fun v8 => (asI .i64 v8).bind fun n9 => bif n7 != n9 then some (.bool false, h3) else (aLen x2).bind fun v10 => (asI .i64 v10).bind fun n11 => s151_0 hk C N N x0 p2 x2 n11 0 h3 := by kernel_rfl
theorem s151_0_eq (hk : Hk (Value × AHeap)) (C : ACall) (N : Nat) (n1 : Nat) (x0 : Value) (x4 : Value) (x15 : Value) (x16 : Int) (x17 : Int) (h : AHeap) : s151_0 hk C N (n1 + 1) x0 x4 x15 x16 x17 h =
    bif decide (x17 < x16) then (aIdx x15 (.int .i64 x17) 1).bind fun v12 => (aLd1 h v12).bind fun v13 => (aNil x0).bind fun v14 => (aOff v14 0).bind fun v15 => (aLd1 h v15).bind fun v16 => (aOff x4 3).bind fun v17 => (aLd1 h v17).bind fun v18 => (aIdx v18 (.int .i64 x17) 1).bind fun v19 => (aLd1 h v19).bind fun v20 => (asI .i64 v20).bind fun n21 => (aIdx v16 (.int .i64 n21) 4).bind fun v22 => (aOff v22 0).bind fun v23 => (aLd1 h v23).bind fun v24 => (asI .i64 v24).bind fun n25 => (aCallV C v13 [.int .i64 n25] h).bind fun r26 => (asB r26.1).bind fun b27 => bif !b27 then some (.bool false, r26.2) else s151_0 hk C N n1 x0 x4 x15 x16 (IntKind.i64.wrap (x17 + 1)) r26.2 else some (.bool true, h) := by kernel_rfl
theorem c151 (d : Nat) (args : List Value) (h : AHeap) : call Try.prog Ms (d + 1) 151 args h = evFn hk0 Try.prog (call Try.prog Ms d) M151 d Try.f151 args h := by kernel_rfl

/-! 152 loop.example/g00101/impl.isExpr -/
theorem e152 (hk : Hk (Value × AHeap)) (C : ACall) (N : Nat) (x0 : Int) (h : AHeap) : evFn hk Try.prog C M152 N Try.f152 [.int .i64 x0] h =
    (C 103 [.int .i64 x0, .int .i64 1, .int .i64 13] h).bind fun r1 => (asB r1.1).bind fun b2 => some (.bool b2, r1.2) := by kernel_rfl
theorem c152 (d : Nat) (args : List Value) (h : AHeap) : call Try.prog Ms (d + 1) 152 args h = evFn hk0 Try.prog (call Try.prog Ms d) M152 d Try.f152 args h := by kernel_rfl

/-! 153 loop.example/g00101/impl.isStatement -/
theorem e153 (hk : Hk (Value × AHeap)) (C : ACall) (N : Nat) (x0 : Int) (h : AHeap) : evFn hk Try.prog C M153 N Try.f153 [.int .i64 x0] h =
    (C 103 [.int .i64 x0, .int .i64 14, .int .i64 20] h).bind fun r1 => (asB r1.1).bind fun b2 => some (.bool b2, r1.2) := by kernel_rfl
theorem c153 (d : Nat) (args : List Value) (h : AHeap) : call Try.prog Ms (d + 1) 153 args h = evFn hk0 Try.prog (call Try.prog Ms d) M153 d Try.f153 args h := by kernel_rfl

/-! 185 loop.example/g00101/impl.just$1 -/
theorem e185 (hk : Hk (Value × AHeap)) (C : ACall) (N : Nat) (x0 : Int) (x1 : Value) (h : AHeap) : evFn hk Try.prog C M185 N Try.f185 [.int .i64 x0, x1] h =
    (aLd1 h x1).bind fun v1 => (asI .i64 v1).bind fun n2 => some (.bool (x0 == n2), h) := by kernel_rfl
theorem c185 (d : Nat) (args : List Value) (h : AHeap) : call Try.prog Ms (d + 1) 185 args h = evFn hk0 Try.prog (call Try.prog Ms d) M185 d Try.f185 args h := by kernel_rfl

/-! 186 slices.ContainsFunc[[]int,int] -/
theorem e186 (hk : Hk (Value × AHeap)) (C : ACall) (N : Nat) (x0 : Value) (x1 : Value) (h : AHeap) : evFn hk Try.prog C M186 N Try.f186 [x0, x1] h =
    (C 202 [x0, x1] h).bind fun r1 => (asI .i64 r1.1).bind fun n2 => some (.bool (decide (n2 ≥ 0)), r1.2) := by kernel_rfl
theorem c186 (d : Nat) (args : List Value) (h : AHeap) : call Try.prog Ms (d + 1) 186 args h = evFn hk0 Try.prog (call Try.prog Ms d) M186 d Try.f186 args h := by kernel_rfl

/-! 187 (*loop.example/g00101/impl.Tree).are$1 -/
theorem e187 (hk : Hk (Value × AHeap)) (C : ACall) (N : Nat) (x0 : Int) (x1 : Value) (x2 : Value) (h : AHeap) : evFn hk Try.prog C M187 N Try.f187 [.int .i64 x0, x1, x2] h =
    (aLd1 h x1).bind fun v1 => (aLd1 h x2).bind fun v2 => (aNil v2).bind fun v3 => (aOff v3 0).bind fun v4 => (aLd1 h v4).bind fun v5 => (aIdx v5 (.int .i64 x0) 4).bind fun v6 => (aOff v6 0).bind fun v7 => (aLd1 h v7).bind fun v8 => (asI .i64 v8).bind fun n9 => (aCallV C v1 [.int .i64 n9] h).bind fun r10 => (asB r10.1).bind fun b11 => some (.bool (!b11), r10.2) := by kernel_rfl
theorem c187 (d : Nat) (args : List Value) (h : AHeap) : call Try.prog Ms (d + 1) 187 args h = evFn hk0 Try.prog (call Try.prog Ms d) M187 d Try.f187 args h := by kernel_rfl
end Go.Proofs.Ytadmoackacickaa
set_option linter.unusedVariables false
namespace Go.Proofs.Ytadmoackacickaa
open Go Go.AH
/-! 202 slices.IndexFunc[[]int,int] -/
noncomputable def F202_0 (hk : Hk (Value × AHeap)) (C : ACall) (N : Nat) (n1 : Nat) : Nx (Value × AHeap) := evSt hk Try.prog C M202 N Try.f202 [1, 0, 1, 2, 6] [n1]
noncomputable def s202_0 (hk : Hk (Value × AHeap)) (C : ACall) (N : Nat) (n1 : Nat) (x0 : Value) (x1 : Value) (x7 : Int) (x8 : Int) (h : AHeap) := F202_0 hk C N n1 (⟨19, [(0, x0), (1, x1), (7, .int .i64 x7), (8, .int .i64 x8)]⟩) h
theorem e202 (hk : Hk (Value × AHeap)) (C : ACall) (N : Nat) (x0 : Value) (x1 : Value) (h : AHeap) : evFn hk Try.prog C M202 N Try.f202 [x0, x1] h =
    (aLen x0).bind fun v1 => (asI .i64 v1).bind fun n2 => s202_0 hk C N N x0 x1 n2 0 h := by kernel_rfl
theorem s202_0_eq (hk : Hk (Value × AHeap)) (C : ACall) (N : Nat) (n1 : Nat) (x0 : Value) (x1 : Value) (x7 : Int) (x8 : Int) (h : AHeap) : s202_0 hk C N (n1 + 1) x0 x1 x7 x8 h =
    bif decide (x8 < x7) then (aIdx x0 (.int .i64 x8) 1).bind fun v3 => (aLd1 h v3).bind fun v4 => (asI .i64 v4).bind fun n5 => (aCallV C x1 [.int .i64 n5] h).bind fun r6 => (asB r6.1).bind fun b7 => bif b7 then some (.int .i64 x8, r6.2) else s202_0 hk C N n1 x0 x1 x7 (IntKind.i64.wrap (x8 + 1)) r6.2 else some (.int .i64 (-1), h) := by kernel_rfl
theorem c202 (d : Nat) (args : List Value) (h : AHeap) : call Try.prog Ms (d + 1) 202 args h = evFn hk0 Try.prog (call Try.prog Ms d) M202 d Try.f202 args h := by kernel_rfl

/-! 5 loop.example/g00101/laws.FnExactNestOf -/
theorem e5 (hk : Hk (Value × AHeap)) (C : ACall) (N : Nat) (x0 : Value) (h : AHeap) : evFn hk Try.prog C M5 N Try.f5 [x0] h =
    (aCells x0).bind fun c1 => aNew h 30 c1 fun p2 h3 => (aLdN h3 p2 2).bind fun v4 => (C 19 [v4, .int .i64 1048576] h3).bind fun r5 => (asI .i64 r5.1).bind fun n6 => bif decide (n6 < 0) then some (.bool true, r5.2) else (aLdN r5.2 p2 2).bind fun v7 => (C 21 [v7] r5.2).bind fun r8 => (C 24 [r8.1] r8.2).bind fun r9 => (asI .i64 r9.1).bind fun n10 => (aLdN r9.2 p2 2).bind fun v11 => (C 21 [v11] r9.2).bind fun r12 => aNew r12.2 35 [.slice none 0 0, .int .i64 0] fun p13 h14 => (aSt h14 p13 r12.1 2).bind fun h15 => (aLdN h15 p13 2).bind fun v16 => (C 25 [v16] h15).bind fun r17 => (asI .i64 r17.1).bind fun n18 => bif n18 != n10 then some (.bool false, r17.2) else (aLdN r17.2 p13 2).bind fun v19 => (aLdN r17.2 p2 2).bind fun v20 => (C 21 [v20] r17.2).bind fun r21 => ((aLdN r21.2 p13 2).bind fun v22 => some (vbeq v22 v19)).bind fun b23 => bif b23 then (C 23 [v19, r21.1] r21.2).bind fun r24 => (asB r24.1).bind fun b25 => bif !b25 then some (.bool false, r24.2) else some (.bool true, r24.2) else none := by kernel_rfl
theorem c5 (d : Nat) (args : List Value) (h : AHeap) : call Try.prog Ms (d + 1) 5 args h = evFn hk0 Try.prog (call Try.prog Ms d) M5 d Try.f5 args h := by kernel_rfl

/-! 24 loop.example/g00101/spec.NestOf -/
/-! 25 loop.example/g00101/impl.NestOf -/
theorem c25 (d : Nat) (args : List Value) (h : AHeap) : call Try.prog Ms (d + 1) 25 args h = evFn hk0 Try.prog (call Try.prog Ms d) M25 d Try.f25 args h := by kernel_rfl

/-! 62 loop.example/g00101/spec.l19Size -/
/-! 7 loop.example/g00101/laws.FnExactSizesOf -/
noncomputable def F7_0 (hk : Hk (Value × AHeap)) (C : ACall) (N : Nat) : Nx (Value × AHeap) := evSt hk Try.prog C M7 N Try.f7 [1, 1, 1, 1, 1, 1, 1, 1, 1, 1, 1, 0, 1] []
noncomputable def s7_0 (hk : Hk (Value × AHeap)) (C : ACall) (N : Nat) (x1 : Value) (x4 : Value) (x6 : Value) (x42 : Bool) (h : AHeap) := hk 100015 (⟨69, [(1, x1), (4, x4), (6, x6), (42, .bool x42)]⟩) h (F7_0 hk C N)
theorem e7 (hk : Hk (Value × AHeap)) (C : ACall) (N : Nat) (x0 : Value) (h : AHeap) : evFn hk Try.prog C M7 N Try.f7 [x0] h =
    (aCells x0).bind fun c1 => aNew h 30 c1 fun p2 h3 => (aLdN h3 p2 2).bind fun v4 => (C 19 [v4, .int .i64 1048576] h3).bind fun r5 => (asI .i64 r5.1).bind fun n6 => bif decide (n6 < 0) then some (.bool true, r5.2) else (aLdN r5.2 p2 2).bind fun v7 => (C 21 [v7] r5.2).bind fun r8 => (C 30 [r8.1] r8.2).bind fun r9 => (aLdN r9.2 p2 2).bind fun v10 => (C 21 [v10] r9.2).bind fun r11 => aNew r11.2 35 [.slice none 0 0, .int .i64 0] fun p12 h13 => (aSt h13 p12 r11.1 2).bind fun h14 => (aLdN h14 p12 2).bind fun v15 => (C 31 [v15] h14).bind fun r16 => (C 32 [r16.1, r9.1] r16.2).bind fun r17 => (asB r17.1).bind fun b18 => bif !b18 then some (.bool false, r17.2) else (aLdN r17.2 p12 2).bind fun v19 => (aLdN r17.2 p2 2).bind fun v20 => (C 21 [v20] r17.2).bind fun r21 => ((aLdN r21.2 p12 2).bind fun v22 => some (vbeq v22 v19)).bind fun b23 => bif b23 then (C 23 [v19, r21.1] r21.2).bind fun r24 => (asB r24.1).bind fun b25 => bif !b25 then some (.bool false, r24.2) else (aLdN r24.2 p12 2).bind fun v26 => (C 33 [v26, .int .i64 1] r24.2).bind fun r27 => (asI .i64 r27.1).bind fun n28 => bif decide (n28 < 0) then s7_0 hk C N p2 r9.1 r16.1 true r27.2 else (C 32 [r16.1, r9.1] r27.2).bind fun r29 => (asB r29.1).bind fun b30 => s7_0 hk C N p2 r9.1 r16.1 (!b30) r29.2 else none := by kernel_rfl
theorem c7 (d : Nat) (args : List Value) (h : AHeap) : call Try.prog Ms (d + 1) 7 args h = evFn hk0 Try.prog (call Try.prog Ms d) M7 d Try.f7 args h := by kernel_rfl

/-! 30 loop.example/g00101/spec.SizesOf -/
theorem c30 (d : Nat) (args : List Value) (h : AHeap) : call Try.prog Ms (d + 1) 30 args h = evFn hk0 Try.prog (call Try.prog Ms d) M30 d Try.f30 args h := by kernel_rfl

/-! 31 loop.example/g00101/impl.SizesOf -/
/-! 33 loop.example/g00101/laws.markTree -/
/-! 34 loop.example/g00101/laws.markIntS -/
/-! 35 loop.example/g00101/laws.heldIntS -/
/-! 68 loop.example/g00101/laws.markKnotS -/
end Go.Proofs.Ytadmoackacickaa
/- Trees in the small evaluator's heap. -/
set_option linter.unusedSimpArgs false
namespace Go.Proofs.Ytadmoackacickaa
open Go Go.AH

theorem vbeq1_self : ∀ v : Value, isCell v = true → (∀ f a c, v ≠ .func f a c) → vbeq1 v v = true := by
  intro v h hf
  cases v <;> simp [isCell] at h <;> simp [vbeq1]
  · rename_i s
    have := vbeq_str s
    simpa [vbeq, vbeq1] using this
  · rename_i f a c; exact absurd rfl (hf f a c)
structure Kn where
  k : Int
  t : ByteArray
  i : Int
  ks : List Int
def ints (xs : List Int) : List Value := xs.map (Value.int .i64)
/-- A slice of ints that can be read; its row lies below c. -/
def ISl (c : Nat) (h : AHeap) (v : Value) (xs : List Int) : Prop :=
  (v = .slice none 0 0 ∧ xs = []) ∨ (∃ a n, v = .slice (some a) 0 n ∧ xs = []) ∨ ∃ i o, v = slc i 0 xs.length ∧ h.at? i = some o ∧ o.elem = 3 ∧ o.cells = ints xs ∧ i < c
theorem ISl.ext {c : Nat} {h h' : AHeap} {v : Value} {xs : List Int} (x : ISl c h v xs) (e : Ext c h h') : ISl c h' v xs := by
  rcases x with x | x | ⟨i, o, h1, h2, h3, h4, h5⟩
  · exact .inl x
  · exact .inr (.inl x)
  · exact .inr (.inr ⟨i, o, h1, e.at? h5 h2, h3, h4, h5⟩)
theorem ISl.mono {c d : Nat} {h : AHeap} {v : Value} {xs : List Int} (x : ISl c h v xs) (hd : c ≤ d) : ISl d h v xs := by
  rcases x with x | x | ⟨i, o, h1, h2, h3, h4, h5⟩
  · exact .inl x
  · exact .inr (.inl x)
  · exact .inr (.inr ⟨i, o, h1, h2, h3, h4, Nat.lt_of_lt_of_le h5 hd⟩)
theorem ISl.len {c : Nat} {h : AHeap} {v : Value} {xs : List Int} (x : ISl c h v xs) : aLen v = some (.int .i64 xs.length) := by
  rcases x with ⟨rfl, rfl⟩ | ⟨a, n, rfl, rfl⟩ | ⟨i, o, rfl, _⟩ <;> rfl
theorem ISl.at {c : Nat} {h : AHeap} {v : Value} {xs : List Int} (x : ISl c h v xs) {j : Nat} (hj : j < xs.length) : ∃ p, aIdx v (.int .i64 (j : Int)) 1 = some p ∧ aLd1 h p = some (.int .i64 xs[j]) := by
  rcases x with ⟨rfl, rfl⟩ | ⟨a, n, rfl, rfl⟩ | ⟨i, o, rfl, h2, h3, h4, h5⟩
  · simp at hj
  · simp at hj
  · refine ⟨ptr i j, by simp [aIdx, slc, hj], ?_⟩
    have r : Row h i (ints xs) := ⟨o, h2, h4⟩
    exact r.ld1 (by simp [ints, hj])
theorem ISl.cell {c : Nat} {h : AHeap} {v : Value} {xs : List Int} (x : ISl c h v xs) : isCell v = true ∧ ∀ f a b, v ≠ .func f a b := by
  rcases x with ⟨rfl, rfl⟩ | ⟨a, n, rfl, rfl⟩ | ⟨i, o, rfl, _⟩ <;> exact ⟨rfl, fun _ _ _ h => by cases h⟩
theorem ISl.vbeq {c : Nat} {h : AHeap} {v : Value} {xs : List Int} (x : ISl c h v xs) : vbeq v v = true := by
  have := vbeq1_self v x.cell.1 x.cell.2
  rcases x with ⟨rfl, rfl⟩ | ⟨a, n, rfl, rfl⟩ | ⟨i, o, rfl, _⟩ <;> exact this
def knCells (n : Kn) (kv : Value) : List Value := [.int .i64 n.k, .string n.t, .int .i64 n.i, kv]
def knVal (n : Kn) (kv : Value) : Value := .agg (List.toArray (knCells n kv))
theorem kn_aCells {c : Nat} {h : AHeap} {n : Kn} {kv : Value} (x : ISl c h kv n.ks) : aCells (knVal n kv) = some (knCells n kv) := by
  have e : (List.all (List.toArray (knCells n kv)).toList isCell) = true := by
    show (true && (true && (true && (isCell kv && true)))) = true
    rw [x.cell.1]; rfl
  show (if (List.all (List.toArray (knCells n kv)).toList isCell) = true then some (List.toArray (knCells n kv)).toList else none) = _
  rw [if_pos e]
/-- A slice of nodes that can be read. -/
def KSl (c : Nat) (h : AHeap) (v : Value) (ns : List Kn) : Prop :=
  (v = .slice none 0 0 ∧ ns = []) ∨ (∃ a n, v = .slice (some a) 0 n ∧ ns = []) ∨
  ∃ i o, v = slc i 0 ns.length ∧ h.at? i = some o ∧ i < c ∧ o.cells.length = ns.length * 4 ∧ ∀ (j : Nat) (n : Kn), ns[j]? = some n → ∃ kv, (o.cells.drop (j * 4)).take 4 = knCells n kv ∧ ISl c h kv n.ks
/-- The same, with the kind of its row. -/
def KSg (e : TypeId) (c : Nat) (h : AHeap) (v : Value) (ns : List Kn) : Prop :=
  (v = .slice none 0 0 ∧ ns = []) ∨ (∃ a n, v = .slice (some a) 0 n ∧ ns = []) ∨
  ∃ i o, v = slc i 0 ns.length ∧ h.at? i = some o ∧ o.elem = e ∧ i < c ∧ o.cells.length = ns.length * 4 ∧ ∀ (j : Nat) (n : Kn), ns[j]? = some n → ∃ kv, (o.cells.drop (j * 4)).take 4 = knCells n kv ∧ ISl c h kv n.ks
theorem KSg.ksl {e : TypeId} {c : Nat} {h : AHeap} {v : Value} {ns : List Kn} (x : KSg e c h v ns) : KSl c h v ns := by
  rcases x with x | x | ⟨i, o, h1, h2, _, h3, h4, h5⟩
  · exact .inl x
  · exact .inr (.inl x)
  · exact .inr (.inr ⟨i, o, h1, h2, h3, h4, h5⟩)
theorem KSl.ext {c : Nat} {h h' : AHeap} {v : Value} {ns : List Kn} (x : KSl c h v ns) (e : Ext c h h') : KSl c h' v ns := by
  rcases x with x | x | ⟨i, o, h1, h2, h3, h4, h5⟩
  · exact .inl x
  · exact .inr (.inl x)
  · exact .inr (.inr ⟨i, o, h1, e.at? h3 h2, h3, h4, fun j n hn => let ⟨kv, a, b⟩ := h5 j n hn; ⟨kv, a, b.ext e⟩⟩)
theorem KSl.mono {c d : Nat} {h : AHeap} {v : Value} {ns : List Kn} (x : KSl c h v ns) (hd : c ≤ d) : KSl d h v ns := by
  rcases x with x | x | ⟨i, o, h1, h2, h3, h4, h5⟩
  · exact .inl x
  · exact .inr (.inl x)
  · exact .inr (.inr ⟨i, o, h1, h2, Nat.lt_of_lt_of_le h3 hd, h4, fun j n hn => let ⟨kv, a, b⟩ := h5 j n hn; ⟨kv, a, b.mono hd⟩⟩)
theorem KSl.len {c : Nat} {h : AHeap} {v : Value} {ns : List Kn} (x : KSl c h v ns) : aLen v = some (.int .i64 ns.length) := by
  rcases x with ⟨rfl, rfl⟩ | ⟨a, n, rfl, rfl⟩ | ⟨i, o, rfl, _⟩ <;> rfl
theorem KSl.cell {c : Nat} {h : AHeap} {v : Value} {ns : List Kn} (x : KSl c h v ns) : isCell v = true ∧ ∀ f a b, v ≠ .func f a b := by
  rcases x with ⟨rfl, rfl⟩ | ⟨a, n, rfl, rfl⟩ | ⟨i, o, rfl, _⟩ <;> exact ⟨rfl, fun _ _ _ h => by cases h⟩
theorem KSl.vbeq1 {c : Nat} {h : AHeap} {v : Value} {ns : List Kn} (x : KSl c h v ns) : vbeq1 v v = true := vbeq1_self v x.cell.1 x.cell.2
theorem KSl.vbeq {c : Nat} {h : AHeap} {v : Value} {ns : List Kn} (x : KSl c h v ns) : vbeq v v = true := by
  have := x.vbeq1
  rcases x with ⟨rfl, rfl⟩ | ⟨a, n, rfl, rfl⟩ | ⟨i, o, rfl, _⟩ <;> exact this
theorem drop_take_get {cs : List Value} {a : Nat} {l : List Value} (h : (cs.drop a).take 4 = l) {c : Nat} (hc : c < 4) : cs[a + c]? = l[c]? := by
  rw [← h, List.getElem?_take, if_pos hc, List.getElem?_drop]
theorem KSl.at {c : Nat} {h : AHeap} {v : Value} {ns : List Kn} (x : KSl c h v ns) {j : Nat} (hj : j < ns.length) : ∃ i kv, aIdx v (.int .i64 (j : Int)) 4 = some (ptr i (j * 4)) ∧ ISl c h kv ns[j].ks ∧
    ∀ h', Ext c h h' → aLdN h' (ptr i (j * 4)) 4 = some (knVal ns[j] kv) ∧ aLd1 h' (ptr i (j * 4)) = some (.int .i64 ns[j].k) ∧ aLd1 h' (ptr i (j * 4 + 1)) = some (.string ns[j].t) ∧ aLd1 h' (ptr i (j * 4 + 2)) = some (.int .i64 ns[j].i) ∧ aLd1 h' (ptr i (j * 4 + 3)) = some kv := by
  rcases x with ⟨rfl, rfl⟩ | ⟨a, n, rfl, rfl⟩ | ⟨i, o, rfl, h2, h3, h4, h5⟩
  · simp at hj
  · simp at hj
  · obtain ⟨kv, e1, e2⟩ := h5 j ns[j] (List.getElem?_eq_getElem hj)
    refine ⟨i, kv, by simp [aIdx, slc, hj], e2, fun h' e => ?_⟩
    have r : Row h' i o.cells := ⟨o, e.at? h3 h2, rfl⟩
    refine ⟨?_, r.ld1 (drop_take_get (c := 0) e1 (by omega)), r.ld1 (drop_take_get (c := 1) e1 (by omega)), r.ld1 (drop_take_get (c := 2) e1 (by omega)), r.ld1 (drop_take_get (c := 3) e1 (by omega))⟩
    rw [r.ldN (by omega), e1]; rfl
/-- A struct's cells in memory of its own. -/
theorem ld4 {h : AHeap} {i : Nat} {a b c d : Value} (r : Row h i [a, b, c, d]) : aLd1 h (ptr i 0) = some a ∧ aLd1 h (ptr i 1) = some b ∧ aLd1 h (ptr i 2) = some c ∧ aLd1 h (ptr i 3) = some d ∧ aLdN h (ptr i 0) 4 = some (.agg (List.toArray [a, b, c, d])) :=
  ⟨r.ld1 rfl, r.ld1 rfl, r.ld1 rfl, r.ld1 rfl, r.ldN (off := 0) (n := 4) (Nat.le_refl _)⟩
theorem ld2 {h : AHeap} {i : Nat} {a b : Value} (r : Row h i [a, b]) : aLd1 h (ptr i 0) = some a ∧ aLd1 h (ptr i 1) = some b ∧ aLdN h (ptr i 0) 2 = some (.agg (List.toArray [a, b])) :=
  ⟨r.ld1 rfl, r.ld1 rfl, r.ldN (off := 0) (n := 2) (Nat.le_refl _)⟩
/-- One cell of a row of one's own is written. -/
theorem Own.st1' {b : Nat} {h : AHeap} {i n : Nat} {e : TypeId} {cs : List Value} {v : Value} (x : Own b h i e cs) (hn : n < cs.length) (hv : aCells v = some [v]) :
    ∃ h', aSt h (ptr i n) v 1 = some h' ∧ Ext b h h' ∧ Own b h' i e (cs.set n v) ∧ h'.size = h.size := by
  obtain ⟨h', h1, h2, h3, h4, _⟩ := x.st (off := n) (n := 1) hv rfl (by omega)
  refine ⟨h', h1, h2, ?_, h4⟩
  have : splice cs n [v] = cs.set n v := by
    unfold splice
    rw [List.set_eq_take_append_cons_drop, if_pos hn]
    simp
  rw [this] at h3; exact h3
/-- All cells of a struct of one's own are written. -/
theorem Own.stN {b : Nat} {h : AHeap} {i n : Nat} {e : TypeId} {cs vs : List Value} {v : Value} (x : Own b h i e cs) (hv : aCells v = some vs) (hl : vs.length = n) (hc : cs.length = n) :
    ∃ h', aSt h (ptr i 0) v n = some h' ∧ Ext b h h' ∧ Own b h' i e vs ∧ h'.size = h.size := by
  obtain ⟨h', h1, h2, h3, h4, _⟩ := x.st (off := 0) (n := n) hv hl (by omega)
  refine ⟨h', h1, h2, ?_, h4⟩
  have : splice cs 0 vs = vs := by
    unfold splice
    rw [List.take_zero, List.nil_append, List.drop_eq_nil_of_le (by omega), List.append_nil]
  rw [this] at h3; exact h3
theorem aCells_one {v : Value} (h : isCell v = true) : aCells v = some [v] := by
  cases v <;> simp [isCell] at h <;> simp [aCells, isCell]
end Go.Proofs.Ytadmoackacickaa
/- Trees: their size, their copy. -/
set_option linter.unusedSimpArgs false
namespace Go.Proofs.Ytadmoackacickaa
open Go Go.AH

theorem wrB {x : Int} (h0 : -9223372036854775808 ≤ x) (h1 : x ≤ 9223372036854775807) : IntKind.i64.wrap x = x := by
  simp [IntKind.wrap, IntKind.bits, IntKind.signed]; omega
def bigT : Nat := 9223372036854775807
theorem l144 {d c : Nat} {v : Value} {xs : List Int} {h : AHeap} (x : ISl c h v xs) (hx : xs.length ≤ bigT) {l : Int} (h0 : 0 ≤ l) (h1 : l ≤ 1048576) :
    call Try.prog Ms (d + 1) 144 [v, .int .i64 l] h = some (.int .i64 (if l - xs.length < 0 then -1 else l - xs.length), h) := by
  have w : IntKind.i64.wrap (l - (xs.length : Int)) = l - (xs.length : Int) := wrB (by unfold bigT at hx; omega) (by omega)
  rw [c144, e144, x.len, Option.bind_some]
  simp only [asI, if_true, Option.bind_some, w]
  by_cases hc : l - (xs.length : Int) < 0
  · rw [decide_eq_true hc, cond_true, if_pos hc]
  · rw [decide_eq_false hc, cond_false, if_neg hc]
/-- What is left of a bulk. -/
def szK (n : Kn) (l : Int) : Int := if l - n.t.size < 0 then -1 else if l - n.t.size - n.ks.length < 0 then -1 else l - n.t.size - n.ks.length
def szN : List Kn → Int → Int
  | [], l => l
  | n :: ns, l => if szK n l < 0 then -1 else szN ns (szK n l)
def szT (ns : List Kn) (l : Int) : Int := if l - ns.length < 0 then -1 else szN ns (l - ns.length)
def okK (n : Kn) : Prop := n.t.size ≤ bigT ∧ n.ks.length ≤ bigT
theorem szK_le {n : Kn} {l : Int} (h1 : l ≤ 1048576) : szK n l ≤ 1048576 := by
  unfold szK
  split
  · omega
  · split <;> omega
theorem l97 {d c : Nat} {kv : Value} {n : Kn} {h : AHeap} (x : ISl c h kv n.ks) (hc : c ≤ h.size) (hn : okK n) {l : Int} (h0 : 0 ≤ l) (h1 : l ≤ 1048576) :
    ∃ h', call Try.prog Ms (d + 2) 97 [knVal n kv, .int .i64 l] h = some (.int .i64 (szK n l), h') ∧ Ext h.size h h' := by
  have e1 := Ext.new (Nat.le_refl h.size) 133 (knCells n kv)
  refine ⟨h.new 133 (knCells n kv), ?_, e1⟩
  have r1 : Row (h.new 133 (knCells n kv)) h.size [.int .i64 n.k, .string n.t, .int .i64 n.i, kv] := (Own.new (b := h.size) (Nat.le_refl _) 133 (knCells n kv)).row
  obtain ⟨a0, a1, a2, a3, _⟩ := ld4 r1
  have w : IntKind.i64.wrap (l - (n.t.size : Int)) = l - (n.t.size : Int) := wrB (by have := hn.1; unfold bigT at this; omega) (by omega)
  rw [c97, e97, kn_aCells x, Option.bind_some]
  simp only [aNew, aOff_ptr, Nat.zero_add, Option.bind_some, a1, a3, asS, w]
  unfold szK
  by_cases k1 : l - (n.t.size : Int) < 0
  · rw [decide_eq_true k1, cond_true, if_pos k1]
  · have c2 := l144 (d := d) (x.ext (e1.mono hc)) hn.2 (l := l - (n.t.size : Int)) (by omega) (by omega)
    rw [decide_eq_false k1, cond_false, if_neg k1, c2, Option.bind_some]
    simp only [asI, if_true, Option.bind_some]
    by_cases k2 : l - (n.t.size : Int) - (n.ks.length : Int) < 0
    · rw [if_pos k2, decide_eq_true (show ((-1 : Int) < 0) by decide), cond_true]
    · rw [if_neg k2, decide_eq_false k2, cond_false]
theorem sz_loop {d N c : Nat} {v : Value} {ns : List Kn} (hN : ∀ n ∈ ns, okK n) (hl : ns.length ≤ 1048576) : ∀ (k j m : Nat) (l : Int) (h : AHeap), ns.length - j = k → j ≤ ns.length → k < m → KSl c h v ns → c ≤ h.size → 0 ≤ l → l ≤ 1048576 →
    ∃ h', s56_0 hk0 (call Try.prog Ms (d + 2)) N m v l (j : Int) h = some (.int .i64 (szN (ns.drop j) l), h') ∧ Ext h.size h h' := by
  intro k
  induction k with
  | zero =>
    intro j m l h hk hj hm x hc h0 h1
    obtain ⟨m, rfl⟩ : ∃ q, m = q + 1 := ⟨m - 1, by omega⟩
    have : ¬ ((j : Int) < (ns.length : Int)) := by omega
    refine ⟨h, ?_, Ext.refl _ _⟩
    rw [s56_0_eq, x.len, Option.bind_some, List.drop_eq_nil_of_le (by omega)]
    simp only [asI, if_true, Option.bind_some, decide_eq_false this, cond_false, szN]
  | succ k ih =>
    intro j m l h hk hj hm x hc h0 h1
    obtain ⟨m, rfl⟩ : ∃ q, m = q + 1 := ⟨m - 1, by omega⟩
    have hlt : j < ns.length := by omega
    have hI : ((j : Int) < (ns.length : Int)) := by omega
    obtain ⟨i, kv, e1, e2, e3⟩ := x.at hlt
    obtain ⟨e4, _⟩ := e3 h (Ext.refl _ _)
    have hok := hN ns[j] (List.getElem_mem hlt)
    obtain ⟨h2, c2, x2⟩ := l97 (d := d) e2 hc hok h0 h1
    have wj : IntKind.i64.wrap ((j : Int) + 1) = ((j + 1 : Nat) : Int) := by rw [wr (by omega) (by omega)]; omega
    rw [s56_0_eq, x.len, Option.bind_some, List.drop_eq_getElem_cons hlt, szN]
    simp only [asI, if_true, Option.bind_some, decide_eq_true hI, cond_true, e1, e4, wj]
    rw [c2, Option.bind_some]
    simp only [asI, if_true, Option.bind_some]
    by_cases hs : szK ns[j] l < 0
    · rw [decide_eq_true hs, cond_true, if_pos hs]; exact ⟨h2, rfl, x2⟩
    · rw [decide_eq_false hs, cond_false, if_neg hs]
      obtain ⟨h3, c3, x3⟩ := ih (j + 1) m (szK ns[j] l) h2 (by omega) (by omega) (by omega) (x.ext (x2.mono hc)) (Nat.le_trans hc x2.size) (by omega) (szK_le h1)
      exact ⟨h3, c3, x2.trans (x3.mono x2.size)⟩
theorem l56 {d c : Nat} (hd : 1048577 < d) {v : Value} {ns : List Kn} {h : AHeap} (x : KSl c h v ns) (hc : c ≤ h.size) (hN : ∀ n ∈ ns, okK n) (hb : ns.length ≤ bigT) :
    ∃ h', call Try.prog Ms (d + 3) 56 [v, .int .i64 1048576] h = some (.int .i64 (szT ns 1048576), h') ∧ Ext h.size h h' := by
  have w : IntKind.i64.wrap (1048576 - (ns.length : Int)) = 1048576 - (ns.length : Int) := wrB (by unfold bigT at hb; omega) (by omega)
  rw [c56, e56, x.len, Option.bind_some]
  simp only [asI, if_true, Option.bind_some, w]
  unfold szT
  by_cases hs : (1048576 : Int) - (ns.length : Int) < 0
  · rw [decide_eq_true hs, cond_true, if_pos hs]; exact ⟨h, rfl, Ext.refl _ _⟩
  · rw [decide_eq_false hs, cond_false, if_neg hs]
    exact sz_loop (d := d) (N := d + 2) hN (by omega) ns.length 0 (d + 2) _ h (by omega) (by omega) (by omega) x hc (by omega) (by omega)
/-- A tree's value. -/
def trVal (nv : Value) (top : Int) : Value := .agg (List.toArray [nv, .int .i64 top])
theorem tr_aCells {c : Nat} {h : AHeap} {nv : Value} {ns : List Kn} (x : KSl c h nv ns) (top : Int) : aCells (trVal nv top) = some [nv, .int .i64 top] := by
  have e : (List.all (List.toArray [nv, .int .i64 top]).toList isCell) = true := by
    show (isCell nv && (true && true)) = true
    rw [x.cell.1]; rfl
  show (if (List.all (List.toArray [nv, .int .i64 top]).toList isCell) = true then some (List.toArray [nv, .int .i64 top]).toList else none) = _
  rw [if_pos e]
theorem tr_vbeq {c : Nat} {h : AHeap} {nv : Value} {ns : List Kn} (x : KSl c h nv ns) (top : Int) : vbeq (trVal nv top) (trVal nv top) = true := by
  show (vbeq1 nv nv && (vbeq1 (.int .i64 top) (.int .i64 top) && true)) = true
  rw [x.vbeq1]; simp [vbeq1]
theorem l19 {d c : Nat} (hd : 1048577 < d) {nv : Value} {ns : List Kn} {top : Int} {h : AHeap} (x : KSl c h nv ns) (hc : c ≤ h.size) (hN : ∀ n ∈ ns, okK n) (hb : ns.length ≤ bigT) :
    ∃ h', call Try.prog Ms (d + 4) 19 [trVal nv top, .int .i64 1048576] h = some (.int .i64 (if szT ns 1048576 < 0 then -1 else szT ns 1048576), h') ∧ Ext h.size h h' := by
  have e1 := Ext.new (Nat.le_refl h.size) 30 [nv, .int .i64 top]
  have r1 := (Own.new (b := h.size) (Nat.le_refl _) 30 [nv, .int .i64 top]).row
  obtain ⟨a0, _, _⟩ := ld2 r1
  obtain ⟨h2, c2, x2⟩ := l56 hd (x.ext (e1.mono hc)) (Nat.le_trans hc e1.size) hN hb
  rw [c19, e19, tr_aCells x, Option.bind_some]
  simp only [aNew, aOff_ptr, Nat.zero_add, Option.bind_some, a0]
  rw [c2, Option.bind_some]
  simp only [asI, if_true, Option.bind_some]
  have X := e1.trans (x2.mono e1.size)
  by_cases hs : szT ns 1048576 < 0
  · rw [decide_eq_true hs, cond_true, if_pos hs]; exact ⟨h2, rfl, X⟩
  · rw [decide_eq_false hs, cond_false, if_neg hs]; exact ⟨h2, rfl, X⟩
theorem szN_ok : ∀ (ns : List Kn) (l : Int), l ≤ 1048576 → 0 ≤ szN ns l → ∀ n ∈ ns, n.t.size ≤ 1048576 ∧ n.ks.length ≤ 1048576
  | [], _, _, _, n, hn => by simp at hn
  | m :: ns, l, hl, h, n, hn => by
    rw [szN] at h
    by_cases hs : szK m l < 0
    · rw [if_pos hs] at h; omega
    · rw [if_neg hs] at h
      have hle := szK_le (n := m) hl
      rcases List.mem_cons.1 hn with rfl | hn
      · unfold szK at hs
        by_cases k1 : l - (n.t.size : Int) < 0
        · rw [if_pos k1] at hs; omega
        · rw [if_neg k1] at hs
          by_cases k2 : l - (n.t.size : Int) - (n.ks.length : Int) < 0
          · rw [if_pos k2] at hs; omega
          · omega
      · exact szN_ok ns _ hle h n hn
theorem szT_ok {ns : List Kn} (h : 0 ≤ szT ns 1048576) : ns.length ≤ 1048576 ∧ ∀ n ∈ ns, n.t.size ≤ 1048576 ∧ n.ks.length ≤ 1048576 := by
  unfold szT at h
  by_cases hs : (1048576 : Int) - (ns.length : Int) < 0
  · rw [if_pos hs] at h; omega
  · rw [if_neg hs] at h
    exact ⟨by omega, szN_ok ns _ (by omega) h⟩
end Go.Proofs.Ytadmoackacickaa
/- FnExactLex: the row, given what the small evaluator says. -/
namespace Go.Proofs.Ytadmoackacickaa
open Go.ChangeShapes Go.WideShapes Go.ChangeAt Go.RowKit Go.ChangeMaps Go.AH

theorem own : ownKnob Try.prog.godebug = none := by kernel_rfl
theorem fnOk : Try.prog.funcs.all (fun (fn : Func) => fn.name != "runtime.NumGoroutine") = true := by kernel_rfl
theorem uBool : Try.prog.underlying 4 = some .bool := by kernel_rfl
theorem mixed : Try.prog.follows .mixedOrders = true := Checked.mixed Try.checked

end Go.Proofs.Ytadmoackacickaa
/- A tree that is an argument: how it reads, and how it lies in the small evaluator's heap. -/
namespace Go.Proofs.Ytadmoackacickaa
open Go Go.AH

def Blk (W : World) (b n : Nat) : Prop := ∃ arr el fr, W.heap[b]? = some (.cells arr el fr) ∧ n ≤ arr.size
/-- A slice of ints of the machine's. -/
def IM (W : World) (v : Value) (xs : List Int) : Prop :=
  (v = .slice none 0 0 ∧ xs = []) ∨ (∃ a, v = .slice (some a) 0 0 ∧ xs = []) ∨
  ∃ b off cap, v = .slice (some ⟨b, off, none⟩) xs.length cap ∧ xs.length ≤ cap ∧ cap ≤ maxLen ∧ Blk W b (off + cap * 1) ∧ ∀ (j : Nat) (n : Int), xs[j]? = some n → W.cell? ⟨b, off + j, none⟩ = some (.int .i64 n)
def NM (W : World) (v : Value) (ns : List Kn) : Prop :=
  (v = .slice none 0 0 ∧ ns = []) ∨ (∃ a, v = .slice (some a) 0 0 ∧ ns = []) ∨
  ∃ b off cap, v = .slice (some ⟨b, off, none⟩) ns.length cap ∧ ns.length ≤ cap ∧ cap ≤ maxLen ∧ Blk W b (off + cap * 4) ∧
    ∀ (j : Nat) (n : Kn), ns[j]? = some n → ∃ kv, (∀ c, c < 4 → W.cell? ⟨b, off + (j * 4 + c), none⟩ = (knCells n kv)[c]?) ∧ IM W kv n.ks ∧ n.t.size ≤ maxLen
theorem range_get {α : Type} (f : Nat → α) {len j : Nat} {x : α} (h : ((List.range len).map f)[j]? = some x) : j < len ∧ x = f j := by
  rw [List.getElem?_map, Option.map_eq_some_iff] at h
  obtain ⟨a, h1, h2⟩ := h
  obtain ⟨h3, h4⟩ := List.getElem?_eq_some_iff.1 h1
  rw [List.getElem_range] at h4
  subst h4
  exact ⟨by simpa using h3, h2.symm⟩
section
variable {H : Type} {enc : TypeId × Value → H} {W : World}
end
end Go.Proofs.Ytadmoackacickaa
/- A tree that is an argument lies in the small evaluator's heap. -/
namespace Go.Proofs.Ytadmoackacickaa
open Go Go.AH

theorem Blk.lt {W : World} {b n : Nat} (h : Blk W b n) : b < W.heap.size := by
  obtain ⟨_, _, _, h1, _⟩ := h
  exact (Array.getElem?_eq_some_iff.1 h1).1
theorem NM.ok {W : World} {nv : Value} {ns : List Kn} (h : NM W nv ns) : ns.length ≤ bigT ∧ ∀ n ∈ ns, okK n := by
  have hm : maxLen ≤ bigT := by decide
  rcases h with ⟨_, rfl⟩ | ⟨a, _, rfl⟩ | ⟨b, off, cap, _, h2, h3, _, h5⟩
  · exact ⟨Nat.zero_le _, fun n hn => by simp at hn⟩
  · exact ⟨Nat.zero_le _, fun n hn => by simp at hn⟩
  · refine ⟨by omega, fun n hn => ?_⟩
    obtain ⟨j, hj, rfl⟩ := List.getElem_of_mem hn
    obtain ⟨kv, _, g2, g3⟩ := h5 j _ (List.getElem?_eq_getElem hj)
    refine ⟨by omega, ?_⟩
    rcases g2 with ⟨_, e⟩ | ⟨_, _, e⟩ | ⟨_, _, cap', _, e1, e2, _⟩
    · rw [e]; exact Nat.zero_le _
    · rw [e]; exact Nat.zero_le _
    · omega
end Go.Proofs.Ytadmoackacickaa
