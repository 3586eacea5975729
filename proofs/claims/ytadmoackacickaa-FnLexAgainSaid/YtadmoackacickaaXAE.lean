import Derived.Test.YtadmoackacickaaXAD
import Derived.KernelRfl
import Derived.Test.YtadmoackacickaaProg
set_option linter.unusedVariables false
namespace Go.Proofs.Ytadmoackacickaa
open Go Go.AH
/-! 3 loop.example/g00101/laws.FnExactLex -/
noncomputable def F3_0 (hk : Hk (Value × AHeap)) (C : ACall) (N : Nat) : Nx (Value × AHeap) := evSt hk Try.prog C M3 N Try.f3 [1, 1, 1, 1, 1] []
noncomputable def s3_0 (hk : Hk (Value × AHeap)) (C : ACall) (N : Nat) (x0 : ByteArray) (x3 : Value) (x4 : Int) (x5 : Int) (x6 : Value) (h : AHeap) := hk 7 (⟨82, [(0, .string x0), (3, x3), (4, .int .i64 x4), (5, .int .i64 x5), (6, x6)]⟩) h (F3_0 hk C N)
noncomputable def F3_1 (hk : Hk (Value × AHeap)) (C : ACall) (N : Nat) : Nx (Value × AHeap) := evSt hk Try.prog C M3 N Try.f3 [1, 1, 1, 1, 1, 1, 1, 1, 1, 1, 1, 1, 1] []
noncomputable def s3_1 (hk : Hk (Value × AHeap)) (C : ACall) (N : Nat) (x6 : Value) (x9 : Int) (h : AHeap) := hk 18 (⟨82, [(6, x6), (9, .int .i64 x9)]⟩) h (F3_1 hk C N)
theorem e3 (hk : Hk (Value × AHeap)) (C : ACall) (N : Nat) (x0 : ByteArray) (h : AHeap) : evFn hk Try.prog C M3 N Try.f3 [.string x0] h =
    bif decide ((ByteArray.size x0 : Int) > 1048576) then some (.bool true, h) else (C 14 [.string x0] h).bind fun r1 => (aExt r1.1 0).bind fun v2 => (aExt r1.1 1).bind fun v3 => (asI .i64 v3).bind fun n4 => (aExt r1.1 2).bind fun v5 => (asI .i64 v5).bind fun n6 => (C 15 [.string x0] r1.2).bind fun r7 => (aExt r7.1 0).bind fun v8 => (aExt r7.1 1).bind fun v9 => (asI .i64 v9).bind fun n10 => (aExt r7.1 2).bind fun v11 => (asI .i64 v11).bind fun n12 => (C 16 [v8, v2] r7.2).bind fun r13 => (asB r13.1).bind fun b14 => bif !b14 then some (.bool false, r13.2) else bif n10 != n4 then some (.bool false, r13.2) else bif n12 != n6 then some (.bool false, r13.2) else s3_0 hk C N x0 v2 n4 n6 v8 r13.2 := by kernel_rfl
theorem s3_0_j (C : ACall) (N : Nat) (x0 : ByteArray) (x3 : Value) (x4 : Int) (x5 : Int) (x6 : Value) (h : AHeap) : s3_0 hk0 C N x0 x3 x4 x5 x6 h = F3_0 hk0 C N (⟨82, [(0, .string x0), (3, x3), (4, .int .i64 x4), (5, .int .i64 x5), (6, x6)]⟩) h := by delta s3_0; exact hk0_app _ _ _ _
theorem s3_0_eq (hk : Hk (Value × AHeap)) (C : ACall) (N : Nat) (x0 : ByteArray) (x3 : Value) (x4 : Int) (x5 : Int) (x6 : Value) (h : AHeap) : F3_0 hk C N (⟨82, [(0, .string x0), (3, x3), (4, .int .i64 x4), (5, .int .i64 x5), (6, x6)]⟩) h =
    (C 17 [x6, .int .i64 1] h).bind fun r15 => (asI .i64 r15.1).bind fun n16 => (C 18 [x6, .int .i64 1] r15.2).bind fun r17 => (asI .i64 r17.1).bind fun n18 => bif decide (n18 < 0) then some (.bool false, r17.2) else bif n18 != n16 then some (.bool false, r17.2) else (C 15 [.string x0] r17.2).bind fun r19 => (aExt r19.1 0).bind fun v20 => (aExt r19.1 1).bind fun v21 => (asI .i64 v21).bind fun n22 => (aExt r19.1 2).bind fun v23 => (asI .i64 v23).bind fun n24 => (C 16 [v20, x3] r19.2).bind fun r25 => (asB r25.1).bind fun b26 => bif !b26 then some (.bool false, r25.2) else bif n22 != x4 then some (.bool false, r25.2) else bif n24 != x5 then some (.bool false, r25.2) else s3_1 hk C N x6 n16 r25.2 := by kernel_rfl
theorem s3_1_j (C : ACall) (N : Nat) (x6 : Value) (x9 : Int) (h : AHeap) : s3_1 hk0 C N x6 x9 h = F3_1 hk0 C N (⟨82, [(6, x6), (9, .int .i64 x9)]⟩) h := by delta s3_1; exact hk0_app _ _ _ _
theorem s3_1_eq (hk : Hk (Value × AHeap)) (C : ACall) (N : Nat) (x6 : Value) (x9 : Int) (h : AHeap) : F3_1 hk C N (⟨82, [(6, x6), (9, .int .i64 x9)]⟩) h =
    (C 18 [x6, .int .i64 1] h).bind fun r27 => (asI .i64 r27.1).bind fun n28 => bif decide (n28 < 0) then some (.bool false, r27.2) else bif n28 != x9 then some (.bool false, r27.2) else some (.bool true, r27.2) := by kernel_rfl
theorem c3 (d : Nat) (args : List Value) (h : AHeap) : call Try.prog Ms (d + 1) 3 args h = evFn hk0 Try.prog (call Try.prog Ms d) M3 d Try.f3 args h := by kernel_rfl

/-! 14 loop.example/g00101/spec.Lex -/
noncomputable def F14_0 (hk : Hk (Value × AHeap)) (C : ACall) (N : Nat) (n1 : Nat) : Nx (Value × AHeap) := evSt hk Try.prog C M14 N Try.f14 [1, 1, 1, 1, 0, 2, 6] [n1]
noncomputable def s14_0 (hk : Hk (Value × AHeap)) (C : ACall) (N : Nat) (n1 : Nat) (x0 : ByteArray) (x5 : Value) (x6 : Int) (h : AHeap) := F14_0 hk C N n1 (⟨79, [(0, .string x0), (5, x5), (6, .int .i64 x6)]⟩) h
noncomputable def F14_1 (hk : Hk (Value × AHeap)) (C : ACall) (N : Nat) (n1 : Nat) : Nx (Value × AHeap) := evSt hk Try.prog C M14 N Try.f14 [1, 1, 1, 1, 0, 2, 3, 1, 2, 1, 1] [n1]
noncomputable def s14_1 (hk : Hk (Value × AHeap)) (C : ACall) (N : Nat) (n1 : Nat) (x0 : ByteArray) (x5 : Value) (x6 : Int) (x7 : Int) (h : AHeap) := hk 9 (⟨79, [(0, .string x0), (5, x5), (6, .int .i64 x6), (7, .int .u8 x7)]⟩) h (F14_1 hk C N n1)
noncomputable def F14_2 (hk : Hk (Value × AHeap)) (C : ACall) (N : Nat) (n1 : Nat) : Nx (Value × AHeap) := evSt hk Try.prog C M14 N Try.f14 [1, 1, 1, 1, 0, 2, 3, 1, 2, 1, 1, 0, 1, 4] [n1]
noncomputable def s14_2 (hk : Hk (Value × AHeap)) (C : ACall) (N : Nat) (n1 : Nat) (x0 : ByteArray) (x5 : Value) (x6 : Int) (h : AHeap) := hk 10 (⟨79, [(0, .string x0), (5, x5), (6, .int .i64 x6)]⟩) h (F14_2 hk C N n1)
noncomputable def F14_4 (hk : Hk (Value × AHeap)) (C : ACall) (N : Nat) (n1 : Nat) : Nx (Value × AHeap) := evSt hk Try.prog C M14 N Try.f14 [1, 1, 1, 1, 0, 2, 3, 1, 2, 1, 1, 1] [n1]
noncomputable def s14_4 (hk : Hk (Value × AHeap)) (C : ACall) (N : Nat) (n1 : Nat) (x0 : ByteArray) (x5 : Value) (x6 : Int) (h : AHeap) := hk 12 (⟨79, [(0, .string x0), (5, x5), (6, .int .i64 x6)]⟩) h (F14_4 hk C N n1)
noncomputable def F14_3 (hk : Hk (Value × AHeap)) (C : ACall) (N : Nat) (n1 n2 : Nat) : Nx (Value × AHeap) := evSt hk Try.prog C M14 N Try.f14 [1, 1, 1, 1, 0, 2, 3, 1, 2, 1, 1, 0, 1, 4, 0, 2, 6] [n1, n2]
noncomputable def s14_3 (hk : Hk (Value × AHeap)) (C : ACall) (N : Nat) (n1 n2 : Nat) (x0 : ByteArray) (x5 : Value) (x6 : Int) (h : AHeap) := F14_3 hk C N n1 n2 (⟨79, [(0, .string x0), (5, x5), (6, .int .i64 x6)]⟩) h
theorem e14 (hk : Hk (Value × AHeap)) (C : ACall) (N : Nat) (x0 : ByteArray) (h : AHeap) : evFn hk Try.prog C M14 N Try.f14 [.string x0] h =
    bif decide ((ByteArray.size x0 : Int) > 3000) then some (.tuple (List.toArray [(.slice none 0 0), .int .i64 1, .int .i64 0]), h) else aNewS h 53 [] 0 fun p1 h2 => s14_0 hk C N N x0 p1 0 h2 := by kernel_rfl
theorem s14_0_eq (hk : Hk (Value × AHeap)) (C : ACall) (N : Nat) (n1 : Nat) (x0 : ByteArray) (x5 : Value) (x6 : Int) (h : AHeap) : s14_0 hk C N (n1 + 1) x0 x5 x6 h =
    bif decide (x6 < (ByteArray.size x0 : Int)) then (aStrIx (.string x0) (.int .i64 x6)).bind fun v3 => (asI .u8 v3).bind fun n4 => bif n4 == 9 then s14_0 hk C N n1 x0 x5 (IntKind.i64.wrap (x6 + 1)) h else bif n4 == 10 then s14_0 hk C N n1 x0 x5 (IntKind.i64.wrap (x6 + 1)) h else bif n4 == 32 then s14_0 hk C N n1 x0 x5 (IntKind.i64.wrap (x6 + 1)) h else s14_1 hk C N n1 x0 x5 x6 n4 h else bif List.all [x5, .int .i64 0, .int .i64 0] isS2 then some (.tuple (List.toArray [x5, .int .i64 0, .int .i64 0]), h) else none := by kernel_rfl
theorem s14_1_j (C : ACall) (N : Nat) (n1 : Nat) (x0 : ByteArray) (x5 : Value) (x6 : Int) (x7 : Int) (h : AHeap) : s14_1 hk0 C N n1 x0 x5 x6 x7 h = F14_1 hk0 C N n1 (⟨79, [(0, .string x0), (5, x5), (6, .int .i64 x6), (7, .int .u8 x7)]⟩) h := by delta s14_1; exact hk0_app _ _ _ _
theorem s14_1_eq (hk : Hk (Value × AHeap)) (C : ACall) (N : Nat) (n1 : Nat) (x0 : ByteArray) (x5 : Value) (x6 : Int) (x7 : Int) (h : AHeap) : F14_1 hk C N n1 (⟨79, [(0, .string x0), (5, x5), (6, .int .i64 x6), (7, .int .u8 x7)]⟩) h =
    bif x7 == 45 then bif decide ((IntKind.i64.wrap (x6 + 1)) < (ByteArray.size x0 : Int)) then (aStrIx (.string x0) (.int .i64 (IntKind.i64.wrap (x6 + 1)))).bind fun v5 => (asI .u8 v5).bind fun n6 => bif n6 == 45 then s14_2 hk C N n1 x0 x5 x6 h else s14_4 hk C N n1 x0 x5 x6 h else s14_4 hk C N n1 x0 x5 x6 h else s14_4 hk C N n1 x0 x5 x6 h := by kernel_rfl
theorem s14_2_j (C : ACall) (N : Nat) (n1 : Nat) (x0 : ByteArray) (x5 : Value) (x6 : Int) (h : AHeap) : s14_2 hk0 C N n1 x0 x5 x6 h = F14_2 hk0 C N n1 (⟨79, [(0, .string x0), (5, x5), (6, .int .i64 x6)]⟩) h := by delta s14_2; exact hk0_app _ _ _ _
theorem s14_2_eq (hk : Hk (Value × AHeap)) (C : ACall) (N : Nat) (n1 : Nat) (x0 : ByteArray) (x5 : Value) (x6 : Int) (h : AHeap) : F14_2 hk C N n1 (⟨79, [(0, .string x0), (5, x5), (6, .int .i64 x6)]⟩) h =
    s14_3 hk C N n1 N x0 x5 x6 h := by kernel_rfl
theorem s14_4_j (C : ACall) (N : Nat) (n1 : Nat) (x0 : ByteArray) (x5 : Value) (x6 : Int) (h : AHeap) : s14_4 hk0 C N n1 x0 x5 x6 h = F14_4 hk0 C N n1 (⟨79, [(0, .string x0), (5, x5), (6, .int .i64 x6)]⟩) h := by delta s14_4; exact hk0_app _ _ _ _
theorem s14_4_eq (hk : Hk (Value × AHeap)) (C : ACall) (N : Nat) (n1 : Nat) (x0 : ByteArray) (x5 : Value) (x6 : Int) (h : AHeap) : F14_4 hk C N n1 (⟨79, [(0, .string x0), (5, x5), (6, .int .i64 x6)]⟩) h =
    (C 50 [.string x0, .int .i64 x6] h).bind fun r7 => (aExt r7.1 0).bind fun v8 => (aExt r7.1 1).bind fun v9 => (asI .i64 v9).bind fun n10 => (aExt r7.1 2).bind fun v11 => (asI .i64 v11).bind fun n12 => aNew r7.2 53 [.int .i64 0, .int .i64 0, .string ⟨#[]⟩, .int .i64 0] fun p13 h14 => (aSt h14 p13 v8 4).bind fun h15 => bif n10 != 0 then some (.tuple (List.toArray [(.slice none 0 0), .int .i64 n10, .int .i64 x6]), h15) else (aLdN h15 p13 4).bind fun v16 => (aFill [.int .i64 0, .int .i64 0, .string ⟨#[]⟩, .int .i64 0] [(0, 4, v16)]).bind fun c17 => aNewS h15 53 c17 1 fun p18 h19 => (aApp h19 53 4 40 x5 p18).bind fun r20 => s14_0 hk C N n1 x0 r20.1 n12 r20.2 := by kernel_rfl
theorem s14_3_eq (hk : Hk (Value × AHeap)) (C : ACall) (N : Nat) (n1 n2 : Nat) (x0 : ByteArray) (x5 : Value) (x6 : Int) (h : AHeap) : s14_3 hk C N n1 (n2 + 1) x0 x5 x6 h =
    bif decide (x6 < (ByteArray.size x0 : Int)) then (aStrIx (.string x0) (.int .i64 x6)).bind fun v21 => (asI .u8 v21).bind fun n22 => bif n22 != 10 then s14_3 hk C N n1 n2 x0 x5 (IntKind.i64.wrap (x6 + 1)) h else s14_0 hk C N n1 x0 x5 x6 h else s14_0 hk C N n1 x0 x5 x6 h := by kernel_rfl
theorem c14 (d : Nat) (args : List Value) (h : AHeap) : call Try.prog Ms (d + 1) 14 args h = evFn hk0 Try.prog (call Try.prog Ms d) M14 d Try.f14 args h := by kernel_rfl

/-! 15 loop.example/g00101/impl.Lex -/
noncomputable def F15_0 (hk : Hk (Value × AHeap)) (C : ACall) (N : Nat) (n1 : Nat) : Nx (Value × AHeap) := evSt hk Try.prog C M15 N Try.f15 [1, 1, 1, 0, 1, 2, 6] [n1]
noncomputable def s15_0 (hk : Hk (Value × AHeap)) (C : ACall) (N : Nat) (n1 : Nat) (x0 : ByteArray) (x5 : Value) (x6 : Int) (h : AHeap) := F15_0 hk C N n1 (⟨74, [(0, .string x0), (5, x5), (6, .int .i64 x6)]⟩) h
noncomputable def F15_1 (hk : Hk (Value × AHeap)) (C : ACall) (N : Nat) (n1 : Nat) : Nx (Value × AHeap) := evSt hk Try.prog C M15 N Try.f15 [1, 1, 1, 0, 1, 2, 3, 1, 2, 1, 2, 1, 5] [n1]
noncomputable def s15_1 (hk : Hk (Value × AHeap)) (C : ACall) (N : Nat) (n1 : Nat) (x0 : ByteArray) (x5 : Value) (x6 : Int) (x7 : Int) (h : AHeap) := hk 14 (⟨74, [(0, .string x0), (5, x5), (6, .int .i64 x6), (7, .int .u8 x7)]⟩) h (F15_1 hk C N n1)
noncomputable def F15_2 (hk : Hk (Value × AHeap)) (C : ACall) (N : Nat) (n1 : Nat) : Nx (Value × AHeap) := evSt hk Try.prog C M15 N Try.f15 [1, 1, 1, 0, 1, 2, 3, 1, 2, 1, 2, 1, 5, 1, 5] [n1]
noncomputable def s15_2 (hk : Hk (Value × AHeap)) (C : ACall) (N : Nat) (n1 : Nat) (x0 : ByteArray) (x5 : Value) (x6 : Int) (h : AHeap) := hk 7 (⟨74, [(0, .string x0), (5, x5), (6, .int .i64 x6)]⟩) h (F15_2 hk C N n1)
theorem e15 (hk : Hk (Value × AHeap)) (C : ACall) (N : Nat) (x0 : ByteArray) (h : AHeap) : evFn hk Try.prog C M15 N Try.f15 [.string x0] h =
    bif decide ((ByteArray.size x0 : Int) > 3000) then some (.tuple (List.toArray [(.slice none 0 0), .int .i64 1, .int .i64 0]), h) else aNewS h 53 [] 0 fun p1 h2 => s15_0 hk C N N x0 p1 0 h2 := by kernel_rfl
theorem s15_0_eq (hk : Hk (Value × AHeap)) (C : ACall) (N : Nat) (n1 : Nat) (x0 : ByteArray) (x5 : Value) (x6 : Int) (h : AHeap) : s15_0 hk C N (n1 + 1) x0 x5 x6 h =
    bif decide (x6 < (ByteArray.size x0 : Int)) then (aStrIx (.string x0) (.int .i64 x6)).bind fun v3 => (asI .u8 v3).bind fun n4 => bif n4 == 9 then s15_0 hk C N n1 x0 x5 (IntKind.i64.wrap (x6 + 1)) h else bif n4 == 10 then s15_0 hk C N n1 x0 x5 (IntKind.i64.wrap (x6 + 1)) h else bif n4 == 32 then s15_0 hk C N n1 x0 x5 (IntKind.i64.wrap (x6 + 1)) h else s15_1 hk C N n1 x0 x5 x6 n4 h else bif List.all [x5, .int .i64 0, .int .i64 0] isS2 then some (.tuple (List.toArray [x5, .int .i64 0, .int .i64 0]), h) else none := by kernel_rfl
theorem s15_1_j (C : ACall) (N : Nat) (n1 : Nat) (x0 : ByteArray) (x5 : Value) (x6 : Int) (x7 : Int) (h : AHeap) : s15_1 hk0 C N n1 x0 x5 x6 x7 h = F15_1 hk0 C N n1 (⟨74, [(0, .string x0), (5, x5), (6, .int .i64 x6), (7, .int .u8 x7)]⟩) h := by delta s15_1; exact hk0_app _ _ _ _
theorem s15_1_eq (hk : Hk (Value × AHeap)) (C : ACall) (N : Nat) (n1 : Nat) (x0 : ByteArray) (x5 : Value) (x6 : Int) (x7 : Int) (h : AHeap) : F15_1 hk C N n1 (⟨74, [(0, .string x0), (5, x5), (6, .int .i64 x6), (7, .int .u8 x7)]⟩) h =
    bif x7 == 45 then bif decide ((IntKind.i64.wrap (x6 + 1)) < (ByteArray.size x0 : Int)) then (aStrIx (.string x0) (.int .i64 (IntKind.i64.wrap (x6 + 1)))).bind fun v5 => (asI .u8 v5).bind fun n6 => bif n6 == 45 then (C 51 [.string x0, .int .i64 x6, (.func (.func 52) #[] #[])] h).bind fun r7 => (asI .i64 r7.1).bind fun n8 => s15_0 hk C N n1 x0 x5 n8 r7.2 else s15_2 hk C N n1 x0 x5 x6 h else s15_2 hk C N n1 x0 x5 x6 h else s15_2 hk C N n1 x0 x5 x6 h := by kernel_rfl
theorem s15_2_j (C : ACall) (N : Nat) (n1 : Nat) (x0 : ByteArray) (x5 : Value) (x6 : Int) (h : AHeap) : s15_2 hk0 C N n1 x0 x5 x6 h = F15_2 hk0 C N n1 (⟨74, [(0, .string x0), (5, x5), (6, .int .i64 x6)]⟩) h := by delta s15_2; exact hk0_app _ _ _ _
theorem s15_2_eq (hk : Hk (Value × AHeap)) (C : ACall) (N : Nat) (n1 : Nat) (x0 : ByteArray) (x5 : Value) (x6 : Int) (h : AHeap) : F15_2 hk C N n1 (⟨74, [(0, .string x0), (5, x5), (6, .int .i64 x6)]⟩) h =
    (C 53 [.string x0, .int .i64 x6] h).bind fun r9 => (aExt r9.1 0).bind fun v10 => (aExt r9.1 1).bind fun v11 => (asI .i64 v11).bind fun n12 => (aExt r9.1 2).bind fun v13 => (asI .i64 v13).bind fun n14 => aNew r9.2 53 [.int .i64 0, .int .i64 0, .string ⟨#[]⟩, .int .i64 0] fun p15 h16 => (aSt h16 p15 v10 4).bind fun h17 => bif n14 != 0 then some (.tuple (List.toArray [(.slice none 0 0), .int .i64 n14, .int .i64 x6]), h17) else (aLdN h17 p15 4).bind fun v18 => (aFill [.int .i64 0, .int .i64 0, .string ⟨#[]⟩, .int .i64 0] [(0, 4, v18)]).bind fun c19 => aNewS h17 53 c19 1 fun p20 h21 => (aApp h21 53 4 40 x5 p20).bind fun r22 => s15_0 hk C N n1 x0 r22.1 (IntKind.i64.wrap (x6 + n12)) r22.2 := by kernel_rfl
theorem c15 (d : Nat) (args : List Value) (h : AHeap) : call Try.prog Ms (d + 1) 15 args h = evFn hk0 Try.prog (call Try.prog Ms d) M15 d Try.f15 args h := by kernel_rfl

/-! 16 loop.example/g00101/laws.eqTokenS -/
noncomputable def F16_0 (hk : Hk (Value × AHeap)) (C : ACall) (N : Nat) (n1 : Nat) : Nx (Value × AHeap) := evSt hk Try.prog C M16 N Try.f16 [1, 1, 0, 1, 2, 6] [n1]
noncomputable def s16_0 (hk : Hk (Value × AHeap)) (C : ACall) (N : Nat) (n1 : Nat) (x0 : Value) (x1 : Value) (x5 : Int) (h : AHeap) := F16_0 hk C N n1 (⟨27, [(0, x0), (1, x1), (5, .int .i64 x5)]⟩) h
theorem e16 (hk : Hk (Value × AHeap)) (C : ACall) (N : Nat) (x0 : Value) (x1 : Value) (h : AHeap) : evFn hk Try.prog C M16 N Try.f16 [x0, x1] h =
    (aLen x0).bind fun v1 => (asI .i64 v1).bind fun n2 => (aLen x1).bind fun v3 => (asI .i64 v3).bind fun n4 => bif n2 != n4 then some (.bool false, h) else s16_0 hk C N N x0 x1 0 h := by kernel_rfl
theorem s16_0_eq (hk : Hk (Value × AHeap)) (C : ACall) (N : Nat) (n1 : Nat) (x0 : Value) (x1 : Value) (x5 : Int) (h : AHeap) : s16_0 hk C N (n1 + 1) x0 x1 x5 h =
    (aLen x0).bind fun v5 => (asI .i64 v5).bind fun n6 => bif decide (x5 < n6) then (aIdx x0 (.int .i64 x5) 4).bind fun v7 => (aLdN h v7 4).bind fun v8 => (aIdx x1 (.int .i64 x5) 4).bind fun v9 => (aLdN h v9 4).bind fun v10 => (C 54 [v8, v10] h).bind fun r11 => (asB r11.1).bind fun b12 => bif !b12 then some (.bool false, r11.2) else s16_0 hk C N n1 x0 x1 (IntKind.i64.wrap (x5 + 1)) r11.2 else some (.bool true, h) := by kernel_rfl
theorem c16 (d : Nat) (args : List Value) (h : AHeap) : call Try.prog Ms (d + 1) 16 args h = evFn hk0 Try.prog (call Try.prog Ms d) M16 d Try.f16 args h := by kernel_rfl

/-! 17 loop.example/g00101/laws.markTokenS -/
noncomputable def F17_0 (hk : Hk (Value × AHeap)) (C : ACall) (N : Nat) (n1 : Nat) : Nx (Value × AHeap) := evSt hk Try.prog C M17 N Try.f17 [1, 0, 1, 2, 6] [n1]
noncomputable def s17_0 (hk : Hk (Value × AHeap)) (C : ACall) (N : Nat) (n1 : Nat) (x0 : Value) (x1 : Int) (x5 : Int) (h : AHeap) := F17_0 hk C N n1 (⟨42, [(0, x0), (1, .int .i64 x1), (5, .int .i64 x5)]⟩) h
theorem e17 (hk : Hk (Value × AHeap)) (C : ACall) (N : Nat) (x0 : Value) (x1 : Int) (h : AHeap) : evFn hk Try.prog C M17 N Try.f17 [x0, .int .i64 x1] h =
    s17_0 hk C N N x0 x1 0 h := by kernel_rfl
theorem s17_0_eq (hk : Hk (Value × AHeap)) (C : ACall) (N : Nat) (n1 : Nat) (x0 : Value) (x1 : Int) (x5 : Int) (h : AHeap) : s17_0 hk C N (n1 + 1) x0 x1 x5 h =
    (aLen x0).bind fun v1 => (asI .i64 v1).bind fun n2 => bif decide (x5 < n2) then (aIdx x0 (.int .i64 x5) 4).bind fun v3 => (aOff v3 0).bind fun v4 => (aSt h v4 (.int .i64 x1) 1).bind fun h5 => (aIdx x0 (.int .i64 x5) 4).bind fun v6 => (aOff v6 1).bind fun v7 => (aSt h5 v7 (.int .i64 (IntKind.i64.wrap (x1 + 1))) 1).bind fun h8 => (C 55 [.int .i64 (IntKind.i64.wrap ((IntKind.i64.wrap (x1 + 1)) + 1))] h8).bind fun r9 => (asS r9.1).bind fun t10 => (aIdx x0 (.int .i64 x5) 4).bind fun v11 => (aOff v11 2).bind fun v12 => (aSt r9.2 v12 (.string t10) 1).bind fun h13 => (aIdx x0 (.int .i64 x5) 4).bind fun v14 => (aOff v14 3).bind fun v15 => (aSt h13 v15 (.int .i64 (IntKind.i64.wrap ((IntKind.i64.wrap ((IntKind.i64.wrap (x1 + 1)) + 1)) + 1))) 1).bind fun h16 => s17_0 hk C N n1 x0 (IntKind.i64.wrap ((IntKind.i64.wrap ((IntKind.i64.wrap ((IntKind.i64.wrap (x1 + 1)) + 1)) + 1)) + 1)) (IntKind.i64.wrap (x5 + 1)) h16 else some (.int .i64 x1, h) := by kernel_rfl
theorem c17 (d : Nat) (args : List Value) (h : AHeap) : call Try.prog Ms (d + 1) 17 args h = evFn hk0 Try.prog (call Try.prog Ms d) M17 d Try.f17 args h := by kernel_rfl

/-! 18 loop.example/g00101/laws.heldTokenS -/
noncomputable def F18_0 (hk : Hk (Value × AHeap)) (C : ACall) (N : Nat) (n1 : Nat) : Nx (Value × AHeap) := evSt hk Try.prog C M18 N Try.f18 [1, 0, 1, 2, 6] [n1]
noncomputable def s18_0 (hk : Hk (Value × AHeap)) (C : ACall) (N : Nat) (n1 : Nat) (x0 : Value) (x1 : Int) (x5 : Int) (h : AHeap) := F18_0 hk C N n1 (⟨50, [(0, x0), (1, .int .i64 x1), (5, .int .i64 x5)]⟩) h
theorem e18 (hk : Hk (Value × AHeap)) (C : ACall) (N : Nat) (x0 : Value) (x1 : Int) (h : AHeap) : evFn hk Try.prog C M18 N Try.f18 [x0, .int .i64 x1] h =
    s18_0 hk C N N x0 x1 0 h := by kernel_rfl
theorem s18_0_eq (hk : Hk (Value × AHeap)) (C : ACall) (N : Nat) (n1 : Nat) (x0 : Value) (x1 : Int) (x5 : Int) (h : AHeap) : s18_0 hk C N (n1 + 1) x0 x1 x5 h =
    (aLen x0).bind fun v1 => (asI .i64 v1).bind fun n2 => bif decide (x5 < n2) then (aIdx x0 (.int .i64 x5) 4).bind fun v3 => (aOff v3 0).bind fun v4 => (aLd1 h v4).bind fun v5 => (asI .i64 v5).bind fun n6 => bif n6 != x1 then some (.int .i64 (-1), h) else (aIdx x0 (.int .i64 x5) 4).bind fun v7 => (aOff v7 1).bind fun v8 => (aLd1 h v8).bind fun v9 => (asI .i64 v9).bind fun n10 => bif n10 != (IntKind.i64.wrap (x1 + 1)) then some (.int .i64 (-1), h) else (aIdx x0 (.int .i64 x5) 4).bind fun v11 => (aOff v11 2).bind fun v12 => (aLd1 h v12).bind fun v13 => (asS v13).bind fun t14 => (C 55 [.int .i64 (IntKind.i64.wrap ((IntKind.i64.wrap (x1 + 1)) + 1))] h).bind fun r15 => (asS r15.1).bind fun t16 => ((aLd1 r15.2 v12).bind fun v17 => (asS v17).bind fun t18 => some (vbeq (.string t18) (.string t14))).bind fun b19 => bif b19 then bif !(t14.toList == t16.toList) then some (.int .i64 (-1), r15.2) else (aIdx x0 (.int .i64 x5) 4).bind fun v20 => (aOff v20 3).bind fun v21 => (aLd1 r15.2 v21).bind fun v22 => (asI .i64 v22).bind fun n23 => bif n23 != (IntKind.i64.wrap ((IntKind.i64.wrap ((IntKind.i64.wrap (x1 + 1)) + 1)) + 1)) then some (.int .i64 (-1), r15.2) else s18_0 hk C N n1 x0 (IntKind.i64.wrap ((IntKind.i64.wrap ((IntKind.i64.wrap ((IntKind.i64.wrap (x1 + 1)) + 1)) + 1)) + 1)) (IntKind.i64.wrap (x5 + 1)) r15.2 else none else some (.int .i64 x1, h) := by kernel_rfl
theorem c18 (d : Nat) (args : List Value) (h : AHeap) : call Try.prog Ms (d + 1) 18 args h = evFn hk0 Try.prog (call Try.prog Ms d) M18 d Try.f18 args h := by kernel_rfl

/-! 50 loop.example/g00101/spec.l8Token -/
noncomputable def F50_0 (hk : Hk (Value × AHeap)) (C : ACall) (N : Nat) (n1 : Nat) : Nx (Value × AHeap) := evSt hk Try.prog C M50 N Try.f50 [1, 1, 1, 0, 2, 1, 4, 0, 2, 6] [n1]
noncomputable def s50_0 (hk : Hk (Value × AHeap)) (C : ACall) (N : Nat) (n1 : Nat) (x0 : ByteArray) (x1 : Int) (x4 : Value) (x7 : Int) (x8 : Value) (h : AHeap) := F50_0 hk C N n1 (⟨213, [(0, .string x0), (1, .int .i64 x1), (4, x4), (7, .int .i64 x7), (8, x8)]⟩) h
noncomputable def F50_2 (hk : Hk (Value × AHeap)) (C : ACall) (N : Nat) (n1 : Nat) : Nx (Value × AHeap) := evSt hk Try.prog C M50 N Try.f50 [1, 1, 1, 0, 2, 1, 5, 1, 4, 0, 2, 6] [n1]
noncomputable def s50_2 (hk : Hk (Value × AHeap)) (C : ACall) (N : Nat) (n1 : Nat) (x0 : ByteArray) (x1 : Int) (x4 : Value) (x7 : Int) (x8 : Value) (h : AHeap) := F50_2 hk C N n1 (⟨213, [(0, .string x0), (1, .int .i64 x1), (4, x4), (7, .int .i64 x7), (8, x8)]⟩) h
noncomputable def F50_5 (hk : Hk (Value × AHeap)) (C : ACall) (N : Nat) (n1 : Nat) : Nx (Value × AHeap) := evSt hk Try.prog C M50 N Try.f50 [1, 1, 1, 0, 2, 1, 5, 1, 5, 1, 4, 1, 0, 2, 6] [n1]
noncomputable def s50_5 (hk : Hk (Value × AHeap)) (C : ACall) (N : Nat) (n1 : Nat) (x0 : ByteArray) (x1 : Int) (x4 : Value) (x7 : Int) (x8 : Value) (h : AHeap) := F50_5 hk C N n1 (⟨213, [(0, .string x0), (1, .int .i64 x1), (4, x4), (7, .int .i64 x7), (8, x8)]⟩) h
noncomputable def F50_7 (hk : Hk (Value × AHeap)) (C : ACall) (N : Nat) (n1 : Nat) : Nx (Value × AHeap) := evSt hk Try.prog C M50 N Try.f50 [1, 1, 1, 1, 1, 0, 1, 2, 6] [n1]
noncomputable def s50_7 (hk : Hk (Value × AHeap)) (C : ACall) (N : Nat) (n1 : Nat) (x0 : ByteArray) (x1 : Int) (x4 : Value) (x8 : Value) (x10 : Value) (x11 : Int) (h : AHeap) := F50_7 hk C N n1 (⟨213, [(0, .string x0), (1, .int .i64 x1), (4, x4), (8, x8), (10, x10), (11, .int .i64 x11)]⟩) h
noncomputable def F50_1 (hk : Hk (Value × AHeap)) (C : ACall) (N : Nat) : Nx (Value × AHeap) := evSt hk Try.prog C M50 N Try.f50 [1, 1, 1, 0, 2, 1, 4, 1, 1, 1, 1] []
noncomputable def s50_1 (hk : Hk (Value × AHeap)) (C : ACall) (N : Nat) (x4 : Value) (x7 : Int) (x8 : Value) (h : AHeap) := hk 12 (⟨213, [(4, x4), (7, .int .i64 x7), (8, x8)]⟩) h (F50_1 hk C N)
noncomputable def F50_3 (hk : Hk (Value × AHeap)) (C : ACall) (N : Nat) : Nx (Value × AHeap) := evSt hk Try.prog C M50 N Try.f50 [1, 1, 1, 0, 2, 1, 5, 1, 4, 1, 1] []
noncomputable def s50_3 (hk : Hk (Value × AHeap)) (C : ACall) (N : Nat) (x0 : ByteArray) (x1 : Int) (x4 : Value) (x7 : Int) (x8 : Value) (h : AHeap) := hk 18 (⟨213, [(0, .string x0), (1, .int .i64 x1), (4, x4), (7, .int .i64 x7), (8, x8)]⟩) h (F50_3 hk C N)
noncomputable def F50_6 (hk : Hk (Value × AHeap)) (C : ACall) (N : Nat) : Nx (Value × AHeap) := evSt hk Try.prog C M50 N Try.f50 [1, 1, 1, 0, 2, 1, 5, 1, 5, 1, 4, 1, 1, 1] []
noncomputable def s50_6 (hk : Hk (Value × AHeap)) (C : ACall) (N : Nat) (x0 : ByteArray) (x1 : Int) (x4 : Value) (x7 : Int) (x8 : Value) (h : AHeap) := hk 31 (⟨213, [(0, .string x0), (1, .int .i64 x1), (4, x4), (7, .int .i64 x7), (8, x8)]⟩) h (F50_6 hk C N)
noncomputable def F50_8 (hk : Hk (Value × AHeap)) (C : ACall) (N : Nat) (n1 : Nat) : Nx (Value × AHeap) := evSt hk Try.prog C M50 N Try.f50 [1, 1, 1, 1, 1, 0, 1, 2, 3, 1, 0, 2, 1, 1, 4] [n1]
noncomputable def s50_8 (hk : Hk (Value × AHeap)) (C : ACall) (N : Nat) (n1 : Nat) (x1 : Int) (x4 : Value) (x8 : Value) (x10 : Value) (x11 : Int) (x12 : Int) (h : AHeap) := hk 40 (⟨213, [(1, .int .i64 x1), (4, x4), (8, x8), (10, x10), (11, .int .i64 x11), (12, .int .i64 x12)]⟩) h (F50_8 hk C N n1)
noncomputable def F50_4 (hk : Hk (Value × AHeap)) (C : ACall) (N : Nat) (n1 : Nat) : Nx (Value × AHeap) := evSt hk Try.prog C M50 N Try.f50 [1, 1, 1, 0, 2, 1, 5, 1, 4, 1, 1, 1, 1, 0, 1, 2, 6] [n1]
noncomputable def s50_4 (hk : Hk (Value × AHeap)) (C : ACall) (N : Nat) (n1 : Nat) (x0 : ByteArray) (x4 : Value) (x7 : Int) (x8 : Value) (x9 : Int) (h : AHeap) := F50_4 hk C N n1 (⟨213, [(0, .string x0), (4, x4), (7, .int .i64 x7), (8, x8), (9, .int .i64 x9)]⟩) h
theorem e50 (hk : Hk (Value × AHeap)) (C : ACall) (N : Nat) (x0 : ByteArray) (x1 : Int) (h : AHeap) : evFn hk Try.prog C M50 N Try.f50 [.string x0, .int .i64 x1] h =
    aNew h 53 [.int .i64 0, .int .i64 0, .string ⟨#[]⟩, .int .i64 0] fun p1 h2 => aNew h2 53 [.int .i64 0, .int .i64 0, .string ⟨#[]⟩, .int .i64 0] fun p3 h4 => (aSt h4 p3 (.agg (List.toArray [.int .i64 0, .int .i64 x1, .string ⟨#[]⟩, .int .i64 0])) 4).bind fun h5 => (aStrIx (.string x0) (.int .i64 x1)).bind fun v6 => (asI .u8 v6).bind fun n7 => (C 87 [.int .u8 n7] h5).bind fun r8 => (asB r8.1).bind fun b9 => bif b9 then s50_0 hk C N N x0 x1 p1 x1 p3 r8.2 else (aStrIx (.string x0) (.int .i64 x1)).bind fun v10 => (asI .u8 v10).bind fun n11 => (C 89 [.int .u8 n11] r8.2).bind fun r12 => (asB r12.1).bind fun b13 => bif b13 then s50_2 hk C N N x0 x1 p1 x1 p3 r12.2 else (aStrIx (.string x0) (.int .i64 x1)).bind fun v14 => (asI .u8 v14).bind fun n15 => bif n15 == 34 then s50_5 hk C N N x0 x1 p1 (IntKind.i64.wrap (x1 + 1)) p3 r12.2 else (C 91 [] r12.2).bind fun r16 => s50_7 hk C N N x0 x1 p1 p3 r16.1 0 r16.2 := by kernel_rfl
theorem s50_0_eq (hk : Hk (Value × AHeap)) (C : ACall) (N : Nat) (n1 : Nat) (x0 : ByteArray) (x1 : Int) (x4 : Value) (x7 : Int) (x8 : Value) (h : AHeap) : s50_0 hk C N (n1 + 1) x0 x1 x4 x7 x8 h =
    bif decide (x7 < (ByteArray.size x0 : Int)) then (aStrIx (.string x0) (.int .i64 x7)).bind fun v17 => (asI .u8 v17).bind fun n18 => (C 87 [.int .u8 n18] h).bind fun r19 => (asB r19.1).bind fun b20 => bif b20 then s50_0 hk C N n1 x0 x1 x4 (IntKind.i64.wrap (x7 + 1)) x8 r19.2 else (aOff x8 0).bind fun v21 => (aSt r19.2 v21 (.int .i64 1) 1).bind fun h22 => (aSubS (.string x0) (some (.int .i64 x1)) (some (.int .i64 x7))).bind fun v23 => (asS v23).bind fun t24 => (aOff x8 2).bind fun v25 => (aSt h22 v25 (.string t24) 1).bind fun h26 => (aOff x8 2).bind fun v27 => (aLd1 h26 v27).bind fun v28 => (asS v28).bind fun t29 => (C 88 [.string t29] h26).bind fun r30 => (asB r30.1).bind fun b31 => bif b31 then (aOff x8 0).bind fun v32 => (aSt r30.2 v32 (.int .i64 2) 1).bind fun h33 => s50_1 hk C N x4 x7 x8 h33 else bif decide ((IntKind.i64.wrap (x7 - x1)) > 12) then (aLdN r30.2 x8 4).bind fun v34 => (aSt r30.2 x4 v34 4).bind fun h35 => (aLdN h35 x4 4).bind fun v36 => bif List.all [v36, .int .i64 4, .int .i64 x7] isS2 then some (.tuple (List.toArray [v36, .int .i64 4, .int .i64 x7]), h35) else none else s50_1 hk C N x4 x7 x8 r30.2 else (aOff x8 0).bind fun v37 => (aSt h v37 (.int .i64 1) 1).bind fun h38 => (aSubS (.string x0) (some (.int .i64 x1)) (some (.int .i64 x7))).bind fun v39 => (asS v39).bind fun t40 => (aOff x8 2).bind fun v41 => (aSt h38 v41 (.string t40) 1).bind fun h42 => (aOff x8 2).bind fun v43 => (aLd1 h42 v43).bind fun v44 => (asS v44).bind fun t45 => (C 88 [.string t45] h42).bind fun r46 => (asB r46.1).bind fun b47 => bif b47 then (aOff x8 0).bind fun v48 => (aSt r46.2 v48 (.int .i64 2) 1).bind fun h49 => s50_1 hk C N x4 x7 x8 h49 else bif decide ((IntKind.i64.wrap (x7 - x1)) > 12) then (aLdN r46.2 x8 4).bind fun v50 => (aSt r46.2 x4 v50 4).bind fun h51 => (aLdN h51 x4 4).bind fun v52 => bif List.all [v52, .int .i64 4, .int .i64 x7] isS2 then some (.tuple (List.toArray [v52, .int .i64 4, .int .i64 x7]), h51) else none else s50_1 hk C N x4 x7 x8 r46.2 := by kernel_rfl
theorem s50_2_eq (hk : Hk (Value × AHeap)) (C : ACall) (N : Nat) (n1 : Nat) (x0 : ByteArray) (x1 : Int) (x4 : Value) (x7 : Int) (x8 : Value) (h : AHeap) : s50_2 hk C N (n1 + 1) x0 x1 x4 x7 x8 h =
    bif decide (x7 < (ByteArray.size x0 : Int)) then (aStrIx (.string x0) (.int .i64 x7)).bind fun v53 => (asI .u8 v53).bind fun n54 => (C 89 [.int .u8 n54] h).bind fun r55 => (asB r55.1).bind fun b56 => bif b56 then s50_2 hk C N n1 x0 x1 x4 (IntKind.i64.wrap (x7 + 1)) x8 r55.2 else bif decide ((IntKind.i64.wrap (x7 - x1)) > 15) then (aLdN r55.2 x8 4).bind fun v57 => (aSt r55.2 x4 v57 4).bind fun h58 => (aLdN h58 x4 4).bind fun v59 => bif List.all [v59, .int .i64 3, .int .i64 x7] isS2 then some (.tuple (List.toArray [v59, .int .i64 3, .int .i64 x7]), h58) else none else bif decide ((IntKind.i64.wrap (x7 - x1)) > 1) then (aStrIx (.string x0) (.int .i64 x1)).bind fun v60 => (asI .u8 v60).bind fun n61 => bif n61 == 48 then (aLdN r55.2 x8 4).bind fun v62 => (aSt r55.2 x4 v62 4).bind fun h63 => (aLdN h63 x4 4).bind fun v64 => bif List.all [v64, .int .i64 3, .int .i64 x7] isS2 then some (.tuple (List.toArray [v64, .int .i64 3, .int .i64 x7]), h63) else none else bif decide (x7 < (ByteArray.size x0 : Int)) then (aStrIx (.string x0) (.int .i64 x7)).bind fun v65 => (asI .u8 v65).bind fun n66 => (C 87 [.int .u8 n66] r55.2).bind fun r67 => (asB r67.1).bind fun b68 => bif b68 then (aLdN r67.2 x8 4).bind fun v69 => (aSt r67.2 x4 v69 4).bind fun h70 => (aLdN h70 x4 4).bind fun v71 => bif List.all [v71, .int .i64 3, .int .i64 x7] isS2 then some (.tuple (List.toArray [v71, .int .i64 3, .int .i64 x7]), h70) else none else s50_3 hk C N x0 x1 x4 x7 x8 r67.2 else s50_3 hk C N x0 x1 x4 x7 x8 r55.2 else bif decide (x7 < (ByteArray.size x0 : Int)) then (aStrIx (.string x0) (.int .i64 x7)).bind fun v72 => (asI .u8 v72).bind fun n73 => (C 87 [.int .u8 n73] r55.2).bind fun r74 => (asB r74.1).bind fun b75 => bif b75 then (aLdN r74.2 x8 4).bind fun v76 => (aSt r74.2 x4 v76 4).bind fun h77 => (aLdN h77 x4 4).bind fun v78 => bif List.all [v78, .int .i64 3, .int .i64 x7] isS2 then some (.tuple (List.toArray [v78, .int .i64 3, .int .i64 x7]), h77) else none else s50_3 hk C N x0 x1 x4 x7 x8 r74.2 else s50_3 hk C N x0 x1 x4 x7 x8 r55.2 else bif decide ((IntKind.i64.wrap (x7 - x1)) > 15) then (aLdN h x8 4).bind fun v79 => (aSt h x4 v79 4).bind fun h80 => (aLdN h80 x4 4).bind fun v81 => bif List.all [v81, .int .i64 3, .int .i64 x7] isS2 then some (.tuple (List.toArray [v81, .int .i64 3, .int .i64 x7]), h80) else none else bif decide ((IntKind.i64.wrap (x7 - x1)) > 1) then (aStrIx (.string x0) (.int .i64 x1)).bind fun v82 => (asI .u8 v82).bind fun n83 => bif n83 == 48 then (aLdN h x8 4).bind fun v84 => (aSt h x4 v84 4).bind fun h85 => (aLdN h85 x4 4).bind fun v86 => bif List.all [v86, .int .i64 3, .int .i64 x7] isS2 then some (.tuple (List.toArray [v86, .int .i64 3, .int .i64 x7]), h85) else none else bif decide (x7 < (ByteArray.size x0 : Int)) then (aStrIx (.string x0) (.int .i64 x7)).bind fun v87 => (asI .u8 v87).bind fun n88 => (C 87 [.int .u8 n88] h).bind fun r89 => (asB r89.1).bind fun b90 => bif b90 then (aLdN r89.2 x8 4).bind fun v91 => (aSt r89.2 x4 v91 4).bind fun h92 => (aLdN h92 x4 4).bind fun v93 => bif List.all [v93, .int .i64 3, .int .i64 x7] isS2 then some (.tuple (List.toArray [v93, .int .i64 3, .int .i64 x7]), h92) else none else s50_3 hk C N x0 x1 x4 x7 x8 r89.2 else s50_3 hk C N x0 x1 x4 x7 x8 h else bif decide (x7 < (ByteArray.size x0 : Int)) then (aStrIx (.string x0) (.int .i64 x7)).bind fun v94 => (asI .u8 v94).bind fun n95 => (C 87 [.int .u8 n95] h).bind fun r96 => (asB r96.1).bind fun b97 => bif b97 then (aLdN r96.2 x8 4).bind fun v98 => (aSt r96.2 x4 v98 4).bind fun h99 => (aLdN h99 x4 4).bind fun v100 => bif List.all [v100, .int .i64 3, .int .i64 x7] isS2 then some (.tuple (List.toArray [v100, .int .i64 3, .int .i64 x7]), h99) else none else s50_3 hk C N x0 x1 x4 x7 x8 r96.2 else s50_3 hk C N x0 x1 x4 x7 x8 h := by kernel_rfl
theorem s50_5_eq (hk : Hk (Value × AHeap)) (C : ACall) (N : Nat) (n1 : Nat) (x0 : ByteArray) (x1 : Int) (x4 : Value) (x7 : Int) (x8 : Value) (h : AHeap) : s50_5 hk C N (n1 + 1) x0 x1 x4 x7 x8 h =
    bif decide (x7 < (ByteArray.size x0 : Int)) then (aStrIx (.string x0) (.int .i64 x7)).bind fun v101 => (asI .u8 v101).bind fun n102 => (C 90 [.int .u8 n102] h).bind fun r103 => (asB r103.1).bind fun b104 => bif b104 then s50_5 hk C N n1 x0 x1 x4 (IntKind.i64.wrap (x7 + 1)) x8 r103.2 else bif decide (x7 ≥ (ByteArray.size x0 : Int)) then (aLdN r103.2 x8 4).bind fun v105 => (aSt r103.2 x4 v105 4).bind fun h106 => (aLdN h106 x4 4).bind fun v107 => bif List.all [v107, .int .i64 5, .int .i64 x7] isS2 then some (.tuple (List.toArray [v107, .int .i64 5, .int .i64 x7]), h106) else none else (aStrIx (.string x0) (.int .i64 x7)).bind fun v108 => (asI .u8 v108).bind fun n109 => bif n109 != 34 then (aLdN r103.2 x8 4).bind fun v110 => (aSt r103.2 x4 v110 4).bind fun h111 => (aLdN h111 x4 4).bind fun v112 => bif List.all [v112, .int .i64 5, .int .i64 x7] isS2 then some (.tuple (List.toArray [v112, .int .i64 5, .int .i64 x7]), h111) else none else bif decide ((IntKind.i64.wrap ((IntKind.i64.wrap (x7 - x1)) - 1)) > 160) then (aLdN r103.2 x8 4).bind fun v113 => (aSt r103.2 x4 v113 4).bind fun h114 => (aLdN h114 x4 4).bind fun v115 => bif List.all [v115, .int .i64 5, .int .i64 x7] isS2 then some (.tuple (List.toArray [v115, .int .i64 5, .int .i64 x7]), h114) else none else s50_6 hk C N x0 x1 x4 x7 x8 r103.2 else bif decide (x7 ≥ (ByteArray.size x0 : Int)) then (aLdN h x8 4).bind fun v116 => (aSt h x4 v116 4).bind fun h117 => (aLdN h117 x4 4).bind fun v118 => bif List.all [v118, .int .i64 5, .int .i64 x7] isS2 then some (.tuple (List.toArray [v118, .int .i64 5, .int .i64 x7]), h117) else none else (aStrIx (.string x0) (.int .i64 x7)).bind fun v119 => (asI .u8 v119).bind fun n120 => bif n120 != 34 then (aLdN h x8 4).bind fun v121 => (aSt h x4 v121 4).bind fun h122 => (aLdN h122 x4 4).bind fun v123 => bif List.all [v123, .int .i64 5, .int .i64 x7] isS2 then some (.tuple (List.toArray [v123, .int .i64 5, .int .i64 x7]), h122) else none else bif decide ((IntKind.i64.wrap ((IntKind.i64.wrap (x7 - x1)) - 1)) > 160) then (aLdN h x8 4).bind fun v124 => (aSt h x4 v124 4).bind fun h125 => (aLdN h125 x4 4).bind fun v126 => bif List.all [v126, .int .i64 5, .int .i64 x7] isS2 then some (.tuple (List.toArray [v126, .int .i64 5, .int .i64 x7]), h125) else none else s50_6 hk C N x0 x1 x4 x7 x8 h := by kernel_rfl
theorem s50_7_eq (hk : Hk (Value × AHeap)) (C : ACall) (N : Nat) (n1 : Nat) (x0 : ByteArray) (x1 : Int) (x4 : Value) (x8 : Value) (x10 : Value) (x11 : Int) (h : AHeap) : s50_7 hk C N (n1 + 1) x0 x1 x4 x8 x10 x11 h =
    (aLen x10).bind fun v127 => (asI .i64 v127).bind fun n128 => bif decide (x11 < n128) then (aIdx x10 (.int .i64 x11) 1).bind fun v129 => (aLd1 h v129).bind fun v130 => (asS v130).bind fun t131 => bif decide ((IntKind.i64.wrap (x1 + (ByteArray.size t131 : Int))) ≤ (ByteArray.size x0 : Int)) then (aSubS (.string x0) (some (.int .i64 x1)) (some (.int .i64 (IntKind.i64.wrap (x1 + (ByteArray.size t131 : Int)))))).bind fun v132 => (asS v132).bind fun t133 => (aIdx x10 (.int .i64 x11) 1).bind fun v134 => (aLd1 h v134).bind fun v135 => (asS v135).bind fun t136 => bif t133.toList == t136.toList then s50_8 hk C N n1 x1 x4 x8 x10 x11 (ByteArray.size t131 : Int) h else s50_7 hk C N n1 x0 x1 x4 x8 x10 (IntKind.i64.wrap (x11 + 1)) h else s50_7 hk C N n1 x0 x1 x4 x8 x10 (IntKind.i64.wrap (x11 + 1)) h else (aLdN h x8 4).bind fun v137 => (aSt h x4 v137 4).bind fun h138 => (aLdN h138 x4 4).bind fun v139 => bif List.all [v139, .int .i64 2, .int .i64 x1] isS2 then some (.tuple (List.toArray [v139, .int .i64 2, .int .i64 x1]), h138) else none := by kernel_rfl
theorem s50_1_j (C : ACall) (N : Nat) (x4 : Value) (x7 : Int) (x8 : Value) (h : AHeap) : s50_1 hk0 C N x4 x7 x8 h = F50_1 hk0 C N (⟨213, [(4, x4), (7, .int .i64 x7), (8, x8)]⟩) h := by delta s50_1; exact hk0_app _ _ _ _
theorem s50_1_eq (hk : Hk (Value × AHeap)) (C : ACall) (N : Nat) (x4 : Value) (x7 : Int) (x8 : Value) (h : AHeap) : F50_1 hk C N (⟨213, [(4, x4), (7, .int .i64 x7), (8, x8)]⟩) h =
    (aLdN h x8 4).bind fun v140 => (aSt h x4 v140 4).bind fun h141 => (aLdN h141 x4 4).bind fun v142 => bif List.all [v142, .int .i64 0, .int .i64 x7] isS2 then some (.tuple (List.toArray [v142, .int .i64 0, .int .i64 x7]), h141) else none := by kernel_rfl
theorem s50_3_j (C : ACall) (N : Nat) (x0 : ByteArray) (x1 : Int) (x4 : Value) (x7 : Int) (x8 : Value) (h : AHeap) : s50_3 hk0 C N x0 x1 x4 x7 x8 h = F50_3 hk0 C N (⟨213, [(0, .string x0), (1, .int .i64 x1), (4, x4), (7, .int .i64 x7), (8, x8)]⟩) h := by delta s50_3; exact hk0_app _ _ _ _
theorem s50_3_eq (hk : Hk (Value × AHeap)) (C : ACall) (N : Nat) (x0 : ByteArray) (x1 : Int) (x4 : Value) (x7 : Int) (x8 : Value) (h : AHeap) : F50_3 hk C N (⟨213, [(0, .string x0), (1, .int .i64 x1), (4, x4), (7, .int .i64 x7), (8, x8)]⟩) h =
    (aOff x8 0).bind fun v143 => (aSt h v143 (.int .i64 3) 1).bind fun h144 => (aSubS (.string x0) (some (.int .i64 x1)) (some (.int .i64 x7))).bind fun v145 => (asS v145).bind fun t146 => (aOff x8 2).bind fun v147 => (aSt h144 v147 (.string t146) 1).bind fun h148 => s50_4 hk C N N x0 x4 x7 x8 x1 h148 := by kernel_rfl
theorem s50_6_j (C : ACall) (N : Nat) (x0 : ByteArray) (x1 : Int) (x4 : Value) (x7 : Int) (x8 : Value) (h : AHeap) : s50_6 hk0 C N x0 x1 x4 x7 x8 h = F50_6 hk0 C N (⟨213, [(0, .string x0), (1, .int .i64 x1), (4, x4), (7, .int .i64 x7), (8, x8)]⟩) h := by delta s50_6; exact hk0_app _ _ _ _
theorem s50_6_eq (hk : Hk (Value × AHeap)) (C : ACall) (N : Nat) (x0 : ByteArray) (x1 : Int) (x4 : Value) (x7 : Int) (x8 : Value) (h : AHeap) : F50_6 hk C N (⟨213, [(0, .string x0), (1, .int .i64 x1), (4, x4), (7, .int .i64 x7), (8, x8)]⟩) h =
    (aOff x8 0).bind fun v149 => (aSt h v149 (.int .i64 4) 1).bind fun h150 => (aSubS (.string x0) (some (.int .i64 (IntKind.i64.wrap (x1 + 1)))) (some (.int .i64 x7))).bind fun v151 => (asS v151).bind fun t152 => (aOff x8 2).bind fun v153 => (aSt h150 v153 (.string t152) 1).bind fun h154 => (aLdN h154 x8 4).bind fun v155 => (aSt h154 x4 v155 4).bind fun h156 => (aLdN h156 x4 4).bind fun v157 => bif List.all [v157, .int .i64 0, .int .i64 (IntKind.i64.wrap (x7 + 1))] isS2 then some (.tuple (List.toArray [v157, .int .i64 0, .int .i64 (IntKind.i64.wrap (x7 + 1))]), h156) else none := by kernel_rfl
theorem s50_8_j (C : ACall) (N : Nat) (n1 : Nat) (x1 : Int) (x4 : Value) (x8 : Value) (x10 : Value) (x11 : Int) (x12 : Int) (h : AHeap) : s50_8 hk0 C N n1 x1 x4 x8 x10 x11 x12 h = F50_8 hk0 C N n1 (⟨213, [(1, .int .i64 x1), (4, x4), (8, x8), (10, x10), (11, .int .i64 x11), (12, .int .i64 x12)]⟩) h := by delta s50_8; exact hk0_app _ _ _ _
theorem s50_8_eq (hk : Hk (Value × AHeap)) (C : ACall) (N : Nat) (n1 : Nat) (x1 : Int) (x4 : Value) (x8 : Value) (x10 : Value) (x11 : Int) (x12 : Int) (h : AHeap) : F50_8 hk C N n1 (⟨213, [(1, .int .i64 x1), (4, x4), (8, x8), (10, x10), (11, .int .i64 x11), (12, .int .i64 x12)]⟩) h =
    (aOff x8 0).bind fun v158 => (aSt h v158 (.int .i64 5) 1).bind fun h159 => (aIdx x10 (.int .i64 x11) 1).bind fun v160 => (aLd1 h159 v160).bind fun v161 => (asS v161).bind fun t162 => (aOff x8 2).bind fun v163 => (aSt h159 v163 (.string t162) 1).bind fun h164 => (aLdN h164 x8 4).bind fun v165 => (aSt h164 x4 v165 4).bind fun h166 => (aLdN h166 x4 4).bind fun v167 => bif List.all [v167, .int .i64 0, .int .i64 (IntKind.i64.wrap (x1 + x12))] isS2 then some (.tuple (List.toArray [v167, .int .i64 0, .int .i64 (IntKind.i64.wrap (x1 + x12))]), h166) else none := by kernel_rfl
theorem s50_4_eq (hk : Hk (Value × AHeap)) (C : ACall) (N : Nat) (n1 : Nat) (x0 : ByteArray) (x4 : Value) (x7 : Int) (x8 : Value) (x9 : Int) (h : AHeap) : s50_4 hk C N (n1 + 1) x0 x4 x7 x8 x9 h =
    bif decide (x9 < x7) then (aOff x8 3).bind fun v168 => (aLd1 h v168).bind fun v169 => (asI .i64 v169).bind fun n170 => (aStrIx (.string x0) (.int .i64 x9)).bind fun v171 => (asI .u8 v171).bind fun n172 => (aOff x8 3).bind fun v173 => (aSt h v173 (.int .i64 (IntKind.i64.wrap ((IntKind.i64.wrap (n170 * 10)) + (IntKind.i64.wrap (IntKind.u8.wrap (n172 - 48)))))) 1).bind fun h174 => s50_4 hk C N n1 x0 x4 x7 x8 (IntKind.i64.wrap (x9 + 1)) h174 else (aLdN h x8 4).bind fun v175 => (aSt h x4 v175 4).bind fun h176 => (aLdN h176 x4 4).bind fun v177 => bif List.all [v177, .int .i64 0, .int .i64 x7] isS2 then some (.tuple (List.toArray [v177, .int .i64 0, .int .i64 x7]), h176) else none := by kernel_rfl
theorem c50 (d : Nat) (args : List Value) (h : AHeap) : call Try.prog Ms (d + 1) 50 args h = evFn hk0 Try.prog (call Try.prog Ms d) M50 d Try.f50 args h := by kernel_rfl

/-! 51 loop.example/g00101/impl.run -/
noncomputable def F51_0 (hk : Hk (Value × AHeap)) (C : ACall) (N : Nat) (n1 : Nat) : Nx (Value × AHeap) := evSt hk Try.prog C M51 N Try.f51 [1, 0, 2, 6] [n1]
noncomputable def s51_0 (hk : Hk (Value × AHeap)) (C : ACall) (N : Nat) (n1 : Nat) (x0 : ByteArray) (x1 : Int) (x2 : Value) (h : AHeap) := F51_0 hk C N n1 (⟨21, [(0, .string x0), (1, .int .i64 x1), (2, x2)]⟩) h
theorem e51 (hk : Hk (Value × AHeap)) (C : ACall) (N : Nat) (x0 : ByteArray) (x1 : Int) (x2 : Value) (h : AHeap) : evFn hk Try.prog C M51 N Try.f51 [.string x0, .int .i64 x1, x2] h =
    s51_0 hk C N N x0 x1 x2 h := by kernel_rfl
theorem s51_0_eq (hk : Hk (Value × AHeap)) (C : ACall) (N : Nat) (n1 : Nat) (x0 : ByteArray) (x1 : Int) (x2 : Value) (h : AHeap) : s51_0 hk C N (n1 + 1) x0 x1 x2 h =
    bif decide (x1 < (ByteArray.size x0 : Int)) then (aStrIx (.string x0) (.int .i64 x1)).bind fun v1 => (asI .u8 v1).bind fun n2 => (aCallV C x2 [.int .u8 n2] h).bind fun r3 => (asB r3.1).bind fun b4 => bif b4 then s51_0 hk C N n1 x0 (IntKind.i64.wrap (x1 + 1)) x2 r3.2 else some (.int .i64 x1, r3.2) else some (.int .i64 x1, h) := by kernel_rfl
theorem c51 (d : Nat) (args : List Value) (h : AHeap) : call Try.prog Ms (d + 1) 51 args h = evFn hk0 Try.prog (call Try.prog Ms d) M51 d Try.f51 args h := by kernel_rfl

/-! 52 loop.example/g00101/impl.Lex$1 -/
theorem e52 (hk : Hk (Value × AHeap)) (C : ACall) (N : Nat) (x0 : Int) (h : AHeap) : evFn hk Try.prog C M52 N Try.f52 [.int .u8 x0] h =
    some (.bool (x0 != 10), h) := by kernel_rfl
theorem c52 (d : Nat) (args : List Value) (h : AHeap) : call Try.prog Ms (d + 1) 52 args h = evFn hk0 Try.prog (call Try.prog Ms d) M52 d Try.f52 args h := by kernel_rfl

/-! 53 loop.example/g00101/impl.lexToken -/
noncomputable def F53_0 (hk : Hk (Value × AHeap)) (C : ACall) (N : Nat) : Nx (Value × AHeap) := evSt hk Try.prog C M53 N Try.f53 [1, 1, 0, 2, 1, 4, 1, 1] []
noncomputable def s53_0 (hk : Hk (Value × AHeap)) (C : ACall) (N : Nat) (x4 : Value) (x8 : Value) (h : AHeap) := hk 8 (⟨136, [(4, x4), (8, x8)]⟩) h (F53_0 hk C N)
noncomputable def F53_1 (hk : Hk (Value × AHeap)) (C : ACall) (N : Nat) : Nx (Value × AHeap) := evSt hk Try.prog C M53 N Try.f53 [1, 1, 0, 2, 1, 5, 1, 5, 1, 4, 1, 1] []
noncomputable def s53_1 (hk : Hk (Value × AHeap)) (C : ACall) (N : Nat) (x0 : ByteArray) (x1 : Int) (x4 : Value) (x11 : Int) (h : AHeap) := hk 16 (⟨136, [(0, .string x0), (1, .int .i64 x1), (4, x4), (11, .int .i64 x11)]⟩) h (F53_1 hk C N)
noncomputable def F53_2 (hk : Hk (Value × AHeap)) (C : ACall) (N : Nat) : Nx (Value × AHeap) := evSt hk Try.prog C M53 N Try.f53 [1, 1, 1, 1] []
noncomputable def s53_2 (hk : Hk (Value × AHeap)) (C : ACall) (N : Nat) (x0 : ByteArray) (x1 : Int) (x4 : Value) (x7 : Int) (h : AHeap) := hk 25 (⟨136, [(0, .string x0), (1, .int .i64 x1), (4, x4), (7, .int .u8 x7)]⟩) h (F53_2 hk C N)
noncomputable def F53_3 (hk : Hk (Value × AHeap)) (C : ACall) (N : Nat) : Nx (Value × AHeap) := evSt hk Try.prog C M53 N Try.f53 [1, 1, 1, 1, 1] []
noncomputable def s53_3 (hk : Hk (Value × AHeap)) (C : ACall) (N : Nat) (x4 : Value) (h : AHeap) := hk 44 (⟨136, [(4, x4)]⟩) h (F53_3 hk C N)
theorem e53 (hk : Hk (Value × AHeap)) (C : ACall) (N : Nat) (x0 : ByteArray) (x1 : Int) (h : AHeap) : evFn hk Try.prog C M53 N Try.f53 [.string x0, .int .i64 x1] h =
    aNew h 53 [.int .i64 0, .int .i64 0, .string ⟨#[]⟩, .int .i64 0] fun p1 h2 => (aStrIx (.string x0) (.int .i64 x1)).bind fun v3 => (asI .u8 v3).bind fun n4 => (C 92 [.int .u8 n4] h2).bind fun r5 => (asB r5.1).bind fun b6 => bif b6 then (C 51 [.string x0, .int .i64 x1, (.func (.func 92) #[] #[])] r5.2).bind fun r7 => (asI .i64 r7.1).bind fun n8 => (aSubS (.string x0) (some (.int .i64 x1)) (some (.int .i64 n8))).bind fun v9 => (asS v9).bind fun t10 => aNew r7.2 53 [.int .i64 0, .int .i64 0, .string ⟨#[]⟩, .int .i64 0] fun p11 h12 => (aSt h12 p11 (.agg (List.toArray [.int .i64 1, .int .i64 x1, .string t10, .int .i64 0])) 4).bind fun h13 => (aOff p11 2).bind fun v14 => (aLd1 h13 v14).bind fun v15 => (asS v15).bind fun t16 => (C 93 [.string t16] h13).bind fun r17 => (asB r17.1).bind fun b18 => bif b18 then (aOff p11 0).bind fun v19 => (aSt r17.2 v19 (.int .i64 2) 1).bind fun h20 => s53_0 hk C N p1 p11 h20 else (aOff p11 2).bind fun v21 => (aLd1 r17.2 v21).bind fun v22 => (asS v22).bind fun t23 => bif decide ((ByteArray.size t23 : Int) > 12) then (aSt r17.2 p1 (.agg (List.toArray [.int .i64 0, .int .i64 0, .string ⟨#[]⟩, .int .i64 0])) 4).bind fun h24 => (aLdN h24 p1 4).bind fun v25 => bif List.all [v25, .int .i64 0, .int .i64 4] isS2 then some (.tuple (List.toArray [v25, .int .i64 0, .int .i64 4]), h24) else none else s53_0 hk C N p1 p11 r17.2 else (C 94 [.int .u8 n4] r5.2).bind fun r26 => (asB r26.1).bind fun b27 => bif b27 then (C 95 [.string x0, .int .i64 x1] r26.2).bind fun r28 => (aExt r28.1 0).bind fun v29 => (aExt r28.1 1).bind fun v30 => (asI .i64 v30).bind fun n31 => aNew r28.2 53 [.int .i64 0, .int .i64 0, .string ⟨#[]⟩, .int .i64 0] fun p32 h33 => (aSt h33 p32 v29 4).bind fun h34 => (aLdN h34 p32 4).bind fun v35 => (aOff p32 2).bind fun v36 => (aLd1 h34 v36).bind fun v37 => (asS v37).bind fun t38 => (aSt h34 p1 v35 4).bind fun h39 => ((aLd1 h39 v36).bind fun v40 => (asS v40).bind fun t41 => some (vbeq (.string t41) (.string t38))).bind fun b42 => bif b42 then (aLdN h39 p1 4).bind fun v43 => bif List.all [v43, .int .i64 (ByteArray.size t38 : Int), .int .i64 n31] isS2 then some (.tuple (List.toArray [v43, .int .i64 (ByteArray.size t38 : Int), .int .i64 n31]), h39) else none else none else bif n4 == 34 then (C 51 [.string x0, .int .i64 (IntKind.i64.wrap (x1 + 1)), (.func (.func 96) #[] #[])] r26.2).bind fun r44 => (asI .i64 r44.1).bind fun n45 => bif n45 == (ByteArray.size x0 : Int) then (aSt r44.2 p1 (.agg (List.toArray [.int .i64 0, .int .i64 0, .string ⟨#[]⟩, .int .i64 0])) 4).bind fun h46 => (aLdN h46 p1 4).bind fun v47 => bif List.all [v47, .int .i64 0, .int .i64 5] isS2 then some (.tuple (List.toArray [v47, .int .i64 0, .int .i64 5]), h46) else none else (aStrIx (.string x0) (.int .i64 n45)).bind fun v48 => (asI .u8 v48).bind fun n49 => bif n49 != 34 then (aSt r44.2 p1 (.agg (List.toArray [.int .i64 0, .int .i64 0, .string ⟨#[]⟩, .int .i64 0])) 4).bind fun h50 => (aLdN h50 p1 4).bind fun v51 => bif List.all [v51, .int .i64 0, .int .i64 5] isS2 then some (.tuple (List.toArray [v51, .int .i64 0, .int .i64 5]), h50) else none else bif decide ((IntKind.i64.wrap ((IntKind.i64.wrap (n45 - x1)) - 1)) > 160) then (aSt r44.2 p1 (.agg (List.toArray [.int .i64 0, .int .i64 0, .string ⟨#[]⟩, .int .i64 0])) 4).bind fun h52 => (aLdN h52 p1 4).bind fun v53 => bif List.all [v53, .int .i64 0, .int .i64 5] isS2 then some (.tuple (List.toArray [v53, .int .i64 0, .int .i64 5]), h52) else none else s53_1 hk C N x0 x1 p1 n45 r44.2 else bif decide ((IntKind.i64.wrap (x1 + 1)) < (ByteArray.size x0 : Int)) then (aSubS (.string x0) (some (.int .i64 x1)) (some (.int .i64 (IntKind.i64.wrap (x1 + 2))))).bind fun v54 => (asS v54).bind fun t55 => bif t55.toList == (⟨#[46, 46]⟩ : ByteArray).toList then bif t55.toList == (⟨#[46, 46]⟩ : ByteArray).toList then (aSt r26.2 p1 (.agg (List.toArray [.int .i64 5, .int .i64 x1, .string t55, .int .i64 0])) 4).bind fun h56 => (aLdN h56 p1 4).bind fun v57 => bif List.all [v57, .int .i64 2, .int .i64 0] isS2 then some (.tuple (List.toArray [v57, .int .i64 2, .int .i64 0]), h56) else none else s53_2 hk C N x0 x1 p1 n4 r26.2 else bif t55.toList == (⟨#[61, 61]⟩ : ByteArray).toList then bif t55.toList == (⟨#[61, 61]⟩ : ByteArray).toList then (aSt r26.2 p1 (.agg (List.toArray [.int .i64 5, .int .i64 x1, .string t55, .int .i64 0])) 4).bind fun h58 => (aLdN h58 p1 4).bind fun v59 => bif List.all [v59, .int .i64 2, .int .i64 0] isS2 then some (.tuple (List.toArray [v59, .int .i64 2, .int .i64 0]), h58) else none else s53_2 hk C N x0 x1 p1 n4 r26.2 else bif t55.toList == (⟨#[126, 61]⟩ : ByteArray).toList then bif t55.toList == (⟨#[126, 61]⟩ : ByteArray).toList then (aSt r26.2 p1 (.agg (List.toArray [.int .i64 5, .int .i64 x1, .string t55, .int .i64 0])) 4).bind fun h60 => (aLdN h60 p1 4).bind fun v61 => bif List.all [v61, .int .i64 2, .int .i64 0] isS2 then some (.tuple (List.toArray [v61, .int .i64 2, .int .i64 0]), h60) else none else s53_2 hk C N x0 x1 p1 n4 r26.2 else bif t55.toList == (⟨#[60, 61]⟩ : ByteArray).toList then (aSt r26.2 p1 (.agg (List.toArray [.int .i64 5, .int .i64 x1, .string t55, .int .i64 0])) 4).bind fun h62 => (aLdN h62 p1 4).bind fun v63 => bif List.all [v63, .int .i64 2, .int .i64 0] isS2 then some (.tuple (List.toArray [v63, .int .i64 2, .int .i64 0]), h62) else none else s53_2 hk C N x0 x1 p1 n4 r26.2 else s53_2 hk C N x0 x1 p1 n4 r26.2 := by kernel_rfl
theorem s53_0_j (C : ACall) (N : Nat) (x4 : Value) (x8 : Value) (h : AHeap) : s53_0 hk0 C N x4 x8 h = F53_0 hk0 C N (⟨136, [(4, x4), (8, x8)]⟩) h := by delta s53_0; exact hk0_app _ _ _ _
theorem s53_0_eq (hk : Hk (Value × AHeap)) (C : ACall) (N : Nat) (x4 : Value) (x8 : Value) (h : AHeap) : F53_0 hk C N (⟨136, [(4, x4), (8, x8)]⟩) h =
    (aLdN h x8 4).bind fun v64 => (aOff x8 2).bind fun v65 => (aLd1 h v65).bind fun v66 => (asS v66).bind fun t67 => (aSt h x4 v64 4).bind fun h68 => ((aLd1 h68 v65).bind fun v69 => (asS v69).bind fun t70 => some (vbeq (.string t70) (.string t67))).bind fun b71 => bif b71 then (aLdN h68 x4 4).bind fun v72 => bif List.all [v72, .int .i64 (ByteArray.size t67 : Int), .int .i64 0] isS2 then some (.tuple (List.toArray [v72, .int .i64 (ByteArray.size t67 : Int), .int .i64 0]), h68) else none else none := by kernel_rfl
theorem s53_1_j (C : ACall) (N : Nat) (x0 : ByteArray) (x1 : Int) (x4 : Value) (x11 : Int) (h : AHeap) : s53_1 hk0 C N x0 x1 x4 x11 h = F53_1 hk0 C N (⟨136, [(0, .string x0), (1, .int .i64 x1), (4, x4), (11, .int .i64 x11)]⟩) h := by delta s53_1; exact hk0_app _ _ _ _
theorem s53_1_eq (hk : Hk (Value × AHeap)) (C : ACall) (N : Nat) (x0 : ByteArray) (x1 : Int) (x4 : Value) (x11 : Int) (h : AHeap) : F53_1 hk C N (⟨136, [(0, .string x0), (1, .int .i64 x1), (4, x4), (11, .int .i64 x11)]⟩) h =
    (aSubS (.string x0) (some (.int .i64 (IntKind.i64.wrap (x1 + 1)))) (some (.int .i64 x11))).bind fun v73 => (asS v73).bind fun t74 => (aSt h x4 (.agg (List.toArray [.int .i64 4, .int .i64 x1, .string t74, .int .i64 0])) 4).bind fun h75 => (aLdN h75 x4 4).bind fun v76 => bif List.all [v76, .int .i64 (IntKind.i64.wrap ((IntKind.i64.wrap (x11 + 1)) - x1)), .int .i64 0] isS2 then some (.tuple (List.toArray [v76, .int .i64 (IntKind.i64.wrap ((IntKind.i64.wrap (x11 + 1)) - x1)), .int .i64 0]), h75) else none := by kernel_rfl
theorem s53_2_j (C : ACall) (N : Nat) (x0 : ByteArray) (x1 : Int) (x4 : Value) (x7 : Int) (h : AHeap) : s53_2 hk0 C N x0 x1 x4 x7 h = F53_2 hk0 C N (⟨136, [(0, .string x0), (1, .int .i64 x1), (4, x4), (7, .int .u8 x7)]⟩) h := by delta s53_2; exact hk0_app _ _ _ _
theorem s53_2_eq (hk : Hk (Value × AHeap)) (C : ACall) (N : Nat) (x0 : ByteArray) (x1 : Int) (x4 : Value) (x7 : Int) (h : AHeap) : F53_2 hk C N (⟨136, [(0, .string x0), (1, .int .i64 x1), (4, x4), (7, .int .u8 x7)]⟩) h =
    bif x7 == 123 then bif x7 == 123 then (aSubS (.string x0) (some (.int .i64 x1)) (some (.int .i64 (IntKind.i64.wrap (x1 + 1))))).bind fun v77 => (asS v77).bind fun t78 => (aSt h x4 (.agg (List.toArray [.int .i64 5, .int .i64 x1, .string t78, .int .i64 0])) 4).bind fun h79 => (aLdN h79 x4 4).bind fun v80 => bif List.all [v80, .int .i64 1, .int .i64 0] isS2 then some (.tuple (List.toArray [v80, .int .i64 1, .int .i64 0]), h79) else none else s53_3 hk C N x4 h else bif x7 == 125 then bif x7 == 125 then (aSubS (.string x0) (some (.int .i64 x1)) (some (.int .i64 (IntKind.i64.wrap (x1 + 1))))).bind fun v81 => (asS v81).bind fun t82 => (aSt h x4 (.agg (List.toArray [.int .i64 5, .int .i64 x1, .string t82, .int .i64 0])) 4).bind fun h83 => (aLdN h83 x4 4).bind fun v84 => bif List.all [v84, .int .i64 1, .int .i64 0] isS2 then some (.tuple (List.toArray [v84, .int .i64 1, .int .i64 0]), h83) else none else s53_3 hk C N x4 h else bif x7 == 40 then bif x7 == 40 then (aSubS (.string x0) (some (.int .i64 x1)) (some (.int .i64 (IntKind.i64.wrap (x1 + 1))))).bind fun v85 => (asS v85).bind fun t86 => (aSt h x4 (.agg (List.toArray [.int .i64 5, .int .i64 x1, .string t86, .int .i64 0])) 4).bind fun h87 => (aLdN h87 x4 4).bind fun v88 => bif List.all [v88, .int .i64 1, .int .i64 0] isS2 then some (.tuple (List.toArray [v88, .int .i64 1, .int .i64 0]), h87) else none else s53_3 hk C N x4 h else bif x7 == 41 then bif x7 == 41 then (aSubS (.string x0) (some (.int .i64 x1)) (some (.int .i64 (IntKind.i64.wrap (x1 + 1))))).bind fun v89 => (asS v89).bind fun t90 => (aSt h x4 (.agg (List.toArray [.int .i64 5, .int .i64 x1, .string t90, .int .i64 0])) 4).bind fun h91 => (aLdN h91 x4 4).bind fun v92 => bif List.all [v92, .int .i64 1, .int .i64 0] isS2 then some (.tuple (List.toArray [v92, .int .i64 1, .int .i64 0]), h91) else none else s53_3 hk C N x4 h else bif x7 == 91 then bif x7 == 91 then (aSubS (.string x0) (some (.int .i64 x1)) (some (.int .i64 (IntKind.i64.wrap (x1 + 1))))).bind fun v93 => (asS v93).bind fun t94 => (aSt h x4 (.agg (List.toArray [.int .i64 5, .int .i64 x1, .string t94, .int .i64 0])) 4).bind fun h95 => (aLdN h95 x4 4).bind fun v96 => bif List.all [v96, .int .i64 1, .int .i64 0] isS2 then some (.tuple (List.toArray [v96, .int .i64 1, .int .i64 0]), h95) else none else s53_3 hk C N x4 h else bif x7 == 93 then bif x7 == 93 then (aSubS (.string x0) (some (.int .i64 x1)) (some (.int .i64 (IntKind.i64.wrap (x1 + 1))))).bind fun v97 => (asS v97).bind fun t98 => (aSt h x4 (.agg (List.toArray [.int .i64 5, .int .i64 x1, .string t98, .int .i64 0])) 4).bind fun h99 => (aLdN h99 x4 4).bind fun v100 => bif List.all [v100, .int .i64 1, .int .i64 0] isS2 then some (.tuple (List.toArray [v100, .int .i64 1, .int .i64 0]), h99) else none else s53_3 hk C N x4 h else bif x7 == 59 then bif x7 == 59 then (aSubS (.string x0) (some (.int .i64 x1)) (some (.int .i64 (IntKind.i64.wrap (x1 + 1))))).bind fun v101 => (asS v101).bind fun t102 => (aSt h x4 (.agg (List.toArray [.int .i64 5, .int .i64 x1, .string t102, .int .i64 0])) 4).bind fun h103 => (aLdN h103 x4 4).bind fun v104 => bif List.all [v104, .int .i64 1, .int .i64 0] isS2 then some (.tuple (List.toArray [v104, .int .i64 1, .int .i64 0]), h103) else none else s53_3 hk C N x4 h else bif x7 == 44 then bif x7 == 44 then (aSubS (.string x0) (some (.int .i64 x1)) (some (.int .i64 (IntKind.i64.wrap (x1 + 1))))).bind fun v105 => (asS v105).bind fun t106 => (aSt h x4 (.agg (List.toArray [.int .i64 5, .int .i64 x1, .string t106, .int .i64 0])) 4).bind fun h107 => (aLdN h107 x4 4).bind fun v108 => bif List.all [v108, .int .i64 1, .int .i64 0] isS2 then some (.tuple (List.toArray [v108, .int .i64 1, .int .i64 0]), h107) else none else s53_3 hk C N x4 h else bif x7 == 46 then bif x7 == 46 then (aSubS (.string x0) (some (.int .i64 x1)) (some (.int .i64 (IntKind.i64.wrap (x1 + 1))))).bind fun v109 => (asS v109).bind fun t110 => (aSt h x4 (.agg (List.toArray [.int .i64 5, .int .i64 x1, .string t110, .int .i64 0])) 4).bind fun h111 => (aLdN h111 x4 4).bind fun v112 => bif List.all [v112, .int .i64 1, .int .i64 0] isS2 then some (.tuple (List.toArray [v112, .int .i64 1, .int .i64 0]), h111) else none else s53_3 hk C N x4 h else bif x7 == 61 then bif x7 == 61 then (aSubS (.string x0) (some (.int .i64 x1)) (some (.int .i64 (IntKind.i64.wrap (x1 + 1))))).bind fun v113 => (asS v113).bind fun t114 => (aSt h x4 (.agg (List.toArray [.int .i64 5, .int .i64 x1, .string t114, .int .i64 0])) 4).bind fun h115 => (aLdN h115 x4 4).bind fun v116 => bif List.all [v116, .int .i64 1, .int .i64 0] isS2 then some (.tuple (List.toArray [v116, .int .i64 1, .int .i64 0]), h115) else none else s53_3 hk C N x4 h else bif x7 == 60 then bif x7 == 60 then (aSubS (.string x0) (some (.int .i64 x1)) (some (.int .i64 (IntKind.i64.wrap (x1 + 1))))).bind fun v117 => (asS v117).bind fun t118 => (aSt h x4 (.agg (List.toArray [.int .i64 5, .int .i64 x1, .string t118, .int .i64 0])) 4).bind fun h119 => (aLdN h119 x4 4).bind fun v120 => bif List.all [v120, .int .i64 1, .int .i64 0] isS2 then some (.tuple (List.toArray [v120, .int .i64 1, .int .i64 0]), h119) else none else s53_3 hk C N x4 h else bif x7 == 43 then bif x7 == 43 then (aSubS (.string x0) (some (.int .i64 x1)) (some (.int .i64 (IntKind.i64.wrap (x1 + 1))))).bind fun v121 => (asS v121).bind fun t122 => (aSt h x4 (.agg (List.toArray [.int .i64 5, .int .i64 x1, .string t122, .int .i64 0])) 4).bind fun h123 => (aLdN h123 x4 4).bind fun v124 => bif List.all [v124, .int .i64 1, .int .i64 0] isS2 then some (.tuple (List.toArray [v124, .int .i64 1, .int .i64 0]), h123) else none else s53_3 hk C N x4 h else bif x7 == 45 then bif x7 == 45 then (aSubS (.string x0) (some (.int .i64 x1)) (some (.int .i64 (IntKind.i64.wrap (x1 + 1))))).bind fun v125 => (asS v125).bind fun t126 => (aSt h x4 (.agg (List.toArray [.int .i64 5, .int .i64 x1, .string t126, .int .i64 0])) 4).bind fun h127 => (aLdN h127 x4 4).bind fun v128 => bif List.all [v128, .int .i64 1, .int .i64 0] isS2 then some (.tuple (List.toArray [v128, .int .i64 1, .int .i64 0]), h127) else none else s53_3 hk C N x4 h else bif x7 == 42 then bif x7 == 42 then (aSubS (.string x0) (some (.int .i64 x1)) (some (.int .i64 (IntKind.i64.wrap (x1 + 1))))).bind fun v129 => (asS v129).bind fun t130 => (aSt h x4 (.agg (List.toArray [.int .i64 5, .int .i64 x1, .string t130, .int .i64 0])) 4).bind fun h131 => (aLdN h131 x4 4).bind fun v132 => bif List.all [v132, .int .i64 1, .int .i64 0] isS2 then some (.tuple (List.toArray [v132, .int .i64 1, .int .i64 0]), h131) else none else s53_3 hk C N x4 h else bif x7 == 47 then bif x7 == 47 then (aSubS (.string x0) (some (.int .i64 x1)) (some (.int .i64 (IntKind.i64.wrap (x1 + 1))))).bind fun v133 => (asS v133).bind fun t134 => (aSt h x4 (.agg (List.toArray [.int .i64 5, .int .i64 x1, .string t134, .int .i64 0])) 4).bind fun h135 => (aLdN h135 x4 4).bind fun v136 => bif List.all [v136, .int .i64 1, .int .i64 0] isS2 then some (.tuple (List.toArray [v136, .int .i64 1, .int .i64 0]), h135) else none else s53_3 hk C N x4 h else bif x7 == 37 then bif x7 == 37 then (aSubS (.string x0) (some (.int .i64 x1)) (some (.int .i64 (IntKind.i64.wrap (x1 + 1))))).bind fun v137 => (asS v137).bind fun t138 => (aSt h x4 (.agg (List.toArray [.int .i64 5, .int .i64 x1, .string t138, .int .i64 0])) 4).bind fun h139 => (aLdN h139 x4 4).bind fun v140 => bif List.all [v140, .int .i64 1, .int .i64 0] isS2 then some (.tuple (List.toArray [v140, .int .i64 1, .int .i64 0]), h139) else none else s53_3 hk C N x4 h else bif x7 == 35 then (aSubS (.string x0) (some (.int .i64 x1)) (some (.int .i64 (IntKind.i64.wrap (x1 + 1))))).bind fun v141 => (asS v141).bind fun t142 => (aSt h x4 (.agg (List.toArray [.int .i64 5, .int .i64 x1, .string t142, .int .i64 0])) 4).bind fun h143 => (aLdN h143 x4 4).bind fun v144 => bif List.all [v144, .int .i64 1, .int .i64 0] isS2 then some (.tuple (List.toArray [v144, .int .i64 1, .int .i64 0]), h143) else none else s53_3 hk C N x4 h := by kernel_rfl
theorem s53_3_j (C : ACall) (N : Nat) (x4 : Value) (h : AHeap) : s53_3 hk0 C N x4 h = F53_3 hk0 C N (⟨136, [(4, x4)]⟩) h := by delta s53_3; exact hk0_app _ _ _ _
theorem s53_3_eq (hk : Hk (Value × AHeap)) (C : ACall) (N : Nat) (x4 : Value) (h : AHeap) : F53_3 hk C N (⟨136, [(4, x4)]⟩) h =
    (aSt h x4 (.agg (List.toArray [.int .i64 0, .int .i64 0, .string ⟨#[]⟩, .int .i64 0])) 4).bind fun h145 => (aLdN h145 x4 4).bind fun v146 => bif List.all [v146, .int .i64 0, .int .i64 2] isS2 then some (.tuple (List.toArray [v146, .int .i64 0, .int .i64 2]), h145) else none := by kernel_rfl
theorem c53 (d : Nat) (args : List Value) (h : AHeap) : call Try.prog Ms (d + 1) 53 args h = evFn hk0 Try.prog (call Try.prog Ms d) M53 d Try.f53 args h := by kernel_rfl

/-! 54 loop.example/g00101/laws.eqToken -/
theorem e54 (hk : Hk (Value × AHeap)) (C : ACall) (N : Nat) (x0 : Value) (x1 : Value) (h : AHeap) : evFn hk Try.prog C M54 N Try.f54 [x0, x1] h =
    (aCells x0).bind fun c1 => aNew h 53 c1 fun p2 h3 => (aCells x1).bind fun c4 => aNew h3 53 c4 fun p5 h6 => (aOff p2 0).bind fun v7 => (aLd1 h6 v7).bind fun v8 => (asI .i64 v8).bind fun n9 => (aOff p5 0).bind fun v10 => (aLd1 h6 v10).bind fun v11 => (asI .i64 v11).bind fun n12 => bif n9 != n12 then some (.bool false, h6) else (aOff p2 1).bind fun v13 => (aLd1 h6 v13).bind fun v14 => (asI .i64 v14).bind fun n15 => (aOff p5 1).bind fun v16 => (aLd1 h6 v16).bind fun v17 => (asI .i64 v17).bind fun n18 => bif n15 != n18 then some (.bool false, h6) else (aOff p2 2).bind fun v19 => (aLd1 h6 v19).bind fun v20 => (asS v20).bind fun t21 => (aOff p5 2).bind fun v22 => (aLd1 h6 v22).bind fun v23 => (asS v23).bind fun t24 => bif !(t21.toList == t24.toList) then some (.bool false, h6) else (aOff p2 3).bind fun v25 => (aLd1 h6 v25).bind fun v26 => (asI .i64 v26).bind fun n27 => (aOff p5 3).bind fun v28 => (aLd1 h6 v28).bind fun v29 => (asI .i64 v29).bind fun n30 => bif n27 != n30 then some (.bool false, h6) else some (.bool true, h6) := by kernel_rfl
theorem c54 (d : Nat) (args : List Value) (h : AHeap) : call Try.prog Ms (d + 1) 54 args h = evFn hk0 Try.prog (call Try.prog Ms d) M54 d Try.f54 args h := by kernel_rfl

/-! 55 loop.example/g00101/laws.markText -/
noncomputable def F55_0 (hk : Hk (Value × AHeap)) (C : ACall) (N : Nat) (n1 : Nat) : Nx (Value × AHeap) := evSt hk Try.prog C M55 N Try.f55 [1, 1, 1, 0, 2, 6] [n1]
noncomputable def s55_0 (hk : Hk (Value × AHeap)) (C : ACall) (N : Nat) (n1 : Nat) (x0 : Int) (x3 : ByteArray) (h : AHeap) := F55_0 hk C N n1 (⟨20, [(0, .int .i64 x0), (3, .string x3)]⟩) h
theorem e55 (hk : Hk (Value × AHeap)) (C : ACall) (N : Nat) (x0 : Int) (h : AHeap) : evFn hk Try.prog C M55 N Try.f55 [.int .i64 x0] h =
    bif decide (x0 ≤ 0) then some (.string (⟨#[109, 48]⟩), h) else s55_0 hk C N N x0 ⟨#[]⟩ h := by kernel_rfl
theorem s55_0_eq (hk : Hk (Value × AHeap)) (C : ACall) (N : Nat) (n1 : Nat) (x0 : Int) (x3 : ByteArray) (h : AHeap) : s55_0 hk C N (n1 + 1) x0 x3 h =
    bif decide (x0 > 0) then aNewS h 5 [.int .u8 (IntKind.u8.wrap (IntKind.i64.wrap (48 + (Int.tmod x0 10))))] 1 fun p1 h2 => (aCvStr h2 p1).bind fun v3 => (asS v3).bind fun t4 => (aBin .add (.string t4) (.string x3)).bind fun v5 => (asS v5).bind fun t6 => s55_0 hk C N n1 (IntKind.i64.wrap (Int.tdiv x0 10)) t6 h2 else (aBin .add (.string (⟨#[109]⟩)) (.string x3)).bind fun v7 => (asS v7).bind fun t8 => some (.string t8, h) := by kernel_rfl
theorem c55 (d : Nat) (args : List Value) (h : AHeap) : call Try.prog Ms (d + 1) 55 args h = evFn hk0 Try.prog (call Try.prog Ms d) M55 d Try.f55 args h := by kernel_rfl
end Go.Proofs.Ytadmoackacickaa
set_option linter.unusedVariables false
namespace Go.Proofs.Ytadmoackacickaa
open Go Go.AH
/-! 87 loop.example/g00101/spec.l8Letter -/
theorem e87 (hk : Hk (Value × AHeap)) (C : ACall) (N : Nat) (x0 : Int) (h : AHeap) : evFn hk Try.prog C M87 N Try.f87 [.int .u8 x0] h =
    bif decide (x0 ≥ 97) then bif decide (x0 ≤ 122) then some (.bool true, h) else bif decide (x0 ≥ 65) then some (.bool (decide (x0 ≤ 90)), h) else some (.bool false, h) else bif decide (x0 ≥ 65) then some (.bool (decide (x0 ≤ 90)), h) else some (.bool false, h) := by kernel_rfl
theorem c87 (d : Nat) (args : List Value) (h : AHeap) : call Try.prog Ms (d + 1) 87 args h = evFn hk0 Try.prog (call Try.prog Ms d) M87 d Try.f87 args h := by kernel_rfl

/-! 88 loop.example/g00101/spec.IsWord -/
theorem e88 (hk : Hk (Value × AHeap)) (C : ACall) (N : Nat) (x0 : ByteArray) (h : AHeap) : evFn hk Try.prog C M88 N Try.f88 [.string x0] h =
    (C 143 [] h).bind fun r1 => (C 118 [r1.1, .string x0] r1.2).bind fun r2 => (asB r2.1).bind fun b3 => some (.bool b3, r2.2) := by kernel_rfl
theorem c88 (d : Nat) (args : List Value) (h : AHeap) : call Try.prog Ms (d + 1) 88 args h = evFn hk0 Try.prog (call Try.prog Ms d) M88 d Try.f88 args h := by kernel_rfl

/-! 89 loop.example/g00101/spec.l8Digit -/
theorem e89 (hk : Hk (Value × AHeap)) (C : ACall) (N : Nat) (x0 : Int) (h : AHeap) : evFn hk Try.prog C M89 N Try.f89 [.int .u8 x0] h =
    bif decide (x0 ≥ 48) then some (.bool (decide (x0 ≤ 57)), h) else some (.bool false, h) := by kernel_rfl
theorem c89 (d : Nat) (args : List Value) (h : AHeap) : call Try.prog Ms (d + 1) 89 args h = evFn hk0 Try.prog (call Try.prog Ms d) M89 d Try.f89 args h := by kernel_rfl

/-! 90 loop.example/g00101/spec.l8Plain -/
theorem e90 (hk : Hk (Value × AHeap)) (C : ACall) (N : Nat) (x0 : Int) (h : AHeap) : evFn hk Try.prog C M90 N Try.f90 [.int .u8 x0] h =
    bif decide (x0 ≥ 32) then bif decide (x0 ≤ 126) then some (.bool (x0 != 34), h) else some (.bool false, h) else some (.bool false, h) := by kernel_rfl
theorem c90 (d : Nat) (args : List Value) (h : AHeap) : call Try.prog Ms (d + 1) 90 args h = evFn hk0 Try.prog (call Try.prog Ms d) M90 d Try.f90 args h := by kernel_rfl

/-! 91 loop.example/g00101/spec.l8Marks -/
theorem e91 (hk : Hk (Value × AHeap)) (C : ACall) (N : Nat) (h : AHeap) : evFn hk Try.prog C M91 N Try.f91 [] h =
    aNewS h 9 [.string (⟨#[123]⟩), .string (⟨#[125]⟩), .string (⟨#[40]⟩), .string (⟨#[41]⟩), .string (⟨#[91]⟩), .string (⟨#[93]⟩), .string (⟨#[59]⟩), .string (⟨#[44]⟩), .string (⟨#[46, 46]⟩), .string (⟨#[46]⟩), .string (⟨#[61, 61]⟩), .string (⟨#[61]⟩), .string (⟨#[126, 61]⟩), .string (⟨#[60, 61]⟩), .string (⟨#[60]⟩), .string (⟨#[43]⟩), .string (⟨#[45]⟩), .string (⟨#[42]⟩), .string (⟨#[47]⟩), .string (⟨#[37]⟩), .string (⟨#[35]⟩)] 21 fun p1 h2 => some (p1, h2) := by kernel_rfl
theorem c91 (d : Nat) (args : List Value) (h : AHeap) : call Try.prog Ms (d + 1) 91 args h = evFn hk0 Try.prog (call Try.prog Ms d) M91 d Try.f91 args h := by kernel_rfl

/-! 92 loop.example/g00101/impl.isLetter -/
theorem e92 (hk : Hk (Value × AHeap)) (C : ACall) (N : Nat) (x0 : Int) (h : AHeap) : evFn hk Try.prog C M92 N Try.f92 [.int .u8 x0] h =
    bif decide (x0 ≥ 97) then bif decide (x0 ≤ 122) then some (.bool true, h) else bif decide (x0 ≥ 65) then some (.bool (decide (x0 ≤ 90)), h) else some (.bool false, h) else bif decide (x0 ≥ 65) then some (.bool (decide (x0 ≤ 90)), h) else some (.bool false, h) := by kernel_rfl
theorem c92 (d : Nat) (args : List Value) (h : AHeap) : call Try.prog Ms (d + 1) 92 args h = evFn hk0 Try.prog (call Try.prog Ms d) M92 d Try.f92 args h := by kernel_rfl

/-! 93 loop.example/g00101/impl.IsWord -/
theorem e93 (hk : Hk (Value × AHeap)) (C : ACall) (N : Nat) (x0 : ByteArray) (h : AHeap) : evFn hk Try.prog C M93 N Try.f93 [.string x0] h =
    bif x0.toList == (⟨#[108, 111, 99, 97, 108]⟩ : ByteArray).toList then bif x0.toList == (⟨#[108, 111, 99, 97, 108]⟩ : ByteArray).toList then some (.bool true, h) else some (.bool false, h) else bif x0.toList == (⟨#[102, 110]⟩ : ByteArray).toList then bif x0.toList == (⟨#[102, 110]⟩ : ByteArray).toList then some (.bool true, h) else some (.bool false, h) else bif x0.toList == (⟨#[105, 102]⟩ : ByteArray).toList then bif x0.toList == (⟨#[105, 102]⟩ : ByteArray).toList then some (.bool true, h) else some (.bool false, h) else bif x0.toList == (⟨#[101, 108, 115, 101]⟩ : ByteArray).toList then bif x0.toList == (⟨#[101, 108, 115, 101]⟩ : ByteArray).toList then some (.bool true, h) else some (.bool false, h) else bif x0.toList == (⟨#[119, 104, 105, 108, 101]⟩ : ByteArray).toList then bif x0.toList == (⟨#[119, 104, 105, 108, 101]⟩ : ByteArray).toList then some (.bool true, h) else some (.bool false, h) else bif x0.toList == (⟨#[114, 101, 116, 117, 114, 110]⟩ : ByteArray).toList then bif x0.toList == (⟨#[114, 101, 116, 117, 114, 110]⟩ : ByteArray).toList then some (.bool true, h) else some (.bool false, h) else bif x0.toList == (⟨#[116, 114, 117, 101]⟩ : ByteArray).toList then bif x0.toList == (⟨#[116, 114, 117, 101]⟩ : ByteArray).toList then some (.bool true, h) else some (.bool false, h) else bif x0.toList == (⟨#[102, 97, 108, 115, 101]⟩ : ByteArray).toList then bif x0.toList == (⟨#[102, 97, 108, 115, 101]⟩ : ByteArray).toList then some (.bool true, h) else some (.bool false, h) else bif x0.toList == (⟨#[110, 105, 108]⟩ : ByteArray).toList then bif x0.toList == (⟨#[110, 105, 108]⟩ : ByteArray).toList then some (.bool true, h) else some (.bool false, h) else bif x0.toList == (⟨#[97, 110, 100]⟩ : ByteArray).toList then bif x0.toList == (⟨#[97, 110, 100]⟩ : ByteArray).toList then some (.bool true, h) else some (.bool false, h) else bif x0.toList == (⟨#[111, 114]⟩ : ByteArray).toList then bif x0.toList == (⟨#[111, 114]⟩ : ByteArray).toList then some (.bool true, h) else some (.bool false, h) else bif x0.toList == (⟨#[110, 111, 116]⟩ : ByteArray).toList then some (.bool true, h) else some (.bool false, h) := by kernel_rfl
theorem c93 (d : Nat) (args : List Value) (h : AHeap) : call Try.prog Ms (d + 1) 93 args h = evFn hk0 Try.prog (call Try.prog Ms d) M93 d Try.f93 args h := by kernel_rfl

/-! 94 loop.example/g00101/impl.isDigit -/
theorem e94 (hk : Hk (Value × AHeap)) (C : ACall) (N : Nat) (x0 : Int) (h : AHeap) : evFn hk Try.prog C M94 N Try.f94 [.int .u8 x0] h =
    bif decide (x0 ≥ 48) then some (.bool (decide (x0 ≤ 57)), h) else some (.bool false, h) := by kernel_rfl
theorem c94 (d : Nat) (args : List Value) (h : AHeap) : call Try.prog Ms (d + 1) 94 args h = evFn hk0 Try.prog (call Try.prog Ms d) M94 d Try.f94 args h := by kernel_rfl

/-! 95 loop.example/g00101/impl.lexNumber -/
noncomputable def F95_0 (hk : Hk (Value × AHeap)) (C : ACall) (N : Nat) : Nx (Value × AHeap) := evSt hk Try.prog C M95 N Try.f95 [1, 1, 1, 1] []
noncomputable def s95_0 (hk : Hk (Value × AHeap)) (C : ACall) (N : Nat) (x0 : ByteArray) (x1 : Int) (x4 : Value) (x6 : Int) (x7 : Value) (h : AHeap) := hk 5 (⟨64, [(0, .string x0), (1, .int .i64 x1), (4, x4), (6, .int .i64 x6), (7, x7)]⟩) h (F95_0 hk C N)
noncomputable def F95_1 (hk : Hk (Value × AHeap)) (C : ACall) (N : Nat) (n1 : Nat) : Nx (Value × AHeap) := evSt hk Try.prog C M95 N Try.f95 [1, 1, 1, 1, 0, 1, 2, 6] [n1]
noncomputable def s95_1 (hk : Hk (Value × AHeap)) (C : ACall) (N : Nat) (n1 : Nat) (x0 : ByteArray) (x4 : Value) (x6 : Int) (x7 : Value) (x8 : Int) (h : AHeap) := F95_1 hk C N n1 (⟨64, [(0, .string x0), (4, x4), (6, .int .i64 x6), (7, x7), (8, .int .i64 x8)]⟩) h
theorem e95 (hk : Hk (Value × AHeap)) (C : ACall) (N : Nat) (x0 : ByteArray) (x1 : Int) (h : AHeap) : evFn hk Try.prog C M95 N Try.f95 [.string x0, .int .i64 x1] h =
    aNew h 53 [.int .i64 0, .int .i64 0, .string ⟨#[]⟩, .int .i64 0] fun p1 h2 => (C 51 [.string x0, .int .i64 x1, (.func (.func 94) #[] #[])] h2).bind fun r3 => (asI .i64 r3.1).bind fun n4 => (aSubS (.string x0) (some (.int .i64 x1)) (some (.int .i64 n4))).bind fun v5 => (asS v5).bind fun t6 => aNew r3.2 53 [.int .i64 0, .int .i64 0, .string ⟨#[]⟩, .int .i64 0] fun p7 h8 => (aSt h8 p7 (.agg (List.toArray [.int .i64 3, .int .i64 x1, .string t6, .int .i64 0])) 4).bind fun h9 => bif decide ((IntKind.i64.wrap (n4 - x1)) > 15) then (aSt h9 p1 (.agg (List.toArray [.int .i64 0, .int .i64 0, .string ⟨#[]⟩, .int .i64 0])) 4).bind fun h10 => (aLdN h10 p1 4).bind fun v11 => bif List.all [v11, .int .i64 3] isS2 then some (.tuple (List.toArray [v11, .int .i64 3]), h10) else none else bif decide ((IntKind.i64.wrap (n4 - x1)) > 1) then (aStrIx (.string x0) (.int .i64 x1)).bind fun v12 => (asI .u8 v12).bind fun n13 => bif n13 == 48 then (aSt h9 p1 (.agg (List.toArray [.int .i64 0, .int .i64 0, .string ⟨#[]⟩, .int .i64 0])) 4).bind fun h14 => (aLdN h14 p1 4).bind fun v15 => bif List.all [v15, .int .i64 3] isS2 then some (.tuple (List.toArray [v15, .int .i64 3]), h14) else none else bif decide (n4 < (ByteArray.size x0 : Int)) then (aStrIx (.string x0) (.int .i64 n4)).bind fun v16 => (asI .u8 v16).bind fun n17 => (C 92 [.int .u8 n17] h9).bind fun r18 => (asB r18.1).bind fun b19 => bif b19 then (aSt r18.2 p1 (.agg (List.toArray [.int .i64 0, .int .i64 0, .string ⟨#[]⟩, .int .i64 0])) 4).bind fun h20 => (aLdN h20 p1 4).bind fun v21 => bif List.all [v21, .int .i64 3] isS2 then some (.tuple (List.toArray [v21, .int .i64 3]), h20) else none else s95_0 hk C N x0 x1 p1 n4 p7 r18.2 else s95_0 hk C N x0 x1 p1 n4 p7 h9 else bif decide (n4 < (ByteArray.size x0 : Int)) then (aStrIx (.string x0) (.int .i64 n4)).bind fun v22 => (asI .u8 v22).bind fun n23 => (C 92 [.int .u8 n23] h9).bind fun r24 => (asB r24.1).bind fun b25 => bif b25 then (aSt r24.2 p1 (.agg (List.toArray [.int .i64 0, .int .i64 0, .string ⟨#[]⟩, .int .i64 0])) 4).bind fun h26 => (aLdN h26 p1 4).bind fun v27 => bif List.all [v27, .int .i64 3] isS2 then some (.tuple (List.toArray [v27, .int .i64 3]), h26) else none else s95_0 hk C N x0 x1 p1 n4 p7 r24.2 else s95_0 hk C N x0 x1 p1 n4 p7 h9 := by kernel_rfl
theorem s95_0_j (C : ACall) (N : Nat) (x0 : ByteArray) (x1 : Int) (x4 : Value) (x6 : Int) (x7 : Value) (h : AHeap) : s95_0 hk0 C N x0 x1 x4 x6 x7 h = F95_0 hk0 C N (⟨64, [(0, .string x0), (1, .int .i64 x1), (4, x4), (6, .int .i64 x6), (7, x7)]⟩) h := by delta s95_0; exact hk0_app _ _ _ _
theorem s95_0_eq (hk : Hk (Value × AHeap)) (C : ACall) (N : Nat) (x0 : ByteArray) (x1 : Int) (x4 : Value) (x6 : Int) (x7 : Value) (h : AHeap) : F95_0 hk C N (⟨64, [(0, .string x0), (1, .int .i64 x1), (4, x4), (6, .int .i64 x6), (7, x7)]⟩) h =
    s95_1 hk C N N x0 x4 x6 x7 x1 h := by kernel_rfl
theorem s95_1_eq (hk : Hk (Value × AHeap)) (C : ACall) (N : Nat) (n1 : Nat) (x0 : ByteArray) (x4 : Value) (x6 : Int) (x7 : Value) (x8 : Int) (h : AHeap) : s95_1 hk C N (n1 + 1) x0 x4 x6 x7 x8 h =
    bif decide (x8 < x6) then (aOff x7 3).bind fun v28 => (aLd1 h v28).bind fun v29 => (asI .i64 v29).bind fun n30 => (aStrIx (.string x0) (.int .i64 x8)).bind fun v31 => (asI .u8 v31).bind fun n32 => (aOff x7 3).bind fun v33 => (aSt h v33 (.int .i64 (IntKind.i64.wrap ((IntKind.i64.wrap (10 * n30)) + (IntKind.i64.wrap (IntKind.u8.wrap (n32 - 48)))))) 1).bind fun h34 => s95_1 hk C N n1 x0 x4 x6 x7 (IntKind.i64.wrap (x8 + 1)) h34 else (aLdN h x7 4).bind fun v35 => (aSt h x4 v35 4).bind fun h36 => (aLdN h36 x4 4).bind fun v37 => bif List.all [v37, .int .i64 0] isS2 then some (.tuple (List.toArray [v37, .int .i64 0]), h36) else none := by kernel_rfl
theorem c95 (d : Nat) (args : List Value) (h : AHeap) : call Try.prog Ms (d + 1) 95 args h = evFn hk0 Try.prog (call Try.prog Ms d) M95 d Try.f95 args h := by kernel_rfl

/-! 96 loop.example/g00101/impl.isPlain -/
theorem e96 (hk : Hk (Value × AHeap)) (C : ACall) (N : Nat) (x0 : Int) (h : AHeap) : evFn hk Try.prog C M96 N Try.f96 [.int .u8 x0] h =
    bif decide (x0 ≥ 32) then bif decide (x0 ≤ 126) then some (.bool (x0 != 34), h) else some (.bool false, h) else some (.bool false, h) := by kernel_rfl
theorem c96 (d : Nat) (args : List Value) (h : AHeap) : call Try.prog Ms (d + 1) 96 args h = evFn hk0 Try.prog (call Try.prog Ms d) M96 d Try.f96 args h := by kernel_rfl

/-! 118 loop.example/g00101/spec.l8In -/
noncomputable def F118_0 (hk : Hk (Value × AHeap)) (C : ACall) (N : Nat) (n1 : Nat) : Nx (Value × AHeap) := evSt hk Try.prog C M118 N Try.f118 [1, 0, 1, 2, 6] [n1]
noncomputable def s118_0 (hk : Hk (Value × AHeap)) (C : ACall) (N : Nat) (n1 : Nat) (x0 : Value) (x1 : ByteArray) (x5 : Int) (h : AHeap) := F118_0 hk C N n1 (⟨18, [(0, x0), (1, .string x1), (5, .int .i64 x5)]⟩) h
theorem e118 (hk : Hk (Value × AHeap)) (C : ACall) (N : Nat) (x0 : Value) (x1 : ByteArray) (h : AHeap) : evFn hk Try.prog C M118 N Try.f118 [x0, .string x1] h =
    s118_0 hk C N N x0 x1 0 h := by kernel_rfl
theorem s118_0_eq (hk : Hk (Value × AHeap)) (C : ACall) (N : Nat) (n1 : Nat) (x0 : Value) (x1 : ByteArray) (x5 : Int) (h : AHeap) : s118_0 hk C N (n1 + 1) x0 x1 x5 h =
    (aLen x0).bind fun v1 => (asI .i64 v1).bind fun n2 => bif decide (x5 < n2) then (aIdx x0 (.int .i64 x5) 1).bind fun v3 => (aLd1 h v3).bind fun v4 => (asS v4).bind fun t5 => bif t5.toList == x1.toList then some (.bool true, h) else s118_0 hk C N n1 x0 x1 (IntKind.i64.wrap (x5 + 1)) h else some (.bool false, h) := by kernel_rfl
theorem c118 (d : Nat) (args : List Value) (h : AHeap) : call Try.prog Ms (d + 1) 118 args h = evFn hk0 Try.prog (call Try.prog Ms d) M118 d Try.f118 args h := by kernel_rfl

/-! 143 loop.example/g00101/spec.l8Words -/
theorem e143 (hk : Hk (Value × AHeap)) (C : ACall) (N : Nat) (h : AHeap) : evFn hk Try.prog C M143 N Try.f143 [] h =
    aNewS h 9 [.string (⟨#[108, 111, 99, 97, 108]⟩), .string (⟨#[102, 110]⟩), .string (⟨#[105, 102]⟩), .string (⟨#[101, 108, 115, 101]⟩), .string (⟨#[119, 104, 105, 108, 101]⟩), .string (⟨#[114, 101, 116, 117, 114, 110]⟩), .string (⟨#[116, 114, 117, 101]⟩), .string (⟨#[102, 97, 108, 115, 101]⟩), .string (⟨#[110, 105, 108]⟩), .string (⟨#[97, 110, 100]⟩), .string (⟨#[111, 114]⟩), .string (⟨#[110, 111, 116]⟩)] 12 fun p1 h2 => some (p1, h2) := by kernel_rfl
theorem c143 (d : Nat) (args : List Value) (h : AHeap) : call Try.prog Ms (d + 1) 143 args h = evFn hk0 Try.prog (call Try.prog Ms d) M143 d Try.f143 args h := by kernel_rfl
end Go.Proofs.Ytadmoackacickaa
/- The lexers' small functions. -/
set_option linter.unusedSimpArgs false
namespace Go.Proofs.Ytadmoackacickaa
open Go Go.AH

def isLet (x : Int) : Bool := decide (97 ≤ x ∧ x ≤ 122) || decide (65 ≤ x ∧ x ≤ 90)
def isDig (x : Int) : Bool := decide (48 ≤ x ∧ x ≤ 57)
def isPln (x : Int) : Bool := decide (32 ≤ x ∧ x ≤ 126) && x != 34
theorem l87 (d : Nat) (n : Int) (h : AHeap) : call Try.prog Ms (d + 1) 87 [.int .u8 n] h = some (.bool (isLet n), h) := by
  rw [c87, e87]; unfold isLet
  by_cases h1 : 97 ≤ n <;> by_cases h2 : n ≤ 122 <;> by_cases h3 : 65 ≤ n <;> by_cases h4 : n ≤ 90 <;> simp [h1, h2, h3, h4]
theorem l92 (d : Nat) (n : Int) (h : AHeap) : call Try.prog Ms (d + 1) 92 [.int .u8 n] h = some (.bool (isLet n), h) := by
  rw [c92, e92]; unfold isLet
  by_cases h1 : 97 ≤ n <;> by_cases h2 : n ≤ 122 <;> by_cases h3 : 65 ≤ n <;> by_cases h4 : n ≤ 90 <;> simp [h1, h2, h3, h4]
theorem l89 (d : Nat) (n : Int) (h : AHeap) : call Try.prog Ms (d + 1) 89 [.int .u8 n] h = some (.bool (isDig n), h) := by
  rw [c89, e89]; unfold isDig
  by_cases h1 : 48 ≤ n <;> by_cases h2 : n ≤ 57 <;> simp [h1, h2]
theorem l94 (d : Nat) (n : Int) (h : AHeap) : call Try.prog Ms (d + 1) 94 [.int .u8 n] h = some (.bool (isDig n), h) := by
  rw [c94, e94]; unfold isDig
  by_cases h1 : 48 ≤ n <;> by_cases h2 : n ≤ 57 <;> simp [h1, h2]
theorem l90 (d : Nat) (n : Int) (h : AHeap) : call Try.prog Ms (d + 1) 90 [.int .u8 n] h = some (.bool (isPln n), h) := by
  rw [c90, e90]; unfold isPln
  by_cases h1 : 32 ≤ n <;> by_cases h2 : n ≤ 126 <;> simp [h1, h2]
theorem l96 (d : Nat) (n : Int) (h : AHeap) : call Try.prog Ms (d + 1) 96 [.int .u8 n] h = some (.bool (isPln n), h) := by
  rw [c96, e96]; unfold isPln
  by_cases h1 : 32 ≤ n <;> by_cases h2 : n ≤ 126 <;> simp [h1, h2]
theorem l52 (d : Nat) (n : Int) (h : AHeap) : call Try.prog Ms (d + 1) 52 [.int .u8 n] h = some (.bool (n != 10), h) := by rw [c52, e52]
end Go.Proofs.Ytadmoackacickaa
/- Runs of bytes. -/
set_option linter.unusedSimpArgs false
namespace Go.Proofs.Ytadmoackacickaa
open Go Go.AH

def bt (s : ByteArray) (i : Nat) : Int := ((s.data[i]?).getD 0).toNat
theorem strIx {s : ByteArray} {i : Nat} (hi : i < s.size) : aStrIx (.string s) (.int .i64 (i : Int)) = some (.int .u8 (bt s i)) := by
  have h1 : s[i]? = some (s[i]'hi) := by simp [hi]
  have h2 : s.data[i]? = some (s[i]'hi) := Array.getElem?_eq_getElem (by exact hi)
  simp [aStrIx, h1, bt, h2]
theorem wr {x : Int} (h0 : -1000000 ≤ x) (h1 : x ≤ 4611686018427387904) : IntKind.i64.wrap x = x := by
  simp [IntKind.wrap, IntKind.bits, IntKind.signed]; omega
def endGo (p : Int → Bool) (s : ByteArray) : Nat → Nat → Nat
  | 0, i => i
  | f + 1, i => if i < s.size ∧ p (bt s i) = true then endGo p s f (i + 1) else i
def endOf (p : Int → Bool) (s : ByteArray) (i : Nat) : Nat := endGo p s (s.size - i) i
theorem endOf_stop {p : Int → Bool} {s : ByteArray} {i : Nat} (h : ¬ (i < s.size ∧ p (bt s i) = true)) : endOf p s i = i := by
  unfold endOf
  cases s.size - i with
  | zero => rfl
  | succ f => simp only [endGo]; rw [if_neg h]
theorem endOf_step {p : Int → Bool} {s : ByteArray} {i : Nat} (h : i < s.size) (hp : p (bt s i) = true) : endOf p s i = endOf p s (i + 1) := by
  unfold endOf
  obtain ⟨f, hf⟩ : ∃ f, s.size - i = f + 1 := ⟨s.size - i - 1, by omega⟩
  rw [hf, show s.size - (i + 1) = f by omega]
  simp only [endGo]; rw [if_pos ⟨h, hp⟩]
theorem endOf_bd {p : Int → Bool} {s : ByteArray} : ∀ (n i : Nat), s.size - i = n → i ≤ s.size → i ≤ endOf p s i ∧ endOf p s i ≤ s.size := by
  intro n
  induction n with
  | zero => intro i hn hi; rw [endOf_stop (by omega)]; omega
  | succ n ih =>
    intro i hn hi
    by_cases h : i < s.size ∧ p (bt s i) = true
    · rw [endOf_step h.1 h.2]
      have := ih (i + 1) (by omega) (by omega)
      omega
    · rw [endOf_stop h]; omega
theorem run_loop {d N g : Nat} {p : Int → Bool} {s : ByteArray} (hs : s.size ≤ 3000) (hg : ∀ n h, call Try.prog Ms d g [.int .u8 n] h = some (.bool (p n), h)) (h : AHeap) :
    ∀ (n i m : Nat), s.size - i = n → i ≤ s.size → n < m → s51_0 hk0 (call Try.prog Ms d) N m s (i : Int) (.func (.func g) #[] #[]) h = some (.int .i64 (endOf p s i : Nat), h) := by
  intro n
  induction n with
  | zero =>
    intro i m hn hi hm
    obtain ⟨m, rfl⟩ : ∃ k, m = k + 1 := ⟨m - 1, by omega⟩
    rw [s51_0_eq, endOf_stop (by omega)]
    have : ¬ ((i : Int) < (s.size : Int)) := by omega
    simp [this]
  | succ n ih =>
    intro i m hn hi hm
    obtain ⟨m, rfl⟩ : ∃ k, m = k + 1 := ⟨m - 1, by omega⟩
    have hlt : i < s.size := by omega
    have : (i : Int) < (s.size : Int) := by omega
    rw [s51_0_eq]
    simp only [this, decide_true, cond_true, strIx hlt, Option.bind_some, asI, if_true, aCallV, List.append_nil, List.nil_append, hg, asB]
    cases hp : p (bt s i) with
    | true =>
      rw [endOf_step hlt hp, cond_true, wr (by omega) (by omega)]
      exact ih (i + 1) m (by omega) (by omega) (by omega)
    | false =>
      rw [endOf_stop (by simp [hp])]; rfl
theorem l51 {d g : Nat} {p : Int → Bool} {s : ByteArray} (hs : s.size ≤ 3000) (hd : 3000 < d) (hg : ∀ n h, call Try.prog Ms d g [.int .u8 n] h = some (.bool (p n), h)) {i : Nat} (hi : i ≤ s.size) (h : AHeap) :
    call Try.prog Ms (d + 1) 51 [.string s, .int .i64 (i : Int), .func (.func g) #[] #[]] h = some (.int .i64 (endOf p s i : Nat), h) := by
  rw [c51, e51]
  exact run_loop hs hg h _ i d rfl hi (by omega)
end Go.Proofs.Ytadmoackacickaa
/- Words. -/
set_option linter.unusedSimpArgs false
namespace Go.Proofs.Ytadmoackacickaa
open Go Go.AH

theorem cond_twice {α : Type} (b : Bool) (x y z : α) : (bif b then (bif b then x else y) else z) = bif b then x else z := by cases b <;> rfl
theorem cond_or (b c : Bool) (h : AHeap) : (bif b then some (Value.bool true, h) else some (Value.bool c, h)) = some (Value.bool (b || c), h) := by cases b <;> rfl
theorem cond_self (b : Bool) (r : Option (Value × AHeap)) (h : AHeap) : (bif b then some (Value.bool b, h) else r) = bif b then some (Value.bool true, h) else r := by cases b <;> rfl
def wordsL : List ByteArray := [⟨#[108, 111, 99, 97, 108]⟩, ⟨#[102, 110]⟩, ⟨#[105, 102]⟩, ⟨#[101, 108, 115, 101]⟩, ⟨#[119, 104, 105, 108, 101]⟩, ⟨#[114, 101, 116, 117, 114, 110]⟩, ⟨#[116, 114, 117, 101]⟩, ⟨#[102, 97, 108, 115, 101]⟩, ⟨#[110, 105, 108]⟩, ⟨#[97, 110, 100]⟩, ⟨#[111, 114]⟩, ⟨#[110, 111, 116]⟩]
def isWd (t : ByteArray) : Bool := wordsL.any fun w => t.toList == w.toList
theorem l93 (d : Nat) (t : ByteArray) (h : AHeap) : call Try.prog Ms (d + 1) 93 [.string t] h = some (.bool (isWd t), h) := by
  rw [c93, e93]
  simp only [cond_twice]
  simp only [cond_or]
  simp only [isWd, wordsL, List.any_cons, List.any_nil]

theorem in_loop {d N : Nat} {t : ByteArray} {h : AHeap} {i : Nat} {ws : List ByteArray} (hr : Row h i (ws.map Value.string)) (hw : ws.length ≤ 3000) :
    ∀ (n j m : Nat), ws.length - j = n → j ≤ ws.length → n < m →
      s118_0 hk0 (call Try.prog Ms d) N m (slc i 0 ws.length) t (j : Int) h = some (.bool ((ws.drop j).any fun w => w.toList == t.toList), h) := by
  intro n
  induction n with
  | zero =>
    intro j m hn hj hm
    obtain ⟨m, rfl⟩ : ∃ k, m = k + 1 := ⟨m - 1, by omega⟩
    have : ¬ ((j : Int) < (ws.length : Int)) := by omega
    rw [s118_0_eq, List.drop_eq_nil_of_le (by omega)]
    simp [aLen, slc, asI, this]
  | succ n ih =>
    intro j m hn hj hm
    obtain ⟨m, rfl⟩ : ∃ k, m = k + 1 := ⟨m - 1, by omega⟩
    have hlt : j < ws.length := by omega
    have hI : (j : Int) < (ws.length : Int) := by omega
    have hix : aIdx (slc i 0 ws.length) (.int .i64 (j : Int)) 1 = some (ptr i j) := by simp [aIdx, slc, hlt]
    have hld : aLd1 h (ptr i j) = some (.string ws[j]) := hr.ld1 (by simp [hlt])
    have hlen : aLen (slc i 0 ws.length) = some (.int .i64 ws.length) := rfl
    rw [s118_0_eq]
    simp only [hlen, Option.bind_some, asI, if_true, hI, decide_true, cond_true, hix, hld, asS]
    rw [List.drop_eq_getElem_cons hlt, List.any_cons]
    cases hb : (ws[j].toList == t.toList) with
    | true => simp
    | false =>
      rw [cond_false, wr (by omega) (by omega), Bool.false_or]
      exact ih (j + 1) m (by omega) (by omega) (by omega)
theorem l88 {d : Nat} (hd : 3000 < d) (t : ByteArray) (h : AHeap) : ∃ h', call Try.prog Ms (d + 2) 88 [.string t] h = some (.bool (isWd t), h') ∧ Ext h.size h h' := by
  refine ⟨h.new 9 (wordsL.map Value.string), ?_, Ext.new (Nat.le_refl _) _ _⟩
  rw [c88, e88, c143, e143]
  simp only [aNewS, Option.bind_some]
  rw [c118, e118]
  have := in_loop (d := d) (N := d) (t := t) (h := h.new 9 (wordsL.map Value.string)) (i := h.size) (ws := wordsL) (Own.new (b := h.size) (Nat.le_refl _) _ _).row (by decide) _ 0 d rfl (by decide) (by simp [wordsL]; omega)
  have e : (ptr h.size 0, h) = (ptr h.size 0, h) := rfl
  rw [show (slc h.size 0 12) = slc h.size 0 wordsL.length from rfl]
  erw [this]
  simp only [Option.bind_some, asB, List.drop_zero]
  congr 3
  simp only [isWd]
  congr 1
  funext w
  exact Bool.beq_comm ..
end Go.Proofs.Ytadmoackacickaa
/- Tokens. -/
set_option linter.unusedSimpArgs false
namespace Go.Proofs.Ytadmoackacickaa
open Go Go.AH

structure Tok where
  k : Int
  at' : Int
  text : ByteArray
  i : Int
def Tok.cells (t : Tok) : List Value := [.int .i64 t.k, .int .i64 t.at', .string t.text, .int .i64 t.i]
def Tok.val (t : Tok) : Value := .agg t.cells.toArray
def tokEq (a b : Tok) : Bool := a.k == b.k && (a.at' == b.at' && (a.text.toList == b.text.toList && a.i == b.i))
theorem Tok.aCells (t : Tok) : aCells t.val = some t.cells := rfl
theorem ld_at {h : AHeap} {i : Nat} {t : Tok} (r : Row h i t.cells) :
    aLd1 h (ptr i 0) = some (.int .i64 t.k) ∧ aLd1 h (ptr i 1) = some (.int .i64 t.at') ∧ aLd1 h (ptr i 2) = some (.string t.text) ∧ aLd1 h (ptr i 3) = some (.int .i64 t.i) :=
  ⟨r.ld1 rfl, r.ld1 rfl, r.ld1 rfl, r.ld1 rfl⟩
theorem aOff_ptr (i o n : Nat) : aOff (ptr i o) n = some (ptr i (o + n)) := rfl
theorem l54 (d : Nat) (a b : Tok) (h : AHeap) : ∃ h', call Try.prog Ms (d + 1) 54 [a.val, b.val] h = some (.bool (tokEq a b), h') ∧ Ext h.size h h' := by
  have e1 := Ext.new (Nat.le_refl h.size) 53 a.cells
  have e2 : Ext (h.size + 1) (h.new 53 a.cells) ((h.new 53 a.cells).new 53 b.cells) := Ext.new (h := h.new 53 a.cells) (Nat.le_refl (h.new 53 a.cells).size) 53 b.cells
  refine ⟨(h.new 53 a.cells).new 53 b.cells, ?_, e1.trans (e2.mono (by omega))⟩
  have r1 : Row ((h.new 53 a.cells).new 53 b.cells) h.size a.cells := (Own.new (b := h.size) (Nat.le_refl _) 53 a.cells).row.ext e2 (by omega)
  have r2 : Row ((h.new 53 a.cells).new 53 b.cells) (h.new 53 a.cells).size b.cells := (Own.new (b := 0) (Nat.zero_le _) 53 b.cells).row
  obtain ⟨a0, a1, a2, a3⟩ := ld_at r1
  obtain ⟨b0, b1, b2, b3⟩ := ld_at r2
  rw [c54, e54]
  simp only [Tok.aCells, Option.bind_some, aNew, aOff_ptr, Nat.zero_add, a0, a1, a2, a3, b0, b1, b2, b3, asI, asS, if_true, tokEq]
  cases hk : (a.k == b.k) <;> cases ha : (a.at' == b.at') <;> cases ht : (a.text.toList == b.text.toList) <;> cases hi : (a.i == b.i) <;> simp [bne, hk, ha, ht, hi]
end Go.Proofs.Ytadmoackacickaa
/- Slices of tokens. -/
set_option linter.unusedSimpArgs false
namespace Go.Proofs.Ytadmoackacickaa
open Go Go.AH

def flat (ts : List Tok) : List Value := (ts.map Tok.cells).flatten
theorem flat_len : ∀ ts : List Tok, (flat ts).length = ts.length * 4
  | [] => rfl
  | t :: ts => by
    have := flat_len ts
    simp only [flat, List.map_cons, List.flatten_cons, List.length_append, List.length_cons] at *
    simp only [Tok.cells, List.length_cons, List.length_nil] at *
    omega
theorem flat_at : ∀ (ts : List Tok) (j : Nat) (hj : j < ts.length), ((flat ts).drop (j * 4)).take 4 = ts[j].cells
  | t :: ts, 0, _ => by simp [flat, Tok.cells]
  | t :: ts, j + 1, hj => by
    have := flat_at ts j (by simpa using hj)
    rw [show (j + 1) * 4 = 4 + j * 4 by omega, ← List.drop_drop]
    simpa [flat, Tok.cells] using this
/-- A slice of tokens. -/
def TS (h : AHeap) (v : Value) (ts : List Tok) : Prop := (v = .slice none 0 0 ∧ ts = []) ∨ ∃ i, v = slc i 0 ts.length ∧ Row h i (flat ts) ∧ i < h.size
theorem TS.len {h : AHeap} {v : Value} {ts : List Tok} (x : TS h v ts) : aLen v = some (.int .i64 ts.length) := by
  rcases x with ⟨rfl, rfl⟩ | ⟨i, rfl, _, _⟩ <;> rfl
theorem TS.ext {h h' : AHeap} {v : Value} {ts : List Tok} (x : TS h v ts) (e : Ext h.size h h') : TS h' v ts := by
  rcases x with hx | ⟨i, hv, hr, hi⟩
  · exact .inl hx
  · exact .inr ⟨i, hv, hr.ext e hi, Nat.lt_of_lt_of_le hi e.size⟩
theorem TS.at' {h : AHeap} {v : Value} {ts : List Tok} (x : TS h v ts) {j : Nat} (hj : j < ts.length) : ∃ p, aIdx v (.int .i64 (j : Int)) 4 = some p ∧ aLdN h p 4 = some ts[j].val := by
  rcases x with ⟨rfl, rfl⟩ | ⟨i, rfl, hr, _⟩
  · simp at hj
  · refine ⟨ptr i (j * 4), by simp [aIdx, slc, hj], ?_⟩
    rw [hr.ldN (by rw [flat_len]; omega), flat_at ts j hj]; rfl
def eqAll (xs ys : List Tok) : Bool := xs.length == ys.length && (xs.zip ys).all fun p => tokEq p.1 p.2
theorem eq_loop {d N : Nat} {a b : Value} {xs ys : List Tok} (hl : xs.length = ys.length) (hs : xs.length ≤ 3000) : ∀ (n j m : Nat) (h : AHeap), xs.length - j = n → j ≤ xs.length → n < m → TS h a xs → TS h b ys →
    ∃ h', s16_0 hk0 (call Try.prog Ms (d + 1)) N m a b (j : Int) h = some (.bool (((xs.drop j).zip (ys.drop j)).all fun p => tokEq p.1 p.2), h') ∧ Ext h.size h h' := by
  intro n
  induction n with
  | zero =>
    intro j m h hn hj hm ha hb
    obtain ⟨m, rfl⟩ : ∃ k, m = k + 1 := ⟨m - 1, by omega⟩
    have : ¬ ((j : Int) < (xs.length : Int)) := by omega
    refine ⟨h, ?_, Ext.refl _ _⟩
    rw [s16_0_eq, List.drop_eq_nil_of_le (by omega)]
    simp [ha.len, asI, this]
  | succ n ih =>
    intro j m h hn hj hm ha hb
    obtain ⟨m, rfl⟩ : ∃ k, m = k + 1 := ⟨m - 1, by omega⟩
    have hlt : j < xs.length := by omega
    have hlt2 : j < ys.length := by omega
    have hI : (j : Int) < (xs.length : Int) := by omega
    obtain ⟨p, hp1, hp2⟩ := ha.at' hlt
    obtain ⟨q, hq1, hq2⟩ := hb.at' hlt2
    obtain ⟨h1, hc, he⟩ := l54 d xs[j] ys[j] h
    rw [s16_0_eq, List.drop_eq_getElem_cons hlt, List.drop_eq_getElem_cons hlt2]
    simp only [ha.len, Option.bind_some, asI, if_true, hI, decide_true, cond_true, hp1, hp2, hq1, hq2, hc, asB, List.zip_cons_cons, List.all_cons]
    cases tokEq xs[j] ys[j] with
    | false => exact ⟨h1, rfl, he⟩
    | true =>
      simp only [Bool.not_true, cond_false, Bool.true_and]
      rw [wr (by omega) (by omega)]
      obtain ⟨h2, hr, he2⟩ := ih (j + 1) m h1 (by omega) (by omega) (by omega) (ha.ext he) (hb.ext he)
      exact ⟨h2, hr, he.trans (he2.mono he.size)⟩
theorem l16 {d : Nat} (hd : 3000 < d) {a b : Value} {xs ys : List Tok} {h : AHeap} (ha : TS h a xs) (hb : TS h b ys) (hs : xs.length ≤ 3000) :
    ∃ h', call Try.prog Ms (d + 2) 16 [a, b] h = some (.bool (eqAll xs ys), h') ∧ Ext h.size h h' := by
  rw [c16, e16]
  simp only [ha.len, hb.len, Option.bind_some, asI, if_true]
  by_cases hl : xs.length = ys.length
  · obtain ⟨h', hr, he⟩ := eq_loop (d := d) (N := d + 1) (a := a) (b := b) hl hs _ 0 (d + 1) h rfl (by omega) (by omega) ha hb
    refine ⟨h', ?_, he⟩
    have : ((xs.length : Int) != (ys.length : Int)) = false := by simp [hl]
    rw [this, cond_false]
    rw [show ((0 : Nat) : Int) = 0 from rfl] at hr
    rw [hr]; simp [eqAll, hl]
  · refine ⟨h, ?_, Ext.refl _ _⟩
    have : ((xs.length : Int) != (ys.length : Int)) = true := by simp; omega
    rw [this]; simp [eqAll, hl]
end Go.Proofs.Ytadmoackacickaa
/- Marks. -/
set_option linter.unusedSimpArgs false
namespace Go.Proofs.Ytadmoackacickaa
open Go Go.AH

def dig (x : Int) : ByteArray := ⟨#[UInt8.ofNat (IntKind.u8.wrap (IntKind.i64.wrap (48 + Int.tmod x 10))).toNat]⟩
def mtGo : Nat → Int → ByteArray → ByteArray
  | 0, _, t => t
  | f + 1, x, t => if x > 0 then mtGo f (IntKind.i64.wrap (Int.tdiv x 10)) (dig x ++ t) else (⟨#[109]⟩ : ByteArray) ++ t
def markT (x : Int) : ByteArray := if x ≤ 0 then ⟨#[109, 48]⟩ else mtGo 19 x ⟨#[]⟩
theorem size_dig (x : Int) (t : ByteArray) : (dig x ++ t).size = t.size + 1 := by
  rw [ByteArray.size_append]; show 1 + t.size = _; omega
theorem mt_loop {d N : Nat} : ∀ (f m : Nat) (x : Int) (t : ByteArray) (h : AHeap), x < 10 ^ f → f ≤ 18 → t.size + f ≤ 100 → f < m →
    ∃ h', s55_0 hk0 (call Try.prog Ms d) N m x t h = some (.string (mtGo (f + 1) x t), h') ∧ Ext h.size h h' := by
  intro f
  induction f with
  | zero =>
    intro m x t h hx _ ht hm
    obtain ⟨m, rfl⟩ : ∃ k, m = k + 1 := ⟨m - 1, by omega⟩
    have hx' : ¬ x > 0 := by simp at hx; omega
    have hz : (⟨#[109]⟩ : ByteArray).size + t.size ≤ most := by show 1 + t.size ≤ 140737488355328; omega
    refine ⟨h, ?_, Ext.refl _ _⟩
    rw [s55_0_eq]
    simp only [hx', decide_false, cond_false, aBin, hz, if_true, Option.bind_some, asS, mtGo, if_false]
  | succ f ih =>
    intro m x t h hx hf ht hm
    obtain ⟨m, rfl⟩ : ∃ k, m = k + 1 := ⟨m - 1, by omega⟩
    rw [s55_0_eq]
    by_cases hx' : x > 0
    · have e1 := Ext.new (Nat.le_refl h.size) 5 [Value.int .u8 (IntKind.u8.wrap (IntKind.i64.wrap (48 + Int.tmod x 10)))]
      have r1 := (Own.new (b := h.size) (Nat.le_refl _) 5 [Value.int .u8 (IntKind.u8.wrap (IntKind.i64.wrap (48 + Int.tmod x 10)))]).row
      have hz : (dig x).size + t.size ≤ most := by show 1 + t.size ≤ 140737488355328; omega
      have hcv : aCvStr (h.new 5 [Value.int .u8 (IntKind.u8.wrap (IntKind.i64.wrap (48 + Int.tmod x 10)))]) (slc h.size 0 1) = some (.string (dig x)) := by
        simp [aCvStr, slc, r1.rd (off := 0) (n := 1) (by simp), bytesOf, dig]
      have hdv : IntKind.i64.wrap (Int.tdiv x 10) = x / 10 := by
        rw [Int.tdiv_eq_ediv_of_nonneg (by omega)]
        have : x < 10 ^ 18 := Int.lt_of_lt_of_le hx (by exact_mod_cast Nat.pow_le_pow_right (by omega) (by omega))
        simp [IntKind.wrap, IntKind.bits, IntKind.signed]; omega
      obtain ⟨h2, hr, he⟩ := ih m (IntKind.i64.wrap (Int.tdiv x 10)) (dig x ++ t) (h.new 5 [Value.int .u8 (IntKind.u8.wrap (IntKind.i64.wrap (48 + Int.tmod x 10)))]) (by
        rw [hdv]; rw [Int.pow_succ] at hx; omega) (by omega) (by rw [size_dig]; omega) (by omega)
      refine ⟨h2, ?_, e1.trans (he.mono (by simp [AHeap.new]))⟩
      simp only [hx', decide_true, cond_true, aNewS, hcv, Option.bind_some, asS, aBin, hz, if_true]
      have e : mtGo (f + 1 + 1) x t = mtGo (f + 1) (IntKind.i64.wrap (Int.tdiv x 10)) (dig x ++ t) := by rw [mtGo, if_pos hx']
      rw [hr, e]
    · have hz : (⟨#[109]⟩ : ByteArray).size + t.size ≤ most := by show 1 + t.size ≤ 140737488355328; omega
      refine ⟨h, ?_, Ext.refl _ _⟩
      simp only [hx', decide_false, cond_false, aBin, hz, if_true, Option.bind_some, asS]
      rw [mtGo, if_neg hx']
theorem l55 {d : Nat} (hd : 3000 < d) {x : Int} (hx : x < 10 ^ 18) (h : AHeap) : ∃ h', call Try.prog Ms (d + 1) 55 [.int .i64 x] h = some (.string (markT x), h') ∧ Ext h.size h h' := by
  rw [c55, e55]
  by_cases h0 : x ≤ 0
  · exact ⟨h, by simp [h0, markT], Ext.refl _ _⟩
  · obtain ⟨h', hr, he⟩ := mt_loop (d := d) (N := d) 18 d x ⟨#[]⟩ h hx (by omega) (by decide) (by omega)
    refine ⟨h', ?_, he⟩
    simp only [h0, decide_false, cond_false, markT, if_false]
    exact hr
end Go.Proofs.Ytadmoackacickaa
/- Tokens are marked; marks are held. -/
set_option linter.unusedSimpArgs false
namespace Go.Proofs.Ytadmoackacickaa
open Go Go.AH

def mTok (k : Int) : Tok := ⟨k, k + 1, markT (k + 2), k + 3⟩
def marked : Int → Nat → List Tok
  | _, 0 => []
  | k, n + 1 => mTok k :: marked (k + 4) n
theorem splice_at (pre l : List Value) (a v : Value) {n : Nat} (hn : n = pre.length) : splice (pre ++ a :: l) n [v] = pre ++ v :: l := by
  subst hn
  simp [splice]
/-- One cell is written. -/
theorem Own.st1 {b : Nat} {h : AHeap} {i n : Nat} {pre l : List Value} {a v : Value} (x : Own b h i 53 (pre ++ a :: l)) (hn : n = pre.length) (hv : aCells v = some [v]) :
    ∃ h', aSt h (ptr i n) v 1 = some h' ∧ Ext b h h' ∧ Own b h' i 53 (pre ++ v :: l) := by
  obtain ⟨h', h1, h2, h3, _, _⟩ := x.st (off := n) (n := 1) hv rfl (by subst hn; simp)
  exact ⟨h', h1, h2, by rw [splice_at pre l a v hn] at h3; exact h3⟩
theorem flat_app (xs ys : List Tok) : flat (xs ++ ys) = flat xs ++ flat ys := by simp [flat]
theorem mark_loop {d N i b : Nat} (hd : 3000 < d) : ∀ (n : Nat) (done todo : List Tok) (m : Nat) (k : Int) (h : AHeap), todo.length = n → n < m → done.length + n ≤ 3000 → 0 ≤ k → k + 4 * n ≤ 100000 →
    Own b h i 53 (flat done ++ flat todo) →
    ∃ h', s17_0 hk0 (call Try.prog Ms (d + 1)) N m (slc i 0 (done.length + n)) k (done.length : Int) h = some (.int .i64 (k + 4 * n), h') ∧ Ext b h h' ∧ Own b h' i 53 (flat done ++ flat (marked k n)) := by
  intro n
  induction n with
  | zero =>
    intro done todo m k h ht hm hs hk0' hk ho
    obtain ⟨m, rfl⟩ : ∃ q, m = q + 1 := ⟨m - 1, by omega⟩
    have : todo = [] := List.length_eq_zero_iff.1 ht
    subst this
    refine ⟨h, ?_, Ext.refl _ _, ho⟩
    rw [s17_0_eq]
    simp [aLen, slc, asI]
  | succ n ih =>
    intro done todo m k h ht hm hs hk0' hk ho
    obtain ⟨m, rfl⟩ : ∃ q, m = q + 1 := ⟨m - 1, by omega⟩
    cases todo with
    | nil => simp at ht
    | cons t todo =>
      have hI : (done.length : Int) < ((done.length + (n + 1) : Nat) : Int) := by omega
      have hlen : aLen (slc i 0 (done.length + (n + 1))) = some (.int .i64 ((done.length + (n + 1) : Nat) : Int)) := rfl
      have hix : aIdx (slc i 0 (done.length + (n + 1))) (.int .i64 (done.length : Int)) 4 = some (ptr i (done.length * 4)) := by simp [aIdx, slc]; omega
      have hfl := flat_len done
      have e0 : flat done ++ flat (t :: todo) = flat done ++ .int .i64 t.k :: (.int .i64 t.at' :: .string t.text :: .int .i64 t.i :: flat todo) := by simp [flat, Tok.cells]
      rw [e0] at ho
      obtain ⟨h1, s1, x1, o1⟩ := Own.st1 (v := .int .i64 k) ho (n := done.length * 4) hfl.symm rfl
      rw [show flat done ++ Value.int .i64 k :: (.int .i64 t.at' :: .string t.text :: .int .i64 t.i :: flat todo) = (flat done ++ [.int .i64 k]) ++ .int .i64 t.at' :: (.string t.text :: .int .i64 t.i :: flat todo) by simp] at o1
      obtain ⟨h2, s2, x2, o2⟩ := Own.st1 (v := .int .i64 (k + 1)) o1 (n := done.length * 4 + 1) (by simp [hfl]) rfl
      obtain ⟨h3, c3, x3⟩ := l55 hd (x := k + 2) (Int.lt_of_le_of_lt (b := 100000) (by omega) (by decide)) h2
      have o3 := o2.ext x3 o2.lt.2
      rw [show (flat done ++ [Value.int .i64 k]) ++ .int .i64 (k + 1) :: (.string t.text :: .int .i64 t.i :: flat todo) = (flat done ++ [.int .i64 k, .int .i64 (k + 1)]) ++ .string t.text :: (.int .i64 t.i :: flat todo) by simp] at o3
      obtain ⟨h4, s4, x4, o4⟩ := Own.st1 (v := .string (markT (k + 2))) o3 (n := done.length * 4 + 2) (by simp [hfl]) rfl
      rw [show (flat done ++ [Value.int .i64 k, .int .i64 (k + 1)]) ++ .string (markT (k + 2)) :: (.int .i64 t.i :: flat todo) = (flat done ++ [.int .i64 k, .int .i64 (k + 1), .string (markT (k + 2))]) ++ .int .i64 t.i :: flat todo by simp] at o4
      obtain ⟨h5, s5, x5, o5⟩ := Own.st1 (v := .int .i64 (k + 3)) o4 (n := done.length * 4 + 3) (by simp [hfl]) rfl
      rw [show (flat done ++ [Value.int .i64 k, .int .i64 (k + 1), .string (markT (k + 2))]) ++ .int .i64 (k + 3) :: flat todo = flat (done ++ [mTok k]) ++ flat todo by simp [flat_app, flat, mTok, Tok.cells]] at o5
      obtain ⟨h6, r6, x6, o6⟩ := ih (done ++ [mTok k]) todo m (k + 4) h5 (by simpa using ht) (by omega) (by simp; omega) (by omega) (by omega) o5
      refine ⟨h6, ?_, x1.trans (x2.trans ((x3.mono (Nat.le_of_lt (Nat.lt_of_le_of_lt o2.lt.1 o2.lt.2))).trans (x4.trans (x5.trans x6)))), ?_⟩
      · have w1 : IntKind.i64.wrap (k + 1) = k + 1 := wr (by omega) (by omega)
        have w2 : IntKind.i64.wrap (k + 1 + 1) = k + 2 := by rw [wr (by omega) (by omega)]; omega
        have w3 : IntKind.i64.wrap (k + 2 + 1) = k + 3 := by rw [wr (by omega) (by omega)]; omega
        have w4 : IntKind.i64.wrap (k + 3 + 1) = k + 4 := by rw [wr (by omega) (by omega)]; omega
        have wj : IntKind.i64.wrap ((done.length : Int) + 1) = ((done ++ [mTok k]).length : Int) := by rw [wr (by omega) (by omega)]; simp
        rw [s17_0_eq]
        simp only [hlen, Option.bind_some, asI, if_true, hI, decide_true, cond_true, hix, aOff_ptr, Nat.add_zero, s1, w1, s2, w2, c3, asS, s4, w3, s5, w4, wj]
        rw [show done.length + (n + 1) = (done ++ [mTok k]).length + n by simp; omega, r6]
        rw [show k + 4 + 4 * (n : Int) = k + 4 * ((n + 1 : Nat) : Int) by omega]
      · rw [show flat done ++ flat (marked k (n + 1)) = flat (done ++ [mTok k]) ++ flat (marked (k + 4) n) by simp [marked, flat_app, flat]]
        exact o6
/-- A slice of tokens that may be written. -/
def OS (b : Nat) (h : AHeap) (v : Value) (ts : List Tok) : Prop := (v = .slice none 0 0 ∧ ts = []) ∨ ∃ i, v = slc i 0 ts.length ∧ Own b h i 53 (flat ts)
theorem OS.ts {b : Nat} {h : AHeap} {v : Value} {ts : List Tok} (x : OS b h v ts) : TS h v ts := by
  rcases x with hx | ⟨i, hv, ho⟩
  · exact .inl hx
  · exact .inr ⟨i, hv, ho.row, ho.lt.2⟩
theorem OS.ext {b : Nat} {h h' : AHeap} {v : Value} {ts : List Tok} (x : OS b h v ts) (e : Ext h.size h h') : OS b h' v ts := by
  rcases x with hx | ⟨i, hv, ho⟩
  · exact .inl hx
  · exact .inr ⟨i, hv, ho.ext e ho.lt.2⟩
theorem marked_len (k : Int) (n : Nat) : (marked k n).length = n := by
  induction n generalizing k with
  | zero => rfl
  | succ n ih => simp [marked, ih]
theorem l17 {d b : Nat} (hd : 3000 < d) {v : Value} {ts : List Tok} {h : AHeap} (x : OS b h v ts) (hs : ts.length ≤ 3000) :
    ∃ h', call Try.prog Ms (d + 2) 17 [v, .int .i64 1] h = some (.int .i64 (1 + 4 * ts.length), h') ∧ Ext b h h' ∧ OS b h' v (marked 1 ts.length) := by
  rw [c17, e17]
  rcases x with ⟨rfl, rfl⟩ | ⟨i, rfl, ho⟩
  · refine ⟨h, ?_, Ext.refl _ _, .inl ⟨rfl, rfl⟩⟩
    rw [s17_0_eq]; simp [aLen, asI]
  · obtain ⟨h', r, e, o⟩ := mark_loop (N := d + 1) (i := i) (b := b) hd ts.length [] ts (d + 1) 1 h rfl (by omega) (by simpa using hs) (by omega) (by omega) (by simpa [flat] using ho)
    refine ⟨h', ?_, e, .inr ⟨i, by rw [marked_len], by simpa [flat] using o⟩⟩
    simpa using r
end Go.Proofs.Ytadmoackacickaa
/- Marks are held. -/
set_option linter.unusedSimpArgs false
namespace Go.Proofs.Ytadmoackacickaa
open Go Go.AH

theorem vbeq_str (t : ByteArray) : vbeq (.string t) (.string t) = true := by
  simp [vbeq, vbeq1, BEq.beq, ByteArray.beq]
  exact Array.isEqv_self _
theorem marked_drop : ∀ (n j : Nat) (k : Int), j ≤ n → (marked k n).drop j = marked (k + 4 * j) (n - j)
  | n, 0, k, _ => by simp
  | n + 1, j + 1, k, h => by
    simp only [marked, List.drop_succ_cons]
    rw [marked_drop n j (k + 4) (by omega), Nat.add_sub_add_right, show k + 4 + 4 * (j : Int) = k + 4 * ((j + 1 : Nat) : Int) by omega]
  | 0, j + 1, k, h => by omega
theorem marked_at {n j : Nat} {k : Int} (h : j < (marked k n).length) : (marked k n)[j] = mTok (k + 4 * j) := by
  have h1 := marked_drop n j k (by rw [marked_len] at h; omega)
  rw [List.drop_eq_getElem_cons h] at h1
  obtain ⟨q, hq⟩ : ∃ q, n - j = q + 1 := ⟨n - j - 1, by rw [marked_len] at h; omega⟩
  rw [hq] at h1
  simp only [marked, List.cons.injEq] at h1
  exact h1.1
theorem flat_get (ts : List Tok) (j c : Nat) (hj : j < ts.length) (hc : c < 4) : (flat ts)[j * 4 + c]? = ts[j].cells[c]? := by
  have h := flat_at ts j hj
  rw [← h, List.getElem?_take, if_pos hc, List.getElem?_drop]
theorem TS.ld {h : AHeap} {v : Value} {ts : List Tok} (x : TS h v ts) {j : Nat} (hj : j < ts.length) : ∃ i, aIdx v (.int .i64 (j : Int)) 4 = some (ptr i (j * 4)) ∧ i < h.size ∧
    (∀ h', Ext h.size h h' → aLd1 h' (ptr i (j * 4)) = some (.int .i64 ts[j].k) ∧ aLd1 h' (ptr i (j * 4 + 1)) = some (.int .i64 ts[j].at') ∧ aLd1 h' (ptr i (j * 4 + 2)) = some (.string ts[j].text) ∧ aLd1 h' (ptr i (j * 4 + 3)) = some (.int .i64 ts[j].i)) := by
  rcases x with ⟨rfl, rfl⟩ | ⟨i, rfl, hr, hi⟩
  · simp at hj
  · refine ⟨i, by simp [aIdx, slc, hj], hi, fun h' e => ?_⟩
    have r := hr.ext e hi
    exact ⟨r.ld1 (flat_get ts j 0 hj (by omega)), r.ld1 (flat_get ts j 1 hj (by omega)), r.ld1 (flat_get ts j 2 hj (by omega)), r.ld1 (flat_get ts j 3 hj (by omega))⟩
theorem held_loop {d N L : Nat} (hd : 3000 < d) (hL : L ≤ 3000) {v : Value} : ∀ (n j m : Nat) (h : AHeap), L - j = n → j ≤ L → n < m → TS h v (marked 1 L) →
    ∃ h', s18_0 hk0 (call Try.prog Ms (d + 1)) N m v (1 + 4 * (j : Int)) (j : Int) h = some (.int .i64 (1 + 4 * L), h') ∧ Ext h.size h h' := by
  intro n
  induction n with
  | zero =>
    intro j m h hn hj hm x
    obtain ⟨m, rfl⟩ : ∃ q, m = q + 1 := ⟨m - 1, by omega⟩
    have : j = L := by omega
    subst this
    refine ⟨h, ?_, Ext.refl _ _⟩
    have hl := x.len
    rw [marked_len] at hl
    rw [s18_0_eq]; simp [hl, asI]
  | succ n ih =>
    intro j m h hn hj hm x
    obtain ⟨m, rfl⟩ : ∃ q, m = q + 1 := ⟨m - 1, by omega⟩
    have hl := x.len
    rw [marked_len] at hl
    have hI : (j : Int) < (L : Int) := by omega
    obtain ⟨i, hix, _, hld⟩ := x.ld (j := j) (by rw [marked_len]; omega)
    rw [marked_at (by rw [marked_len]; omega)] at hld
    obtain ⟨a0, a1, a2, a3⟩ := hld h (Ext.refl _ _)
    obtain ⟨h1, c1, x1⟩ := l55 hd (x := 1 + 4 * (j : Int) + 2) (Int.lt_of_le_of_lt (b := 100000) (by omega) (by decide)) h
    obtain ⟨b0, b1, b2, b3⟩ := hld h1 x1
    obtain ⟨h2, r, x2⟩ := ih (j + 1) m h1 (by omega) (by omega) (by omega) (x.ext x1)
    refine ⟨h2, ?_, x1.trans (x2.mono x1.size)⟩
    have w1 : IntKind.i64.wrap (1 + 4 * (j : Int) + 1) = 1 + 4 * (j : Int) + 1 := wr (by omega) (by omega)
    have w2 : IntKind.i64.wrap (1 + 4 * (j : Int) + 1 + 1) = 1 + 4 * (j : Int) + 2 := by rw [wr (by omega) (by omega)]; omega
    have w3 : IntKind.i64.wrap (1 + 4 * (j : Int) + 2 + 1) = 1 + 4 * (j : Int) + 3 := by rw [wr (by omega) (by omega)]; omega
    have w4 : IntKind.i64.wrap (1 + 4 * (j : Int) + 3 + 1) = 1 + 4 * ((j + 1 : Nat) : Int) := by rw [wr (by omega) (by omega)]; omega
    have wj : IntKind.i64.wrap ((j : Int) + 1) = ((j + 1 : Nat) : Int) := by rw [wr (by omega) (by omega)]; omega
    rw [s18_0_eq]
    simp only [mTok] at a0 a1 a2 a3 b0 b1 b2 b3
    simp only [hl, Option.bind_some, asI, if_true, hI, decide_true, cond_true, hix, aOff_ptr, Nat.add_zero, a0, a1, a2, b2, b3, w1, w2, w3, w4, wj, c1, asS, vbeq_str, bne_self_eq_false, cond_false, beq_self_eq_true, Bool.not_true, r]
theorem l18 {d L : Nat} (hd : 3000 < d) (hL : L ≤ 3000) {v : Value} {h : AHeap} (x : TS h v (marked 1 L)) :
    ∃ h', call Try.prog Ms (d + 2) 18 [v, .int .i64 1] h = some (.int .i64 (1 + 4 * L), h') ∧ Ext h.size h h' := by
  rw [c18, e18]
  obtain ⟨h', r, e⟩ := held_loop (N := d + 1) hd hL L 0 (d + 1) h (by omega) (by omega) (by omega) x
  exact ⟨h', by simpa using r, e⟩
end Go.Proofs.Ytadmoackacickaa
