import Derived.Test.YtadmoackacickaaXAD
import Derived.KernelRfl
import Derived.Test.YtadmoackacickaaProg
import Derived.Laws.Strings
set_option linter.unusedVariables false
namespace Go.Proofs.Ytadmoackacickaa
open Go Go.AH
/-! 3 loop.example/g00101/laws.FnExactLex -/
/-! 14 loop.example/g00101/spec.Lex -/
noncomputable def F14_0 (hk : Hk (Value × AHeap)) (C : ACall) (N : Nat) (n1 : Nat) : Nx (Value × AHeap) := evSt hk Try.prog C M14 N Try.f14 [1, 1, 1, 1, 0, 2, 6] [n1]
noncomputable def s14_0 (hk : Hk (Value × AHeap)) (C : ACall) (N : Nat) (n1 : Nat) (x0 : ByteArray) (x5 : Value) (x6 : Int) (h : AHeap) := F14_0 hk C N n1 (⟨79, [(0, .string x0), (5, x5), (6, .int .i64 x6)]⟩) h
noncomputable def F14_1 (hk : Hk (Value × AHeap)) (C : ACall) (N : Nat) (n1 : Nat) : Nx (Value × AHeap) := evSt hk Try.prog C M14 N Try.f14 [1, 1, 1, 1, 0, 2, 3, 1, 2, 1, 1] [n1]
noncomputable def s14_1 (hk : Hk (Value × AHeap)) (C : ACall) (N : Nat) (n1 : Nat) (x0 : ByteArray) (x5 : Value) (x6 : Int) (x7 : Int) (h : AHeap) := hk 9 (⟨79, [(0, .string x0), (5, x5), (6, .int .i64 x6), (7, .int .u8 x7)]⟩) h (F14_1 hk C N n1)
noncomputable def F14_2 (hk : Hk (Value × AHeap)) (C : ACall) (N : Nat) (n1 : Nat) : Nx (Value × AHeap) := evSt hk Try.prog C M14 N Try.f14 [1, 1, 1, 1, 0, 2, 3, 1, 2, 1, 1, 0, 1, 4] [n1]
noncomputable def s14_2 (hk : Hk (Value × AHeap)) (C : ACall) (N : Nat) (n1 : Nat) (x0 : ByteArray) (x5 : Value) (x6 : Int) (h : AHeap) := hk 10 (⟨79, [(0, .string x0), (5, x5), (6, .int .i64 x6)]⟩) h (F14_2 hk C N n1)
noncomputable def F14_4 (hk : Hk (Value × AHeap)) (C : ACall) (N : Nat) (n1 : Nat) : Nx (Value × AHeap) := evSt hk Try.prog C M14 N Try.f14 [1, 1, 1, 1, 0, 2, 3, 1, 2, 1, 1, 1] [n1]
noncomputable def s14_4 (hk : Hk (Value × AHeap)) (C : ACall) (N : Nat) (n1 : Nat) (x0 : ByteArray) (x5 : Value) (x6 : Int) (h : AHeap) := hk 12 (⟨79, [(0, .string x0), (5, x5), (6, .int .i64 x6)]⟩) h (F14_4 hk C N n1)
noncomputable def F14_3 (hk : Hk (Value × AHeap)) (C : ACall) (N : Nat) (n1 n2 : Nat) : Nx (Value × AHeap) := evSt hk Try.prog C M14 N Try.f14 [1, 1, 1, 1, 0, 2, 3, 1, 2, 1, 1, 0, 1, 4, 0, 2, 6] [n1, n2]
noncomputable def s14_3 (hk : Hk (Value × AHeap)) (C : ACall) (N : Nat) (n1 n2 : Nat) (x0 : ByteArray) (x5 : Value) (x6 : Int) (h : AHeap) := F14_3 hk C N n1 n2 (⟨79, [(0, .string x0), (5, x5), (6, .int .i64 x6)]⟩) h
theorem e14 (hk : Hk (Value × AHeap)) (C : ACall) (N : Nat) (x0 : ByteArray) (h : AHeap) : evFn hk Try.prog C M14 N Try.f14 [.string x0] h =
    bif decide ((ByteArray.size x0 : Int) > 3000) then some (.tuple (List.toArray [(.slice none 0 0), .int .i64 1, .int .i64 0]), h) else aNewS h 53 [] 0 fun p1 h2 => s14_0 hk C N N x0 p1 0 h2 := by kernel_rfl
theorem s14_0_eq (hk : Hk (Value × AHeap)) (C : ACall) (N : Nat) (n1 : Nat) (x0 : ByteArray) (x5 : Value) (x6 : Int) (h : AHeap) : s14_0 hk C N (n1 + 1) x0 x5 x6 h =
    bif decide (x6 < (ByteArray.size x0 : Int)) then (aStrIx (.string x0) (.int .i64 x6)).bind fun v3 => (asI .u8 v3).bind fun n4 => bif n4 == 9 then s14_0 hk C N n1 x0 x5 (IntKind.i64.wrap (x6 + 1)) h else bif n4 == 10 then s14_0 hk C N n1 x0 x5 (IntKind.i64.wrap (x6 + 1)) h else bif n4 == 32 then s14_0 hk C N n1 x0 x5 (IntKind.i64.wrap (x6 + 1)) h else s14_1 hk C N n1 x0 x5 x6 n4 h else bif List.all [x5, .int .i64 0, .int .i64 0] isS2 then some (.tuple (List.toArray [x5, .int .i64 0, .int .i64 0]), h) else none := by kernel_rfl
theorem s14_1_j (C : ACall) (N : Nat) (n1 : Nat) (x0 : ByteArray) (x5 : Value) (x6 : Int) (x7 : Int) (h : AHeap) : s14_1 hk0 C N n1 x0 x5 x6 x7 h = F14_1 hk0 C N n1 (⟨79, [(0, .string x0), (5, x5), (6, .int .i64 x6), (7, .int .u8 x7)]⟩) h := by delta s14_1; exact hk0_app _ _ _ _
theorem s14_1_eq (hk : Hk (Value × AHeap)) (C : ACall) (N : Nat) (n1 : Nat) (x0 : ByteArray) (x5 : Value) (x6 : Int) (x7 : Int) (h : AHeap) : F14_1 hk C N n1 (⟨79, [(0, .string x0), (5, x5), (6, .int .i64 x6), (7, .int .u8 x7)]⟩) h =
    bif x7 == 45 then bif decide ((IntKind.i64.wrap (x6 + 1)) < (ByteArray.size x0 : Int)) then (aStrIx (.string x0) (.int .i64 (IntKind.i64.wrap (x6 + 1)))).bind fun v5 => (asI .u8 v5).bind fun n6 => bif n6 == 45 then s14_2 hk C N n1 x0 x5 x6 h else s14_4 hk C N n1 x0 x5 x6 h else s14_4 hk C N n1 x0 x5 x6 h else s14_4 hk C N n1 x0 x5 x6 h := by kernel_rfl
theorem s14_2_j (C : ACall) (N : Nat) (n1 : Nat) (x0 : ByteArray) (x5 : Value) (x6 : Int) (h : AHeap) : s14_2 hk0 C N n1 x0 x5 x6 h = F14_2 hk0 C N n1 (⟨79, [(0, .string x0), (5, x5), (6, .int .i64 x6)]⟩) h := by delta s14_2; exact hk0_app _ _ _ _
theorem s14_2_eq (hk : Hk (Value × AHeap)) (C : ACall) (N : Nat) (n1 : Nat) (x0 : ByteArray) (x5 : Value) (x6 : Int) (h : AHeap) : F14_2 hk C N n1 (⟨79, [(0, .string x0), (5, x5), (6, .int .i64 x6)]⟩) h =
    s14_3 hk C N n1 N x0 x5 x6 h := by kernel_rfl
theorem s14_4_j (C : ACall) (N : Nat) (n1 : Nat) (x0 : ByteArray) (x5 : Value) (x6 : Int) (h : AHeap) : s14_4 hk0 C N n1 x0 x5 x6 h = F14_4 hk0 C N n1 (⟨79, [(0, .string x0), (5, x5), (6, .int .i64 x6)]⟩) h := by delta s14_4; exact hk0_app _ _ _ _
theorem s14_4_eq (hk : Hk (Value × AHeap)) (C : ACall) (N : Nat) (n1 : Nat) (x0 : ByteArray) (x5 : Value) (x6 : Int) (h : AHeap) : F14_4 hk C N n1 (⟨79, [(0, .string x0), (5, x5), (6, .int .i64 x6)]⟩) h =
    (C 50 [.string x0, .int .i64 x6] h).bind fun r7 => (aExt r7.1 0).bind fun v8 => (aExt r7.1 1).bind fun v9 => (asI .i64 v9).bind fun n10 => (aExt r7.1 2).bind fun v11 => (asI .i64 v11).bind fun n12 => aNew r7.2 53 [.int .i64 0, .int .i64 0, .string ⟨#[]⟩, .int .i64 0] fun p13 h14 => (aSt h14 p13 v8 4).bind fun h15 => bif n10 != 0 then some (.tuple (List.toArray [(.slice none 0 0), .int .i64 n10, .int .i64 x6]), h15) else (aLdN h15 p13 4).bind fun v16 => (aFill [.int .i64 0, .int .i64 0, .string ⟨#[]⟩, .int .i64 0] [(0, 4, v16)]).bind fun c17 => aNewS h15 53 c17 1 fun p18 h19 => (aApp h19 53 4 40 x5 p18).bind fun r20 => s14_0 hk C N n1 x0 r20.1 n12 r20.2 := by kernel_rfl
theorem s14_3_eq (hk : Hk (Value × AHeap)) (C : ACall) (N : Nat) (n1 n2 : Nat) (x0 : ByteArray) (x5 : Value) (x6 : Int) (h : AHeap) : s14_3 hk C N n1 (n2 + 1) x0 x5 x6 h =
    bif decide (x6 < (ByteArray.size x0 : Int)) then (aStrIx (.string x0) (.int .i64 x6)).bind fun v21 => (asI .u8 v21).bind fun n22 => bif n22 != 10 then s14_3 hk C N n1 n2 x0 x5 (IntKind.i64.wrap (x6 + 1)) h else s14_0 hk C N n1 x0 x5 x6 h else s14_0 hk C N n1 x0 x5 x6 h := by kernel_rfl
theorem c14 (d : Nat) (args : List Value) (h : AHeap) : call Try.prog Ms (d + 1) 14 args h = evFn hk0 Try.prog (call Try.prog Ms d) M14 d Try.f14 args h := by kernel_rfl

/-! 15 loop.example/g00101/impl.Lex -/
noncomputable def F15_0 (hk : Hk (Value × AHeap)) (C : ACall) (N : Nat) (n1 : Nat) : Nx (Value × AHeap) := evSt hk Try.prog C M15 N Try.f15 [1, 1, 1, 0, 1, 2, 6] [n1]
noncomputable def s15_0 (hk : Hk (Value × AHeap)) (C : ACall) (N : Nat) (n1 : Nat) (x0 : ByteArray) (x5 : Value) (x6 : Int) (h : AHeap) := F15_0 hk C N n1 (⟨74, [(0, .string x0), (5, x5), (6, .int .i64 x6)]⟩) h
noncomputable def F15_1 (hk : Hk (Value × AHeap)) (C : ACall) (N : Nat) (n1 : Nat) : Nx (Value × AHeap) := evSt hk Try.prog C M15 N Try.f15 [1, 1, 1, 0, 1, 2, 3, 1, 2, 1, 2, 1, 5] [n1]
noncomputable def s15_1 (hk : Hk (Value × AHeap)) (C : ACall) (N : Nat) (n1 : Nat) (x0 : ByteArray) (x5 : Value) (x6 : Int) (x7 : Int) (h : AHeap) := hk 14 (⟨74, [(0, .string x0), (5, x5), (6, .int .i64 x6), (7, .int .u8 x7)]⟩) h (F15_1 hk C N n1)
noncomputable def F15_2 (hk : Hk (Value × AHeap)) (C : ACall) (N : Nat) (n1 : Nat) : Nx (Value × AHeap) := evSt hk Try.prog C M15 N Try.f15 [1, 1, 1, 0, 1, 2, 3, 1, 2, 1, 2, 1, 5, 1, 5] [n1]
noncomputable def s15_2 (hk : Hk (Value × AHeap)) (C : ACall) (N : Nat) (n1 : Nat) (x0 : ByteArray) (x5 : Value) (x6 : Int) (h : AHeap) := hk 7 (⟨74, [(0, .string x0), (5, x5), (6, .int .i64 x6)]⟩) h (F15_2 hk C N n1)
theorem e15 (hk : Hk (Value × AHeap)) (C : ACall) (N : Nat) (x0 : ByteArray) (h : AHeap) : evFn hk Try.prog C M15 N Try.f15 [.string x0] h =
    bif decide ((ByteArray.size x0 : Int) > 3000) then some (.tuple (List.toArray [(.slice none 0 0), .int .i64 1, .int .i64 0]), h) else aNewS h 53 [] 0 fun p1 h2 => s15_0 hk C N N x0 p1 0 h2 := by kernel_rfl
theorem s15_0_eq (hk : Hk (Value × AHeap)) (C : ACall) (N : Nat) (n1 : Nat) (x0 : ByteArray) (x5 : Value) (x6 : Int) (h : AHeap) : s15_0 hk C N (n1 + 1) x0 x5 x6 h =
    bif decide (x6 < (ByteArray.size x0 : Int)) then (aStrIx (.string x0) (.int .i64 x6)).bind fun v3 => (asI .u8 v3).bind fun n4 => bif n4 == 9 then s15_0 hk C N n1 x0 x5 (IntKind.i64.wrap (x6 + 1)) h else bif n4 == 10 then s15_0 hk C N n1 x0 x5 (IntKind.i64.wrap (x6 + 1)) h else bif n4 == 32 then s15_0 hk C N n1 x0 x5 (IntKind.i64.wrap (x6 + 1)) h else s15_1 hk C N n1 x0 x5 x6 n4 h else bif List.all [x5, .int .i64 0, .int .i64 0] isS2 then some (.tuple (List.toArray [x5, .int .i64 0, .int .i64 0]), h) else none := by kernel_rfl
theorem s15_1_j (C : ACall) (N : Nat) (n1 : Nat) (x0 : ByteArray) (x5 : Value) (x6 : Int) (x7 : Int) (h : AHeap) : s15_1 hk0 C N n1 x0 x5 x6 x7 h = F15_1 hk0 C N n1 (⟨74, [(0, .string x0), (5, x5), (6, .int .i64 x6), (7, .int .u8 x7)]⟩) h := by delta s15_1; exact hk0_app _ _ _ _
theorem s15_1_eq (hk : Hk (Value × AHeap)) (C : ACall) (N : Nat) (n1 : Nat) (x0 : ByteArray) (x5 : Value) (x6 : Int) (x7 : Int) (h : AHeap) : F15_1 hk C N n1 (⟨74, [(0, .string x0), (5, x5), (6, .int .i64 x6), (7, .int .u8 x7)]⟩) h =
    bif x7 == 45 then bif decide ((IntKind.i64.wrap (x6 + 1)) < (ByteArray.size x0 : Int)) then (aStrIx (.string x0) (.int .i64 (IntKind.i64.wrap (x6 + 1)))).bind fun v5 => (asI .u8 v5).bind fun n6 => bif n6 == 45 then (C 51 [.string x0, .int .i64 x6, (.func (.func 52) #[] #[])] h).bind fun r7 => (asI .i64 r7.1).bind fun n8 => s15_0 hk C N n1 x0 x5 n8 r7.2 else s15_2 hk C N n1 x0 x5 x6 h else s15_2 hk C N n1 x0 x5 x6 h else s15_2 hk C N n1 x0 x5 x6 h := by kernel_rfl
theorem s15_2_j (C : ACall) (N : Nat) (n1 : Nat) (x0 : ByteArray) (x5 : Value) (x6 : Int) (h : AHeap) : s15_2 hk0 C N n1 x0 x5 x6 h = F15_2 hk0 C N n1 (⟨74, [(0, .string x0), (5, x5), (6, .int .i64 x6)]⟩) h := by delta s15_2; exact hk0_app _ _ _ _
theorem s15_2_eq (hk : Hk (Value × AHeap)) (C : ACall) (N : Nat) (n1 : Nat) (x0 : ByteArray) (x5 : Value) (x6 : Int) (h : AHeap) : F15_2 hk C N n1 (⟨74, [(0, .string x0), (5, x5), (6, .int .i64 x6)]⟩) h =
    (C 53 [.string x0, .int .i64 x6] h).bind fun r9 => (aExt r9.1 0).bind fun v10 => (aExt r9.1 1).bind fun v11 => (asI .i64 v11).bind fun n12 => (aExt r9.1 2).bind fun v13 => (asI .i64 v13).bind fun n14 => aNew r9.2 53 [.int .i64 0, .int .i64 0, .string ⟨#[]⟩, .int .i64 0] fun p15 h16 => (aSt h16 p15 v10 4).bind fun h17 => bif n14 != 0 then some (.tuple (List.toArray [(.slice none 0 0), .int .i64 n14, .int .i64 x6]), h17) else (aLdN h17 p15 4).bind fun v18 => (aFill [.int .i64 0, .int .i64 0, .string ⟨#[]⟩, .int .i64 0] [(0, 4, v18)]).bind fun c19 => aNewS h17 53 c19 1 fun p20 h21 => (aApp h21 53 4 40 x5 p20).bind fun r22 => s15_0 hk C N n1 x0 r22.1 (IntKind.i64.wrap (x6 + n12)) r22.2 := by kernel_rfl
theorem c15 (d : Nat) (args : List Value) (h : AHeap) : call Try.prog Ms (d + 1) 15 args h = evFn hk0 Try.prog (call Try.prog Ms d) M15 d Try.f15 args h := by kernel_rfl

/-! 16 loop.example/g00101/laws.eqTokenS -/
/-! 17 loop.example/g00101/laws.markTokenS -/
/-! 18 loop.example/g00101/laws.heldTokenS -/
/-! 50 loop.example/g00101/spec.l8Token -/
noncomputable def F50_0 (hk : Hk (Value × AHeap)) (C : ACall) (N : Nat) (n1 : Nat) : Nx (Value × AHeap) := evSt hk Try.prog C M50 N Try.f50 [1, 1, 1, 0, 2, 1, 4, 0, 2, 6] [n1]
noncomputable def s50_0 (hk : Hk (Value × AHeap)) (C : ACall) (N : Nat) (n1 : Nat) (x0 : ByteArray) (x1 : Int) (x4 : Value) (x7 : Int) (x8 : Value) (h : AHeap) := F50_0 hk C N n1 (⟨213, [(0, .string x0), (1, .int .i64 x1), (4, x4), (7, .int .i64 x7), (8, x8)]⟩) h
noncomputable def F50_2 (hk : Hk (Value × AHeap)) (C : ACall) (N : Nat) (n1 : Nat) : Nx (Value × AHeap) := evSt hk Try.prog C M50 N Try.f50 [1, 1, 1, 0, 2, 1, 5, 1, 4, 0, 2, 6] [n1]
noncomputable def s50_2 (hk : Hk (Value × AHeap)) (C : ACall) (N : Nat) (n1 : Nat) (x0 : ByteArray) (x1 : Int) (x4 : Value) (x7 : Int) (x8 : Value) (h : AHeap) := F50_2 hk C N n1 (⟨213, [(0, .string x0), (1, .int .i64 x1), (4, x4), (7, .int .i64 x7), (8, x8)]⟩) h
noncomputable def F50_5 (hk : Hk (Value × AHeap)) (C : ACall) (N : Nat) (n1 : Nat) : Nx (Value × AHeap) := evSt hk Try.prog C M50 N Try.f50 [1, 1, 1, 0, 2, 1, 5, 1, 5, 1, 4, 1, 0, 2, 6] [n1]
noncomputable def s50_5 (hk : Hk (Value × AHeap)) (C : ACall) (N : Nat) (n1 : Nat) (x0 : ByteArray) (x1 : Int) (x4 : Value) (x7 : Int) (x8 : Value) (h : AHeap) := F50_5 hk C N n1 (⟨213, [(0, .string x0), (1, .int .i64 x1), (4, x4), (7, .int .i64 x7), (8, x8)]⟩) h
noncomputable def F50_7 (hk : Hk (Value × AHeap)) (C : ACall) (N : Nat) (n1 : Nat) : Nx (Value × AHeap) := evSt hk Try.prog C M50 N Try.f50 [1, 1, 1, 1, 1, 0, 1, 2, 6] [n1]
noncomputable def s50_7 (hk : Hk (Value × AHeap)) (C : ACall) (N : Nat) (n1 : Nat) (x0 : ByteArray) (x1 : Int) (x4 : Value) (x8 : Value) (x10 : Value) (x11 : Int) (h : AHeap) := F50_7 hk C N n1 (⟨213, [(0, .string x0), (1, .int .i64 x1), (4, x4), (8, x8), (10, x10), (11, .int .i64 x11)]⟩) h
noncomputable def F50_1 (hk : Hk (Value × AHeap)) (C : ACall) (N : Nat) : Nx (Value × AHeap) := evSt hk Try.prog C M50 N Try.f50 [1, 1, 1, 0, 2, 1, 4, 1, 1, 1, 1] []
noncomputable def s50_1 (hk : Hk (Value × AHeap)) (C : ACall) (N : Nat) (x4 : Value) (x7 : Int) (x8 : Value) (h : AHeap) := hk 12 (⟨213, [(4, x4), (7, .int .i64 x7), (8, x8)]⟩) h (F50_1 hk C N)
noncomputable def F50_3 (hk : Hk (Value × AHeap)) (C : ACall) (N : Nat) : Nx (Value × AHeap) := evSt hk Try.prog C M50 N Try.f50 [1, 1, 1, 0, 2, 1, 5, 1, 4, 1, 1] []
noncomputable def s50_3 (hk : Hk (Value × AHeap)) (C : ACall) (N : Nat) (x0 : ByteArray) (x1 : Int) (x4 : Value) (x7 : Int) (x8 : Value) (h : AHeap) := hk 18 (⟨213, [(0, .string x0), (1, .int .i64 x1), (4, x4), (7, .int .i64 x7), (8, x8)]⟩) h (F50_3 hk C N)
noncomputable def F50_6 (hk : Hk (Value × AHeap)) (C : ACall) (N : Nat) : Nx (Value × AHeap) := evSt hk Try.prog C M50 N Try.f50 [1, 1, 1, 0, 2, 1, 5, 1, 5, 1, 4, 1, 1, 1] []
noncomputable def s50_6 (hk : Hk (Value × AHeap)) (C : ACall) (N : Nat) (x0 : ByteArray) (x1 : Int) (x4 : Value) (x7 : Int) (x8 : Value) (h : AHeap) := hk 31 (⟨213, [(0, .string x0), (1, .int .i64 x1), (4, x4), (7, .int .i64 x7), (8, x8)]⟩) h (F50_6 hk C N)
noncomputable def F50_8 (hk : Hk (Value × AHeap)) (C : ACall) (N : Nat) (n1 : Nat) : Nx (Value × AHeap) := evSt hk Try.prog C M50 N Try.f50 [1, 1, 1, 1, 1, 0, 1, 2, 3, 1, 0, 2, 1, 1, 4] [n1]
noncomputable def s50_8 (hk : Hk (Value × AHeap)) (C : ACall) (N : Nat) (n1 : Nat) (x1 : Int) (x4 : Value) (x8 : Value) (x10 : Value) (x11 : Int) (x12 : Int) (h : AHeap) := hk 40 (⟨213, [(1, .int .i64 x1), (4, x4), (8, x8), (10, x10), (11, .int .i64 x11), (12, .int .i64 x12)]⟩) h (F50_8 hk C N n1)
noncomputable def F50_4 (hk : Hk (Value × AHeap)) (C : ACall) (N : Nat) (n1 : Nat) : Nx (Value × AHeap) := evSt hk Try.prog C M50 N Try.f50 [1, 1, 1, 0, 2, 1, 5, 1, 4, 1, 1, 1, 1, 0, 1, 2, 6] [n1]
noncomputable def s50_4 (hk : Hk (Value × AHeap)) (C : ACall) (N : Nat) (n1 : Nat) (x0 : ByteArray) (x4 : Value) (x7 : Int) (x8 : Value) (x9 : Int) (h : AHeap) := F50_4 hk C N n1 (⟨213, [(0, .string x0), (4, x4), (7, .int .i64 x7), (8, x8), (9, .int .i64 x9)]⟩) h
theorem e50 (hk : Hk (Value × AHeap)) (C : ACall) (N : Nat) (x0 : ByteArray) (x1 : Int) (h : AHeap) : evFn hk Try.prog C M50 N Try.f50 [.string x0, .int .i64 x1] h =
    aNew h 53 [.int .i64 0, .int .i64 0, .string ⟨#[]⟩, .int .i64 0] fun p1 h2 => aNew h2 53 [.int .i64 0, .int .i64 0, .string ⟨#[]⟩, .int .i64 0] fun p3 h4 => (aSt h4 p3 (.agg (List.toArray [.int .i64 0, .int .i64 x1, .string ⟨#[]⟩, .int .i64 0])) 4).bind fun h5 => (aStrIx (.string x0) (.int .i64 x1)).bind fun v6 => (asI .u8 v6).bind fun n7 => (C 87 [.int .u8 n7] h5).bind fun r8 => (asB r8.1).bind fun b9 => bif b9 then s50_0 hk C N N x0 x1 p1 x1 p3 r8.2 else (aStrIx (.string x0) (.int .i64 x1)).bind fun v10 => (asI .u8 v10).bind fun n11 => (C 89 [.int .u8 n11] r8.2).bind fun r12 => (asB r12.1).bind fun b13 => bif b13 then s50_2 hk C N N x0 x1 p1 x1 p3 r12.2 else (aStrIx (.string x0) (.int .i64 x1)).bind fun v14 => (asI .u8 v14).bind fun n15 => bif n15 == 34 then s50_5 hk C N N x0 x1 p1 (IntKind.i64.wrap (x1 + 1)) p3 r12.2 else (C 91 [] r12.2).bind fun r16 => s50_7 hk C N N x0 x1 p1 p3 r16.1 0 r16.2 := by kernel_rfl
theorem s50_0_eq (hk : Hk (Value × AHeap)) (C : ACall) (N : Nat) (n1 : Nat) (x0 : ByteArray) (x1 : Int) (x4 : Value) (x7 : Int) (x8 : Value) (h : AHeap) : s50_0 hk C N (n1 + 1) x0 x1 x4 x7 x8 h =
    bif decide (x7 < (ByteArray.size x0 : Int)) then (aStrIx (.string x0) (.int .i64 x7)).bind fun v17 => (asI .u8 v17).bind fun n18 => (C 87 [.int .u8 n18] h).bind fun r19 => (asB r19.1).bind fun b20 => bif b20 then s50_0 hk C N n1 x0 x1 x4 (IntKind.i64.wrap (x7 + 1)) x8 r19.2 else (aOff x8 0).bind fun v21 => (aSt r19.2 v21 (.int .i64 1) 1).bind fun h22 => (aSubS (.string x0) (some (.int .i64 x1)) (some (.int .i64 x7))).bind fun v23 => (asS v23).bind fun t24 => (aOff x8 2).bind fun v25 => (aSt h22 v25 (.string t24) 1).bind fun h26 => (aOff x8 2).bind fun v27 => (aLd1 h26 v27).bind fun v28 => (asS v28).bind fun t29 => (C 88 [.string t29] h26).bind fun r30 => (asB r30.1).bind fun b31 => bif b31 then (aOff x8 0).bind fun v32 => (aSt r30.2 v32 (.int .i64 2) 1).bind fun h33 => s50_1 hk C N x4 x7 x8 h33 else bif decide ((IntKind.i64.wrap (x7 - x1)) > 12) then (aLdN r30.2 x8 4).bind fun v34 => (aSt r30.2 x4 v34 4).bind fun h35 => (aLdN h35 x4 4).bind fun v36 => bif List.all [v36, .int .i64 4, .int .i64 x7] isS2 then some (.tuple (List.toArray [v36, .int .i64 4, .int .i64 x7]), h35) else none else s50_1 hk C N x4 x7 x8 r30.2 else (aOff x8 0).bind fun v37 => (aSt h v37 (.int .i64 1) 1).bind fun h38 => (aSubS (.string x0) (some (.int .i64 x1)) (some (.int .i64 x7))).bind fun v39 => (asS v39).bind fun t40 => (aOff x8 2).bind fun v41 => (aSt h38 v41 (.string t40) 1).bind fun h42 => (aOff x8 2).bind fun v43 => (aLd1 h42 v43).bind fun v44 => (asS v44).bind fun t45 => (C 88 [.string t45] h42).bind fun r46 => (asB r46.1).bind fun b47 => bif b47 then (aOff x8 0).bind fun v48 => (aSt r46.2 v48 (.int .i64 2) 1).bind fun h49 => s50_1 hk C N x4 x7 x8 h49 else bif decide ((IntKind.i64.wrap (x7 - x1)) > 12) then (aLdN r46.2 x8 4).bind fun v50 => (aSt r46.2 x4 v50 4).bind fun h51 => (aLdN h51 x4 4).bind fun v52 => bif List.all [v52, .int .i64 4, .int .i64 x7] isS2 then some (.tuple (List.toArray [v52, .int .i64 4, .int .i64 x7]), h51) else none else s50_1 hk C N x4 x7 x8 r46.2 := by kernel_rfl
theorem s50_2_eq (hk : Hk (Value × AHeap)) (C : ACall) (N : Nat) (n1 : Nat) (x0 : ByteArray) (x1 : Int) (x4 : Value) (x7 : Int) (x8 : Value) (h : AHeap) : s50_2 hk C N (n1 + 1) x0 x1 x4 x7 x8 h =
    bif decide (x7 < (ByteArray.size x0 : Int)) then (aStrIx (.string x0) (.int .i64 x7)).bind fun v53 => (asI .u8 v53).bind fun n54 => (C 89 [.int .u8 n54] h).bind fun r55 => (asB r55.1).bind fun b56 => bif b56 then s50_2 hk C N n1 x0 x1 x4 (IntKind.i64.wrap (x7 + 1)) x8 r55.2 else bif decide ((IntKind.i64.wrap (x7 - x1)) > 15) then (aLdN r55.2 x8 4).bind fun v57 => (aSt r55.2 x4 v57 4).bind fun h58 => (aLdN h58 x4 4).bind fun v59 => bif List.all [v59, .int .i64 3, .int .i64 x7] isS2 then some (.tuple (List.toArray [v59, .int .i64 3, .int .i64 x7]), h58) else none else bif decide ((IntKind.i64.wrap (x7 - x1)) > 1) then (aStrIx (.string x0) (.int .i64 x1)).bind fun v60 => (asI .u8 v60).bind fun n61 => bif n61 == 48 then (aLdN r55.2 x8 4).bind fun v62 => (aSt r55.2 x4 v62 4).bind fun h63 => (aLdN h63 x4 4).bind fun v64 => bif List.all [v64, .int .i64 3, .int .i64 x7] isS2 then some (.tuple (List.toArray [v64, .int .i64 3, .int .i64 x7]), h63) else none else bif decide (x7 < (ByteArray.size x0 : Int)) then (aStrIx (.string x0) (.int .i64 x7)).bind fun v65 => (asI .u8 v65).bind fun n66 => (C 87 [.int .u8 n66] r55.2).bind fun r67 => (asB r67.1).bind fun b68 => bif b68 then (aLdN r67.2 x8 4).bind fun v69 => (aSt r67.2 x4 v69 4).bind fun h70 => (aLdN h70 x4 4).bind fun v71 => bif List.all [v71, .int .i64 3, .int .i64 x7] isS2 then some (.tuple (List.toArray [v71, .int .i64 3, .int .i64 x7]), h70) else none else s50_3 hk C N x0 x1 x4 x7 x8 r67.2 else s50_3 hk C N x0 x1 x4 x7 x8 r55.2 else bif decide (x7 < (ByteArray.size x0 : Int)) then (aStrIx (.string x0) (.int .i64 x7)).bind fun v72 => (asI .u8 v72).bind fun n73 => (C 87 [.int .u8 n73] r55.2).bind fun r74 => (asB r74.1).bind fun b75 => bif b75 then (aLdN r74.2 x8 4).bind fun v76 => (aSt r74.2 x4 v76 4).bind fun h77 => (aLdN h77 x4 4).bind fun v78 => bif List.all [v78, .int .i64 3, .int .i64 x7] isS2 then some (.tuple (List.toArray [v78, .int .i64 3, .int .i64 x7]), h77) else none else s50_3 hk C N x0 x1 x4 x7 x8 r74.2 else s50_3 hk C N x0 x1 x4 x7 x8 r55.2 else bif decide ((IntKind.i64.wrap (x7 - x1)) > 15) then (aLdN h x8 4).bind fun v79 => (aSt h x4 v79 4).bind fun h80 => (aLdN h80 x4 4).bind fun v81 => bif List.all [v81, .int .i64 3, .int .i64 x7] isS2 then some (.tuple (List.toArray [v81, .int .i64 3, .int .i64 x7]), h80) else none else bif decide ((IntKind.i64.wrap (x7 - x1)) > 1) then (aStrIx (.string x0) (.int .i64 x1)).bind fun v82 => (asI .u8 v82).bind fun n83 => bif n83 == 48 then (aLdN h x8 4).bind fun v84 => (aSt h x4 v84 4).bind fun h85 => (aLdN h85 x4 4).bind fun v86 => bif List.all [v86, .int .i64 3, .int .i64 x7] isS2 then some (.tuple (List.toArray [v86, .int .i64 3, .int .i64 x7]), h85) else none else bif decide (x7 < (ByteArray.size x0 : Int)) then (aStrIx (.string x0) (.int .i64 x7)).bind fun v87 => (asI .u8 v87).bind fun n88 => (C 87 [.int .u8 n88] h).bind fun r89 => (asB r89.1).bind fun b90 => bif b90 then (aLdN r89.2 x8 4).bind fun v91 => (aSt r89.2 x4 v91 4).bind fun h92 => (aLdN h92 x4 4).bind fun v93 => bif List.all [v93, .int .i64 3, .int .i64 x7] isS2 then some (.tuple (List.toArray [v93, .int .i64 3, .int .i64 x7]), h92) else none else s50_3 hk C N x0 x1 x4 x7 x8 r89.2 else s50_3 hk C N x0 x1 x4 x7 x8 h else bif decide (x7 < (ByteArray.size x0 : Int)) then (aStrIx (.string x0) (.int .i64 x7)).bind fun v94 => (asI .u8 v94).bind fun n95 => (C 87 [.int .u8 n95] h).bind fun r96 => (asB r96.1).bind fun b97 => bif b97 then (aLdN r96.2 x8 4).bind fun v98 => (aSt r96.2 x4 v98 4).bind fun h99 => (aLdN h99 x4 4).bind fun v100 => bif List.all [v100, .int .i64 3, .int .i64 x7] isS2 then some (.tuple (List.toArray [v100, .int .i64 3, .int .i64 x7]), h99) else none else s50_3 hk C N x0 x1 x4 x7 x8 r96.2 else s50_3 hk C N x0 x1 x4 x7 x8 h := by kernel_rfl
theorem s50_5_eq (hk : Hk (Value × AHeap)) (C : ACall) (N : Nat) (n1 : Nat) (x0 : ByteArray) (x1 : Int) (x4 : Value) (x7 : Int) (x8 : Value) (h : AHeap) : s50_5 hk C N (n1 + 1) x0 x1 x4 x7 x8 h =
    bif decide (x7 < (ByteArray.size x0 : Int)) then (aStrIx (.string x0) (.int .i64 x7)).bind fun v101 => (asI .u8 v101).bind fun n102 => (C 90 [.int .u8 n102] h).bind fun r103 => (asB r103.1).bind fun b104 => bif b104 then s50_5 hk C N n1 x0 x1 x4 (IntKind.i64.wrap (x7 + 1)) x8 r103.2 else bif decide (x7 ≥ (ByteArray.size x0 : Int)) then (aLdN r103.2 x8 4).bind fun v105 => (aSt r103.2 x4 v105 4).bind fun h106 => (aLdN h106 x4 4).bind fun v107 => bif List.all [v107, .int .i64 5, .int .i64 x7] isS2 then some (.tuple (List.toArray [v107, .int .i64 5, .int .i64 x7]), h106) else none else (aStrIx (.string x0) (.int .i64 x7)).bind fun v108 => (asI .u8 v108).bind fun n109 => bif n109 != 34 then (aLdN r103.2 x8 4).bind fun v110 => (aSt r103.2 x4 v110 4).bind fun h111 => (aLdN h111 x4 4).bind fun v112 => bif List.all [v112, .int .i64 5, .int .i64 x7] isS2 then some (.tuple (List.toArray [v112, .int .i64 5, .int .i64 x7]), h111) else none else bif decide ((IntKind.i64.wrap ((IntKind.i64.wrap (x7 - x1)) - 1)) > 160) then (aLdN r103.2 x8 4).bind fun v113 => (aSt r103.2 x4 v113 4).bind fun h114 => (aLdN h114 x4 4).bind fun v115 => bif List.all [v115, .int .i64 5, .int .i64 x7] isS2 then some (.tuple (List.toArray [v115, .int .i64 5, .int .i64 x7]), h114) else none else s50_6 hk C N x0 x1 x4 x7 x8 r103.2 else bif decide (x7 ≥ (ByteArray.size x0 : Int)) then (aLdN h x8 4).bind fun v116 => (aSt h x4 v116 4).bind fun h117 => (aLdN h117 x4 4).bind fun v118 => bif List.all [v118, .int .i64 5, .int .i64 x7] isS2 then some (.tuple (List.toArray [v118, .int .i64 5, .int .i64 x7]), h117) else none else (aStrIx (.string x0) (.int .i64 x7)).bind fun v119 => (asI .u8 v119).bind fun n120 => bif n120 != 34 then (aLdN h x8 4).bind fun v121 => (aSt h x4 v121 4).bind fun h122 => (aLdN h122 x4 4).bind fun v123 => bif List.all [v123, .int .i64 5, .int .i64 x7] isS2 then some (.tuple (List.toArray [v123, .int .i64 5, .int .i64 x7]), h122) else none else bif decide ((IntKind.i64.wrap ((IntKind.i64.wrap (x7 - x1)) - 1)) > 160) then (aLdN h x8 4).bind fun v124 => (aSt h x4 v124 4).bind fun h125 => (aLdN h125 x4 4).bind fun v126 => bif List.all [v126, .int .i64 5, .int .i64 x7] isS2 then some (.tuple (List.toArray [v126, .int .i64 5, .int .i64 x7]), h125) else none else s50_6 hk C N x0 x1 x4 x7 x8 h := by kernel_rfl
theorem s50_7_eq (hk : Hk (Value × AHeap)) (C : ACall) (N : Nat) (n1 : Nat) (x0 : ByteArray) (x1 : Int) (x4 : Value) (x8 : Value) (x10 : Value) (x11 : Int) (h : AHeap) : s50_7 hk C N (n1 + 1) x0 x1 x4 x8 x10 x11 h =
    (aLen x10).bind fun v127 => (asI .i64 v127).bind fun n128 => bif decide (x11 < n128) then (aIdx x10 (.int .i64 x11) 1).bind fun v129 => (aLd1 h v129).bind fun v130 => (asS v130).bind fun t131 => bif decide ((IntKind.i64.wrap (x1 + (ByteArray.size t131 : Int))) ≤ (ByteArray.size x0 : Int)) then (aSubS (.string x0) (some (.int .i64 x1)) (some (.int .i64 (IntKind.i64.wrap (x1 + (ByteArray.size t131 : Int)))))).bind fun v132 => (asS v132).bind fun t133 => (aIdx x10 (.int .i64 x11) 1).bind fun v134 => (aLd1 h v134).bind fun v135 => (asS v135).bind fun t136 => bif t133.toList == t136.toList then s50_8 hk C N n1 x1 x4 x8 x10 x11 (ByteArray.size t131 : Int) h else s50_7 hk C N n1 x0 x1 x4 x8 x10 (IntKind.i64.wrap (x11 + 1)) h else s50_7 hk C N n1 x0 x1 x4 x8 x10 (IntKind.i64.wrap (x11 + 1)) h else (aLdN h x8 4).bind fun v137 => (aSt h x4 v137 4).bind fun h138 => (aLdN h138 x4 4).bind fun v139 => bif List.all [v139, .int .i64 2, .int .i64 x1] isS2 then some (.tuple (List.toArray [v139, .int .i64 2, .int .i64 x1]), h138) else none := by kernel_rfl
theorem s50_1_j (C : ACall) (N : Nat) (x4 : Value) (x7 : Int) (x8 : Value) (h : AHeap) : s50_1 hk0 C N x4 x7 x8 h = F50_1 hk0 C N (⟨213, [(4, x4), (7, .int .i64 x7), (8, x8)]⟩) h := by delta s50_1; exact hk0_app _ _ _ _
theorem s50_1_eq (hk : Hk (Value × AHeap)) (C : ACall) (N : Nat) (x4 : Value) (x7 : Int) (x8 : Value) (h : AHeap) : F50_1 hk C N (⟨213, [(4, x4), (7, .int .i64 x7), (8, x8)]⟩) h =
    (aLdN h x8 4).bind fun v140 => (aSt h x4 v140 4).bind fun h141 => (aLdN h141 x4 4).bind fun v142 => bif List.all [v142, .int .i64 0, .int .i64 x7] isS2 then some (.tuple (List.toArray [v142, .int .i64 0, .int .i64 x7]), h141) else none := by kernel_rfl
theorem s50_3_j (C : ACall) (N : Nat) (x0 : ByteArray) (x1 : Int) (x4 : Value) (x7 : Int) (x8 : Value) (h : AHeap) : s50_3 hk0 C N x0 x1 x4 x7 x8 h = F50_3 hk0 C N (⟨213, [(0, .string x0), (1, .int .i64 x1), (4, x4), (7, .int .i64 x7), (8, x8)]⟩) h := by delta s50_3; exact hk0_app _ _ _ _
theorem s50_3_eq (hk : Hk (Value × AHeap)) (C : ACall) (N : Nat) (x0 : ByteArray) (x1 : Int) (x4 : Value) (x7 : Int) (x8 : Value) (h : AHeap) : F50_3 hk C N (⟨213, [(0, .string x0), (1, .int .i64 x1), (4, x4), (7, .int .i64 x7), (8, x8)]⟩) h =
    (aOff x8 0).bind fun v143 => (aSt h v143 (.int .i64 3) 1).bind fun h144 => (aSubS (.string x0) (some (.int .i64 x1)) (some (.int .i64 x7))).bind fun v145 => (asS v145).bind fun t146 => (aOff x8 2).bind fun v147 => (aSt h144 v147 (.string t146) 1).bind fun h148 => s50_4 hk C N N x0 x4 x7 x8 x1 h148 := by kernel_rfl
theorem s50_6_j (C : ACall) (N : Nat) (x0 : ByteArray) (x1 : Int) (x4 : Value) (x7 : Int) (x8 : Value) (h : AHeap) : s50_6 hk0 C N x0 x1 x4 x7 x8 h = F50_6 hk0 C N (⟨213, [(0, .string x0), (1, .int .i64 x1), (4, x4), (7, .int .i64 x7), (8, x8)]⟩) h := by delta s50_6; exact hk0_app _ _ _ _
theorem s50_6_eq (hk : Hk (Value × AHeap)) (C : ACall) (N : Nat) (x0 : ByteArray) (x1 : Int) (x4 : Value) (x7 : Int) (x8 : Value) (h : AHeap) : F50_6 hk C N (⟨213, [(0, .string x0), (1, .int .i64 x1), (4, x4), (7, .int .i64 x7), (8, x8)]⟩) h =
    (aOff x8 0).bind fun v149 => (aSt h v149 (.int .i64 4) 1).bind fun h150 => (aSubS (.string x0) (some (.int .i64 (IntKind.i64.wrap (x1 + 1)))) (some (.int .i64 x7))).bind fun v151 => (asS v151).bind fun t152 => (aOff x8 2).bind fun v153 => (aSt h150 v153 (.string t152) 1).bind fun h154 => (aLdN h154 x8 4).bind fun v155 => (aSt h154 x4 v155 4).bind fun h156 => (aLdN h156 x4 4).bind fun v157 => bif List.all [v157, .int .i64 0, .int .i64 (IntKind.i64.wrap (x7 + 1))] isS2 then some (.tuple (List.toArray [v157, .int .i64 0, .int .i64 (IntKind.i64.wrap (x7 + 1))]), h156) else none := by kernel_rfl
theorem s50_8_j (C : ACall) (N : Nat) (n1 : Nat) (x1 : Int) (x4 : Value) (x8 : Value) (x10 : Value) (x11 : Int) (x12 : Int) (h : AHeap) : s50_8 hk0 C N n1 x1 x4 x8 x10 x11 x12 h = F50_8 hk0 C N n1 (⟨213, [(1, .int .i64 x1), (4, x4), (8, x8), (10, x10), (11, .int .i64 x11), (12, .int .i64 x12)]⟩) h := by delta s50_8; exact hk0_app _ _ _ _
theorem s50_8_eq (hk : Hk (Value × AHeap)) (C : ACall) (N : Nat) (n1 : Nat) (x1 : Int) (x4 : Value) (x8 : Value) (x10 : Value) (x11 : Int) (x12 : Int) (h : AHeap) : F50_8 hk C N n1 (⟨213, [(1, .int .i64 x1), (4, x4), (8, x8), (10, x10), (11, .int .i64 x11), (12, .int .i64 x12)]⟩) h =
    (aOff x8 0).bind fun v158 => (aSt h v158 (.int .i64 5) 1).bind fun h159 => (aIdx x10 (.int .i64 x11) 1).bind fun v160 => (aLd1 h159 v160).bind fun v161 => (asS v161).bind fun t162 => (aOff x8 2).bind fun v163 => (aSt h159 v163 (.string t162) 1).bind fun h164 => (aLdN h164 x8 4).bind fun v165 => (aSt h164 x4 v165 4).bind fun h166 => (aLdN h166 x4 4).bind fun v167 => bif List.all [v167, .int .i64 0, .int .i64 (IntKind.i64.wrap (x1 + x12))] isS2 then some (.tuple (List.toArray [v167, .int .i64 0, .int .i64 (IntKind.i64.wrap (x1 + x12))]), h166) else none := by kernel_rfl
theorem s50_4_eq (hk : Hk (Value × AHeap)) (C : ACall) (N : Nat) (n1 : Nat) (x0 : ByteArray) (x4 : Value) (x7 : Int) (x8 : Value) (x9 : Int) (h : AHeap) : s50_4 hk C N (n1 + 1) x0 x4 x7 x8 x9 h =
    bif decide (x9 < x7) then (aOff x8 3).bind fun v168 => (aLd1 h v168).bind fun v169 => (asI .i64 v169).bind fun n170 => (aStrIx (.string x0) (.int .i64 x9)).bind fun v171 => (asI .u8 v171).bind fun n172 => (aOff x8 3).bind fun v173 => (aSt h v173 (.int .i64 (IntKind.i64.wrap ((IntKind.i64.wrap (n170 * 10)) + (IntKind.i64.wrap (IntKind.u8.wrap (n172 - 48)))))) 1).bind fun h174 => s50_4 hk C N n1 x0 x4 x7 x8 (IntKind.i64.wrap (x9 + 1)) h174 else (aLdN h x8 4).bind fun v175 => (aSt h x4 v175 4).bind fun h176 => (aLdN h176 x4 4).bind fun v177 => bif List.all [v177, .int .i64 0, .int .i64 x7] isS2 then some (.tuple (List.toArray [v177, .int .i64 0, .int .i64 x7]), h176) else none := by kernel_rfl
theorem c50 (d : Nat) (args : List Value) (h : AHeap) : call Try.prog Ms (d + 1) 50 args h = evFn hk0 Try.prog (call Try.prog Ms d) M50 d Try.f50 args h := by kernel_rfl

/-! 51 loop.example/g00101/impl.run -/
noncomputable def F51_0 (hk : Hk (Value × AHeap)) (C : ACall) (N : Nat) (n1 : Nat) : Nx (Value × AHeap) := evSt hk Try.prog C M51 N Try.f51 [1, 0, 2, 6] [n1]
noncomputable def s51_0 (hk : Hk (Value × AHeap)) (C : ACall) (N : Nat) (n1 : Nat) (x0 : ByteArray) (x1 : Int) (x2 : Value) (h : AHeap) := F51_0 hk C N n1 (⟨21, [(0, .string x0), (1, .int .i64 x1), (2, x2)]⟩) h
theorem e51 (hk : Hk (Value × AHeap)) (C : ACall) (N : Nat) (x0 : ByteArray) (x1 : Int) (x2 : Value) (h : AHeap) : evFn hk Try.prog C M51 N Try.f51 [.string x0, .int .i64 x1, x2] h =
    s51_0 hk C N N x0 x1 x2 h := by kernel_rfl
theorem s51_0_eq (hk : Hk (Value × AHeap)) (C : ACall) (N : Nat) (n1 : Nat) (x0 : ByteArray) (x1 : Int) (x2 : Value) (h : AHeap) : s51_0 hk C N (n1 + 1) x0 x1 x2 h =
    bif decide (x1 < (ByteArray.size x0 : Int)) then (aStrIx (.string x0) (.int .i64 x1)).bind fun v1 => (asI .u8 v1).bind fun n2 => (aCallV C x2 [.int .u8 n2] h).bind fun r3 => (asB r3.1).bind fun b4 => bif b4 then s51_0 hk C N n1 x0 (IntKind.i64.wrap (x1 + 1)) x2 r3.2 else some (.int .i64 x1, r3.2) else some (.int .i64 x1, h) := by kernel_rfl
theorem c51 (d : Nat) (args : List Value) (h : AHeap) : call Try.prog Ms (d + 1) 51 args h = evFn hk0 Try.prog (call Try.prog Ms d) M51 d Try.f51 args h := by kernel_rfl

/-! 52 loop.example/g00101/impl.Lex$1 -/
theorem e52 (hk : Hk (Value × AHeap)) (C : ACall) (N : Nat) (x0 : Int) (h : AHeap) : evFn hk Try.prog C M52 N Try.f52 [.int .u8 x0] h =
    some (.bool (x0 != 10), h) := by kernel_rfl
theorem c52 (d : Nat) (args : List Value) (h : AHeap) : call Try.prog Ms (d + 1) 52 args h = evFn hk0 Try.prog (call Try.prog Ms d) M52 d Try.f52 args h := by kernel_rfl

/-! 53 loop.example/g00101/impl.lexToken -/
noncomputable def F53_0 (hk : Hk (Value × AHeap)) (C : ACall) (N : Nat) : Nx (Value × AHeap) := evSt hk Try.prog C M53 N Try.f53 [1, 1, 0, 2, 1, 4, 1, 1] []
noncomputable def s53_0 (hk : Hk (Value × AHeap)) (C : ACall) (N : Nat) (x4 : Value) (x8 : Value) (h : AHeap) := hk 8 (⟨136, [(4, x4), (8, x8)]⟩) h (F53_0 hk C N)
noncomputable def F53_1 (hk : Hk (Value × AHeap)) (C : ACall) (N : Nat) : Nx (Value × AHeap) := evSt hk Try.prog C M53 N Try.f53 [1, 1, 0, 2, 1, 5, 1, 5, 1, 4, 1, 1] []
noncomputable def s53_1 (hk : Hk (Value × AHeap)) (C : ACall) (N : Nat) (x0 : ByteArray) (x1 : Int) (x4 : Value) (x11 : Int) (h : AHeap) := hk 16 (⟨136, [(0, .string x0), (1, .int .i64 x1), (4, x4), (11, .int .i64 x11)]⟩) h (F53_1 hk C N)
noncomputable def F53_2 (hk : Hk (Value × AHeap)) (C : ACall) (N : Nat) : Nx (Value × AHeap) := evSt hk Try.prog C M53 N Try.f53 [1, 1, 1, 1] []
noncomputable def s53_2 (hk : Hk (Value × AHeap)) (C : ACall) (N : Nat) (x0 : ByteArray) (x1 : Int) (x4 : Value) (x7 : Int) (h : AHeap) := hk 25 (⟨136, [(0, .string x0), (1, .int .i64 x1), (4, x4), (7, .int .u8 x7)]⟩) h (F53_2 hk C N)
noncomputable def F53_3 (hk : Hk (Value × AHeap)) (C : ACall) (N : Nat) : Nx (Value × AHeap) := evSt hk Try.prog C M53 N Try.f53 [1, 1, 1, 1, 1] []
noncomputable def s53_3 (hk : Hk (Value × AHeap)) (C : ACall) (N : Nat) (x4 : Value) (h : AHeap) := hk 44 (⟨136, [(4, x4)]⟩) h (F53_3 hk C N)
theorem e53 (hk : Hk (Value × AHeap)) (C : ACall) (N : Nat) (x0 : ByteArray) (x1 : Int) (h : AHeap) : evFn hk Try.prog C M53 N Try.f53 [.string x0, .int .i64 x1] h =
    aNew h 53 [.int .i64 0, .int .i64 0, .string ⟨#[]⟩, .int .i64 0] fun p1 h2 => (aStrIx (.string x0) (.int .i64 x1)).bind fun v3 => (asI .u8 v3).bind fun n4 => (C 92 [.int .u8 n4] h2).bind fun r5 => (asB r5.1).bind fun b6 => bif b6 then (C 51 [.string x0, .int .i64 x1, (.func (.func 92) #[] #[])] r5.2).bind fun r7 => (asI .i64 r7.1).bind fun n8 => (aSubS (.string x0) (some (.int .i64 x1)) (some (.int .i64 n8))).bind fun v9 => (asS v9).bind fun t10 => aNew r7.2 53 [.int .i64 0, .int .i64 0, .string ⟨#[]⟩, .int .i64 0] fun p11 h12 => (aSt h12 p11 (.agg (List.toArray [.int .i64 1, .int .i64 x1, .string t10, .int .i64 0])) 4).bind fun h13 => (aOff p11 2).bind fun v14 => (aLd1 h13 v14).bind fun v15 => (asS v15).bind fun t16 => (C 93 [.string t16] h13).bind fun r17 => (asB r17.1).bind fun b18 => bif b18 then (aOff p11 0).bind fun v19 => (aSt r17.2 v19 (.int .i64 2) 1).bind fun h20 => s53_0 hk C N p1 p11 h20 else (aOff p11 2).bind fun v21 => (aLd1 r17.2 v21).bind fun v22 => (asS v22).bind fun t23 => bif decide ((ByteArray.size t23 : Int) > 12) then (aSt r17.2 p1 (.agg (List.toArray [.int .i64 0, .int .i64 0, .string ⟨#[]⟩, .int .i64 0])) 4).bind fun h24 => (aLdN h24 p1 4).bind fun v25 => bif List.all [v25, .int .i64 0, .int .i64 4] isS2 then some (.tuple (List.toArray [v25, .int .i64 0, .int .i64 4]), h24) else none else s53_0 hk C N p1 p11 r17.2 else (C 94 [.int .u8 n4] r5.2).bind fun r26 => (asB r26.1).bind fun b27 => bif b27 then (C 95 [.string x0, .int .i64 x1] r26.2).bind fun r28 => (aExt r28.1 0).bind fun v29 => (aExt r28.1 1).bind fun v30 => (asI .i64 v30).bind fun n31 => aNew r28.2 53 [.int .i64 0, .int .i64 0, .string ⟨#[]⟩, .int .i64 0] fun p32 h33 => (aSt h33 p32 v29 4).bind fun h34 => (aLdN h34 p32 4).bind fun v35 => (aOff p32 2).bind fun v36 => (aLd1 h34 v36).bind fun v37 => (asS v37).bind fun t38 => (aSt h34 p1 v35 4).bind fun h39 => ((aLd1 h39 v36).bind fun v40 => (asS v40).bind fun t41 => some (vbeq (.string t41) (.string t38))).bind fun b42 => bif b42 then (aLdN h39 p1 4).bind fun v43 => bif List.all [v43, .int .i64 (ByteArray.size t38 : Int), .int .i64 n31] isS2 then some (.tuple (List.toArray [v43, .int .i64 (ByteArray.size t38 : Int), .int .i64 n31]), h39) else none else none else bif n4 == 34 then (C 51 [.string x0, .int .i64 (IntKind.i64.wrap (x1 + 1)), (.func (.func 96) #[] #[])] r26.2).bind fun r44 => (asI .i64 r44.1).bind fun n45 => bif n45 == (ByteArray.size x0 : Int) then (aSt r44.2 p1 (.agg (List.toArray [.int .i64 0, .int .i64 0, .string ⟨#[]⟩, .int .i64 0])) 4).bind fun h46 => (aLdN h46 p1 4).bind fun v47 => bif List.all [v47, .int .i64 0, .int .i64 5] isS2 then some (.tuple (List.toArray [v47, .int .i64 0, .int .i64 5]), h46) else none else (aStrIx (.string x0) (.int .i64 n45)).bind fun v48 => (asI .u8 v48).bind fun n49 => bif n49 != 34 then (aSt r44.2 p1 (.agg (List.toArray [.int .i64 0, .int .i64 0, .string ⟨#[]⟩, .int .i64 0])) 4).bind fun h50 => (aLdN h50 p1 4).bind fun v51 => bif List.all [v51, .int .i64 0, .int .i64 5] isS2 then some (.tuple (List.toArray [v51, .int .i64 0, .int .i64 5]), h50) else none else bif decide ((IntKind.i64.wrap ((IntKind.i64.wrap (n45 - x1)) - 1)) > 160) then (aSt r44.2 p1 (.agg (List.toArray [.int .i64 0, .int .i64 0, .string ⟨#[]⟩, .int .i64 0])) 4).bind fun h52 => (aLdN h52 p1 4).bind fun v53 => bif List.all [v53, .int .i64 0, .int .i64 5] isS2 then some (.tuple (List.toArray [v53, .int .i64 0, .int .i64 5]), h52) else none else s53_1 hk C N x0 x1 p1 n45 r44.2 else bif decide ((IntKind.i64.wrap (x1 + 1)) < (ByteArray.size x0 : Int)) then (aSubS (.string x0) (some (.int .i64 x1)) (some (.int .i64 (IntKind.i64.wrap (x1 + 2))))).bind fun v54 => (asS v54).bind fun t55 => bif t55.toList == (⟨#[46, 46]⟩ : ByteArray).toList then bif t55.toList == (⟨#[46, 46]⟩ : ByteArray).toList then (aSt r26.2 p1 (.agg (List.toArray [.int .i64 5, .int .i64 x1, .string t55, .int .i64 0])) 4).bind fun h56 => (aLdN h56 p1 4).bind fun v57 => bif List.all [v57, .int .i64 2, .int .i64 0] isS2 then some (.tuple (List.toArray [v57, .int .i64 2, .int .i64 0]), h56) else none else s53_2 hk C N x0 x1 p1 n4 r26.2 else bif t55.toList == (⟨#[61, 61]⟩ : ByteArray).toList then bif t55.toList == (⟨#[61, 61]⟩ : ByteArray).toList then (aSt r26.2 p1 (.agg (List.toArray [.int .i64 5, .int .i64 x1, .string t55, .int .i64 0])) 4).bind fun h58 => (aLdN h58 p1 4).bind fun v59 => bif List.all [v59, .int .i64 2, .int .i64 0] isS2 then some (.tuple (List.toArray [v59, .int .i64 2, .int .i64 0]), h58) else none else s53_2 hk C N x0 x1 p1 n4 r26.2 else bif t55.toList == (⟨#[126, 61]⟩ : ByteArray).toList then bif t55.toList == (⟨#[126, 61]⟩ : ByteArray).toList then (aSt r26.2 p1 (.agg (List.toArray [.int .i64 5, .int .i64 x1, .string t55, .int .i64 0])) 4).bind fun h60 => (aLdN h60 p1 4).bind fun v61 => bif List.all [v61, .int .i64 2, .int .i64 0] isS2 then some (.tuple (List.toArray [v61, .int .i64 2, .int .i64 0]), h60) else none else s53_2 hk C N x0 x1 p1 n4 r26.2 else bif t55.toList == (⟨#[60, 61]⟩ : ByteArray).toList then (aSt r26.2 p1 (.agg (List.toArray [.int .i64 5, .int .i64 x1, .string t55, .int .i64 0])) 4).bind fun h62 => (aLdN h62 p1 4).bind fun v63 => bif List.all [v63, .int .i64 2, .int .i64 0] isS2 then some (.tuple (List.toArray [v63, .int .i64 2, .int .i64 0]), h62) else none else s53_2 hk C N x0 x1 p1 n4 r26.2 else s53_2 hk C N x0 x1 p1 n4 r26.2 := by kernel_rfl
theorem s53_0_j (C : ACall) (N : Nat) (x4 : Value) (x8 : Value) (h : AHeap) : s53_0 hk0 C N x4 x8 h = F53_0 hk0 C N (⟨136, [(4, x4), (8, x8)]⟩) h := by delta s53_0; exact hk0_app _ _ _ _
theorem s53_0_eq (hk : Hk (Value × AHeap)) (C : ACall) (N : Nat) (x4 : Value) (x8 : Value) (h : AHeap) : F53_0 hk C N (⟨136, [(4, x4), (8, x8)]⟩) h =
    (aLdN h x8 4).bind fun v64 => (aOff x8 2).bind fun v65 => (aLd1 h v65).bind fun v66 => (asS v66).bind fun t67 => (aSt h x4 v64 4).bind fun h68 => ((aLd1 h68 v65).bind fun v69 => (asS v69).bind fun t70 => some (vbeq (.string t70) (.string t67))).bind fun b71 => bif b71 then (aLdN h68 x4 4).bind fun v72 => bif List.all [v72, .int .i64 (ByteArray.size t67 : Int), .int .i64 0] isS2 then some (.tuple (List.toArray [v72, .int .i64 (ByteArray.size t67 : Int), .int .i64 0]), h68) else none else none := by kernel_rfl
theorem s53_1_j (C : ACall) (N : Nat) (x0 : ByteArray) (x1 : Int) (x4 : Value) (x11 : Int) (h : AHeap) : s53_1 hk0 C N x0 x1 x4 x11 h = F53_1 hk0 C N (⟨136, [(0, .string x0), (1, .int .i64 x1), (4, x4), (11, .int .i64 x11)]⟩) h := by delta s53_1; exact hk0_app _ _ _ _
theorem s53_1_eq (hk : Hk (Value × AHeap)) (C : ACall) (N : Nat) (x0 : ByteArray) (x1 : Int) (x4 : Value) (x11 : Int) (h : AHeap) : F53_1 hk C N (⟨136, [(0, .string x0), (1, .int .i64 x1), (4, x4), (11, .int .i64 x11)]⟩) h =
    (aSubS (.string x0) (some (.int .i64 (IntKind.i64.wrap (x1 + 1)))) (some (.int .i64 x11))).bind fun v73 => (asS v73).bind fun t74 => (aSt h x4 (.agg (List.toArray [.int .i64 4, .int .i64 x1, .string t74, .int .i64 0])) 4).bind fun h75 => (aLdN h75 x4 4).bind fun v76 => bif List.all [v76, .int .i64 (IntKind.i64.wrap ((IntKind.i64.wrap (x11 + 1)) - x1)), .int .i64 0] isS2 then some (.tuple (List.toArray [v76, .int .i64 (IntKind.i64.wrap ((IntKind.i64.wrap (x11 + 1)) - x1)), .int .i64 0]), h75) else none := by kernel_rfl
theorem s53_2_j (C : ACall) (N : Nat) (x0 : ByteArray) (x1 : Int) (x4 : Value) (x7 : Int) (h : AHeap) : s53_2 hk0 C N x0 x1 x4 x7 h = F53_2 hk0 C N (⟨136, [(0, .string x0), (1, .int .i64 x1), (4, x4), (7, .int .u8 x7)]⟩) h := by delta s53_2; exact hk0_app _ _ _ _
theorem s53_2_eq (hk : Hk (Value × AHeap)) (C : ACall) (N : Nat) (x0 : ByteArray) (x1 : Int) (x4 : Value) (x7 : Int) (h : AHeap) : F53_2 hk C N (⟨136, [(0, .string x0), (1, .int .i64 x1), (4, x4), (7, .int .u8 x7)]⟩) h =
    bif x7 == 123 then bif x7 == 123 then (aSubS (.string x0) (some (.int .i64 x1)) (some (.int .i64 (IntKind.i64.wrap (x1 + 1))))).bind fun v77 => (asS v77).bind fun t78 => (aSt h x4 (.agg (List.toArray [.int .i64 5, .int .i64 x1, .string t78, .int .i64 0])) 4).bind fun h79 => (aLdN h79 x4 4).bind fun v80 => bif List.all [v80, .int .i64 1, .int .i64 0] isS2 then some (.tuple (List.toArray [v80, .int .i64 1, .int .i64 0]), h79) else none else s53_3 hk C N x4 h else bif x7 == 125 then bif x7 == 125 then (aSubS (.string x0) (some (.int .i64 x1)) (some (.int .i64 (IntKind.i64.wrap (x1 + 1))))).bind fun v81 => (asS v81).bind fun t82 => (aSt h x4 (.agg (List.toArray [.int .i64 5, .int .i64 x1, .string t82, .int .i64 0])) 4).bind fun h83 => (aLdN h83 x4 4).bind fun v84 => bif List.all [v84, .int .i64 1, .int .i64 0] isS2 then some (.tuple (List.toArray [v84, .int .i64 1, .int .i64 0]), h83) else none else s53_3 hk C N x4 h else bif x7 == 40 then bif x7 == 40 then (aSubS (.string x0) (some (.int .i64 x1)) (some (.int .i64 (IntKind.i64.wrap (x1 + 1))))).bind fun v85 => (asS v85).bind fun t86 => (aSt h x4 (.agg (List.toArray [.int .i64 5, .int .i64 x1, .string t86, .int .i64 0])) 4).bind fun h87 => (aLdN h87 x4 4).bind fun v88 => bif List.all [v88, .int .i64 1, .int .i64 0] isS2 then some (.tuple (List.toArray [v88, .int .i64 1, .int .i64 0]), h87) else none else s53_3 hk C N x4 h else bif x7 == 41 then bif x7 == 41 then (aSubS (.string x0) (some (.int .i64 x1)) (some (.int .i64 (IntKind.i64.wrap (x1 + 1))))).bind fun v89 => (asS v89).bind fun t90 => (aSt h x4 (.agg (List.toArray [.int .i64 5, .int .i64 x1, .string t90, .int .i64 0])) 4).bind fun h91 => (aLdN h91 x4 4).bind fun v92 => bif List.all [v92, .int .i64 1, .int .i64 0] isS2 then some (.tuple (List.toArray [v92, .int .i64 1, .int .i64 0]), h91) else none else s53_3 hk C N x4 h else bif x7 == 91 then bif x7 == 91 then (aSubS (.string x0) (some (.int .i64 x1)) (some (.int .i64 (IntKind.i64.wrap (x1 + 1))))).bind fun v93 => (asS v93).bind fun t94 => (aSt h x4 (.agg (List.toArray [.int .i64 5, .int .i64 x1, .string t94, .int .i64 0])) 4).bind fun h95 => (aLdN h95 x4 4).bind fun v96 => bif List.all [v96, .int .i64 1, .int .i64 0] isS2 then some (.tuple (List.toArray [v96, .int .i64 1, .int .i64 0]), h95) else none else s53_3 hk C N x4 h else bif x7 == 93 then bif x7 == 93 then (aSubS (.string x0) (some (.int .i64 x1)) (some (.int .i64 (IntKind.i64.wrap (x1 + 1))))).bind fun v97 => (asS v97).bind fun t98 => (aSt h x4 (.agg (List.toArray [.int .i64 5, .int .i64 x1, .string t98, .int .i64 0])) 4).bind fun h99 => (aLdN h99 x4 4).bind fun v100 => bif List.all [v100, .int .i64 1, .int .i64 0] isS2 then some (.tuple (List.toArray [v100, .int .i64 1, .int .i64 0]), h99) else none else s53_3 hk C N x4 h else bif x7 == 59 then bif x7 == 59 then (aSubS (.string x0) (some (.int .i64 x1)) (some (.int .i64 (IntKind.i64.wrap (x1 + 1))))).bind fun v101 => (asS v101).bind fun t102 => (aSt h x4 (.agg (List.toArray [.int .i64 5, .int .i64 x1, .string t102, .int .i64 0])) 4).bind fun h103 => (aLdN h103 x4 4).bind fun v104 => bif List.all [v104, .int .i64 1, .int .i64 0] isS2 then some (.tuple (List.toArray [v104, .int .i64 1, .int .i64 0]), h103) else none else s53_3 hk C N x4 h else bif x7 == 44 then bif x7 == 44 then (aSubS (.string x0) (some (.int .i64 x1)) (some (.int .i64 (IntKind.i64.wrap (x1 + 1))))).bind fun v105 => (asS v105).bind fun t106 => (aSt h x4 (.agg (List.toArray [.int .i64 5, .int .i64 x1, .string t106, .int .i64 0])) 4).bind fun h107 => (aLdN h107 x4 4).bind fun v108 => bif List.all [v108, .int .i64 1, .int .i64 0] isS2 then some (.tuple (List.toArray [v108, .int .i64 1, .int .i64 0]), h107) else none else s53_3 hk C N x4 h else bif x7 == 46 then bif x7 == 46 then (aSubS (.string x0) (some (.int .i64 x1)) (some (.int .i64 (IntKind.i64.wrap (x1 + 1))))).bind fun v109 => (asS v109).bind fun t110 => (aSt h x4 (.agg (List.toArray [.int .i64 5, .int .i64 x1, .string t110, .int .i64 0])) 4).bind fun h111 => (aLdN h111 x4 4).bind fun v112 => bif List.all [v112, .int .i64 1, .int .i64 0] isS2 then some (.tuple (List.toArray [v112, .int .i64 1, .int .i64 0]), h111) else none else s53_3 hk C N x4 h else bif x7 == 61 then bif x7 == 61 then (aSubS (.string x0) (some (.int .i64 x1)) (some (.int .i64 (IntKind.i64.wrap (x1 + 1))))).bind fun v113 => (asS v113).bind fun t114 => (aSt h x4 (.agg (List.toArray [.int .i64 5, .int .i64 x1, .string t114, .int .i64 0])) 4).bind fun h115 => (aLdN h115 x4 4).bind fun v116 => bif List.all [v116, .int .i64 1, .int .i64 0] isS2 then some (.tuple (List.toArray [v116, .int .i64 1, .int .i64 0]), h115) else none else s53_3 hk C N x4 h else bif x7 == 60 then bif x7 == 60 then (aSubS (.string x0) (some (.int .i64 x1)) (some (.int .i64 (IntKind.i64.wrap (x1 + 1))))).bind fun v117 => (asS v117).bind fun t118 => (aSt h x4 (.agg (List.toArray [.int .i64 5, .int .i64 x1, .string t118, .int .i64 0])) 4).bind fun h119 => (aLdN h119 x4 4).bind fun v120 => bif List.all [v120, .int .i64 1, .int .i64 0] isS2 then some (.tuple (List.toArray [v120, .int .i64 1, .int .i64 0]), h119) else none else s53_3 hk C N x4 h else bif x7 == 43 then bif x7 == 43 then (aSubS (.string x0) (some (.int .i64 x1)) (some (.int .i64 (IntKind.i64.wrap (x1 + 1))))).bind fun v121 => (asS v121).bind fun t122 => (aSt h x4 (.agg (List.toArray [.int .i64 5, .int .i64 x1, .string t122, .int .i64 0])) 4).bind fun h123 => (aLdN h123 x4 4).bind fun v124 => bif List.all [v124, .int .i64 1, .int .i64 0] isS2 then some (.tuple (List.toArray [v124, .int .i64 1, .int .i64 0]), h123) else none else s53_3 hk C N x4 h else bif x7 == 45 then bif x7 == 45 then (aSubS (.string x0) (some (.int .i64 x1)) (some (.int .i64 (IntKind.i64.wrap (x1 + 1))))).bind fun v125 => (asS v125).bind fun t126 => (aSt h x4 (.agg (List.toArray [.int .i64 5, .int .i64 x1, .string t126, .int .i64 0])) 4).bind fun h127 => (aLdN h127 x4 4).bind fun v128 => bif List.all [v128, .int .i64 1, .int .i64 0] isS2 then some (.tuple (List.toArray [v128, .int .i64 1, .int .i64 0]), h127) else none else s53_3 hk C N x4 h else bif x7 == 42 then bif x7 == 42 then (aSubS (.string x0) (some (.int .i64 x1)) (some (.int .i64 (IntKind.i64.wrap (x1 + 1))))).bind fun v129 => (asS v129).bind fun t130 => (aSt h x4 (.agg (List.toArray [.int .i64 5, .int .i64 x1, .string t130, .int .i64 0])) 4).bind fun h131 => (aLdN h131 x4 4).bind fun v132 => bif List.all [v132, .int .i64 1, .int .i64 0] isS2 then some (.tuple (List.toArray [v132, .int .i64 1, .int .i64 0]), h131) else none else s53_3 hk C N x4 h else bif x7 == 47 then bif x7 == 47 then (aSubS (.string x0) (some (.int .i64 x1)) (some (.int .i64 (IntKind.i64.wrap (x1 + 1))))).bind fun v133 => (asS v133).bind fun t134 => (aSt h x4 (.agg (List.toArray [.int .i64 5, .int .i64 x1, .string t134, .int .i64 0])) 4).bind fun h135 => (aLdN h135 x4 4).bind fun v136 => bif List.all [v136, .int .i64 1, .int .i64 0] isS2 then some (.tuple (List.toArray [v136, .int .i64 1, .int .i64 0]), h135) else none else s53_3 hk C N x4 h else bif x7 == 37 then bif x7 == 37 then (aSubS (.string x0) (some (.int .i64 x1)) (some (.int .i64 (IntKind.i64.wrap (x1 + 1))))).bind fun v137 => (asS v137).bind fun t138 => (aSt h x4 (.agg (List.toArray [.int .i64 5, .int .i64 x1, .string t138, .int .i64 0])) 4).bind fun h139 => (aLdN h139 x4 4).bind fun v140 => bif List.all [v140, .int .i64 1, .int .i64 0] isS2 then some (.tuple (List.toArray [v140, .int .i64 1, .int .i64 0]), h139) else none else s53_3 hk C N x4 h else bif x7 == 35 then (aSubS (.string x0) (some (.int .i64 x1)) (some (.int .i64 (IntKind.i64.wrap (x1 + 1))))).bind fun v141 => (asS v141).bind fun t142 => (aSt h x4 (.agg (List.toArray [.int .i64 5, .int .i64 x1, .string t142, .int .i64 0])) 4).bind fun h143 => (aLdN h143 x4 4).bind fun v144 => bif List.all [v144, .int .i64 1, .int .i64 0] isS2 then some (.tuple (List.toArray [v144, .int .i64 1, .int .i64 0]), h143) else none else s53_3 hk C N x4 h := by kernel_rfl
theorem s53_3_j (C : ACall) (N : Nat) (x4 : Value) (h : AHeap) : s53_3 hk0 C N x4 h = F53_3 hk0 C N (⟨136, [(4, x4)]⟩) h := by delta s53_3; exact hk0_app _ _ _ _
theorem s53_3_eq (hk : Hk (Value × AHeap)) (C : ACall) (N : Nat) (x4 : Value) (h : AHeap) : F53_3 hk C N (⟨136, [(4, x4)]⟩) h =
    (aSt h x4 (.agg (List.toArray [.int .i64 0, .int .i64 0, .string ⟨#[]⟩, .int .i64 0])) 4).bind fun h145 => (aLdN h145 x4 4).bind fun v146 => bif List.all [v146, .int .i64 0, .int .i64 2] isS2 then some (.tuple (List.toArray [v146, .int .i64 0, .int .i64 2]), h145) else none := by kernel_rfl
theorem c53 (d : Nat) (args : List Value) (h : AHeap) : call Try.prog Ms (d + 1) 53 args h = evFn hk0 Try.prog (call Try.prog Ms d) M53 d Try.f53 args h := by kernel_rfl

/-! 54 loop.example/g00101/laws.eqToken -/
/-! 55 loop.example/g00101/laws.markText -/
noncomputable def F55_0 (hk : Hk (Value × AHeap)) (C : ACall) (N : Nat) (n1 : Nat) : Nx (Value × AHeap) := evSt hk Try.prog C M55 N Try.f55 [1, 1, 1, 0, 2, 6] [n1]
noncomputable def s55_0 (hk : Hk (Value × AHeap)) (C : ACall) (N : Nat) (n1 : Nat) (x0 : Int) (x3 : ByteArray) (h : AHeap) := F55_0 hk C N n1 (⟨20, [(0, .int .i64 x0), (3, .string x3)]⟩) h
theorem e55 (hk : Hk (Value × AHeap)) (C : ACall) (N : Nat) (x0 : Int) (h : AHeap) : evFn hk Try.prog C M55 N Try.f55 [.int .i64 x0] h =
    bif decide (x0 ≤ 0) then some (.string (⟨#[109, 48]⟩), h) else s55_0 hk C N N x0 ⟨#[]⟩ h := by kernel_rfl
theorem s55_0_eq (hk : Hk (Value × AHeap)) (C : ACall) (N : Nat) (n1 : Nat) (x0 : Int) (x3 : ByteArray) (h : AHeap) : s55_0 hk C N (n1 + 1) x0 x3 h =
    bif decide (x0 > 0) then aNewS h 5 [.int .u8 (IntKind.u8.wrap (IntKind.i64.wrap (48 + (Int.tmod x0 10))))] 1 fun p1 h2 => (aCvStr h2 p1).bind fun v3 => (asS v3).bind fun t4 => (aBin .add (.string t4) (.string x3)).bind fun v5 => (asS v5).bind fun t6 => s55_0 hk C N n1 (IntKind.i64.wrap (Int.tdiv x0 10)) t6 h2 else (aBin .add (.string (⟨#[109]⟩)) (.string x3)).bind fun v7 => (asS v7).bind fun t8 => some (.string t8, h) := by kernel_rfl
theorem c55 (d : Nat) (args : List Value) (h : AHeap) : call Try.prog Ms (d + 1) 55 args h = evFn hk0 Try.prog (call Try.prog Ms d) M55 d Try.f55 args h := by kernel_rfl
end Go.Proofs.Ytadmoackacickaa
set_option linter.unusedVariables false
namespace Go.Proofs.Ytadmoackacickaa
open Go Go.AH
/-! 87 loop.example/g00101/spec.l8Letter -/
theorem e87 (hk : Hk (Value × AHeap)) (C : ACall) (N : Nat) (x0 : Int) (h : AHeap) : evFn hk Try.prog C M87 N Try.f87 [.int .u8 x0] h =
    bif decide (x0 ≥ 97) then bif decide (x0 ≤ 122) then some (.bool true, h) else bif decide (x0 ≥ 65) then some (.bool (decide (x0 ≤ 90)), h) else some (.bool false, h) else bif decide (x0 ≥ 65) then some (.bool (decide (x0 ≤ 90)), h) else some (.bool false, h) := by kernel_rfl
theorem c87 (d : Nat) (args : List Value) (h : AHeap) : call Try.prog Ms (d + 1) 87 args h = evFn hk0 Try.prog (call Try.prog Ms d) M87 d Try.f87 args h := by kernel_rfl

/-! 88 loop.example/g00101/spec.IsWord -/
theorem e88 (hk : Hk (Value × AHeap)) (C : ACall) (N : Nat) (x0 : ByteArray) (h : AHeap) : evFn hk Try.prog C M88 N Try.f88 [.string x0] h =
    (C 143 [] h).bind fun r1 => (C 118 [r1.1, .string x0] r1.2).bind fun r2 => (asB r2.1).bind fun b3 => some (.bool b3, r2.2) := by kernel_rfl
theorem c88 (d : Nat) (args : List Value) (h : AHeap) : call Try.prog Ms (d + 1) 88 args h = evFn hk0 Try.prog (call Try.prog Ms d) M88 d Try.f88 args h := by kernel_rfl

/-! 89 loop.example/g00101/spec.l8Digit -/
theorem e89 (hk : Hk (Value × AHeap)) (C : ACall) (N : Nat) (x0 : Int) (h : AHeap) : evFn hk Try.prog C M89 N Try.f89 [.int .u8 x0] h =
    bif decide (x0 ≥ 48) then some (.bool (decide (x0 ≤ 57)), h) else some (.bool false, h) := by kernel_rfl
theorem c89 (d : Nat) (args : List Value) (h : AHeap) : call Try.prog Ms (d + 1) 89 args h = evFn hk0 Try.prog (call Try.prog Ms d) M89 d Try.f89 args h := by kernel_rfl

/-! 90 loop.example/g00101/spec.l8Plain -/
theorem e90 (hk : Hk (Value × AHeap)) (C : ACall) (N : Nat) (x0 : Int) (h : AHeap) : evFn hk Try.prog C M90 N Try.f90 [.int .u8 x0] h =
    bif decide (x0 ≥ 32) then bif decide (x0 ≤ 126) then some (.bool (x0 != 34), h) else some (.bool false, h) else some (.bool false, h) := by kernel_rfl
theorem c90 (d : Nat) (args : List Value) (h : AHeap) : call Try.prog Ms (d + 1) 90 args h = evFn hk0 Try.prog (call Try.prog Ms d) M90 d Try.f90 args h := by kernel_rfl

/-! 91 loop.example/g00101/spec.l8Marks -/
theorem e91 (hk : Hk (Value × AHeap)) (C : ACall) (N : Nat) (h : AHeap) : evFn hk Try.prog C M91 N Try.f91 [] h =
    aNewS h 9 [.string (⟨#[123]⟩), .string (⟨#[125]⟩), .string (⟨#[40]⟩), .string (⟨#[41]⟩), .string (⟨#[91]⟩), .string (⟨#[93]⟩), .string (⟨#[59]⟩), .string (⟨#[44]⟩), .string (⟨#[46, 46]⟩), .string (⟨#[46]⟩), .string (⟨#[61, 61]⟩), .string (⟨#[61]⟩), .string (⟨#[126, 61]⟩), .string (⟨#[60, 61]⟩), .string (⟨#[60]⟩), .string (⟨#[43]⟩), .string (⟨#[45]⟩), .string (⟨#[42]⟩), .string (⟨#[47]⟩), .string (⟨#[37]⟩), .string (⟨#[35]⟩)] 21 fun p1 h2 => some (p1, h2) := by kernel_rfl
theorem c91 (d : Nat) (args : List Value) (h : AHeap) : call Try.prog Ms (d + 1) 91 args h = evFn hk0 Try.prog (call Try.prog Ms d) M91 d Try.f91 args h := by kernel_rfl

/-! 92 loop.example/g00101/impl.isLetter -/
theorem e92 (hk : Hk (Value × AHeap)) (C : ACall) (N : Nat) (x0 : Int) (h : AHeap) : evFn hk Try.prog C M92 N Try.f92 [.int .u8 x0] h =
    bif decide (x0 ≥ 97) then bif decide (x0 ≤ 122) then some (.bool true, h) else bif decide (x0 ≥ 65) then some (.bool (decide (x0 ≤ 90)), h) else some (.bool false, h) else bif decide (x0 ≥ 65) then some (.bool (decide (x0 ≤ 90)), h) else some (.bool false, h) := by kernel_rfl
theorem c92 (d : Nat) (args : List Value) (h : AHeap) : call Try.prog Ms (d + 1) 92 args h = evFn hk0 Try.prog (call Try.prog Ms d) M92 d Try.f92 args h := by kernel_rfl

/-! 93 loop.example/g00101/impl.IsWord -/
theorem e93 (hk : Hk (Value × AHeap)) (C : ACall) (N : Nat) (x0 : ByteArray) (h : AHeap) : evFn hk Try.prog C M93 N Try.f93 [.string x0] h =
    bif x0.toList == (⟨#[108, 111, 99, 97, 108]⟩ : ByteArray).toList then bif x0.toList == (⟨#[108, 111, 99, 97, 108]⟩ : ByteArray).toList then some (.bool true, h) else some (.bool false, h) else bif x0.toList == (⟨#[102, 110]⟩ : ByteArray).toList then bif x0.toList == (⟨#[102, 110]⟩ : ByteArray).toList then some (.bool true, h) else some (.bool false, h) else bif x0.toList == (⟨#[105, 102]⟩ : ByteArray).toList then bif x0.toList == (⟨#[105, 102]⟩ : ByteArray).toList then some (.bool true, h) else some (.bool false, h) else bif x0.toList == (⟨#[101, 108, 115, 101]⟩ : ByteArray).toList then bif x0.toList == (⟨#[101, 108, 115, 101]⟩ : ByteArray).toList then some (.bool true, h) else some (.bool false, h) else bif x0.toList == (⟨#[119, 104, 105, 108, 101]⟩ : ByteArray).toList then bif x0.toList == (⟨#[119, 104, 105, 108, 101]⟩ : ByteArray).toList then some (.bool true, h) else some (.bool false, h) else bif x0.toList == (⟨#[114, 101, 116, 117, 114, 110]⟩ : ByteArray).toList then bif x0.toList == (⟨#[114, 101, 116, 117, 114, 110]⟩ : ByteArray).toList then some (.bool true, h) else some (.bool false, h) else bif x0.toList == (⟨#[116, 114, 117, 101]⟩ : ByteArray).toList then bif x0.toList == (⟨#[116, 114, 117, 101]⟩ : ByteArray).toList then some (.bool true, h) else some (.bool false, h) else bif x0.toList == (⟨#[102, 97, 108, 115, 101]⟩ : ByteArray).toList then bif x0.toList == (⟨#[102, 97, 108, 115, 101]⟩ : ByteArray).toList then some (.bool true, h) else some (.bool false, h) else bif x0.toList == (⟨#[110, 105, 108]⟩ : ByteArray).toList then bif x0.toList == (⟨#[110, 105, 108]⟩ : ByteArray).toList then some (.bool true, h) else some (.bool false, h) else bif x0.toList == (⟨#[97, 110, 100]⟩ : ByteArray).toList then bif x0.toList == (⟨#[97, 110, 100]⟩ : ByteArray).toList then some (.bool true, h) else some (.bool false, h) else bif x0.toList == (⟨#[111, 114]⟩ : ByteArray).toList then bif x0.toList == (⟨#[111, 114]⟩ : ByteArray).toList then some (.bool true, h) else some (.bool false, h) else bif x0.toList == (⟨#[110, 111, 116]⟩ : ByteArray).toList then some (.bool true, h) else some (.bool false, h) := by kernel_rfl
theorem c93 (d : Nat) (args : List Value) (h : AHeap) : call Try.prog Ms (d + 1) 93 args h = evFn hk0 Try.prog (call Try.prog Ms d) M93 d Try.f93 args h := by kernel_rfl

/-! 94 loop.example/g00101/impl.isDigit -/
theorem e94 (hk : Hk (Value × AHeap)) (C : ACall) (N : Nat) (x0 : Int) (h : AHeap) : evFn hk Try.prog C M94 N Try.f94 [.int .u8 x0] h =
    bif decide (x0 ≥ 48) then some (.bool (decide (x0 ≤ 57)), h) else some (.bool false, h) := by kernel_rfl
theorem c94 (d : Nat) (args : List Value) (h : AHeap) : call Try.prog Ms (d + 1) 94 args h = evFn hk0 Try.prog (call Try.prog Ms d) M94 d Try.f94 args h := by kernel_rfl

/-! 95 loop.example/g00101/impl.lexNumber -/
noncomputable def F95_0 (hk : Hk (Value × AHeap)) (C : ACall) (N : Nat) : Nx (Value × AHeap) := evSt hk Try.prog C M95 N Try.f95 [1, 1, 1, 1] []
noncomputable def s95_0 (hk : Hk (Value × AHeap)) (C : ACall) (N : Nat) (x0 : ByteArray) (x1 : Int) (x4 : Value) (x6 : Int) (x7 : Value) (h : AHeap) := hk 5 (⟨64, [(0, .string x0), (1, .int .i64 x1), (4, x4), (6, .int .i64 x6), (7, x7)]⟩) h (F95_0 hk C N)
noncomputable def F95_1 (hk : Hk (Value × AHeap)) (C : ACall) (N : Nat) (n1 : Nat) : Nx (Value × AHeap) := evSt hk Try.prog C M95 N Try.f95 [1, 1, 1, 1, 0, 1, 2, 6] [n1]
noncomputable def s95_1 (hk : Hk (Value × AHeap)) (C : ACall) (N : Nat) (n1 : Nat) (x0 : ByteArray) (x4 : Value) (x6 : Int) (x7 : Value) (x8 : Int) (h : AHeap) := F95_1 hk C N n1 (⟨64, [(0, .string x0), (4, x4), (6, .int .i64 x6), (7, x7), (8, .int .i64 x8)]⟩) h
theorem e95 (hk : Hk (Value × AHeap)) (C : ACall) (N : Nat) (x0 : ByteArray) (x1 : Int) (h : AHeap) : evFn hk Try.prog C M95 N Try.f95 [.string x0, .int .i64 x1] h =
    aNew h 53 [.int .i64 0, .int .i64 0, .string ⟨#[]⟩, .int .i64 0] fun p1 h2 => (C 51 [.string x0, .int .i64 x1, (.func (.func 94) #[] #[])] h2).bind fun r3 => (asI .i64 r3.1).bind fun n4 => (aSubS (.string x0) (some (.int .i64 x1)) (some (.int .i64 n4))).bind fun v5 => (asS v5).bind fun t6 => aNew r3.2 53 [.int .i64 0, .int .i64 0, .string ⟨#[]⟩, .int .i64 0] fun p7 h8 => (aSt h8 p7 (.agg (List.toArray [.int .i64 3, .int .i64 x1, .string t6, .int .i64 0])) 4).bind fun h9 => bif decide ((IntKind.i64.wrap (n4 - x1)) > 15) then (aSt h9 p1 (.agg (List.toArray [.int .i64 0, .int .i64 0, .string ⟨#[]⟩, .int .i64 0])) 4).bind fun h10 => (aLdN h10 p1 4).bind fun v11 => bif List.all [v11, .int .i64 3] isS2 then some (.tuple (List.toArray [v11, .int .i64 3]), h10) else none else bif decide ((IntKind.i64.wrap (n4 - x1)) > 1) then (aStrIx (.string x0) (.int .i64 x1)).bind fun v12 => (asI .u8 v12).bind fun n13 => bif n13 == 48 then (aSt h9 p1 (.agg (List.toArray [.int .i64 0, .int .i64 0, .string ⟨#[]⟩, .int .i64 0])) 4).bind fun h14 => (aLdN h14 p1 4).bind fun v15 => bif List.all [v15, .int .i64 3] isS2 then some (.tuple (List.toArray [v15, .int .i64 3]), h14) else none else bif decide (n4 < (ByteArray.size x0 : Int)) then (aStrIx (.string x0) (.int .i64 n4)).bind fun v16 => (asI .u8 v16).bind fun n17 => (C 92 [.int .u8 n17] h9).bind fun r18 => (asB r18.1).bind fun b19 => bif b19 then (aSt r18.2 p1 (.agg (List.toArray [.int .i64 0, .int .i64 0, .string ⟨#[]⟩, .int .i64 0])) 4).bind fun h20 => (aLdN h20 p1 4).bind fun v21 => bif List.all [v21, .int .i64 3] isS2 then some (.tuple (List.toArray [v21, .int .i64 3]), h20) else none else s95_0 hk C N x0 x1 p1 n4 p7 r18.2 else s95_0 hk C N x0 x1 p1 n4 p7 h9 else bif decide (n4 < (ByteArray.size x0 : Int)) then (aStrIx (.string x0) (.int .i64 n4)).bind fun v22 => (asI .u8 v22).bind fun n23 => (C 92 [.int .u8 n23] h9).bind fun r24 => (asB r24.1).bind fun b25 => bif b25 then (aSt r24.2 p1 (.agg (List.toArray [.int .i64 0, .int .i64 0, .string ⟨#[]⟩, .int .i64 0])) 4).bind fun h26 => (aLdN h26 p1 4).bind fun v27 => bif List.all [v27, .int .i64 3] isS2 then some (.tuple (List.toArray [v27, .int .i64 3]), h26) else none else s95_0 hk C N x0 x1 p1 n4 p7 r24.2 else s95_0 hk C N x0 x1 p1 n4 p7 h9 := by kernel_rfl
theorem s95_0_j (C : ACall) (N : Nat) (x0 : ByteArray) (x1 : Int) (x4 : Value) (x6 : Int) (x7 : Value) (h : AHeap) : s95_0 hk0 C N x0 x1 x4 x6 x7 h = F95_0 hk0 C N (⟨64, [(0, .string x0), (1, .int .i64 x1), (4, x4), (6, .int .i64 x6), (7, x7)]⟩) h := by delta s95_0; exact hk0_app _ _ _ _
theorem s95_0_eq (hk : Hk (Value × AHeap)) (C : ACall) (N : Nat) (x0 : ByteArray) (x1 : Int) (x4 : Value) (x6 : Int) (x7 : Value) (h : AHeap) : F95_0 hk C N (⟨64, [(0, .string x0), (1, .int .i64 x1), (4, x4), (6, .int .i64 x6), (7, x7)]⟩) h =
    s95_1 hk C N N x0 x4 x6 x7 x1 h := by kernel_rfl
theorem s95_1_eq (hk : Hk (Value × AHeap)) (C : ACall) (N : Nat) (n1 : Nat) (x0 : ByteArray) (x4 : Value) (x6 : Int) (x7 : Value) (x8 : Int) (h : AHeap) : s95_1 hk C N (n1 + 1) x0 x4 x6 x7 x8 h =
    bif decide (x8 < x6) then (aOff x7 3).bind fun v28 => (aLd1 h v28).bind fun v29 => (asI .i64 v29).bind fun n30 => (aStrIx (.string x0) (.int .i64 x8)).bind fun v31 => (asI .u8 v31).bind fun n32 => (aOff x7 3).bind fun v33 => (aSt h v33 (.int .i64 (IntKind.i64.wrap ((IntKind.i64.wrap (10 * n30)) + (IntKind.i64.wrap (IntKind.u8.wrap (n32 - 48)))))) 1).bind fun h34 => s95_1 hk C N n1 x0 x4 x6 x7 (IntKind.i64.wrap (x8 + 1)) h34 else (aLdN h x7 4).bind fun v35 => (aSt h x4 v35 4).bind fun h36 => (aLdN h36 x4 4).bind fun v37 => bif List.all [v37, .int .i64 0] isS2 then some (.tuple (List.toArray [v37, .int .i64 0]), h36) else none := by kernel_rfl
theorem c95 (d : Nat) (args : List Value) (h : AHeap) : call Try.prog Ms (d + 1) 95 args h = evFn hk0 Try.prog (call Try.prog Ms d) M95 d Try.f95 args h := by kernel_rfl

/-! 96 loop.example/g00101/impl.isPlain -/
theorem e96 (hk : Hk (Value × AHeap)) (C : ACall) (N : Nat) (x0 : Int) (h : AHeap) : evFn hk Try.prog C M96 N Try.f96 [.int .u8 x0] h =
    bif decide (x0 ≥ 32) then bif decide (x0 ≤ 126) then some (.bool (x0 != 34), h) else some (.bool false, h) else some (.bool false, h) := by kernel_rfl
theorem c96 (d : Nat) (args : List Value) (h : AHeap) : call Try.prog Ms (d + 1) 96 args h = evFn hk0 Try.prog (call Try.prog Ms d) M96 d Try.f96 args h := by kernel_rfl

/-! 118 loop.example/g00101/spec.l8In -/
noncomputable def F118_0 (hk : Hk (Value × AHeap)) (C : ACall) (N : Nat) (n1 : Nat) : Nx (Value × AHeap) := evSt hk Try.prog C M118 N Try.f118 [1, 0, 1, 2, 6] [n1]
noncomputable def s118_0 (hk : Hk (Value × AHeap)) (C : ACall) (N : Nat) (n1 : Nat) (x0 : Value) (x1 : ByteArray) (x5 : Int) (h : AHeap) := F118_0 hk C N n1 (⟨18, [(0, x0), (1, .string x1), (5, .int .i64 x5)]⟩) h
theorem e118 (hk : Hk (Value × AHeap)) (C : ACall) (N : Nat) (x0 : Value) (x1 : ByteArray) (h : AHeap) : evFn hk Try.prog C M118 N Try.f118 [x0, .string x1] h =
    s118_0 hk C N N x0 x1 0 h := by kernel_rfl
theorem s118_0_eq (hk : Hk (Value × AHeap)) (C : ACall) (N : Nat) (n1 : Nat) (x0 : Value) (x1 : ByteArray) (x5 : Int) (h : AHeap) : s118_0 hk C N (n1 + 1) x0 x1 x5 h =
    (aLen x0).bind fun v1 => (asI .i64 v1).bind fun n2 => bif decide (x5 < n2) then (aIdx x0 (.int .i64 x5) 1).bind fun v3 => (aLd1 h v3).bind fun v4 => (asS v4).bind fun t5 => bif t5.toList == x1.toList then some (.bool true, h) else s118_0 hk C N n1 x0 x1 (IntKind.i64.wrap (x5 + 1)) h else some (.bool false, h) := by kernel_rfl
theorem c118 (d : Nat) (args : List Value) (h : AHeap) : call Try.prog Ms (d + 1) 118 args h = evFn hk0 Try.prog (call Try.prog Ms d) M118 d Try.f118 args h := by kernel_rfl

/-! 143 loop.example/g00101/spec.l8Words -/
theorem e143 (hk : Hk (Value × AHeap)) (C : ACall) (N : Nat) (h : AHeap) : evFn hk Try.prog C M143 N Try.f143 [] h =
    aNewS h 9 [.string (⟨#[108, 111, 99, 97, 108]⟩), .string (⟨#[102, 110]⟩), .string (⟨#[105, 102]⟩), .string (⟨#[101, 108, 115, 101]⟩), .string (⟨#[119, 104, 105, 108, 101]⟩), .string (⟨#[114, 101, 116, 117, 114, 110]⟩), .string (⟨#[116, 114, 117, 101]⟩), .string (⟨#[102, 97, 108, 115, 101]⟩), .string (⟨#[110, 105, 108]⟩), .string (⟨#[97, 110, 100]⟩), .string (⟨#[111, 114]⟩), .string (⟨#[110, 111, 116]⟩)] 12 fun p1 h2 => some (p1, h2) := by kernel_rfl
theorem c143 (d : Nat) (args : List Value) (h : AHeap) : call Try.prog Ms (d + 1) 143 args h = evFn hk0 Try.prog (call Try.prog Ms d) M143 d Try.f143 args h := by kernel_rfl
end Go.Proofs.Ytadmoackacickaa
/- The lexers' small functions. -/
set_option linter.unusedSimpArgs false
namespace Go.Proofs.Ytadmoackacickaa
open Go Go.AH

def isLet (x : Int) : Bool := decide (97 ≤ x ∧ x ≤ 122) || decide (65 ≤ x ∧ x ≤ 90)
def isDig (x : Int) : Bool := decide (48 ≤ x ∧ x ≤ 57)
def isPln (x : Int) : Bool := decide (32 ≤ x ∧ x ≤ 126) && x != 34
theorem l87 (d : Nat) (n : Int) (h : AHeap) : call Try.prog Ms (d + 1) 87 [.int .u8 n] h = some (.bool (isLet n), h) := by
  rw [c87, e87]; unfold isLet
  by_cases h1 : 97 ≤ n <;> by_cases h2 : n ≤ 122 <;> by_cases h3 : 65 ≤ n <;> by_cases h4 : n ≤ 90 <;> simp [h1, h2, h3, h4]
theorem l92 (d : Nat) (n : Int) (h : AHeap) : call Try.prog Ms (d + 1) 92 [.int .u8 n] h = some (.bool (isLet n), h) := by
  rw [c92, e92]; unfold isLet
  by_cases h1 : 97 ≤ n <;> by_cases h2 : n ≤ 122 <;> by_cases h3 : 65 ≤ n <;> by_cases h4 : n ≤ 90 <;> simp [h1, h2, h3, h4]
theorem l89 (d : Nat) (n : Int) (h : AHeap) : call Try.prog Ms (d + 1) 89 [.int .u8 n] h = some (.bool (isDig n), h) := by
  rw [c89, e89]; unfold isDig
  by_cases h1 : 48 ≤ n <;> by_cases h2 : n ≤ 57 <;> simp [h1, h2]
theorem l94 (d : Nat) (n : Int) (h : AHeap) : call Try.prog Ms (d + 1) 94 [.int .u8 n] h = some (.bool (isDig n), h) := by
  rw [c94, e94]; unfold isDig
  by_cases h1 : 48 ≤ n <;> by_cases h2 : n ≤ 57 <;> simp [h1, h2]
theorem l90 (d : Nat) (n : Int) (h : AHeap) : call Try.prog Ms (d + 1) 90 [.int .u8 n] h = some (.bool (isPln n), h) := by
  rw [c90, e90]; unfold isPln
  by_cases h1 : 32 ≤ n <;> by_cases h2 : n ≤ 126 <;> simp [h1, h2]
theorem l96 (d : Nat) (n : Int) (h : AHeap) : call Try.prog Ms (d + 1) 96 [.int .u8 n] h = some (.bool (isPln n), h) := by
  rw [c96, e96]; unfold isPln
  by_cases h1 : 32 ≤ n <;> by_cases h2 : n ≤ 126 <;> simp [h1, h2]
theorem l52 (d : Nat) (n : Int) (h : AHeap) : call Try.prog Ms (d + 1) 52 [.int .u8 n] h = some (.bool (n != 10), h) := by rw [c52, e52]
end Go.Proofs.Ytadmoackacickaa
/- Runs of bytes. -/
set_option linter.unusedSimpArgs false
namespace Go.Proofs.Ytadmoackacickaa
open Go Go.AH

def bt (s : ByteArray) (i : Nat) : Int := ((s.data[i]?).getD 0).toNat
theorem strIx {s : ByteArray} {i : Nat} (hi : i < s.size) : aStrIx (.string s) (.int .i64 (i : Int)) = some (.int .u8 (bt s i)) := by
  have h1 : s[i]? = some (s[i]'hi) := by simp [hi]
  have h2 : s.data[i]? = some (s[i]'hi) := Array.getElem?_eq_getElem (by exact hi)
  simp [aStrIx, h1, bt, h2]
theorem wr {x : Int} (h0 : -1000000 ≤ x) (h1 : x ≤ 4611686018427387904) : IntKind.i64.wrap x = x := by
  simp [IntKind.wrap, IntKind.bits, IntKind.signed]; omega
def endGo (p : Int → Bool) (s : ByteArray) : Nat → Nat → Nat
  | 0, i => i
  | f + 1, i => if i < s.size ∧ p (bt s i) = true then endGo p s f (i + 1) else i
def endOf (p : Int → Bool) (s : ByteArray) (i : Nat) : Nat := endGo p s (s.size - i) i
theorem endOf_stop {p : Int → Bool} {s : ByteArray} {i : Nat} (h : ¬ (i < s.size ∧ p (bt s i) = true)) : endOf p s i = i := by
  unfold endOf
  cases s.size - i with
  | zero => rfl
  | succ f => simp only [endGo]; rw [if_neg h]
theorem endOf_step {p : Int → Bool} {s : ByteArray} {i : Nat} (h : i < s.size) (hp : p (bt s i) = true) : endOf p s i = endOf p s (i + 1) := by
  unfold endOf
  obtain ⟨f, hf⟩ : ∃ f, s.size - i = f + 1 := ⟨s.size - i - 1, by omega⟩
  rw [hf, show s.size - (i + 1) = f by omega]
  simp only [endGo]; rw [if_pos ⟨h, hp⟩]
theorem endOf_bd {p : Int → Bool} {s : ByteArray} : ∀ (n i : Nat), s.size - i = n → i ≤ s.size → i ≤ endOf p s i ∧ endOf p s i ≤ s.size := by
  intro n
  induction n with
  | zero => intro i hn hi; rw [endOf_stop (by omega)]; omega
  | succ n ih =>
    intro i hn hi
    by_cases h : i < s.size ∧ p (bt s i) = true
    · rw [endOf_step h.1 h.2]
      have := ih (i + 1) (by omega) (by omega)
      omega
    · rw [endOf_stop h]; omega
theorem run_loop {d N g : Nat} {p : Int → Bool} {s : ByteArray} (hs : s.size ≤ 3000) (hg : ∀ n h, call Try.prog Ms d g [.int .u8 n] h = some (.bool (p n), h)) (h : AHeap) :
    ∀ (n i m : Nat), s.size - i = n → i ≤ s.size → n < m → s51_0 hk0 (call Try.prog Ms d) N m s (i : Int) (.func (.func g) #[] #[]) h = some (.int .i64 (endOf p s i : Nat), h) := by
  intro n
  induction n with
  | zero =>
    intro i m hn hi hm
    obtain ⟨m, rfl⟩ : ∃ k, m = k + 1 := ⟨m - 1, by omega⟩
    rw [s51_0_eq, endOf_stop (by omega)]
    have : ¬ ((i : Int) < (s.size : Int)) := by omega
    simp [this]
  | succ n ih =>
    intro i m hn hi hm
    obtain ⟨m, rfl⟩ : ∃ k, m = k + 1 := ⟨m - 1, by omega⟩
    have hlt : i < s.size := by omega
    have : (i : Int) < (s.size : Int) := by omega
    rw [s51_0_eq]
    simp only [this, decide_true, cond_true, strIx hlt, Option.bind_some, asI, if_true, aCallV, List.append_nil, List.nil_append, hg, asB]
    cases hp : p (bt s i) with
    | true =>
      rw [endOf_step hlt hp, cond_true, wr (by omega) (by omega)]
      exact ih (i + 1) m (by omega) (by omega) (by omega)
    | false =>
      rw [endOf_stop (by simp [hp])]; rfl
theorem l51 {d g : Nat} {p : Int → Bool} {s : ByteArray} (hs : s.size ≤ 3000) (hd : 3000 < d) (hg : ∀ n h, call Try.prog Ms d g [.int .u8 n] h = some (.bool (p n), h)) {i : Nat} (hi : i ≤ s.size) (h : AHeap) :
    call Try.prog Ms (d + 1) 51 [.string s, .int .i64 (i : Int), .func (.func g) #[] #[]] h = some (.int .i64 (endOf p s i : Nat), h) := by
  rw [c51, e51]
  exact run_loop hs hg h _ i d rfl hi (by omega)
end Go.Proofs.Ytadmoackacickaa
/- Words. -/
set_option linter.unusedSimpArgs false
namespace Go.Proofs.Ytadmoackacickaa
open Go Go.AH

theorem cond_twice {α : Type} (b : Bool) (x y z : α) : (bif b then (bif b then x else y) else z) = bif b then x else z := by cases b <;> rfl
theorem cond_or (b c : Bool) (h : AHeap) : (bif b then some (Value.bool true, h) else some (Value.bool c, h)) = some (Value.bool (b || c), h) := by cases b <;> rfl
def wordsL : List ByteArray := [⟨#[108, 111, 99, 97, 108]⟩, ⟨#[102, 110]⟩, ⟨#[105, 102]⟩, ⟨#[101, 108, 115, 101]⟩, ⟨#[119, 104, 105, 108, 101]⟩, ⟨#[114, 101, 116, 117, 114, 110]⟩, ⟨#[116, 114, 117, 101]⟩, ⟨#[102, 97, 108, 115, 101]⟩, ⟨#[110, 105, 108]⟩, ⟨#[97, 110, 100]⟩, ⟨#[111, 114]⟩, ⟨#[110, 111, 116]⟩]
def isWd (t : ByteArray) : Bool := wordsL.any fun w => t.toList == w.toList
theorem l93 (d : Nat) (t : ByteArray) (h : AHeap) : call Try.prog Ms (d + 1) 93 [.string t] h = some (.bool (isWd t), h) := by
  rw [c93, e93]
  simp only [cond_twice]
  simp only [cond_or]
  simp only [isWd, wordsL, List.any_cons, List.any_nil]

theorem in_loop {d N : Nat} {t : ByteArray} {h : AHeap} {i : Nat} {ws : List ByteArray} (hr : Row h i (ws.map Value.string)) (hw : ws.length ≤ 3000) :
    ∀ (n j m : Nat), ws.length - j = n → j ≤ ws.length → n < m →
      s118_0 hk0 (call Try.prog Ms d) N m (slc i 0 ws.length) t (j : Int) h = some (.bool ((ws.drop j).any fun w => w.toList == t.toList), h) := by
  intro n
  induction n with
  | zero =>
    intro j m hn hj hm
    obtain ⟨m, rfl⟩ : ∃ k, m = k + 1 := ⟨m - 1, by omega⟩
    have : ¬ ((j : Int) < (ws.length : Int)) := by omega
    rw [s118_0_eq, List.drop_eq_nil_of_le (by omega)]
    simp [aLen, slc, asI, this]
  | succ n ih =>
    intro j m hn hj hm
    obtain ⟨m, rfl⟩ : ∃ k, m = k + 1 := ⟨m - 1, by omega⟩
    have hlt : j < ws.length := by omega
    have hI : (j : Int) < (ws.length : Int) := by omega
    have hix : aIdx (slc i 0 ws.length) (.int .i64 (j : Int)) 1 = some (ptr i j) := by simp [aIdx, slc, hlt]
    have hld : aLd1 h (ptr i j) = some (.string ws[j]) := hr.ld1 (by simp [hlt])
    have hlen : aLen (slc i 0 ws.length) = some (.int .i64 ws.length) := rfl
    rw [s118_0_eq]
    simp only [hlen, Option.bind_some, asI, if_true, hI, decide_true, cond_true, hix, hld, asS]
    rw [List.drop_eq_getElem_cons hlt, List.any_cons]
    cases hb : (ws[j].toList == t.toList) with
    | true => simp
    | false =>
      rw [cond_false, wr (by omega) (by omega), Bool.false_or]
      exact ih (j + 1) m (by omega) (by omega) (by omega)
theorem l88 {d : Nat} (hd : 3000 < d) (t : ByteArray) (h : AHeap) : ∃ h', call Try.prog Ms (d + 2) 88 [.string t] h = some (.bool (isWd t), h') ∧ Ext h.size h h' := by
  refine ⟨h.new 9 (wordsL.map Value.string), ?_, Ext.new (Nat.le_refl _) _ _⟩
  rw [c88, e88, c143, e143]
  simp only [aNewS, Option.bind_some]
  rw [c118, e118]
  have := in_loop (d := d) (N := d) (t := t) (h := h.new 9 (wordsL.map Value.string)) (i := h.size) (ws := wordsL) (Own.new (b := h.size) (Nat.le_refl _) _ _).row (by decide) _ 0 d rfl (by decide) (by simp [wordsL]; omega)
  have e : (ptr h.size 0, h) = (ptr h.size 0, h) := rfl
  rw [show (slc h.size 0 12) = slc h.size 0 wordsL.length from rfl]
  erw [this]
  simp only [Option.bind_some, asB, List.drop_zero]
  congr 3
  simp only [isWd]
  congr 1
  funext w
  exact Bool.beq_comm ..
end Go.Proofs.Ytadmoackacickaa
/- Tokens. -/
set_option linter.unusedSimpArgs false
namespace Go.Proofs.Ytadmoackacickaa
open Go Go.AH

structure Tok where
  k : Int
  at' : Int
  text : ByteArray
  i : Int
def Tok.cells (t : Tok) : List Value := [.int .i64 t.k, .int .i64 t.at', .string t.text, .int .i64 t.i]
def Tok.val (t : Tok) : Value := .agg t.cells.toArray
theorem Tok.aCells (t : Tok) : aCells t.val = some t.cells := rfl
theorem ld_at {h : AHeap} {i : Nat} {t : Tok} (r : Row h i t.cells) :
    aLd1 h (ptr i 0) = some (.int .i64 t.k) ∧ aLd1 h (ptr i 1) = some (.int .i64 t.at') ∧ aLd1 h (ptr i 2) = some (.string t.text) ∧ aLd1 h (ptr i 3) = some (.int .i64 t.i) :=
  ⟨r.ld1 rfl, r.ld1 rfl, r.ld1 rfl, r.ld1 rfl⟩
theorem aOff_ptr (i o n : Nat) : aOff (ptr i o) n = some (ptr i (o + n)) := rfl
end Go.Proofs.Ytadmoackacickaa
/- Slices of tokens. -/
set_option linter.unusedSimpArgs false
namespace Go.Proofs.Ytadmoackacickaa
open Go Go.AH

def flat (ts : List Tok) : List Value := (ts.map Tok.cells).flatten
theorem flat_len : ∀ ts : List Tok, (flat ts).length = ts.length * 4
  | [] => rfl
  | t :: ts => by
    have := flat_len ts
    simp only [flat, List.map_cons, List.flatten_cons, List.length_append, List.length_cons] at *
    simp only [Tok.cells, List.length_cons, List.length_nil] at *
    omega
theorem flat_at : ∀ (ts : List Tok) (j : Nat) (hj : j < ts.length), ((flat ts).drop (j * 4)).take 4 = ts[j].cells
  | t :: ts, 0, _ => by simp [flat, Tok.cells]
  | t :: ts, j + 1, hj => by
    have := flat_at ts j (by simpa using hj)
    rw [show (j + 1) * 4 = 4 + j * 4 by omega, ← List.drop_drop]
    simpa [flat, Tok.cells] using this
end Go.Proofs.Ytadmoackacickaa
/- Marks. -/
set_option linter.unusedSimpArgs false
namespace Go.Proofs.Ytadmoackacickaa
open Go Go.AH

def dig (x : Int) : ByteArray := ⟨#[UInt8.ofNat (IntKind.u8.wrap (IntKind.i64.wrap (48 + Int.tmod x 10))).toNat]⟩
def mtGo : Nat → Int → ByteArray → ByteArray
  | 0, _, t => t
  | f + 1, x, t => if x > 0 then mtGo f (IntKind.i64.wrap (Int.tdiv x 10)) (dig x ++ t) else (⟨#[109]⟩ : ByteArray) ++ t
def markT (x : Int) : ByteArray := if x ≤ 0 then ⟨#[109, 48]⟩ else mtGo 19 x ⟨#[]⟩
theorem size_dig (x : Int) (t : ByteArray) : (dig x ++ t).size = t.size + 1 := by
  rw [ByteArray.size_append]; show 1 + t.size = _; omega
theorem mt_loop {d N : Nat} : ∀ (f m : Nat) (x : Int) (t : ByteArray) (h : AHeap), x < 10 ^ f → f ≤ 18 → t.size + f ≤ 100 → f < m →
    ∃ h', s55_0 hk0 (call Try.prog Ms d) N m x t h = some (.string (mtGo (f + 1) x t), h') ∧ Ext h.size h h' := by
  intro f
  induction f with
  | zero =>
    intro m x t h hx _ ht hm
    obtain ⟨m, rfl⟩ : ∃ k, m = k + 1 := ⟨m - 1, by omega⟩
    have hx' : ¬ x > 0 := by simp at hx; omega
    have hz : (⟨#[109]⟩ : ByteArray).size + t.size ≤ most := by show 1 + t.size ≤ 140737488355328; omega
    refine ⟨h, ?_, Ext.refl _ _⟩
    rw [s55_0_eq]
    simp only [hx', decide_false, cond_false, aBin, hz, if_true, Option.bind_some, asS, mtGo, if_false]
  | succ f ih =>
    intro m x t h hx hf ht hm
    obtain ⟨m, rfl⟩ : ∃ k, m = k + 1 := ⟨m - 1, by omega⟩
    rw [s55_0_eq]
    by_cases hx' : x > 0
    · have e1 := Ext.new (Nat.le_refl h.size) 5 [Value.int .u8 (IntKind.u8.wrap (IntKind.i64.wrap (48 + Int.tmod x 10)))]
      have r1 := (Own.new (b := h.size) (Nat.le_refl _) 5 [Value.int .u8 (IntKind.u8.wrap (IntKind.i64.wrap (48 + Int.tmod x 10)))]).row
      have hz : (dig x).size + t.size ≤ most := by show 1 + t.size ≤ 140737488355328; omega
      have hcv : aCvStr (h.new 5 [Value.int .u8 (IntKind.u8.wrap (IntKind.i64.wrap (48 + Int.tmod x 10)))]) (slc h.size 0 1) = some (.string (dig x)) := by
        simp [aCvStr, slc, r1.rd (off := 0) (n := 1) (by simp), bytesOf, dig]
      have hdv : IntKind.i64.wrap (Int.tdiv x 10) = x / 10 := by
        rw [Int.tdiv_eq_ediv_of_nonneg (by omega)]
        have : x < 10 ^ 18 := Int.lt_of_lt_of_le hx (by exact_mod_cast Nat.pow_le_pow_right (by omega) (by omega))
        simp [IntKind.wrap, IntKind.bits, IntKind.signed]; omega
      obtain ⟨h2, hr, he⟩ := ih m (IntKind.i64.wrap (Int.tdiv x 10)) (dig x ++ t) (h.new 5 [Value.int .u8 (IntKind.u8.wrap (IntKind.i64.wrap (48 + Int.tmod x 10)))]) (by
        rw [hdv]; rw [Int.pow_succ] at hx; omega) (by omega) (by rw [size_dig]; omega) (by omega)
      refine ⟨h2, ?_, e1.trans (he.mono (by simp [AHeap.new]))⟩
      simp only [hx', decide_true, cond_true, aNewS, hcv, Option.bind_some, asS, aBin, hz, if_true]
      have e : mtGo (f + 1 + 1) x t = mtGo (f + 1) (IntKind.i64.wrap (Int.tdiv x 10)) (dig x ++ t) := by rw [mtGo, if_pos hx']
      rw [hr, e]
    · have hz : (⟨#[109]⟩ : ByteArray).size + t.size ≤ most := by show 1 + t.size ≤ 140737488355328; omega
      refine ⟨h, ?_, Ext.refl _ _⟩
      simp only [hx', decide_false, cond_false, aBin, hz, if_true, Option.bind_some, asS]
      rw [mtGo, if_neg hx']
theorem l55 {d : Nat} (hd : 3000 < d) {x : Int} (hx : x < 10 ^ 18) (h : AHeap) : ∃ h', call Try.prog Ms (d + 1) 55 [.int .i64 x] h = some (.string (markT x), h') ∧ Ext h.size h h' := by
  rw [c55, e55]
  by_cases h0 : x ≤ 0
  · exact ⟨h, by simp [h0, markT], Ext.refl _ _⟩
  · obtain ⟨h', hr, he⟩ := mt_loop (d := d) (N := d) 18 d x ⟨#[]⟩ h hx (by omega) (by decide) (by omega)
    refine ⟨h', ?_, he⟩
    simp only [h0, decide_false, cond_false, markT, if_false]
    exact hr
end Go.Proofs.Ytadmoackacickaa
/- Tokens are marked; marks are held. -/
set_option linter.unusedSimpArgs false
namespace Go.Proofs.Ytadmoackacickaa
open Go Go.AH

/-- A slice of tokens that may be written. -/
def OS (b : Nat) (h : AHeap) (v : Value) (ts : List Tok) : Prop := (v = .slice none 0 0 ∧ ts = []) ∨ ∃ i, v = slc i 0 ts.length ∧ Own b h i 53 (flat ts)
end Go.Proofs.Ytadmoackacickaa
/- Marks are held. -/
set_option linter.unusedSimpArgs false
namespace Go.Proofs.Ytadmoackacickaa
open Go Go.AH

theorem vbeq_str (t : ByteArray) : vbeq (.string t) (.string t) = true := by
  simp [vbeq, vbeq1, BEq.beq, ByteArray.beq]
  exact Array.isEqv_self _
end Go.Proofs.Ytadmoackacickaa
/- Numbers. -/
set_option linter.unusedSimpArgs false
namespace Go.Proofs.Ytadmoackacickaa
open Go Go.AH

def numGo (s : ByteArray) : Nat → Nat → Int → Int
  | 0, _, n => n
  | f + 1, i, n => numGo s f (i + 1) (IntKind.i64.wrap ((IntKind.i64.wrap (10 * n)) + (IntKind.i64.wrap (IntKind.u8.wrap (bt s i - 48)))))
/-- A token in memory of its own. -/
def TB (b : Nat) (h : AHeap) (i : Nat) (t : Tok) : Prop := Own b h i 53 t.cells
theorem TB.new (h : AHeap) (t : Tok) : TB h.size (h.new 53 t.cells) h.size t := Own.new (Nat.le_refl _) _ _
theorem TB.row {b : Nat} {h : AHeap} {i : Nat} {t : Tok} (x : TB b h i t) : Row h i t.cells := Own.row x
theorem TB.ext {b c : Nat} {h h' : AHeap} {i : Nat} {t : Tok} (x : TB b h i t) (y : Ext c h h') (hi : i < c) : TB b h' i t := Own.ext x y hi
theorem TB.stAll {b : Nat} {h : AHeap} {i : Nat} {t : Tok} (x : TB b h i t) (u : Tok) : ∃ h', aSt h (ptr i 0) u.val 4 = some h' ∧ Ext b h h' ∧ TB b h' i u := by
  obtain ⟨h', h1, h2, h3, _, _⟩ := Own.st (off := 0) (n := 4) x u.aCells rfl (Nat.le_refl _)
  exact ⟨h', h1, h2, h3⟩
theorem TB.ldAll {h : AHeap} {i : Nat} {t : Tok} (x : Row h i t.cells) : aLdN h (ptr i 0) 4 = some t.val := x.ldN (off := 0) (n := 4) (Nat.le_refl _)
theorem TB.stK {b : Nat} {h : AHeap} {i : Nat} {t : Tok} (x : TB b h i t) (v : Int) : ∃ h', aSt h (ptr i 0) (.int .i64 v) 1 = some h' ∧ Ext b h h' ∧ TB b h' i { t with k := v } := by
  obtain ⟨h', h1, h2, h3, _, _⟩ := Own.st (off := 0) (n := 1) (v := .int .i64 v) x rfl rfl (by show 0 + 1 ≤ 4; omega)
  exact ⟨h', h1, h2, h3⟩
theorem TB.stT {b : Nat} {h : AHeap} {i : Nat} {t : Tok} (x : TB b h i t) (v : ByteArray) : ∃ h', aSt h (ptr i 2) (.string v) 1 = some h' ∧ Ext b h h' ∧ TB b h' i { t with text := v } := by
  obtain ⟨h', h1, h2, h3, _, _⟩ := Own.st (off := 2) (n := 1) (v := .string v) x rfl rfl (by show 2 + 1 ≤ 4; omega)
  exact ⟨h', h1, h2, h3⟩
theorem TB.stI {b : Nat} {h : AHeap} {i : Nat} {t : Tok} (x : TB b h i t) (v : Int) : ∃ h', aSt h (ptr i 3) (.int .i64 v) 1 = some h' ∧ Ext b h h' ∧ TB b h' i { t with i := v } := by
  obtain ⟨h', h1, h2, h3, _, _⟩ := Own.st (off := 3) (n := 1) (v := .int .i64 v) x rfl rfl (by show 3 + 1 ≤ 4; omega)
  exact ⟨h', h1, h2, h3⟩
theorem isS2_tok (t : Tok) : isS2 t.val = true := rfl
/-- impl's loop over the digits: what was told lies in p; out it goes through q. -/
theorem num95 {d N q p e b c : Nat} {s : ByteArray} (hs : s.size ≤ 3000) (he : e ≤ s.size) : ∀ (n i m : Nat) (t u : Tok) (h : AHeap), e - i = n → i ≤ e → n < m → TB b h p t → TB c h q u → q < b → c ≤ b →
    ∃ h', s95_1 hk0 (call Try.prog Ms d) N m s (ptr q 0) (e : Int) (ptr p 0) (i : Int) h = some (.tuple (List.toArray [({ t with i := numGo s n i t.i } : Tok).val, .int .i64 0]), h') ∧ Ext c h h' := by
  intro n
  induction n with
  | zero =>
    intro i m t u h hn hi hm tp tq hqb hcb
    obtain ⟨m, rfl⟩ : ∃ k, m = k + 1 := ⟨m - 1, by omega⟩
    have : ¬ ((i : Int) < (e : Int)) := by omega
    obtain ⟨h1, s1, x1, t1⟩ := tq.stAll t
    refine ⟨h1, ?_, x1⟩
    rw [s95_1_eq]
    simp only [this, decide_false, cond_false, TB.ldAll tp.row, Option.bind_some, s1, TB.ldAll t1.row, List.all_cons, isS2_tok, numGo]
    rfl
  | succ n ih =>
    intro i m t u h hn hi hm tp tq hqb hcb
    obtain ⟨m, rfl⟩ : ∃ k, m = k + 1 := ⟨m - 1, by omega⟩
    have hI : (i : Int) < (e : Int) := by omega
    obtain ⟨_, _, _, a3⟩ := ld_at tp.row
    obtain ⟨h1, s1, x1, t1⟩ := tp.stI (IntKind.i64.wrap ((IntKind.i64.wrap (10 * t.i)) + (IntKind.i64.wrap (IntKind.u8.wrap (bt s i - 48)))))
    obtain ⟨h2, r, x2⟩ := ih (i + 1) m _ u h1 (by omega) (by omega) (by omega) t1 (tq.ext x1 hqb) hqb hcb
    refine ⟨h2, ?_, (x1.mono hcb).trans x2⟩
    have wj : IntKind.i64.wrap ((i : Int) + 1) = ((i + 1 : Nat) : Int) := by rw [wr (by omega) (by omega)]; omega
    rw [s95_1_eq]
    simp only [hI, decide_true, cond_true, aOff_ptr, Nat.zero_add, a3, Option.bind_some, asI, if_true, strIx (show i < s.size by omega), s1, wj, r, numGo]
end Go.Proofs.Ytadmoackacickaa
/- impl's number. -/
set_option linter.unusedSimpArgs false
namespace Go.Proofs.Ytadmoackacickaa
open Go Go.AH

def tok0 : Tok := ⟨0, 0, ⟨#[]⟩, 0⟩
def numBad (s : ByteArray) (i : Nat) : Bool :=
  let e := endOf isDig s i
  decide (e - i > 15) || (decide (e - i > 1) && bt s i == 48) || (decide (e < s.size) && isLet (bt s e))
def numTok (s : ByteArray) (i : Nat) : Tok := ⟨3, i, s.extract i (endOf isDig s i), numGo s (endOf isDig s i - i) i 0⟩
theorem subS {s : ByteArray} {i e : Nat} (h1 : i ≤ e) (h2 : e ≤ s.size) : aSubS (.string s) (some (.int .i64 (i : Int))) (some (.int .i64 (e : Int))) = some (.string (s.extract i e)) := by
  have : ((e : Int) ≤ (s.size : Int)) := by omega
  simp [aSubS, aBound, h1, h2]
theorem l95 {d : Nat} (hd : 3010 < d) {s : ByteArray} (hs : s.size ≤ 3000) {i : Nat} (hi : i < s.size) (h : AHeap) :
    ∃ h', call Try.prog Ms (d + 2) 95 [.string s, .int .i64 (i : Int)] h = some (.tuple (List.toArray [(if numBad s i then tok0 else numTok s i).val, .int .i64 (if numBad s i then 3 else 0)]), h') ∧ Ext h.size h h' := by
  have hbd := endOf_bd (p := isDig) (s := s) _ i rfl (by omega)
  generalize he : endOf isDig s i = e at hbd
  obtain ⟨hb1, hb2⟩ := hbd
  have x1 := Ext.new (Nat.le_refl h.size) 53 tok0.cells
  have q1 := TB.new h tok0
  have x2 := Ext.new (Nat.le_refl (h.new 53 tok0.cells).size) 53 tok0.cells
  have p1 := TB.new (h.new 53 tok0.cells) tok0
  obtain ⟨h3, s3, x3, p3⟩ := p1.stAll ⟨3, i, s.extract i e, 0⟩
  have q3 := (q1.ext x2 (by simp [AHeap.new])).ext x3 (by simp [AHeap.new])
  have l51' := l51 (d := d) (g := 94) (p := isDig) hs (by omega) (fun n h => by obtain ⟨d, rfl⟩ : ∃ k, d = k + 1 := ⟨d - 1, by omega⟩; exact l94 d n h) (i := i) (by omega) (h.new 53 tok0.cells)
  rw [he] at l51'
  obtain ⟨h4, s4, x4, q4⟩ := q3.stAll tok0
  have hsz : h.size + 1 = (h.new 53 tok0.cells).size := rfl
  have X3 : Ext h.size h h3 := x1.trans ((x2.mono (by omega)).trans (x3.mono (by omega)))
  have hw : IntKind.i64.wrap ((e : Int) - (i : Int)) = (e : Int) - (i : Int) := wr (by omega) (by omega)
  have hz : ([Value.int .i64 0, .int .i64 0, .string ⟨#[]⟩, .int .i64 0] : List Value) = tok0.cells := rfl
  have hz2 : (Value.agg (List.toArray [Value.int .i64 0, .int .i64 0, .string ⟨#[]⟩, .int .i64 0])) = tok0.val := rfl
  have hz3 : (Value.agg (List.toArray [Value.int .i64 3, .int .i64 (i : Int), .string (s.extract i e), .int .i64 0])) = (⟨3, i, s.extract i e, 0⟩ : Tok).val := rfl
  have s4' : aSt h3 (ptr h.size 0) (.agg tok0.cells.toArray) 4 = some h4 := s4
  have l4 : aLdN h4 (ptr h.size 0) 4 = some tok0.val := TB.ldAll q4.row
  obtain ⟨h5, r5, x5⟩ := num95 (d := d + 1) (N := d + 1) (q := h.size) (p := (h.new 53 tok0.cells).size) hs hb2 (e - i) i (d + 1) _ tok0 h3 rfl (by omega) (by omega) p3 q3 (by omega) (by omega)
  have good : s95_0 hk0 (call Try.prog Ms (d + 1)) (d + 1) s (i : Int) (ptr h.size 0) (e : Int) (ptr (h.new 53 tok0.cells).size 0) h3 = some (.tuple (List.toArray [(numTok s i).val, .int .i64 0]), h5) := by
    rw [s95_0_j, s95_0_eq, r5]; unfold numTok; rw [he]
  rw [c95, e95]
  simp only [aNew, hz, hz2, l51', Option.bind_some, asI, if_true, subS hb1 hb2, asS, hz3, s3, hw]
  have l92' : ∀ (n : Int) (h : AHeap), call Try.prog Ms (d + 1) 92 [.int .u8 n] h = some (.bool (isLet n), h) := l92 d
  have a3 : ∀ t : Tok, List.all [t.val, .int .i64 3] isS2 = true := fun _ => rfl
  simp only [s4', l4, good, l92', Option.bind_some, asB, a3, cond_true]
  unfold numBad
  simp only [he]
  have c1 : decide ((e : Int) - (i : Int) > 15) = decide (e - i > 15) := by simp; omega
  have c2 : decide ((e : Int) - (i : Int) > 1) = decide (e - i > 1) := by simp; omega
  have c3 : decide ((e : Int) < (s.size : Int)) = decide (e < s.size) := by simp
  rw [c1, c2, c3, strIx hi]
  generalize decide (e - i > 15) = b1
  generalize decide (e - i > 1) = b2
  simp only [Option.bind_some, if_true]
  generalize (bt s i == 48) = b3
  have B := X3.trans x4
  have G := X3.trans x5
  by_cases hlt : e < s.size
  · simp only [hlt, decide_true, cond_true, strIx hlt, Option.bind_some, if_true]
    generalize isLet (bt s e) = b4
    cases b1 <;> cases b2 <;> cases b3 <;> cases b4 <;> first | exact ⟨h4, rfl, B⟩ | exact ⟨h5, rfl, G⟩
  · simp only [hlt, decide_false, cond_false]
    cases b1 <;> cases b2 <;> cases b3 <;> first | exact ⟨h4, rfl, B⟩ | exact ⟨h5, rfl, G⟩
end Go.Proofs.Ytadmoackacickaa
/- The tokens of a text, plainly: marks. -/
set_option linter.unusedSimpArgs false
namespace Go.Proofs.Ytadmoackacickaa
open Go Go.AH

theorem ext1 {s : ByteArray} {i : Nat} (h : i < s.size) : (s.extract i (i + 1)).toList = [s.data[i]'h] := by
  rw [ByteArray.toList_eq, ByteArray.data_extract]
  have h' : i < s.data.size := h
  apply List.ext_getElem
  · simp; omega
  · intro n h1 h2
    simp at h2
    subst h2
    simp
theorem ext2 {s : ByteArray} {i : Nat} (h : i + 1 < s.size) : (s.extract i (i + 2)).toList = [s.data[i]'(Nat.lt_of_succ_lt h), s.data[i + 1]'h] := by
  rw [ByteArray.toList_eq, ByteArray.data_extract]
  have h' : i + 1 < s.data.size := h
  apply List.ext_getElem
  · simp; omega
  · intro n h1 h2
    simp at h2
    match n, h2 with
    | 0, _ => simp
    | 1, _ => simp
def hitM (s : ByteArray) (i : Nat) (m : ByteArray) : Bool := decide (i + m.size ≤ s.size) && (s.extract i (i + m.size)).toList == m.toList
theorem bt_eq {s : ByteArray} {i : Nat} (h : i < s.size) (c : UInt8) : (s.data[i]'h == c) = (bt s i == (c.toNat : Int)) := by
  have h2 : s.data[i]? = some (s.data[i]'h) := Array.getElem?_eq_getElem (by exact h)
  simp only [bt, h2, Option.getD_some]
  rw [Bool.eq_iff_iff, beq_iff_eq, beq_iff_eq]
  exact ⟨fun e => by rw [e], fun e => UInt8.toNat_inj.1 (Int.ofNat.inj e)⟩
theorem hit1 {s : ByteArray} {i : Nat} (h : i < s.size) (c : UInt8) : hitM s i ⟨#[c]⟩ = (bt s i == (c.toNat : Int)) := by
  have e : (⟨#[c]⟩ : ByteArray).size = 1 := rfl
  unfold hitM
  rw [e, ext1 h, ByteArray.toList_eq, ← bt_eq h]
  have : i + 1 ≤ s.size := h
  simp [this]
theorem hit2 {s : ByteArray} {i : Nat} (h : i + 1 < s.size) (c c' : UInt8) : hitM s i ⟨#[c, c']⟩ = (bt s i == (c.toNat : Int) && bt s (i + 1) == (c'.toNat : Int)) := by
  have e : (⟨#[c, c']⟩ : ByteArray).size = 2 := rfl
  unfold hitM
  rw [e, ext2 h, ByteArray.toList_eq, ← bt_eq h, ← bt_eq (Nat.lt_of_succ_lt h)]
  have : i + 2 ≤ s.size := h
  simp [this]
theorem hit2' {s : ByteArray} {i : Nat} (h : ¬ i + 1 < s.size) (c c' : UInt8) : hitM s i ⟨#[c, c']⟩ = false := by
  have e : (⟨#[c, c']⟩ : ByteArray).size = 2 := rfl
  unfold hitM
  rw [e]
  have : ¬ (i + 2 ≤ s.size) := by omega
  simp [this]
theorem hit_ext {s m : ByteArray} {i : Nat} (h : hitM s i m = true) : s.extract i (i + m.size) = m := by
  unfold hitM at h
  simp only [Bool.and_eq_true, beq_iff_eq, ByteArray.toList_eq] at h
  exact ByteArray.ext (Array.toList_inj.1 h.2)
def marksL : List ByteArray := [⟨#[123]⟩, ⟨#[125]⟩, ⟨#[40]⟩, ⟨#[41]⟩, ⟨#[91]⟩, ⟨#[93]⟩, ⟨#[59]⟩, ⟨#[44]⟩, ⟨#[46, 46]⟩, ⟨#[46]⟩, ⟨#[61, 61]⟩, ⟨#[61]⟩, ⟨#[126, 61]⟩, ⟨#[60, 61]⟩, ⟨#[60]⟩, ⟨#[43]⟩, ⟨#[45]⟩, ⟨#[42]⟩, ⟨#[47]⟩, ⟨#[37]⟩, ⟨#[35]⟩]
def markOf (s : ByteArray) (i : Nat) : Option ByteArray := marksL.find? (hitM s i)
theorem size2 (a b : UInt8) : (⟨#[a, b]⟩ : ByteArray).size = 2 := rfl
def ofMark (i : Nat) : Option ByteArray → Tok × Nat × Nat
  | some m => (⟨5, i, m, 0⟩, 0, i + m.size)
  | none => (tok0, 2, 0)
/-- A token at a byte, its code, its end. -/
def tokR (s : ByteArray) (i : Nat) : Tok × Nat × Nat :=
  if isLet (bt s i) = true then
    if isWd (s.extract i (endOf isLet s i)) = true then (⟨2, i, s.extract i (endOf isLet s i), 0⟩, 0, endOf isLet s i)
    else if endOf isLet s i - i > 12 then (tok0, 4, 0)
    else (⟨1, i, s.extract i (endOf isLet s i), 0⟩, 0, endOf isLet s i)
  else if isDig (bt s i) = true then
    if numBad s i = true then (tok0, 3, 0) else (numTok s i, 0, endOf isDig s i)
  else if bt s i = 34 then
    if endOf isPln s (i + 1) ≥ s.size ∨ bt s (endOf isPln s (i + 1)) ≠ 34 ∨ endOf isPln s (i + 1) - i - 1 > 160 then (tok0, 5, 0)
    else (⟨4, i, s.extract (i + 1) (endOf isPln s (i + 1)), 0⟩, 0, endOf isPln s (i + 1) + 1)
  else ofMark i (markOf s i)
def lexGo (s : ByteArray) : Nat → Nat → List Tok → List Tok × Nat × Nat
  | 0, _, acc => (acc, 0, 0)
  | f + 1, i, acc =>
    if s.size ≤ i then (acc, 0, 0)
    else if bt s i = 9 ∨ bt s i = 10 ∨ bt s i = 32 then lexGo s f (i + 1) acc
    else if bt s i = 45 ∧ i + 1 < s.size ∧ bt s (i + 1) = 45 then lexGo s f (endOf (fun b => b != 10) s i) acc
    else if (tokR s i).2.1 ≠ 0 then ([], (tokR s i).2.1, i)
    else lexGo s f (tokR s i).2.2 (acc ++ [(tokR s i).1])
end Go.Proofs.Ytadmoackacickaa
/- impl's token: the ends of its walks. -/
set_option linter.unusedSimpArgs false
namespace Go.Proofs.Ytadmoackacickaa
open Go Go.AH

theorem ret53 {b : Nat} {h : AHeap} {p : Nat} {t : Tok} (x : TB b h p t) (u : Tok) (n c : Int) : ∃ h', ((aSt h (ptr p 0) (.agg (List.toArray [.int .i64 u.k, .int .i64 u.at', .string u.text, .int .i64 u.i])) 4).bind fun h1 => (aLdN h1 (ptr p 0) 4).bind fun v =>
    bif List.all [v, .int .i64 n, .int .i64 c] isS2 then some (Value.tuple (List.toArray [v, .int .i64 n, .int .i64 c]), h1) else none) = some (.tuple (List.toArray [u.val, .int .i64 n, .int .i64 c]), h') ∧ Ext b h h' := by
  obtain ⟨h1, s1, x1, t1⟩ := x.stAll u
  refine ⟨h1, ?_, x1⟩
  have s1' : aSt h (ptr p 0) (.agg (List.toArray [.int .i64 u.k, .int .i64 u.at', .string u.text, .int .i64 u.i])) 4 = some h1 := s1
  rw [s1', Option.bind_some, TB.ldAll t1.row, Option.bind_some]; rfl
theorem r53_3 {C : ACall} {N b p : Nat} {h : AHeap} {t : Tok} (x : TB b h p t) : ∃ h', s53_3 hk0 C N (ptr p 0) h = some (.tuple (List.toArray [tok0.val, .int .i64 0, .int .i64 2]), h') ∧ Ext b h h' := by
  rw [s53_3_j, s53_3_eq]; exact ret53 x tok0 0 2
theorem r53_1 {C : ACall} {N b p i e : Nat} {s : ByteArray} {h : AHeap} {t : Tok} (x : TB b h p t) (h1 : i + 1 ≤ e) (h2 : e ≤ s.size) (hs : s.size ≤ 3000) :
    ∃ h', s53_1 hk0 C N s (i : Int) (ptr p 0) (e : Int) h = some (.tuple (List.toArray [(⟨4, i, s.extract (i + 1) e, 0⟩ : Tok).val, .int .i64 ((e + 1 : Nat) - (i : Int)), .int .i64 0]), h') ∧ Ext b h h' := by
  have w1 : IntKind.i64.wrap ((i : Int) + 1) = ((i + 1 : Nat) : Int) := by rw [wr (by omega) (by omega)]; omega
  have w2 : IntKind.i64.wrap ((e : Int) + 1) = ((e + 1 : Nat) : Int) := by rw [wr (by omega) (by omega)]; omega
  have w3 : IntKind.i64.wrap (((e + 1 : Nat) : Int) - (i : Int)) = ((e + 1 : Nat) : Int) - (i : Int) := wr (by omega) (by omega)
  rw [s53_1_j, s53_1_eq, w1, w2, w3, subS h1 h2]
  simp only [Option.bind_some, asS]
  exact ret53 x ⟨4, i, s.extract (i + 1) e, 0⟩ _ 0
theorem TB.stOther {b c : Nat} {h : AHeap} {p q : Nat} {t u : Tok} (x : TB b h p t) (y : TB c h q u) (hpc : p < c) (v : Tok) :
    ∃ h', aSt h (ptr p 0) v.val 4 = some h' ∧ Ext b h h' ∧ TB b h' p v ∧ Row h' q u.cells := by
  obtain ⟨h', h1, h2, h3, _, k⟩ := Own.st (off := 0) (n := 4) x v.aCells rfl (Nat.le_refl _)
  refine ⟨h', h1, h2, h3, k q _ y.row (fun o ho ⟨_, oi, hoi, hr⟩ => ?_) (by have := Own.lt y; omega)⟩
  obtain ⟨r, ep, hq, hr2⟩ := y
  rw [hq] at ho
  cases ho
  have := (at?_obj hoi).2.2.1
  simp only at hr
  omega
theorem r53_0 {C : ACall} {N b c p q : Nat} {h : AHeap} {t u : Tok} (x : TB b h p t) (y : TB c h q u) (hpc : p < c) :
    ∃ h', s53_0 hk0 C N (ptr p 0) (ptr q 0) h = some (.tuple (List.toArray [u.val, .int .i64 u.text.size, .int .i64 0]), h') ∧ Ext b h h' := by
  obtain ⟨h1, s1, x1, t1, k⟩ := x.stOther y hpc u
  refine ⟨h1, ?_, x1⟩
  obtain ⟨_, _, a2, _⟩ := ld_at y.row
  obtain ⟨_, _, b2, _⟩ := ld_at k
  rw [s53_0_j, s53_0_eq]
  simp only [TB.ldAll y.row, aOff_ptr, Nat.zero_add, a2, b2, s1, Option.bind_some, asS, vbeq_str, cond_true, TB.ldAll t1.row]
  rfl
theorem cond_orr {α : Type} (b c : Bool) (x y : α) : (bif b then x else (bif c then x else y)) = bif b || c then x else y := by cases b <;> rfl
def oneM (x : Int) : Bool := [123, 125, 40, 41, 91, 93, 59, 44, 46, 61, 60, 43, 45, 42, 47, 37, 35].any fun y => x == y
theorem r53_2 {C : ACall} {N b p i : Nat} {x7 : Int} {s : ByteArray} {h : AHeap} {t : Tok} (x : TB b h p t) (h2 : i < s.size) (hs : s.size ≤ 3000) :
    ∃ h', s53_2 hk0 C N s (i : Int) (ptr p 0) x7 h = some (.tuple (List.toArray [(if oneM x7 then ⟨5, i, s.extract i (i + 1), 0⟩ else tok0 : Tok).val, .int .i64 (if oneM x7 then 1 else 0), .int .i64 (if oneM x7 then 0 else 2)]), h') ∧ Ext b h h' := by
  have w1 : IntKind.i64.wrap ((i : Int) + 1) = ((i + 1 : Nat) : Int) := by rw [wr (by omega) (by omega)]; omega
  obtain ⟨h3, e3, x3⟩ := r53_3 (C := C) (N := N) x
  obtain ⟨h4, e4, x4⟩ := ret53 x ⟨5, i, s.extract i (i + 1), 0⟩ 1 0
  rw [s53_2_j, s53_2_eq, w1, subS (Nat.le_succ i) h2]
  simp only [Option.bind_some, asS, e3]
  simp only [e4]
  simp only [cond_twice, cond_orr]
  cases hb : oneM x7 with
  | true =>
    refine ⟨h4, ?_, x4⟩
    simp only [oneM, List.any_cons, List.any_nil, Bool.or_false] at hb
    rw [hb]; rfl
  | false =>
    refine ⟨h3, ?_, x3⟩
    simp only [oneM, List.any_cons, List.any_nil, Bool.or_false] at hb
    rw [hb]; rfl
end Go.Proofs.Ytadmoackacickaa
