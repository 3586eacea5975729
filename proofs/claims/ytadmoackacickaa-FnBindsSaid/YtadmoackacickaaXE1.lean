import Derived.Test.YtadmoackacickaaXMs
import Derived.KernelRfl
import Derived.Test.YtadmoackacickaaProg
set_option linter.unusedVariables false
namespace Go.Proofs.Ytadmoackacickaa
open Go Go.AH
/-! 87 loop.example/g00101/spec.l8Letter -/
theorem e87 (hk : Hk (Value × AHeap)) (C : ACall) (N : Nat) (x0 : Int) (h : AHeap) : evFn hk Try.prog C M87 N Try.f87 [.int .u8 x0] h =
    bif decide (x0 ≥ 97) then bif decide (x0 ≤ 122) then some (.bool true, h) else bif decide (x0 ≥ 65) then some (.bool (decide (x0 ≤ 90)), h) else some (.bool false, h) else bif decide (x0 ≥ 65) then some (.bool (decide (x0 ≤ 90)), h) else some (.bool false, h) := by kernel_rfl
theorem c87 (d : Nat) (args : List Value) (h : AHeap) : call Try.prog Ms (d + 1) 87 args h = evFn hk0 Try.prog (call Try.prog Ms d) M87 d Try.f87 args h := by kernel_rfl

/-! 88 loop.example/g00101/spec.IsWord -/
theorem e88 (hk : Hk (Value × AHeap)) (C : ACall) (N : Nat) (x0 : ByteArray) (h : AHeap) : evFn hk Try.prog C M88 N Try.f88 [.string x0] h =
    (C 143 [] h).bind fun r1 => (C 118 [r1.1, .string x0] r1.2).bind fun r2 => (asB r2.1).bind fun b3 => some (.bool b3, r2.2) := by kernel_rfl
theorem c88 (d : Nat) (args : List Value) (h : AHeap) : call Try.prog Ms (d + 1) 88 args h = evFn hk0 Try.prog (call Try.prog Ms d) M88 d Try.f88 args h := by kernel_rfl

/-! 89 loop.example/g00101/spec.l8Digit -/
theorem e89 (hk : Hk (Value × AHeap)) (C : ACall) (N : Nat) (x0 : Int) (h : AHeap) : evFn hk Try.prog C M89 N Try.f89 [.int .u8 x0] h =
    bif decide (x0 ≥ 48) then some (.bool (decide (x0 ≤ 57)), h) else some (.bool false, h) := by kernel_rfl
theorem c89 (d : Nat) (args : List Value) (h : AHeap) : call Try.prog Ms (d + 1) 89 args h = evFn hk0 Try.prog (call Try.prog Ms d) M89 d Try.f89 args h := by kernel_rfl

/-! 90 loop.example/g00101/spec.l8Plain -/
theorem e90 (hk : Hk (Value × AHeap)) (C : ACall) (N : Nat) (x0 : Int) (h : AHeap) : evFn hk Try.prog C M90 N Try.f90 [.int .u8 x0] h =
    bif decide (x0 ≥ 32) then bif decide (x0 ≤ 126) then some (.bool (x0 != 34), h) else some (.bool false, h) else some (.bool false, h) := by kernel_rfl
theorem c90 (d : Nat) (args : List Value) (h : AHeap) : call Try.prog Ms (d + 1) 90 args h = evFn hk0 Try.prog (call Try.prog Ms d) M90 d Try.f90 args h := by kernel_rfl

/-! 91 loop.example/g00101/spec.l8Marks -/
theorem e91 (hk : Hk (Value × AHeap)) (C : ACall) (N : Nat) (h : AHeap) : evFn hk Try.prog C M91 N Try.f91 [] h =
    aNewS h 9 [.string (⟨#[123]⟩), .string (⟨#[125]⟩), .string (⟨#[40]⟩), .string (⟨#[41]⟩), .string (⟨#[91]⟩), .string (⟨#[93]⟩), .string (⟨#[59]⟩), .string (⟨#[44]⟩), .string (⟨#[46, 46]⟩), .string (⟨#[46]⟩), .string (⟨#[61, 61]⟩), .string (⟨#[61]⟩), .string (⟨#[126, 61]⟩), .string (⟨#[60, 61]⟩), .string (⟨#[60]⟩), .string (⟨#[43]⟩), .string (⟨#[45]⟩), .string (⟨#[42]⟩), .string (⟨#[47]⟩), .string (⟨#[37]⟩), .string (⟨#[35]⟩)] 21 fun p1 h2 => some (p1, h2) := by kernel_rfl
theorem c91 (d : Nat) (args : List Value) (h : AHeap) : call Try.prog Ms (d + 1) 91 args h = evFn hk0 Try.prog (call Try.prog Ms d) M91 d Try.f91 args h := by kernel_rfl

/-! 92 loop.example/g00101/impl.isLetter -/
theorem e92 (hk : Hk (Value × AHeap)) (C : ACall) (N : Nat) (x0 : Int) (h : AHeap) : evFn hk Try.prog C M92 N Try.f92 [.int .u8 x0] h =
    bif decide (x0 ≥ 97) then bif decide (x0 ≤ 122) then some (.bool true, h) else bif decide (x0 ≥ 65) then some (.bool (decide (x0 ≤ 90)), h) else some (.bool false, h) else bif decide (x0 ≥ 65) then some (.bool (decide (x0 ≤ 90)), h) else some (.bool false, h) := by kernel_rfl
theorem c92 (d : Nat) (args : List Value) (h : AHeap) : call Try.prog Ms (d + 1) 92 args h = evFn hk0 Try.prog (call Try.prog Ms d) M92 d Try.f92 args h := by kernel_rfl

/-! 93 loop.example/g00101/impl.IsWord -/
theorem e93 (hk : Hk (Value × AHeap)) (C : ACall) (N : Nat) (x0 : ByteArray) (h : AHeap) : evFn hk Try.prog C M93 N Try.f93 [.string x0] h =
    bif x0.toList == (⟨#[108, 111, 99, 97, 108]⟩ : ByteArray).toList then bif x0.toList == (⟨#[108, 111, 99, 97, 108]⟩ : ByteArray).toList then some (.bool true, h) else some (.bool false, h) else bif x0.toList == (⟨#[102, 110]⟩ : ByteArray).toList then bif x0.toList == (⟨#[102, 110]⟩ : ByteArray).toList then some (.bool true, h) else some (.bool false, h) else bif x0.toList == (⟨#[105, 102]⟩ : ByteArray).toList then bif x0.toList == (⟨#[105, 102]⟩ : ByteArray).toList then some (.bool true, h) else some (.bool false, h) else bif x0.toList == (⟨#[101, 108, 115, 101]⟩ : ByteArray).toList then bif x0.toList == (⟨#[101, 108, 115, 101]⟩ : ByteArray).toList then some (.bool true, h) else some (.bool false, h) else bif x0.toList == (⟨#[119, 104, 105, 108, 101]⟩ : ByteArray).toList then bif x0.toList == (⟨#[119, 104, 105, 108, 101]⟩ : ByteArray).toList then some (.bool true, h) else some (.bool false, h) else bif x0.toList == (⟨#[114, 101, 116, 117, 114, 110]⟩ : ByteArray).toList then bif x0.toList == (⟨#[114, 101, 116, 117, 114, 110]⟩ : ByteArray).toList then some (.bool true, h) else some (.bool false, h) else bif x0.toList == (⟨#[116, 114, 117, 101]⟩ : ByteArray).toList then bif x0.toList == (⟨#[116, 114, 117, 101]⟩ : ByteArray).toList then some (.bool true, h) else some (.bool false, h) else bif x0.toList == (⟨#[102, 97, 108, 115, 101]⟩ : ByteArray).toList then bif x0.toList == (⟨#[102, 97, 108, 115, 101]⟩ : ByteArray).toList then some (.bool true, h) else some (.bool false, h) else bif x0.toList == (⟨#[110, 105, 108]⟩ : ByteArray).toList then bif x0.toList == (⟨#[110, 105, 108]⟩ : ByteArray).toList then some (.bool true, h) else some (.bool false, h) else bif x0.toList == (⟨#[97, 110, 100]⟩ : ByteArray).toList then bif x0.toList == (⟨#[97, 110, 100]⟩ : ByteArray).toList then some (.bool true, h) else some (.bool false, h) else bif x0.toList == (⟨#[111, 114]⟩ : ByteArray).toList then bif x0.toList == (⟨#[111, 114]⟩ : ByteArray).toList then some (.bool true, h) else some (.bool false, h) else bif x0.toList == (⟨#[110, 111, 116]⟩ : ByteArray).toList then some (.bool true, h) else some (.bool false, h) := by kernel_rfl
theorem c93 (d : Nat) (args : List Value) (h : AHeap) : call Try.prog Ms (d + 1) 93 args h = evFn hk0 Try.prog (call Try.prog Ms d) M93 d Try.f93 args h := by kernel_rfl

/-! 94 loop.example/g00101/impl.isDigit -/
theorem e94 (hk : Hk (Value × AHeap)) (C : ACall) (N : Nat) (x0 : Int) (h : AHeap) : evFn hk Try.prog C M94 N Try.f94 [.int .u8 x0] h =
    bif decide (x0 ≥ 48) then some (.bool (decide (x0 ≤ 57)), h) else some (.bool false, h) := by kernel_rfl
theorem c94 (d : Nat) (args : List Value) (h : AHeap) : call Try.prog Ms (d + 1) 94 args h = evFn hk0 Try.prog (call Try.prog Ms d) M94 d Try.f94 args h := by kernel_rfl

/-! 95 loop.example/g00101/impl.lexNumber -/
noncomputable def F95_0 (hk : Hk (Value × AHeap)) (C : ACall) (N : Nat) : Nx (Value × AHeap) := evSt hk Try.prog C M95 N Try.f95 [1, 1, 1, 1] []
noncomputable def s95_0 (hk : Hk (Value × AHeap)) (C : ACall) (N : Nat) (x0 : ByteArray) (x1 : Int) (x4 : Value) (x6 : Int) (x7 : Value) (h : AHeap) := hk 5 (⟨64, [(0, .string x0), (1, .int .i64 x1), (4, x4), (6, .int .i64 x6), (7, x7)]⟩) h (F95_0 hk C N)
noncomputable def F95_1 (hk : Hk (Value × AHeap)) (C : ACall) (N : Nat) (n1 : Nat) : Nx (Value × AHeap) := evSt hk Try.prog C M95 N Try.f95 [1, 1, 1, 1, 0, 1, 2, 6] [n1]
noncomputable def s95_1 (hk : Hk (Value × AHeap)) (C : ACall) (N : Nat) (n1 : Nat) (x0 : ByteArray) (x4 : Value) (x6 : Int) (x7 : Value) (x8 : Int) (h : AHeap) := F95_1 hk C N n1 (⟨64, [(0, .string x0), (4, x4), (6, .int .i64 x6), (7, x7), (8, .int .i64 x8)]⟩) h
theorem e95 (hk : Hk (Value × AHeap)) (C : ACall) (N : Nat) (x0 : ByteArray) (x1 : Int) (h : AHeap) : evFn hk Try.prog C M95 N Try.f95 [.string x0, .int .i64 x1] h =
    aNew h 53 [.int .i64 0, .int .i64 0, .string ⟨#[]⟩, .int .i64 0] fun p1 h2 => (C 51 [.string x0, .int .i64 x1, (.func (.func 94) #[] #[])] h2).bind fun r3 => (asI .i64 r3.1).bind fun n4 => (aSubS (.string x0) (some (.int .i64 x1)) (some (.int .i64 n4))).bind fun v5 => (asS v5).bind fun t6 => aNew r3.2 53 [.int .i64 0, .int .i64 0, .string ⟨#[]⟩, .int .i64 0] fun p7 h8 => (aSt h8 p7 (.agg (List.toArray [.int .i64 3, .int .i64 x1, .string t6, .int .i64 0])) 4).bind fun h9 => bif decide ((IntKind.i64.wrap (n4 - x1)) > 15) then (aSt h9 p1 (.agg (List.toArray [.int .i64 0, .int .i64 0, .string ⟨#[]⟩, .int .i64 0])) 4).bind fun h10 => (aLdN h10 p1 4).bind fun v11 => bif List.all [v11, .int .i64 3] isS2 then some (.tuple (List.toArray [v11, .int .i64 3]), h10) else none else bif decide ((IntKind.i64.wrap (n4 - x1)) > 1) then (aStrIx (.string x0) (.int .i64 x1)).bind fun v12 => (asI .u8 v12).bind fun n13 => bif n13 == 48 then (aSt h9 p1 (.agg (List.toArray [.int .i64 0, .int .i64 0, .string ⟨#[]⟩, .int .i64 0])) 4).bind fun h14 => (aLdN h14 p1 4).bind fun v15 => bif List.all [v15, .int .i64 3] isS2 then some (.tuple (List.toArray [v15, .int .i64 3]), h14) else none else bif decide (n4 < (ByteArray.size x0 : Int)) then (aStrIx (.string x0) (.int .i64 n4)).bind fun v16 => (asI .u8 v16).bind fun n17 => (C 92 [.int .u8 n17] h9).bind fun r18 => (asB r18.1).bind fun b19 => bif b19 then (aSt r18.2 p1 (.agg (List.toArray [.int .i64 0, .int .i64 0, .string ⟨#[]⟩, .int .i64 0])) 4).bind fun h20 => (aLdN h20 p1 4).bind fun v21 => bif List.all [v21, .int .i64 3] isS2 then some (.tuple (List.toArray [v21, .int .i64 3]), h20) else none else s95_0 hk C N x0 x1 p1 n4 p7 r18.2 else s95_0 hk C N x0 x1 p1 n4 p7 h9 else bif decide (n4 < (ByteArray.size x0 : Int)) then (aStrIx (.string x0) (.int .i64 n4)).bind fun v22 => (asI .u8 v22).bind fun n23 => (C 92 [.int .u8 n23] h9).bind fun r24 => (asB r24.1).bind fun b25 => bif b25 then (aSt r24.2 p1 (.agg (List.toArray [.int .i64 0, .int .i64 0, .string ⟨#[]⟩, .int .i64 0])) 4).bind fun h26 => (aLdN h26 p1 4).bind fun v27 => bif List.all [v27, .int .i64 3] isS2 then some (.tuple (List.toArray [v27, .int .i64 3]), h26) else none else s95_0 hk C N x0 x1 p1 n4 p7 r24.2 else s95_0 hk C N x0 x1 p1 n4 p7 h9 := by kernel_rfl
theorem s95_0_j (C : ACall) (N : Nat) (x0 : ByteArray) (x1 : Int) (x4 : Value) (x6 : Int) (x7 : Value) (h : AHeap) : s95_0 hk0 C N x0 x1 x4 x6 x7 h = F95_0 hk0 C N (⟨64, [(0, .string x0), (1, .int .i64 x1), (4, x4), (6, .int .i64 x6), (7, x7)]⟩) h := by delta s95_0; exact hk0_app _ _ _ _
theorem s95_0_eq (hk : Hk (Value × AHeap)) (C : ACall) (N : Nat) (x0 : ByteArray) (x1 : Int) (x4 : Value) (x6 : Int) (x7 : Value) (h : AHeap) : F95_0 hk C N (⟨64, [(0, .string x0), (1, .int .i64 x1), (4, x4), (6, .int .i64 x6), (7, x7)]⟩) h =
    s95_1 hk C N N x0 x4 x6 x7 x1 h := by kernel_rfl
theorem s95_1_eq (hk : Hk (Value × AHeap)) (C : ACall) (N : Nat) (n1 : Nat) (x0 : ByteArray) (x4 : Value) (x6 : Int) (x7 : Value) (x8 : Int) (h : AHeap) : s95_1 hk C N (n1 + 1) x0 x4 x6 x7 x8 h =
    bif decide (x8 < x6) then (aOff x7 3).bind fun v28 => (aLd1 h v28).bind fun v29 => (asI .i64 v29).bind fun n30 => (aStrIx (.string x0) (.int .i64 x8)).bind fun v31 => (asI .u8 v31).bind fun n32 => (aOff x7 3).bind fun v33 => (aSt h v33 (.int .i64 (IntKind.i64.wrap ((IntKind.i64.wrap (10 * n30)) + (IntKind.i64.wrap (IntKind.u8.wrap (n32 - 48)))))) 1).bind fun h34 => s95_1 hk C N n1 x0 x4 x6 x7 (IntKind.i64.wrap (x8 + 1)) h34 else (aLdN h x7 4).bind fun v35 => (aSt h x4 v35 4).bind fun h36 => (aLdN h36 x4 4).bind fun v37 => bif List.all [v37, .int .i64 0] isS2 then some (.tuple (List.toArray [v37, .int .i64 0]), h36) else none := by kernel_rfl
theorem c95 (d : Nat) (args : List Value) (h : AHeap) : call Try.prog Ms (d + 1) 95 args h = evFn hk0 Try.prog (call Try.prog Ms d) M95 d Try.f95 args h := by kernel_rfl

/-! 96 loop.example/g00101/impl.isPlain -/
theorem e96 (hk : Hk (Value × AHeap)) (C : ACall) (N : Nat) (x0 : Int) (h : AHeap) : evFn hk Try.prog C M96 N Try.f96 [.int .u8 x0] h =
    bif decide (x0 ≥ 32) then bif decide (x0 ≤ 126) then some (.bool (x0 != 34), h) else some (.bool false, h) else some (.bool false, h) := by kernel_rfl
theorem c96 (d : Nat) (args : List Value) (h : AHeap) : call Try.prog Ms (d + 1) 96 args h = evFn hk0 Try.prog (call Try.prog Ms d) M96 d Try.f96 args h := by kernel_rfl

/-! 118 loop.example/g00101/spec.l8In -/
noncomputable def F118_0 (hk : Hk (Value × AHeap)) (C : ACall) (N : Nat) (n1 : Nat) : Nx (Value × AHeap) := evSt hk Try.prog C M118 N Try.f118 [1, 0, 1, 2, 6] [n1]
noncomputable def s118_0 (hk : Hk (Value × AHeap)) (C : ACall) (N : Nat) (n1 : Nat) (x0 : Value) (x1 : ByteArray) (x5 : Int) (h : AHeap) := F118_0 hk C N n1 (⟨18, [(0, x0), (1, .string x1), (5, .int .i64 x5)]⟩) h
theorem e118 (hk : Hk (Value × AHeap)) (C : ACall) (N : Nat) (x0 : Value) (x1 : ByteArray) (h : AHeap) : evFn hk Try.prog C M118 N Try.f118 [x0, .string x1] h =
    s118_0 hk C N N x0 x1 0 h := by kernel_rfl
theorem s118_0_eq (hk : Hk (Value × AHeap)) (C : ACall) (N : Nat) (n1 : Nat) (x0 : Value) (x1 : ByteArray) (x5 : Int) (h : AHeap) : s118_0 hk C N (n1 + 1) x0 x1 x5 h =
    (aLen x0).bind fun v1 => (asI .i64 v1).bind fun n2 => bif decide (x5 < n2) then (aIdx x0 (.int .i64 x5) 1).bind fun v3 => (aLd1 h v3).bind fun v4 => (asS v4).bind fun t5 => bif t5.toList == x1.toList then some (.bool true, h) else s118_0 hk C N n1 x0 x1 (IntKind.i64.wrap (x5 + 1)) h else some (.bool false, h) := by kernel_rfl
theorem c118 (d : Nat) (args : List Value) (h : AHeap) : call Try.prog Ms (d + 1) 118 args h = evFn hk0 Try.prog (call Try.prog Ms d) M118 d Try.f118 args h := by kernel_rfl

/-! 143 loop.example/g00101/spec.l8Words -/
theorem e143 (hk : Hk (Value × AHeap)) (C : ACall) (N : Nat) (h : AHeap) : evFn hk Try.prog C M143 N Try.f143 [] h =
    aNewS h 9 [.string (⟨#[108, 111, 99, 97, 108]⟩), .string (⟨#[102, 110]⟩), .string (⟨#[105, 102]⟩), .string (⟨#[101, 108, 115, 101]⟩), .string (⟨#[119, 104, 105, 108, 101]⟩), .string (⟨#[114, 101, 116, 117, 114, 110]⟩), .string (⟨#[116, 114, 117, 101]⟩), .string (⟨#[102, 97, 108, 115, 101]⟩), .string (⟨#[110, 105, 108]⟩), .string (⟨#[97, 110, 100]⟩), .string (⟨#[111, 114]⟩), .string (⟨#[110, 111, 116]⟩)] 12 fun p1 h2 => some (p1, h2) := by kernel_rfl
theorem c143 (d : Nat) (args : List Value) (h : AHeap) : call Try.prog Ms (d + 1) 143 args h = evFn hk0 Try.prog (call Try.prog Ms d) M143 d Try.f143 args h := by kernel_rfl
end Go.Proofs.Ytadmoackacickaa
