import Derived.Test.YtadmoackacickaaXAD
import Derived.KernelRfl
import Derived.Test.YtadmoackacickaaProg
import Derived.Test.YtadmoackacickaaXAK
set_option linter.unusedVariables false
namespace Go.Proofs.Ytadmoackacickaa
open Go Go.AH
/-! 109 (*loop.example/g00101/impl.parser).want -/
theorem e109 (hk : Hk (Value × AHeap)) (C : ACall) (N : Nat) (x0 : Value) (x1 : ByteArray) (h : AHeap) : evFn hk Try.prog C M109 N Try.f109 [x0, .string x1] h =
    (C 107 [x0, .string x1] h).bind fun r1 => (asB r1.1).bind fun b2 => bif !b2 then (C 156 [x0, .int .i64 2] r1.2).bind fun r3 => some (.tuple (List.toArray []), r3.2) else some (.tuple (List.toArray []), r1.2) := by kernel_rfl
theorem c109 (d : Nat) (args : List Value) (h : AHeap) : call Try.prog Ms (d + 1) 109 args h = evFn hk0 Try.prog (call Try.prog Ms d) M109 d Try.f109 args h := by kernel_rfl

/-! 110 (*loop.example/g00101/impl.parser).whole -/
theorem e110 (hk : Hk (Value × AHeap)) (C : ACall) (N : Nat) (x0 : Value) (h : AHeap) : evFn hk Try.prog C M110 N Try.f110 [x0] h =
    (C 157 [x0] h).bind fun r1 => (C 158 [x0] r1.2).bind fun r2 => (asI .i64 r2.1).bind fun n3 => (aNil x0).bind fun v4 => (aOff v4 3).bind fun v5 => (aLd1 r2.2 v5).bind fun v6 => (asI .i64 v6).bind fun n7 => (aNil x0).bind fun v8 => (aOff v8 3).bind fun v9 => (aSt r2.2 v9 (.int .i64 (IntKind.i64.wrap (n7 - 1))) 1).bind fun h10 => some (.int .i64 n3, h10) := by kernel_rfl
theorem c110 (d : Nat) (args : List Value) (h : AHeap) : call Try.prog Ms (d + 1) 110 args h = evFn hk0 Try.prog (call Try.prog Ms d) M110 d Try.f110 args h := by kernel_rfl

/-! 111 (*loop.example/g00101/impl.parser).block -/
noncomputable def F111_0 (hk : Hk (Value × AHeap)) (C : ACall) (N : Nat) (n1 : Nat) : Nx (Value × AHeap) := evSt hk Try.prog C M111 N Try.f111 [1, 1, 1, 1, 0, 2, 6] [n1]
noncomputable def s111_0 (hk : Hk (Value × AHeap)) (C : ACall) (N : Nat) (n1 : Nat) (x0 : Value) (x3 : Value) (h : AHeap) := F111_0 hk C N n1 (⟨38, [(0, x0), (3, x3)]⟩) h
noncomputable def F111_1 (hk : Hk (Value × AHeap)) (C : ACall) (N : Nat) (n1 : Nat) : Nx (Value × AHeap) := evSt hk Try.prog C M111 N Try.f111 [1, 1, 1, 1, 0, 2, 3, 1] [n1]
noncomputable def s111_1 (hk : Hk (Value × AHeap)) (C : ACall) (N : Nat) (n1 : Nat) (x0 : Value) (x3 : Value) (h : AHeap) := hk 5 (⟨38, [(0, x0), (3, x3)]⟩) h (F111_1 hk C N n1)
theorem e111 (hk : Hk (Value × AHeap)) (C : ACall) (N : Nat) (x0 : Value) (h : AHeap) : evFn hk Try.prog C M111 N Try.f111 [x0] h =
    (C 157 [x0] h).bind fun r1 => (C 109 [x0, .string (⟨#[123]⟩)] r1.2).bind fun r2 => aNewS r2.2 3 [] 0 fun p3 h4 => s111_0 hk C N N x0 p3 h4 := by kernel_rfl
theorem s111_0_eq (hk : Hk (Value × AHeap)) (C : ACall) (N : Nat) (n1 : Nat) (x0 : Value) (x3 : Value) (h : AHeap) : s111_0 hk C N (n1 + 1) x0 x3 h =
    (aNil x0).bind fun v5 => (aOff v5 5).bind fun v6 => (aLd1 h v6).bind fun v7 => (asI .i64 v7).bind fun n8 => bif n8 == 0 then (C 154 [x0, .string (⟨#[125]⟩)] h).bind fun r9 => (asB r9.1).bind fun b10 => bif !b10 then s111_1 hk C N n1 x0 x3 r9.2 else (C 109 [x0, .string (⟨#[125]⟩)] r9.2).bind fun r11 => (aNil x0).bind fun v12 => (aOff v12 3).bind fun v13 => (aLd1 r11.2 v13).bind fun v14 => (asI .i64 v14).bind fun n15 => (aNil x0).bind fun v16 => (aOff v16 3).bind fun v17 => (aSt r11.2 v17 (.int .i64 (IntKind.i64.wrap (n15 - 1))) 1).bind fun h18 => (C 64 [x0, .int .i64 21, .string ⟨#[]⟩, .int .i64 0, x3] h18).bind fun r19 => (asI .i64 r19.1).bind fun n20 => some (.int .i64 n20, r19.2) else (C 109 [x0, .string (⟨#[125]⟩)] h).bind fun r21 => (aNil x0).bind fun v22 => (aOff v22 3).bind fun v23 => (aLd1 r21.2 v23).bind fun v24 => (asI .i64 v24).bind fun n25 => (aNil x0).bind fun v26 => (aOff v26 3).bind fun v27 => (aSt r21.2 v27 (.int .i64 (IntKind.i64.wrap (n25 - 1))) 1).bind fun h28 => (C 64 [x0, .int .i64 21, .string ⟨#[]⟩, .int .i64 0, x3] h28).bind fun r29 => (asI .i64 r29.1).bind fun n30 => some (.int .i64 n30, r29.2) := by kernel_rfl
theorem s111_1_j (C : ACall) (N : Nat) (n1 : Nat) (x0 : Value) (x3 : Value) (h : AHeap) : s111_1 hk0 C N n1 x0 x3 h = F111_1 hk0 C N n1 (⟨38, [(0, x0), (3, x3)]⟩) h := by delta s111_1; exact hk0_app _ _ _ _
theorem s111_1_eq (hk : Hk (Value × AHeap)) (C : ACall) (N : Nat) (n1 : Nat) (x0 : Value) (x3 : Value) (h : AHeap) : F111_1 hk C N n1 (⟨38, [(0, x0), (3, x3)]⟩) h =
    (C 63 [x0] h).bind fun r31 => (asI .i64 r31.1).bind fun n32 => aNewS r31.2 3 [.int .i64 n32] 1 fun p33 h34 => (aApp h34 3 1 8 x3 p33).bind fun r35 => s111_0 hk C N n1 x0 r35.1 r35.2 := by kernel_rfl
theorem c111 (d : Nat) (args : List Value) (h : AHeap) : call Try.prog Ms (d + 1) 111 args h = evFn hk0 Try.prog (call Try.prog Ms d) M111 d Try.f111 args h := by kernel_rfl

/-! 112 (*loop.example/g00101/impl.parser).begun -/
noncomputable def F112_0 (hk : Hk (Value × AHeap)) (C : ACall) (N : Nat) : Nx (Value × AHeap) := evSt hk Try.prog C M112 N Try.f112 [1, 1, 1, 1, 0, 2, 1] []
noncomputable def s112_0 (hk : Hk (Value × AHeap)) (C : ACall) (N : Nat) (x0 : Value) (x3 : Int) (x4 : Value) (x21 : Bool) (h : AHeap) := hk 100006 (⟨95, [(0, x0), (3, .int .i64 x3), (4, x4), (21, .bool x21)]⟩) h (F112_0 hk C N)
noncomputable def F112_1 (hk : Hk (Value × AHeap)) (C : ACall) (N : Nat) : Nx (Value × AHeap) := evSt hk Try.prog C M112 N Try.f112 [1, 1, 1, 1, 0, 2, 1, 5, 1] []
noncomputable def s112_1 (hk : Hk (Value × AHeap)) (C : ACall) (N : Nat) (x0 : Value) (x3 : Int) (x4 : Value) (x33 : Bool) (h : AHeap) := hk 100008 (⟨95, [(0, x0), (3, .int .i64 x3), (4, x4), (33, .bool x33)]⟩) h (F112_1 hk C N)
noncomputable def F112_2 (hk : Hk (Value × AHeap)) (C : ACall) (N : Nat) : Nx (Value × AHeap) := evSt hk Try.prog C M112 N Try.f112 [1, 1, 1, 1, 0, 2, 1, 5, 1, 5, 1] []
noncomputable def s112_2 (hk : Hk (Value × AHeap)) (C : ACall) (N : Nat) (x0 : Value) (x3 : Int) (x4 : Value) (x60 : Bool) (h : AHeap) := hk 100013 (⟨95, [(0, x0), (3, .int .i64 x3), (4, x4), (60, .bool x60)]⟩) h (F112_2 hk C N)
noncomputable def F112_3 (hk : Hk (Value × AHeap)) (C : ACall) (N : Nat) : Nx (Value × AHeap) := evSt hk Try.prog C M112 N Try.f112 [1, 1, 1, 1, 1] []
noncomputable def s112_3 (hk : Hk (Value × AHeap)) (C : ACall) (N : Nat) (x0 : Value) (h : AHeap) := hk 17 (⟨95, [(0, x0)]⟩) h (F112_3 hk C N)
theorem e112 (hk : Hk (Value × AHeap)) (C : ACall) (N : Nat) (x0 : Value) (h : AHeap) : evFn hk Try.prog C M112 N Try.f112 [x0] h =
    (C 110 [x0] h).bind fun r1 => (asI .i64 r1.1).bind fun n2 => (aNil x0).bind fun v3 => (aOff v3 5).bind fun v4 => (aLd1 r1.2 v4).bind fun v5 => (asI .i64 v5).bind fun n6 => bif n6 != 0 then some (.int .i64 0, r1.2) else (aNil x0).bind fun v7 => (aOff v7 4).bind fun v8 => (aLd1 r1.2 v8).bind fun v9 => (aIdx v9 (.int .i64 n2) 4).bind fun v10 => (aLdN r1.2 v10 4).bind fun v11 => aNew r1.2 73 [.int .i64 0, .string ⟨#[]⟩, .int .i64 0, .slice none 0 0] fun p12 h13 => (aSt h13 p12 v11 4).bind fun h14 => (aOff p12 0).bind fun v15 => (aLd1 h14 v15).bind fun v16 => (asI .i64 v16).bind fun n17 => bif n17 == 9 then (C 107 [x0, .string (⟨#[59]⟩)] h14).bind fun r18 => (asB r18.1).bind fun b19 => s112_0 hk C N x0 n2 p12 b19 r18.2 else s112_0 hk C N x0 n2 p12 false h14 := by kernel_rfl
theorem s112_0_j (C : ACall) (N : Nat) (x0 : Value) (x3 : Int) (x4 : Value) (x21 : Bool) (h : AHeap) : s112_0 hk0 C N x0 x3 x4 x21 h = F112_0 hk0 C N (⟨95, [(0, x0), (3, .int .i64 x3), (4, x4), (21, .bool x21)]⟩) h := by delta s112_0; exact hk0_app _ _ _ _
theorem s112_0_eq (hk : Hk (Value × AHeap)) (C : ACall) (N : Nat) (x0 : Value) (x3 : Int) (x4 : Value) (x21 : Bool) (h : AHeap) : F112_0 hk C N (⟨95, [(0, x0), (3, .int .i64 x3), (4, x4), (21, .bool x21)]⟩) h =
    bif x21 then aNewS h 3 [.int .i64 x3] 1 fun p20 h21 => (C 64 [x0, .int .i64 20, .string ⟨#[]⟩, .int .i64 0, p20] h21).bind fun r22 => (asI .i64 r22.1).bind fun n23 => some (.int .i64 n23, r22.2) else (aOff x4 0).bind fun v24 => (aLd1 h v24).bind fun v25 => (asI .i64 v25).bind fun n26 => bif n26 == 5 then (C 107 [x0, .string (⟨#[61]⟩)] h).bind fun r27 => (asB r27.1).bind fun b28 => s112_1 hk C N x0 x3 x4 b28 r27.2 else s112_1 hk C N x0 x3 x4 false h := by kernel_rfl
theorem s112_1_j (C : ACall) (N : Nat) (x0 : Value) (x3 : Int) (x4 : Value) (x33 : Bool) (h : AHeap) : s112_1 hk0 C N x0 x3 x4 x33 h = F112_1 hk0 C N (⟨95, [(0, x0), (3, .int .i64 x3), (4, x4), (33, .bool x33)]⟩) h := by delta s112_1; exact hk0_app _ _ _ _
theorem s112_1_eq (hk : Hk (Value × AHeap)) (C : ACall) (N : Nat) (x0 : Value) (x3 : Int) (x4 : Value) (x33 : Bool) (h : AHeap) : F112_1 hk C N (⟨95, [(0, x0), (3, .int .i64 x3), (4, x4), (33, .bool x33)]⟩) h =
    bif x33 then (aNil x0).bind fun v29 => (aOff v29 4).bind fun v30 => (aLd1 h v30).bind fun v31 => (aSub h 73 v31 none (some (.int .i64 x3)) 4).bind fun v32 => (aNil x0).bind fun v33 => (aOff v33 4).bind fun v34 => (aSt h v34 v32 1).bind fun h35 => (C 110 [x0] h35).bind fun r36 => (asI .i64 r36.1).bind fun n37 => (C 109 [x0, .string (⟨#[59]⟩)] r36.2).bind fun r38 => (aOff x4 1).bind fun v39 => (aLd1 r38.2 v39).bind fun v40 => (asS v40).bind fun t41 => aNewS r38.2 3 [.int .i64 n37] 1 fun p42 h43 => (C 64 [x0, .int .i64 15, .string t41, .int .i64 0, p42] h43).bind fun r44 => (asI .i64 r44.1).bind fun n45 => some (.int .i64 n45, r44.2) else (aOff x4 0).bind fun v46 => (aLd1 h v46).bind fun v47 => (asI .i64 v47).bind fun n48 => bif n48 == 8 then (C 107 [x0, .string (⟨#[61]⟩)] h).bind fun r49 => (asB r49.1).bind fun b50 => s112_2 hk C N x0 x3 x4 b50 r49.2 else s112_2 hk C N x0 x3 x4 false h := by kernel_rfl
theorem s112_2_j (C : ACall) (N : Nat) (x0 : Value) (x3 : Int) (x4 : Value) (x60 : Bool) (h : AHeap) : s112_2 hk0 C N x0 x3 x4 x60 h = F112_2 hk0 C N (⟨95, [(0, x0), (3, .int .i64 x3), (4, x4), (60, .bool x60)]⟩) h := by delta s112_2; exact hk0_app _ _ _ _
theorem s112_2_eq (hk : Hk (Value × AHeap)) (C : ACall) (N : Nat) (x0 : Value) (x3 : Int) (x4 : Value) (x60 : Bool) (h : AHeap) : F112_2 hk C N (⟨95, [(0, x0), (3, .int .i64 x3), (4, x4), (60, .bool x60)]⟩) h =
    bif x60 then (aNil x0).bind fun v51 => (aOff v51 4).bind fun v52 => (aLd1 h v52).bind fun v53 => (aSub h 73 v53 none (some (.int .i64 x3)) 4).bind fun v54 => (aNil x0).bind fun v55 => (aOff v55 4).bind fun v56 => (aSt h v56 v54 1).bind fun h57 => (C 110 [x0] h57).bind fun r58 => (asI .i64 r58.1).bind fun n59 => (C 109 [x0, .string (⟨#[59]⟩)] r58.2).bind fun r60 => (aOff x4 3).bind fun v61 => (aLd1 r60.2 v61).bind fun v62 => (aIdx v62 (.int .i64 0) 1).bind fun v63 => (aLd1 r60.2 v63).bind fun v64 => (asI .i64 v64).bind fun n65 => (aOff x4 3).bind fun v66 => (aLd1 r60.2 v66).bind fun v67 => (aIdx v67 (.int .i64 1) 1).bind fun v68 => (aLd1 r60.2 v68).bind fun v69 => (asI .i64 v69).bind fun n70 => aNewS r60.2 3 [.int .i64 n65, .int .i64 n70, .int .i64 n59] 3 fun p71 h72 => (C 64 [x0, .int .i64 16, .string ⟨#[]⟩, .int .i64 0, p71] h72).bind fun r73 => (asI .i64 r73.1).bind fun n74 => some (.int .i64 n74, r73.2) else s112_3 hk C N x0 h := by kernel_rfl
theorem s112_3_j (C : ACall) (N : Nat) (x0 : Value) (h : AHeap) : s112_3 hk0 C N x0 h = F112_3 hk0 C N (⟨95, [(0, x0)]⟩) h := by delta s112_3; exact hk0_app _ _ _ _
theorem s112_3_eq (hk : Hk (Value × AHeap)) (C : ACall) (N : Nat) (x0 : Value) (h : AHeap) : F112_3 hk C N (⟨95, [(0, x0)]⟩) h =
    (C 156 [x0, .int .i64 2] h).bind fun r75 => some (.int .i64 0, r75.2) := by kernel_rfl
theorem c112 (d : Nat) (args : List Value) (h : AHeap) : call Try.prog Ms (d + 1) 112 args h = evFn hk0 Try.prog (call Try.prog Ms d) M112 d Try.f112 args h := by kernel_rfl

/-! 120 slices.Index[[]string,string] -/
noncomputable def F120_0 (hk : Hk (Value × AHeap)) (C : ACall) (N : Nat) (n1 : Nat) : Nx (Value × AHeap) := evSt hk Try.prog C M120 N Try.f120 [1, 0, 1, 2, 6] [n1]
noncomputable def s120_0 (hk : Hk (Value × AHeap)) (C : ACall) (N : Nat) (n1 : Nat) (x0 : Value) (x1 : ByteArray) (x7 : Int) (x8 : Int) (h : AHeap) := F120_0 hk C N n1 (⟨19, [(0, x0), (1, .string x1), (7, .int .i64 x7), (8, .int .i64 x8)]⟩) h
theorem e120 (hk : Hk (Value × AHeap)) (C : ACall) (N : Nat) (x0 : Value) (x1 : ByteArray) (h : AHeap) : evFn hk Try.prog C M120 N Try.f120 [x0, .string x1] h =
    (aLen x0).bind fun v1 => (asI .i64 v1).bind fun n2 => s120_0 hk C N N x0 x1 n2 0 h := by kernel_rfl
theorem s120_0_eq (hk : Hk (Value × AHeap)) (C : ACall) (N : Nat) (n1 : Nat) (x0 : Value) (x1 : ByteArray) (x7 : Int) (x8 : Int) (h : AHeap) : s120_0 hk C N (n1 + 1) x0 x1 x7 x8 h =
    bif decide (x8 < x7) then (aIdx x0 (.int .i64 x8) 1).bind fun v3 => (aLd1 h v3).bind fun v4 => (asS v4).bind fun t5 => bif x1.toList == t5.toList then some (.int .i64 x8, h) else s120_0 hk C N n1 x0 x1 x7 (IntKind.i64.wrap (x8 + 1)) h else some (.int .i64 (-1), h) := by kernel_rfl
theorem c120 (d : Nat) (args : List Value) (h : AHeap) : call Try.prog Ms (d + 1) 120 args h = evFn hk0 Try.prog (call Try.prog Ms d) M120 d Try.f120 args h := by kernel_rfl

/-! 154 (*loop.example/g00101/impl.parser).is -/
theorem e154 (hk : Hk (Value × AHeap)) (C : ACall) (N : Nat) (x0 : Value) (x1 : ByteArray) (h : AHeap) : evFn hk Try.prog C M154 N Try.f154 [x0, .string x1] h =
    (C 155 [x0] h).bind fun r1 => aNew r1.2 53 [.int .i64 0, .int .i64 0, .string ⟨#[]⟩, .int .i64 0] fun p2 h3 => (aSt h3 p2 r1.1 4).bind fun h4 => (aOff p2 0).bind fun v5 => (aLd1 h4 v5).bind fun v6 => (asI .i64 v6).bind fun n7 => bif n7 == 5 then (aOff p2 2).bind fun v8 => (aLd1 h4 v8).bind fun v9 => (asS v9).bind fun t10 => some (.bool (t10.toList == x1.toList), h4) else (aOff p2 0).bind fun v11 => (aLd1 h4 v11).bind fun v12 => (asI .i64 v12).bind fun n13 => bif n13 == 2 then (aOff p2 2).bind fun v14 => (aLd1 h4 v14).bind fun v15 => (asS v15).bind fun t16 => some (.bool (t16.toList == x1.toList), h4) else some (.bool false, h4) := by kernel_rfl
theorem c154 (d : Nat) (args : List Value) (h : AHeap) : call Try.prog Ms (d + 1) 154 args h = evFn hk0 Try.prog (call Try.prog Ms d) M154 d Try.f154 args h := by kernel_rfl

/-! 155 (*loop.example/g00101/impl.parser).peek -/
noncomputable def F155_0 (hk : Hk (Value × AHeap)) (C : ACall) (N : Nat) : Nx (Value × AHeap) := evSt hk Try.prog C M155 N Try.f155 [1, 0, 1] []
noncomputable def s155_0 (hk : Hk (Value × AHeap)) (C : ACall) (N : Nat) (x0 : Value) (x2 : Value) (x19 : Bool) (h : AHeap) := hk 100002 (⟨35, [(0, x0), (2, x2), (19, .bool x19)]⟩) h (F155_0 hk C N)
noncomputable def F155_1 (hk : Hk (Value × AHeap)) (C : ACall) (N : Nat) : Nx (Value × AHeap) := evSt hk Try.prog C M155 N Try.f155 [1, 1] []
noncomputable def s155_1 (hk : Hk (Value × AHeap)) (C : ACall) (N : Nat) (x0 : Value) (x2 : Value) (h : AHeap) := hk 3 (⟨35, [(0, x0), (2, x2)]⟩) h (F155_1 hk C N)
theorem e155 (hk : Hk (Value × AHeap)) (C : ACall) (N : Nat) (x0 : Value) (h : AHeap) : evFn hk Try.prog C M155 N Try.f155 [x0] h =
    aNew h 53 [.int .i64 0, .int .i64 0, .string ⟨#[]⟩, .int .i64 0] fun p1 h2 => (aNil x0).bind fun v3 => (aOff v3 5).bind fun v4 => (aLd1 h2 v4).bind fun v5 => (asI .i64 v5).bind fun n6 => bif n6 != 0 then s155_0 hk C N x0 p1 true h2 else (aNil x0).bind fun v7 => (aOff v7 1).bind fun v8 => (aLd1 h2 v8).bind fun v9 => (asI .i64 v9).bind fun n10 => (aNil x0).bind fun v11 => (aOff v11 0).bind fun v12 => (aLd1 h2 v12).bind fun v13 => (aLen v13).bind fun v14 => (asI .i64 v14).bind fun n15 => s155_0 hk C N x0 p1 (decide (n10 ≥ n15)) h2 := by kernel_rfl
theorem s155_0_j (C : ACall) (N : Nat) (x0 : Value) (x2 : Value) (x19 : Bool) (h : AHeap) : s155_0 hk0 C N x0 x2 x19 h = F155_0 hk0 C N (⟨35, [(0, x0), (2, x2), (19, .bool x19)]⟩) h := by delta s155_0; exact hk0_app _ _ _ _
theorem s155_0_eq (hk : Hk (Value × AHeap)) (C : ACall) (N : Nat) (x0 : Value) (x2 : Value) (x19 : Bool) (h : AHeap) : F155_0 hk C N (⟨35, [(0, x0), (2, x2), (19, .bool x19)]⟩) h =
    bif x19 then (aNil x0).bind fun v16 => (aOff v16 2).bind fun v17 => (aLd1 h v17).bind fun v18 => (asI .i64 v18).bind fun n19 => (aSt h x2 (.agg (List.toArray [.int .i64 0, .int .i64 n19, .string ⟨#[]⟩, .int .i64 0])) 4).bind fun h20 => (aLdN h20 x2 4).bind fun v21 => some (v21, h20) else s155_1 hk C N x0 x2 h := by kernel_rfl
theorem s155_1_j (C : ACall) (N : Nat) (x0 : Value) (x2 : Value) (h : AHeap) : s155_1 hk0 C N x0 x2 h = F155_1 hk0 C N (⟨35, [(0, x0), (2, x2)]⟩) h := by delta s155_1; exact hk0_app _ _ _ _
theorem s155_1_eq (hk : Hk (Value × AHeap)) (C : ACall) (N : Nat) (x0 : Value) (x2 : Value) (h : AHeap) : F155_1 hk C N (⟨35, [(0, x0), (2, x2)]⟩) h =
    (aNil x0).bind fun v22 => (aOff v22 0).bind fun v23 => (aLd1 h v23).bind fun v24 => (aNil x0).bind fun v25 => (aOff v25 1).bind fun v26 => (aLd1 h v26).bind fun v27 => (asI .i64 v27).bind fun n28 => (aIdx v24 (.int .i64 n28) 4).bind fun v29 => (aLdN h v29 4).bind fun v30 => (aSt h x2 v30 4).bind fun h31 => (aLdN h31 x2 4).bind fun v32 => some (v32, h31) := by kernel_rfl
theorem c155 (d : Nat) (args : List Value) (h : AHeap) : call Try.prog Ms (d + 1) 155 args h = evFn hk0 Try.prog (call Try.prog Ms d) M155 d Try.f155 args h := by kernel_rfl

/-! 156 (*loop.example/g00101/impl.parser).fail -/
theorem e156 (hk : Hk (Value × AHeap)) (C : ACall) (N : Nat) (x0 : Value) (x1 : Int) (h : AHeap) : evFn hk Try.prog C M156 N Try.f156 [x0, .int .i64 x1] h =
    (aNil x0).bind fun v1 => (aOff v1 5).bind fun v2 => (aLd1 h v2).bind fun v3 => (asI .i64 v3).bind fun n4 => bif n4 == 0 then (C 155 [x0] h).bind fun r5 => (aPart r5.1 1 1 false).bind fun v6 => (asI .i64 v6).bind fun n7 => (aNil x0).bind fun v8 => (aOff v8 6).bind fun v9 => (aSt r5.2 v9 (.int .i64 n7) 1).bind fun h10 => (aNil x0).bind fun v11 => (aOff v11 5).bind fun v12 => (aSt h10 v12 (.int .i64 x1) 1).bind fun h13 => some (.tuple (List.toArray []), h13) else some (.tuple (List.toArray []), h) := by kernel_rfl
theorem c156 (d : Nat) (args : List Value) (h : AHeap) : call Try.prog Ms (d + 1) 156 args h = evFn hk0 Try.prog (call Try.prog Ms d) M156 d Try.f156 args h := by kernel_rfl

/-! 157 (*loop.example/g00101/impl.parser).open -/
noncomputable def F157_0 (hk : Hk (Value × AHeap)) (C : ACall) (N : Nat) : Nx (Value × AHeap) := evSt hk Try.prog C M157 N Try.f157 [0, 1] []
noncomputable def s157_0 (hk : Hk (Value × AHeap)) (C : ACall) (N : Nat) (x0 : Value) (x12 : Bool) (h : AHeap) := hk 100001 (⟨22, [(0, x0), (12, .bool x12)]⟩) h (F157_0 hk C N)
noncomputable def F157_1 (hk : Hk (Value × AHeap)) (C : ACall) (N : Nat) : Nx (Value × AHeap) := evSt hk Try.prog C M157 N Try.f157 [1] []
noncomputable def s157_1 (hk : Hk (Value × AHeap)) (C : ACall) (N : Nat) (x0 : Value) (h : AHeap) := hk 2 (⟨22, [(0, x0)]⟩) h (F157_1 hk C N)
theorem e157 (hk : Hk (Value × AHeap)) (C : ACall) (N : Nat) (x0 : Value) (h : AHeap) : evFn hk Try.prog C M157 N Try.f157 [x0] h =
    (C 155 [x0] h).bind fun r1 => (aPart r1.1 0 1 false).bind fun v2 => (asI .i64 v2).bind fun n3 => bif n3 != 0 then (aNil x0).bind fun v4 => (aOff v4 3).bind fun v5 => (aLd1 r1.2 v5).bind fun v6 => (asI .i64 v6).bind fun n7 => s157_0 hk C N x0 (n7 == 30) r1.2 else s157_0 hk C N x0 false r1.2 := by kernel_rfl
theorem s157_0_j (C : ACall) (N : Nat) (x0 : Value) (x12 : Bool) (h : AHeap) : s157_0 hk0 C N x0 x12 h = F157_0 hk0 C N (⟨22, [(0, x0), (12, .bool x12)]⟩) h := by delta s157_0; exact hk0_app _ _ _ _
theorem s157_0_eq (hk : Hk (Value × AHeap)) (C : ACall) (N : Nat) (x0 : Value) (x12 : Bool) (h : AHeap) : F157_0 hk C N (⟨22, [(0, x0), (12, .bool x12)]⟩) h =
    bif x12 then (C 156 [x0, .int .i64 3] h).bind fun r8 => s157_1 hk C N x0 r8.2 else s157_1 hk C N x0 h := by kernel_rfl
theorem s157_1_j (C : ACall) (N : Nat) (x0 : Value) (h : AHeap) : s157_1 hk0 C N x0 h = F157_1 hk0 C N (⟨22, [(0, x0)]⟩) h := by delta s157_1; exact hk0_app _ _ _ _
theorem s157_1_eq (hk : Hk (Value × AHeap)) (C : ACall) (N : Nat) (x0 : Value) (h : AHeap) : F157_1 hk C N (⟨22, [(0, x0)]⟩) h =
    (aNil x0).bind fun v9 => (aOff v9 3).bind fun v10 => (aLd1 h v10).bind fun v11 => (asI .i64 v11).bind fun n12 => (aNil x0).bind fun v13 => (aOff v13 3).bind fun v14 => (aSt h v14 (.int .i64 (IntKind.i64.wrap (n12 + 1))) 1).bind fun h15 => some (.tuple (List.toArray []), h15) := by kernel_rfl
theorem c157 (d : Nat) (args : List Value) (h : AHeap) : call Try.prog Ms (d + 1) 157 args h = evFn hk0 Try.prog (call Try.prog Ms d) M157 d Try.f157 args h := by kernel_rfl

/-! 158 (*loop.example/g00101/impl.parser).or -/
noncomputable def F158_0 (hk : Hk (Value × AHeap)) (C : ACall) (N : Nat) (n1 : Nat) : Nx (Value × AHeap) := evSt hk Try.prog C M158 N Try.f158 [1, 1, 0, 2, 6] [n1]
noncomputable def s158_0 (hk : Hk (Value × AHeap)) (C : ACall) (N : Nat) (n1 : Nat) (x0 : Value) (x3 : Int) (h : AHeap) := F158_0 hk C N n1 (⟨17, [(0, x0), (3, .int .i64 x3)]⟩) h
theorem e158 (hk : Hk (Value × AHeap)) (C : ACall) (N : Nat) (x0 : Value) (h : AHeap) : evFn hk Try.prog C M158 N Try.f158 [x0] h =
    (C 188 [x0] h).bind fun r1 => (asI .i64 r1.1).bind fun n2 => s158_0 hk C N N x0 n2 r1.2 := by kernel_rfl
theorem s158_0_eq (hk : Hk (Value × AHeap)) (C : ACall) (N : Nat) (n1 : Nat) (x0 : Value) (x3 : Int) (h : AHeap) : s158_0 hk C N (n1 + 1) x0 x3 h =
    (C 107 [x0, .string (⟨#[111, 114]⟩)] h).bind fun r3 => (asB r3.1).bind fun b4 => bif b4 then (C 188 [x0] r3.2).bind fun r5 => (asI .i64 r5.1).bind fun n6 => aNewS r5.2 3 [.int .i64 x3, .int .i64 n6] 2 fun p7 h8 => (C 64 [x0, .int .i64 13, .string ⟨#[]⟩, .int .i64 0, p7] h8).bind fun r9 => (asI .i64 r9.1).bind fun n10 => s158_0 hk C N n1 x0 n10 r9.2 else some (.int .i64 x3, r3.2) := by kernel_rfl
theorem c158 (d : Nat) (args : List Value) (h : AHeap) : call Try.prog Ms (d + 1) 158 args h = evFn hk0 Try.prog (call Try.prog Ms d) M158 d Try.f158 args h := by kernel_rfl

/-! 172 loop.example/g00101/impl.opTexts -/
theorem e172 (hk : Hk (Value × AHeap)) (C : ACall) (N : Nat) (h : AHeap) : evFn hk Try.prog C M172 N Try.f172 [] h =
    aNewS h 9 [.string (⟨#[43]⟩), .string (⟨#[45]⟩), .string (⟨#[42]⟩), .string (⟨#[47]⟩), .string (⟨#[37]⟩), .string (⟨#[46, 46]⟩), .string (⟨#[61, 61]⟩), .string (⟨#[126, 61]⟩), .string (⟨#[60]⟩), .string (⟨#[60, 61]⟩)] 10 fun p1 h2 => some (p1, h2) := by kernel_rfl
theorem c172 (d : Nat) (args : List Value) (h : AHeap) : call Try.prog Ms (d + 1) 172 args h = evFn hk0 Try.prog (call Try.prog Ms d) M172 d Try.f172 args h := by kernel_rfl

/-! 188 (*loop.example/g00101/impl.parser).and -/
noncomputable def F188_0 (hk : Hk (Value × AHeap)) (C : ACall) (N : Nat) (n1 : Nat) : Nx (Value × AHeap) := evSt hk Try.prog C M188 N Try.f188 [1, 1, 0, 2, 6] [n1]
noncomputable def s188_0 (hk : Hk (Value × AHeap)) (C : ACall) (N : Nat) (n1 : Nat) (x0 : Value) (x3 : Int) (h : AHeap) := F188_0 hk C N n1 (⟨17, [(0, x0), (3, .int .i64 x3)]⟩) h
theorem e188 (hk : Hk (Value × AHeap)) (C : ACall) (N : Nat) (x0 : Value) (h : AHeap) : evFn hk Try.prog C M188 N Try.f188 [x0] h =
    (C 203 [x0] h).bind fun r1 => (asI .i64 r1.1).bind fun n2 => s188_0 hk C N N x0 n2 r1.2 := by kernel_rfl
theorem s188_0_eq (hk : Hk (Value × AHeap)) (C : ACall) (N : Nat) (n1 : Nat) (x0 : Value) (x3 : Int) (h : AHeap) : s188_0 hk C N (n1 + 1) x0 x3 h =
    (C 107 [x0, .string (⟨#[97, 110, 100]⟩)] h).bind fun r3 => (asB r3.1).bind fun b4 => bif b4 then (C 203 [x0] r3.2).bind fun r5 => (asI .i64 r5.1).bind fun n6 => aNewS r5.2 3 [.int .i64 x3, .int .i64 n6] 2 fun p7 h8 => (C 64 [x0, .int .i64 12, .string ⟨#[]⟩, .int .i64 0, p7] h8).bind fun r9 => (asI .i64 r9.1).bind fun n10 => s188_0 hk C N n1 x0 n10 r9.2 else some (.int .i64 x3, r3.2) := by kernel_rfl
theorem c188 (d : Nat) (args : List Value) (h : AHeap) : call Try.prog Ms (d + 1) 188 args h = evFn hk0 Try.prog (call Try.prog Ms d) M188 d Try.f188 args h := by kernel_rfl
end Go.Proofs.Ytadmoackacickaa
set_option linter.unusedVariables false
namespace Go.Proofs.Ytadmoackacickaa
open Go Go.AH
/-! 74 loop.example/g00101/impl.bound -/
theorem e74 (hk : Hk (Value × AHeap)) (C : ACall) (N : Nat) (x0 : Value) (h : AHeap) : evFn hk Try.prog C M74 N Try.f74 [x0] h =
    (aNil x0).bind fun v1 => (aOff v1 0).bind fun v2 => (aLd1 h v2).bind fun v3 => (aLen v3).bind fun v4 => (asI .i64 v4).bind fun n5 => (aMk h 3 [.int .i64 0] 8 (.int .i64 n5) (.int .i64 n5)).bind fun r6 => (aMk r6.2 4 [.bool false] 1 (.int .i64 n5) (.int .i64 n5)).bind fun r7 => (aMk r7.2 3 [.int .i64 0] 8 (.int .i64 n5) (.int .i64 n5)).bind fun r8 => (aFill [.pointer none, .slice none 0 0, .slice none 0 0, .slice none 0 0, .slice none 0 0] [(0, 1, x0), (1, 1, r6.1), (2, 1, r7.1), (3, 1, r8.1)]).bind fun c9 => (aCells (.agg (List.toArray c9))).bind fun c10 => aNew r8.2 98 c10 fun p11 h12 => (aNil x0).bind fun v13 => (aOff v13 1).bind fun v14 => (aLd1 h12 v14).bind fun v15 => (asI .i64 v15).bind fun n16 => (C 119 [p11, .int .i64 n16, .int .i64 (-1)] h12).bind fun r17 => some (p11, r17.2) := by kernel_rfl
theorem c74 (d : Nat) (args : List Value) (h : AHeap) : call Try.prog Ms (d + 1) 74 args h = evFn hk0 Try.prog (call Try.prog Ms d) M74 d Try.f74 args h := by kernel_rfl

/-! 75 slices.Contains[[]string,string] -/
theorem e75 (hk : Hk (Value × AHeap)) (C : ACall) (N : Nat) (x0 : Value) (x1 : ByteArray) (h : AHeap) : evFn hk Try.prog C M75 N Try.f75 [x0, .string x1] h =
    (C 120 [x0, .string x1] h).bind fun r1 => (asI .i64 r1.1).bind fun n2 => some (.bool (decide (n2 ≥ 0)), r1.2) := by kernel_rfl
theorem c75 (d : Nat) (args : List Value) (h : AHeap) : call Try.prog Ms (d + 1) 75 args h = evFn hk0 Try.prog (call Try.prog Ms d) M75 d Try.f75 args h := by kernel_rfl

/-! 119 (*loop.example/g00101/impl.binder).walk -/
noncomputable def F119_0 (hk : Hk (Value × AHeap)) (C : ACall) (N : Nat) : Nx (Value × AHeap) := evSt hk Try.prog C M119 N Try.f119 [1, 1, 1, 1] []
noncomputable def s119_0 (hk : Hk (Value × AHeap)) (C : ACall) (N : Nat) (x0 : Value) (x1 : Int) (x2 : Int) (x6 : Value) (x7 : Int) (x8 : Int) (h : AHeap) := hk 5 (⟨84, [(0, x0), (1, .int .i64 x1), (2, .int .i64 x2), (6, x6), (7, .int .i64 x7), (8, .int .i64 x8)]⟩) h (F119_0 hk C N)
noncomputable def F119_1 (hk : Hk (Value × AHeap)) (C : ACall) (N : Nat) (n1 : Nat) : Nx (Value × AHeap) := evSt hk Try.prog C M119 N Try.f119 [1, 1, 1, 1, 0, 1, 2, 6] [n1]
noncomputable def s119_1 (hk : Hk (Value × AHeap)) (C : ACall) (N : Nat) (n1 : Nat) (x0 : Value) (x1 : Int) (x2 : Int) (x6 : Value) (x7 : Int) (x8 : Int) (x32 : Value) (x33 : Int) (x34 : Int) (h : AHeap) := F119_1 hk C N n1 (⟨84, [(0, x0), (1, .int .i64 x1), (2, .int .i64 x2), (6, x6), (7, .int .i64 x7), (8, .int .i64 x8), (32, x32), (33, .int .i64 x33), (34, .int .i64 x34)]⟩) h
noncomputable def F119_2 (hk : Hk (Value × AHeap)) (C : ACall) (N : Nat) : Nx (Value × AHeap) := evSt hk Try.prog C M119 N Try.f119 [1, 1, 1, 1, 1, 1, 2, 1] []
noncomputable def s119_2 (hk : Hk (Value × AHeap)) (C : ACall) (N : Nat) (x0 : Value) (x1 : Int) (x2 : Int) (x7 : Int) (x44 : Int) (x45 : Bool) (h : AHeap) := hk 100013 (⟨84, [(0, x0), (1, .int .i64 x1), (2, .int .i64 x2), (7, .int .i64 x7), (44, .int .i64 x44), (45, .bool x45)]⟩) h (F119_2 hk C N)
noncomputable def F119_3 (hk : Hk (Value × AHeap)) (C : ACall) (N : Nat) : Nx (Value × AHeap) := evSt hk Try.prog C M119 N Try.f119 [1, 1, 1, 1, 1, 1, 2, 1, 5, 1] []
noncomputable def s119_3 (hk : Hk (Value × AHeap)) (C : ACall) (N : Nat) (x0 : Value) (x1 : Int) (x2 : Int) (x7 : Int) (x44 : Int) (x52 : Bool) (h : AHeap) := hk 100016 (⟨84, [(0, x0), (1, .int .i64 x1), (2, .int .i64 x2), (7, .int .i64 x7), (44, .int .i64 x44), (52, .bool x52)]⟩) h (F119_3 hk C N)
noncomputable def F119_4 (hk : Hk (Value × AHeap)) (C : ACall) (N : Nat) : Nx (Value × AHeap) := evSt hk Try.prog C M119 N Try.f119 [1, 1, 1, 1, 1, 1, 2, 1, 5, 1, 5, 1] []
noncomputable def s119_4 (hk : Hk (Value × AHeap)) (C : ACall) (N : Nat) (x0 : Value) (x7 : Int) (x72 : Bool) (h : AHeap) := hk 100020 (⟨84, [(0, x0), (7, .int .i64 x7), (72, .bool x72)]⟩) h (F119_4 hk C N)
theorem e119 (hk : Hk (Value × AHeap)) (C : ACall) (N : Nat) (x0 : Value) (x1 : Int) (x2 : Int) (h : AHeap) : evFn hk Try.prog C M119 N Try.f119 [x0, .int .i64 x1, .int .i64 x2] h =
    (aNil x0).bind fun v1 => (aOff v1 0).bind fun v2 => (aLd1 h v2).bind fun v3 => (aNil v3).bind fun v4 => (aOff v4 0).bind fun v5 => (aLd1 h v5).bind fun v6 => (aIdx v6 (.int .i64 x1) 4).bind fun v7 => (aLdN h v7 4).bind fun v8 => aNew h 73 [.int .i64 0, .string ⟨#[]⟩, .int .i64 0, .slice none 0 0] fun p9 h10 => (aSt h10 p9 v8 4).bind fun h11 => (aNil x0).bind fun v12 => (aOff v12 4).bind fun v13 => (aLd1 h11 v13).bind fun v14 => (aLen v14).bind fun v15 => (asI .i64 v15).bind fun n16 => (aOff p9 0).bind fun v17 => (aLd1 h11 v17).bind fun v18 => (asI .i64 v18).bind fun n19 => bif n19 == 6 then s119_0 hk C N x0 x1 x2 p9 n16 x1 h11 else s119_0 hk C N x0 x1 x2 p9 n16 x2 h11 := by kernel_rfl
theorem s119_0_j (C : ACall) (N : Nat) (x0 : Value) (x1 : Int) (x2 : Int) (x6 : Value) (x7 : Int) (x8 : Int) (h : AHeap) : s119_0 hk0 C N x0 x1 x2 x6 x7 x8 h = F119_0 hk0 C N (⟨84, [(0, x0), (1, .int .i64 x1), (2, .int .i64 x2), (6, x6), (7, .int .i64 x7), (8, .int .i64 x8)]⟩) h := by delta s119_0; exact hk0_app _ _ _ _
theorem s119_0_eq (hk : Hk (Value × AHeap)) (C : ACall) (N : Nat) (x0 : Value) (x1 : Int) (x2 : Int) (x6 : Value) (x7 : Int) (x8 : Int) (h : AHeap) : F119_0 hk C N (⟨84, [(0, x0), (1, .int .i64 x1), (2, .int .i64 x2), (6, x6), (7, .int .i64 x7), (8, .int .i64 x8)]⟩) h =
    (aOff x6 3).bind fun v20 => (aLd1 h v20).bind fun v21 => (aLen v21).bind fun v22 => (asI .i64 v22).bind fun n23 => s119_1 hk C N N x0 x1 x2 x6 x7 x8 v21 n23 0 h := by kernel_rfl
theorem s119_1_eq (hk : Hk (Value × AHeap)) (C : ACall) (N : Nat) (n1 : Nat) (x0 : Value) (x1 : Int) (x2 : Int) (x6 : Value) (x7 : Int) (x8 : Int) (x32 : Value) (x33 : Int) (x34 : Int) (h : AHeap) : s119_1 hk C N (n1 + 1) x0 x1 x2 x6 x7 x8 x32 x33 x34 h =
    bif decide (x34 < x33) then (aIdx x32 (.int .i64 x34) 1).bind fun v24 => (aLd1 h v24).bind fun v25 => (asI .i64 v25).bind fun n26 => (C 119 [x0, .int .i64 n26, .int .i64 x8] h).bind fun r27 => s119_1 hk C N n1 x0 x1 x2 x6 x7 x8 x32 x33 (IntKind.i64.wrap (x34 + 1)) r27.2 else (aOff x6 0).bind fun v28 => (aLd1 h v28).bind fun v29 => (asI .i64 v29).bind fun n30 => bif n30 == 5 then s119_2 hk C N x0 x1 x2 x7 n30 (n30 == 5) h else s119_2 hk C N x0 x1 x2 x7 n30 (n30 == 15) h := by kernel_rfl
theorem s119_2_j (C : ACall) (N : Nat) (x0 : Value) (x1 : Int) (x2 : Int) (x7 : Int) (x44 : Int) (x45 : Bool) (h : AHeap) : s119_2 hk0 C N x0 x1 x2 x7 x44 x45 h = F119_2 hk0 C N (⟨84, [(0, x0), (1, .int .i64 x1), (2, .int .i64 x2), (7, .int .i64 x7), (44, .int .i64 x44), (45, .bool x45)]⟩) h := by delta s119_2; exact hk0_app _ _ _ _
theorem s119_2_eq (hk : Hk (Value × AHeap)) (C : ACall) (N : Nat) (x0 : Value) (x1 : Int) (x2 : Int) (x7 : Int) (x44 : Int) (x45 : Bool) (h : AHeap) : F119_2 hk C N (⟨84, [(0, x0), (1, .int .i64 x1), (2, .int .i64 x2), (7, .int .i64 x7), (44, .int .i64 x44), (45, .bool x45)]⟩) h =
    bif x45 then (C 163 [x0, .int .i64 x1, .int .i64 x2] h).bind fun r31 => some (.tuple (List.toArray []), r31.2) else bif x44 == 14 then s119_3 hk C N x0 x1 x2 x7 x44 (x44 == 14) h else s119_3 hk C N x0 x1 x2 x7 x44 (x44 == 22) h := by kernel_rfl
theorem s119_3_j (C : ACall) (N : Nat) (x0 : Value) (x1 : Int) (x2 : Int) (x7 : Int) (x44 : Int) (x52 : Bool) (h : AHeap) : s119_3 hk0 C N x0 x1 x2 x7 x44 x52 h = F119_3 hk0 C N (⟨84, [(0, x0), (1, .int .i64 x1), (2, .int .i64 x2), (7, .int .i64 x7), (44, .int .i64 x44), (52, .bool x52)]⟩) h := by delta s119_3; exact hk0_app _ _ _ _
theorem s119_3_eq (hk : Hk (Value × AHeap)) (C : ACall) (N : Nat) (x0 : Value) (x1 : Int) (x2 : Int) (x7 : Int) (x44 : Int) (x52 : Bool) (h : AHeap) : F119_3 hk C N (⟨84, [(0, x0), (1, .int .i64 x1), (2, .int .i64 x2), (7, .int .i64 x7), (44, .int .i64 x44), (52, .bool x52)]⟩) h =
    bif x52 then (aNil x0).bind fun v32 => (aOff v32 3).bind fun v33 => (aLd1 h v33).bind fun v34 => (aIdx v34 (.int .i64 x1) 1).bind fun v35 => (aSt h v35 (.int .i64 x2) 1).bind fun h36 => (aNil x0).bind fun v37 => (aOff v37 4).bind fun v38 => (aLd1 h36 v38).bind fun v39 => aNewS h36 3 [.int .i64 x1] 1 fun p40 h41 => (aApp h41 3 1 8 v39 p40).bind fun r42 => (aNil x0).bind fun v43 => (aOff v43 4).bind fun v44 => (aSt r42.2 v44 r42.1 1).bind fun h45 => some (.tuple (List.toArray []), h45) else bif x44 == 21 then s119_4 hk C N x0 x7 (x44 == 21) h else s119_4 hk C N x0 x7 (x44 == 6) h := by kernel_rfl
theorem s119_4_j (C : ACall) (N : Nat) (x0 : Value) (x7 : Int) (x72 : Bool) (h : AHeap) : s119_4 hk0 C N x0 x7 x72 h = F119_4 hk0 C N (⟨84, [(0, x0), (7, .int .i64 x7), (72, .bool x72)]⟩) h := by delta s119_4; exact hk0_app _ _ _ _
theorem s119_4_eq (hk : Hk (Value × AHeap)) (C : ACall) (N : Nat) (x0 : Value) (x7 : Int) (x72 : Bool) (h : AHeap) : F119_4 hk C N (⟨84, [(0, x0), (7, .int .i64 x7), (72, .bool x72)]⟩) h =
    bif x72 then (aNil x0).bind fun v46 => (aOff v46 4).bind fun v47 => (aLd1 h v47).bind fun v48 => (aSub h 3 v48 none (some (.int .i64 x7)) 1).bind fun v49 => (aNil x0).bind fun v50 => (aOff v50 4).bind fun v51 => (aSt h v51 v49 1).bind fun h52 => some (.tuple (List.toArray []), h52) else some (.tuple (List.toArray []), h) := by kernel_rfl
theorem c119 (d : Nat) (args : List Value) (h : AHeap) : call Try.prog Ms (d + 1) 119 args h = evFn hk0 Try.prog (call Try.prog Ms d) M119 d Try.f119 args h := by kernel_rfl

/-! 163 (*loop.example/g00101/impl.binder).names -/
noncomputable def F163_0 (hk : Hk (Value × AHeap)) (C : ACall) (N : Nat) (n1 : Nat) : Nx (Value × AHeap) := evSt hk Try.prog C M163 N Try.f163 [1, 1, 2, 6] [n1]
noncomputable def s163_0 (hk : Hk (Value × AHeap)) (C : ACall) (N : Nat) (n1 : Nat) (x0 : Value) (x1 : Int) (x2 : Int) (x6 : Int) (h : AHeap) := F163_0 hk C N n1 (⟨85, [(0, x0), (1, .int .i64 x1), (2, .int .i64 x2), (6, .int .i64 x6)]⟩) h
theorem e163 (hk : Hk (Value × AHeap)) (C : ACall) (N : Nat) (x0 : Value) (x1 : Int) (x2 : Int) (h : AHeap) : evFn hk Try.prog C M163 N Try.f163 [x0, .int .i64 x1, .int .i64 x2] h =
    (aNil x0).bind fun v1 => (aOff v1 1).bind fun v2 => (aLd1 h v2).bind fun v3 => (aIdx v3 (.int .i64 x1) 1).bind fun v4 => (aSt h v4 (.int .i64 (-1)) 1).bind fun h5 => (aNil x0).bind fun v6 => (aOff v6 4).bind fun v7 => (aLd1 h5 v7).bind fun v8 => (aLen v8).bind fun v9 => (asI .i64 v9).bind fun n10 => s163_0 hk C N N x0 x1 x2 (IntKind.i64.wrap (n10 - 1)) h5 := by kernel_rfl
theorem s163_0_eq (hk : Hk (Value × AHeap)) (C : ACall) (N : Nat) (n1 : Nat) (x0 : Value) (x1 : Int) (x2 : Int) (x6 : Int) (h : AHeap) : s163_0 hk C N (n1 + 1) x0 x1 x2 x6 h =
    bif decide (x6 ≥ 0) then (aNil x0).bind fun v11 => (aOff v11 4).bind fun v12 => (aLd1 h v12).bind fun v13 => (aIdx v13 (.int .i64 x6) 1).bind fun v14 => (aLd1 h v14).bind fun v15 => (asI .i64 v15).bind fun n16 => (aNil x0).bind fun v17 => (aOff v17 0).bind fun v18 => (aLd1 h v18).bind fun v19 => (aNil v19).bind fun v20 => (aOff v20 0).bind fun v21 => (aLd1 h v21).bind fun v22 => (aIdx v22 (.int .i64 n16) 4).bind fun v23 => (aOff v23 1).bind fun v24 => (aLd1 h v24).bind fun v25 => (asS v25).bind fun t26 => (aNil x0).bind fun v27 => (aOff v27 0).bind fun v28 => (aLd1 h v28).bind fun v29 => (aNil v29).bind fun v30 => (aOff v30 0).bind fun v31 => (aLd1 h v31).bind fun v32 => (aIdx v32 (.int .i64 x1) 4).bind fun v33 => (aOff v33 1).bind fun v34 => (aLd1 h v34).bind fun v35 => (asS v35).bind fun t36 => bif t26.toList == t36.toList then (aNil x0).bind fun v37 => (aOff v37 1).bind fun v38 => (aLd1 h v38).bind fun v39 => (aIdx v39 (.int .i64 x1) 1).bind fun v40 => (aSt h v40 (.int .i64 n16) 1).bind fun h41 => (aNil x0).bind fun v42 => (aOff v42 2).bind fun v43 => (aLd1 h41 v43).bind fun v44 => (aNil x0).bind fun v45 => (aOff v45 2).bind fun v46 => (aLd1 h41 v46).bind fun v47 => (aIdx v47 (.int .i64 n16) 1).bind fun v48 => (aLd1 h41 v48).bind fun v49 => (asB v49).bind fun b50 => bif b50 then (aIdx v44 (.int .i64 n16) 1).bind fun v51 => (aSt h41 v51 (.bool true) 1).bind fun h52 => some (.tuple (List.toArray []), h52) else (aNil x0).bind fun v53 => (aOff v53 3).bind fun v54 => (aLd1 h41 v54).bind fun v55 => (aIdx v55 (.int .i64 n16) 1).bind fun v56 => (aLd1 h41 v56).bind fun v57 => (asI .i64 v57).bind fun n58 => (aIdx v44 (.int .i64 n16) 1).bind fun v59 => (aSt h41 v59 (.bool (n58 != x2)) 1).bind fun h60 => some (.tuple (List.toArray []), h60) else s163_0 hk C N n1 x0 x1 x2 (IntKind.i64.wrap (x6 - 1)) h else some (.tuple (List.toArray []), h) := by kernel_rfl
theorem c163 (d : Nat) (args : List Value) (h : AHeap) : call Try.prog Ms (d + 1) 163 args h = evFn hk0 Try.prog (call Try.prog Ms d) M163 d Try.f163 args h := by kernel_rfl

/-! 10 loop.example/g00101/laws.FnExactFold -/
noncomputable def F10_0 (hk : Hk (Value × AHeap)) (C : ACall) (N : Nat) : Nx (Value × AHeap) := evSt hk Try.prog C M10 N Try.f10 [1, 1, 1, 1, 1, 1, 1, 0, 1] []
noncomputable def s10_0 (hk : Hk (Value × AHeap)) (C : ACall) (N : Nat) (x1 : Value) (x4 : Value) (x5 : Bool) (x6 : Value) (x7 : Value) (x8 : Bool) (x40 : Bool) (h : AHeap) := hk 100009 (⟨96, [(1, x1), (4, x4), (5, .bool x5), (6, x6), (7, x7), (8, .bool x8), (40, .bool x40)]⟩) h (F10_0 hk C N)
noncomputable def F10_1 (hk : Hk (Value × AHeap)) (C : ACall) (N : Nat) : Nx (Value × AHeap) := evSt hk Try.prog C M10 N Try.f10 [1, 1, 1, 1, 1, 1, 1, 1] []
noncomputable def s10_1 (hk : Hk (Value × AHeap)) (C : ACall) (N : Nat) (x1 : Value) (x4 : Value) (x5 : Bool) (x6 : Value) (x7 : Value) (x8 : Bool) (h : AHeap) := hk 10 (⟨96, [(1, x1), (4, x4), (5, .bool x5), (6, x6), (7, x7), (8, .bool x8)]⟩) h (F10_1 hk C N)
noncomputable def F10_2 (hk : Hk (Value × AHeap)) (C : ACall) (N : Nat) : Nx (Value × AHeap) := evSt hk Try.prog C M10 N Try.f10 [1, 1, 1, 1, 1, 1, 1, 1, 1, 1, 1, 0, 1] []
noncomputable def s10_2 (hk : Hk (Value × AHeap)) (C : ACall) (N : Nat) (x1 : Value) (x4 : Value) (x5 : Bool) (x7 : Value) (x61 : Bool) (h : AHeap) := hk 100015 (⟨96, [(1, x1), (4, x4), (5, .bool x5), (7, x7), (61, .bool x61)]⟩) h (F10_2 hk C N)
noncomputable def F10_3 (hk : Hk (Value × AHeap)) (C : ACall) (N : Nat) : Nx (Value × AHeap) := evSt hk Try.prog C M10 N Try.f10 [1, 1, 1, 1, 1, 1, 1, 1, 1, 1, 1, 1] []
noncomputable def s10_3 (hk : Hk (Value × AHeap)) (C : ACall) (N : Nat) (x1 : Value) (x4 : Value) (x5 : Bool) (x7 : Value) (h : AHeap) := hk 16 (⟨96, [(1, x1), (4, x4), (5, .bool x5), (7, x7)]⟩) h (F10_3 hk C N)
noncomputable def F10_4 (hk : Hk (Value × AHeap)) (C : ACall) (N : Nat) : Nx (Value × AHeap) := evSt hk Try.prog C M10 N Try.f10 [1, 1, 1, 1, 1, 1, 1, 1, 1, 1, 1, 1, 1, 1, 1, 1, 1, 1, 1, 0, 1] []
noncomputable def s10_4 (hk : Hk (Value × AHeap)) (C : ACall) (N : Nat) (x7 : Value) (x10 : Int) (x87 : Bool) (h : AHeap) := hk 100026 (⟨96, [(7, x7), (10, .int .i64 x10), (87, .bool x87)]⟩) h (F10_4 hk C N)
noncomputable def F10_5 (hk : Hk (Value × AHeap)) (C : ACall) (N : Nat) : Nx (Value × AHeap) := evSt hk Try.prog C M10 N Try.f10 [1, 1, 1, 1, 1, 1, 1, 1, 1, 1, 1, 1, 1, 1, 1, 1, 1, 1, 1, 1] []
noncomputable def s10_5 (hk : Hk (Value × AHeap)) (C : ACall) (N : Nat) (x7 : Value) (x10 : Int) (h : AHeap) := hk 27 (⟨96, [(7, x7), (10, .int .i64 x10)]⟩) h (F10_5 hk C N)
theorem e10 (hk : Hk (Value × AHeap)) (C : ACall) (N : Nat) (x0 : Value) (h : AHeap) : evFn hk Try.prog C M10 N Try.f10 [x0] h =
    (aCells x0).bind fun c1 => aNew h 30 c1 fun p2 h3 => (aLdN h3 p2 2).bind fun v4 => (C 19 [v4, .int .i64 1048576] h3).bind fun r5 => (asI .i64 r5.1).bind fun n6 => bif decide (n6 < 0) then some (.bool true, r5.2) else (aLdN r5.2 p2 2).bind fun v7 => (C 21 [v7] r5.2).bind fun r8 => (C 42 [r8.1] r8.2).bind fun r9 => (aExt r9.1 0).bind fun v10 => (aExt r9.1 1).bind fun v11 => (asB v11).bind fun b12 => aNew r9.2 35 [.slice none 0 0, .int .i64 0] fun p13 h14 => (aSt h14 p13 v10 2).bind fun h15 => (aLdN h15 p2 2).bind fun v16 => (C 21 [v16] h15).bind fun r17 => aNew r17.2 35 [.slice none 0 0, .int .i64 0] fun p18 h19 => (aSt h19 p18 r17.1 2).bind fun h20 => (aLdN h20 p18 2).bind fun v21 => (C 43 [v21] h20).bind fun r22 => (aExt r22.1 0).bind fun v23 => (aExt r22.1 1).bind fun v24 => (asB v24).bind fun b25 => aNew r22.2 35 [.slice none 0 0, .int .i64 0] fun p26 h27 => (aSt h27 p26 v23 2).bind fun h28 => (aLdN h28 p26 2).bind fun v29 => (aLdN h28 p13 2).bind fun v30 => (C 23 [v29, v30] h28).bind fun r31 => (asB r31.1).bind fun b32 => bif !b32 then s10_0 hk C N p2 p13 b12 p18 p26 b25 true r31.2 else s10_0 hk C N p2 p13 b12 p18 p26 b25 (!(b25 == b12)) r31.2 := by kernel_rfl
theorem s10_0_j (C : ACall) (N : Nat) (x1 : Value) (x4 : Value) (x5 : Bool) (x6 : Value) (x7 : Value) (x8 : Bool) (x40 : Bool) (h : AHeap) : s10_0 hk0 C N x1 x4 x5 x6 x7 x8 x40 h = F10_0 hk0 C N (⟨96, [(1, x1), (4, x4), (5, .bool x5), (6, x6), (7, x7), (8, .bool x8), (40, .bool x40)]⟩) h := by delta s10_0; exact hk0_app _ _ _ _
theorem s10_0_eq (hk : Hk (Value × AHeap)) (C : ACall) (N : Nat) (x1 : Value) (x4 : Value) (x5 : Bool) (x6 : Value) (x7 : Value) (x8 : Bool) (x40 : Bool) (h : AHeap) : F10_0 hk C N (⟨96, [(1, x1), (4, x4), (5, .bool x5), (6, x6), (7, x7), (8, .bool x8), (40, .bool x40)]⟩) h =
    bif x40 then some (.bool false, h) else s10_1 hk C N x1 x4 x5 x6 x7 x8 h := by kernel_rfl
theorem s10_1_j (C : ACall) (N : Nat) (x1 : Value) (x4 : Value) (x5 : Bool) (x6 : Value) (x7 : Value) (x8 : Bool) (h : AHeap) : s10_1 hk0 C N x1 x4 x5 x6 x7 x8 h = F10_1 hk0 C N (⟨96, [(1, x1), (4, x4), (5, .bool x5), (6, x6), (7, x7), (8, .bool x8)]⟩) h := by delta s10_1; exact hk0_app _ _ _ _
theorem s10_1_eq (hk : Hk (Value × AHeap)) (C : ACall) (N : Nat) (x1 : Value) (x4 : Value) (x5 : Bool) (x6 : Value) (x7 : Value) (x8 : Bool) (h : AHeap) : F10_1 hk C N (⟨96, [(1, x1), (4, x4), (5, .bool x5), (6, x6), (7, x7), (8, .bool x8)]⟩) h =
    (aLdN h x6 2).bind fun v33 => (aLdN h x1 2).bind fun v34 => (C 21 [v34] h).bind fun r35 => ((aLdN r35.2 x6 2).bind fun v36 => some (vbeq v36 v33)).bind fun b37 => bif b37 then (C 23 [v33, r35.1] r35.2).bind fun r38 => (asB r38.1).bind fun b39 => bif !b39 then some (.bool false, r38.2) else (aLdN r38.2 x6 2).bind fun v40 => (C 33 [v40, .int .i64 1] r38.2).bind fun r41 => (asI .i64 r41.1).bind fun n42 => bif decide (n42 < 0) then s10_2 hk C N x1 x4 x5 x7 true r41.2 else (aLdN r41.2 x7 2).bind fun v43 => (aLdN r41.2 x4 2).bind fun v44 => (C 23 [v43, v44] r41.2).bind fun r45 => (asB r45.1).bind fun b46 => bif !b46 then s10_2 hk C N x1 x4 x5 x7 true r45.2 else s10_2 hk C N x1 x4 x5 x7 (!(x8 == x5)) r45.2 else none := by kernel_rfl
theorem s10_2_j (C : ACall) (N : Nat) (x1 : Value) (x4 : Value) (x5 : Bool) (x7 : Value) (x61 : Bool) (h : AHeap) : s10_2 hk0 C N x1 x4 x5 x7 x61 h = F10_2 hk0 C N (⟨96, [(1, x1), (4, x4), (5, .bool x5), (7, x7), (61, .bool x61)]⟩) h := by delta s10_2; exact hk0_app _ _ _ _
theorem s10_2_eq (hk : Hk (Value × AHeap)) (C : ACall) (N : Nat) (x1 : Value) (x4 : Value) (x5 : Bool) (x7 : Value) (x61 : Bool) (h : AHeap) : F10_2 hk C N (⟨96, [(1, x1), (4, x4), (5, .bool x5), (7, x7), (61, .bool x61)]⟩) h =
    bif x61 then some (.bool false, h) else s10_3 hk C N x1 x4 x5 x7 h := by kernel_rfl
theorem s10_3_j (C : ACall) (N : Nat) (x1 : Value) (x4 : Value) (x5 : Bool) (x7 : Value) (h : AHeap) : s10_3 hk0 C N x1 x4 x5 x7 h = F10_3 hk0 C N (⟨96, [(1, x1), (4, x4), (5, .bool x5), (7, x7)]⟩) h := by delta s10_3; exact hk0_app _ _ _ _
theorem s10_3_eq (hk : Hk (Value × AHeap)) (C : ACall) (N : Nat) (x1 : Value) (x4 : Value) (x5 : Bool) (x7 : Value) (h : AHeap) : F10_3 hk C N (⟨96, [(1, x1), (4, x4), (5, .bool x5), (7, x7)]⟩) h =
    (aLdN h x7 2).bind fun v47 => (C 33 [v47, .int .i64 1] h).bind fun r48 => (asI .i64 r48.1).bind fun n49 => (aLdN r48.2 x7 2).bind fun v50 => (C 44 [v50, .int .i64 1] r48.2).bind fun r51 => (asI .i64 r51.1).bind fun n52 => bif decide (n52 < 0) then some (.bool false, r51.2) else bif n52 != n49 then some (.bool false, r51.2) else (aLdN r51.2 x1 2).bind fun v53 => (C 21 [v53] r51.2).bind fun r54 => (C 43 [r54.1] r54.2).bind fun r55 => (aExt r55.1 0).bind fun v56 => (aExt r55.1 1).bind fun v57 => (asB v57).bind fun b58 => aNew r55.2 35 [.slice none 0 0, .int .i64 0] fun p59 h60 => (aSt h60 p59 v56 2).bind fun h61 => (aLdN h61 p59 2).bind fun v62 => (aLdN h61 x4 2).bind fun v63 => (C 23 [v62, v63] h61).bind fun r64 => (asB r64.1).bind fun b65 => bif !b65 then s10_4 hk C N x7 n49 true r64.2 else s10_4 hk C N x7 n49 (!(b58 == x5)) r64.2 := by kernel_rfl
theorem s10_4_j (C : ACall) (N : Nat) (x7 : Value) (x10 : Int) (x87 : Bool) (h : AHeap) : s10_4 hk0 C N x7 x10 x87 h = F10_4 hk0 C N (⟨96, [(7, x7), (10, .int .i64 x10), (87, .bool x87)]⟩) h := by delta s10_4; exact hk0_app _ _ _ _
theorem s10_4_eq (hk : Hk (Value × AHeap)) (C : ACall) (N : Nat) (x7 : Value) (x10 : Int) (x87 : Bool) (h : AHeap) : F10_4 hk C N (⟨96, [(7, x7), (10, .int .i64 x10), (87, .bool x87)]⟩) h =
    bif x87 then some (.bool false, h) else s10_5 hk C N x7 x10 h := by kernel_rfl
theorem s10_5_j (C : ACall) (N : Nat) (x7 : Value) (x10 : Int) (h : AHeap) : s10_5 hk0 C N x7 x10 h = F10_5 hk0 C N (⟨96, [(7, x7), (10, .int .i64 x10)]⟩) h := by delta s10_5; exact hk0_app _ _ _ _
theorem s10_5_eq (hk : Hk (Value × AHeap)) (C : ACall) (N : Nat) (x7 : Value) (x10 : Int) (h : AHeap) : F10_5 hk C N (⟨96, [(7, x7), (10, .int .i64 x10)]⟩) h =
    (aLdN h x7 2).bind fun v66 => (C 44 [v66, .int .i64 1] h).bind fun r67 => (asI .i64 r67.1).bind fun n68 => bif decide (n68 < 0) then some (.bool false, r67.2) else bif n68 != x10 then some (.bool false, r67.2) else some (.bool true, r67.2) := by kernel_rfl
theorem c10 (d : Nat) (args : List Value) (h : AHeap) : call Try.prog Ms (d + 1) 10 args h = evFn hk0 Try.prog (call Try.prog Ms d) M10 d Try.f10 args h := by kernel_rfl

/-! 42 loop.example/g00101/spec.Fold -/
theorem e42 (hk : Hk (Value × AHeap)) (C : ACall) (N : Nat) (x0 : Value) (h : AHeap) : evFn hk Try.prog C M42 N Try.f42 [x0] h =
    (aCells x0).bind fun c1 => aNew h 35 c1 fun p2 h3 => aNew h3 35 [.slice none 0 0, .int .i64 0] fun p4 h5 => (aLdN h5 p2 2).bind fun v6 => (C 20 [v6] h5).bind fun r7 => (asB r7.1).bind fun b8 => bif !b8 then (aSt r7.2 p4 (.agg (List.toArray [.slice none 0 0, .int .i64 0])) 2).bind fun h9 => (aLdN h9 p4 2).bind fun v10 => bif List.all [v10, .bool false] isS2 then some (.tuple (List.toArray [v10, .bool false]), h9) else none else (aCells (.agg (List.toArray [.slice none 0 0]))).bind fun c11 => aNew r7.2 102 c11 fun p12 h13 => (aLdN h13 p2 2).bind fun v14 => (aOff p2 1).bind fun v15 => (aLd1 h13 v15).bind fun v16 => (asI .i64 v16).bind fun n17 => (C 76 [p12, v14, .int .i64 n17] h13).bind fun r18 => (asI .i64 r18.1).bind fun n19 => (aNil p12).bind fun v20 => (aOff v20 0).bind fun v21 => (aLd1 r18.2 v21).bind fun v22 => (aFill [.slice none 0 0, .int .i64 0] [(0, 1, v22), (1, 1, .int .i64 n19)]).bind fun c23 => (aSt r18.2 p4 (.agg (List.toArray c23)) 2).bind fun h24 => (aLdN h24 p4 2).bind fun v25 => bif List.all [v25, .bool true] isS2 then some (.tuple (List.toArray [v25, .bool true]), h24) else none := by kernel_rfl
theorem c42 (d : Nat) (args : List Value) (h : AHeap) : call Try.prog Ms (d + 1) 42 args h = evFn hk0 Try.prog (call Try.prog Ms d) M42 d Try.f42 args h := by kernel_rfl

/-! 43 loop.example/g00101/impl.Fold -/
theorem e43 (hk : Hk (Value × AHeap)) (C : ACall) (N : Nat) (x0 : Value) (h : AHeap) : evFn hk Try.prog C M43 N Try.f43 [x0] h =
    (aCells x0).bind fun c1 => aNew h 35 c1 fun p2 h3 => aNew h3 35 [.slice none 0 0, .int .i64 0] fun p4 h5 => (aLdN h5 p2 2).bind fun v6 => (C 22 [v6] h5).bind fun r7 => (asB r7.1).bind fun b8 => bif !b8 then (aSt r7.2 p4 (.agg (List.toArray [.slice none 0 0, .int .i64 0])) 2).bind fun h9 => (aLdN h9 p4 2).bind fun v10 => bif List.all [v10, .bool false] isS2 then some (.tuple (List.toArray [v10, .bool false]), h9) else none else aNew r7.2 35 [.slice none 0 0, .int .i64 0] fun p11 h12 => (aSt h12 p11 (.agg (List.toArray [.slice none 0 0, .int .i64 0])) 2).bind fun h13 => (aOff p2 1).bind fun v14 => (aLd1 h13 v14).bind fun v15 => (asI .i64 v15).bind fun n16 => (C 78 [p2, .int .i64 n16] h13).bind fun r17 => (C 77 [p11, r17.1] r17.2).bind fun r18 => (asI .i64 r18.1).bind fun n19 => (aOff p11 1).bind fun v20 => (aSt r18.2 v20 (.int .i64 n19) 1).bind fun h21 => (aLdN h21 p11 2).bind fun v22 => (aSt h21 p4 v22 2).bind fun h23 => (aLdN h23 p4 2).bind fun v24 => bif List.all [v24, .bool true] isS2 then some (.tuple (List.toArray [v24, .bool true]), h23) else none := by kernel_rfl
theorem c43 (d : Nat) (args : List Value) (h : AHeap) : call Try.prog Ms (d + 1) 43 args h = evFn hk0 Try.prog (call Try.prog Ms d) M43 d Try.f43 args h := by kernel_rfl

/-! 44 loop.example/g00101/laws.heldTree -/
theorem e44 (hk : Hk (Value × AHeap)) (C : ACall) (N : Nat) (x0 : Value) (x1 : Int) (h : AHeap) : evFn hk Try.prog C M44 N Try.f44 [x0, .int .i64 x1] h =
    (aCells x0).bind fun c1 => aNew h 35 c1 fun p2 h3 => (aOff p2 0).bind fun v4 => (aLd1 h3 v4).bind fun v5 => (C 79 [v5, .int .i64 x1] h3).bind fun r6 => (asI .i64 r6.1).bind fun n7 => bif decide (n7 < 0) then some (.int .i64 (-1), r6.2) else some (.int .i64 n7, r6.2) := by kernel_rfl
theorem c44 (d : Nat) (args : List Value) (h : AHeap) : call Try.prog Ms (d + 1) 44 args h = evFn hk0 Try.prog (call Try.prog Ms d) M44 d Try.f44 args h := by kernel_rfl

/-! 76 loop.example/g00101/spec.l19Fold -/
noncomputable def F76_0 (hk : Hk (Value × AHeap)) (C : ACall) (N : Nat) (n1 : Nat) : Nx (Value × AHeap) := evSt hk Try.prog C M76 N Try.f76 [1, 1, 1, 1, 0, 1, 2, 6] [n1]
noncomputable def s76_0 (hk : Hk (Value × AHeap)) (C : ACall) (N : Nat) (n1 : Nat) (x0 : Value) (x4 : Value) (x7 : Value) (x8 : Int) (x9 : Value) (x10 : Int) (h : AHeap) := F76_0 hk C N n1 (⟨185, [(0, x0), (4, x4), (7, x7), (8, .int .i64 x8), (9, x9), (10, .int .i64 x10)]⟩) h
noncomputable def F76_1 (hk : Hk (Value × AHeap)) (C : ACall) (N : Nat) (n1 : Nat) : Nx (Value × AHeap) := evSt hk Try.prog C M76 N Try.f76 [1, 1, 1, 1, 0, 1, 2, 3, 1, 0, 2, 1, 1] [n1]
noncomputable def s76_1 (hk : Hk (Value × AHeap)) (C : ACall) (N : Nat) (n1 : Nat) (x0 : Value) (x4 : Value) (x7 : Value) (x8 : Int) (x9 : Value) (x10 : Int) (x67 : Bool) (h : AHeap) := hk 100009 (⟨185, [(0, x0), (4, x4), (7, x7), (8, .int .i64 x8), (9, x9), (10, .int .i64 x10), (67, .bool x67)]⟩) h (F76_1 hk C N n1)
noncomputable def F76_3 (hk : Hk (Value × AHeap)) (C : ACall) (N : Nat) : Nx (Value × AHeap) := evSt hk Try.prog C M76 N Try.f76 [1, 1, 1, 1, 1, 1, 1, 1] []
noncomputable def s76_3 (hk : Hk (Value × AHeap)) (C : ACall) (N : Nat) (x0 : Value) (x7 : Value) (x8 : Int) (x9 : Value) (x11 : Value) (x12 : Bool) (h : AHeap) := hk 22 (⟨185, [(0, x0), (7, x7), (8, .int .i64 x8), (9, x9), (11, x11), (12, .bool x12)]⟩) h (F76_3 hk C N)
noncomputable def F76_2 (hk : Hk (Value × AHeap)) (C : ACall) (N : Nat) : Nx (Value × AHeap) := evSt hk Try.prog C M76 N Try.f76 [1, 1, 1, 1, 1, 1, 1, 0, 1, 2, 1, 5, 1, 4, 1, 1] []
noncomputable def s76_2 (hk : Hk (Value × AHeap)) (C : ACall) (N : Nat) (x0 : Value) (x7 : Value) (x8 : Int) (x9 : Value) (x11 : Value) (x12 : Bool) (x13 : Value) (h : AHeap) := hk 21 (⟨185, [(0, x0), (7, x7), (8, .int .i64 x8), (9, x9), (11, x11), (12, .bool x12), (13, x13)]⟩) h (F76_2 hk C N)
theorem e76 (hk : Hk (Value × AHeap)) (C : ACall) (N : Nat) (x0 : Value) (x1 : Value) (x2 : Int) (h : AHeap) : evFn hk Try.prog C M76 N Try.f76 [x0, x1, .int .i64 x2] h =
    (aCells x1).bind fun c1 => aNew h 35 c1 fun p2 h3 => (aOff p2 0).bind fun v4 => (aLd1 h3 v4).bind fun v5 => (aIdx v5 (.int .i64 x2) 4).bind fun v6 => (aLdN h3 v6 4).bind fun v7 => aNew h3 73 [.int .i64 0, .string ⟨#[]⟩, .int .i64 0, .slice none 0 0] fun p8 h9 => (aSt h9 p8 v7 4).bind fun h10 => (aNil x0).bind fun v11 => (aOff v11 0).bind fun v12 => (aLd1 h10 v12).bind fun v13 => (aLen v13).bind fun v14 => (asI .i64 v14).bind fun n15 => aNewS h10 3 [] 0 fun p16 h17 => s76_0 hk C N N x0 p2 p8 n15 p16 0 h17 := by kernel_rfl
theorem s76_0_eq (hk : Hk (Value × AHeap)) (C : ACall) (N : Nat) (n1 : Nat) (x0 : Value) (x4 : Value) (x7 : Value) (x8 : Int) (x9 : Value) (x10 : Int) (h : AHeap) : s76_0 hk C N (n1 + 1) x0 x4 x7 x8 x9 x10 h =
    (aOff x7 3).bind fun v18 => (aLd1 h v18).bind fun v19 => (aLen v19).bind fun v20 => (asI .i64 v20).bind fun n21 => bif decide (x10 < n21) then (aLdN h x4 2).bind fun v22 => (aOff x7 3).bind fun v23 => (aLd1 h v23).bind fun v24 => (aIdx v24 (.int .i64 x10) 1).bind fun v25 => (aLd1 h v25).bind fun v26 => (asI .i64 v26).bind fun n27 => (C 76 [x0, v22, .int .i64 n27] h).bind fun r28 => (asI .i64 r28.1).bind fun n29 => aNewS r28.2 3 [.int .i64 n29] 1 fun p30 h31 => (aApp h31 3 1 8 x9 p30).bind fun r32 => (aOff x7 0).bind fun v33 => (aLd1 r32.2 v33).bind fun v34 => (asI .i64 v34).bind fun n35 => bif n35 == 12 then bif x10 == 0 then (aNil x0).bind fun v36 => (aOff v36 0).bind fun v37 => (aLd1 r32.2 v37).bind fun v38 => (aIdx r32.1 (.int .i64 0) 1).bind fun v39 => (aLd1 r32.2 v39).bind fun v40 => (asI .i64 v40).bind fun n41 => (aIdx v38 (.int .i64 n41) 4).bind fun v42 => (aOff v42 0).bind fun v43 => (aLd1 r32.2 v43).bind fun v44 => (asI .i64 v44).bind fun n45 => (C 121 [.int .i64 n45] r32.2).bind fun r46 => (asB r46.1).bind fun b47 => s76_1 hk C N n1 x0 x4 x7 x8 r32.1 x10 b47 r46.2 else s76_1 hk C N n1 x0 x4 x7 x8 r32.1 x10 false r32.2 else (aOff x7 0).bind fun v48 => (aLd1 r32.2 v48).bind fun v49 => (asI .i64 v49).bind fun n50 => bif n50 == 13 then bif x10 == 0 then (aNil x0).bind fun v51 => (aOff v51 0).bind fun v52 => (aLd1 r32.2 v52).bind fun v53 => (aIdx r32.1 (.int .i64 0) 1).bind fun v54 => (aLd1 r32.2 v54).bind fun v55 => (asI .i64 v55).bind fun n56 => (aIdx v53 (.int .i64 n56) 4).bind fun v57 => (aOff v57 0).bind fun v58 => (aLd1 r32.2 v58).bind fun v59 => (asI .i64 v59).bind fun n60 => (C 121 [.int .i64 n60] r32.2).bind fun r61 => (asB r61.1).bind fun b62 => s76_1 hk C N n1 x0 x4 x7 x8 r32.1 x10 b62 r61.2 else s76_1 hk C N n1 x0 x4 x7 x8 r32.1 x10 false r32.2 else s76_1 hk C N n1 x0 x4 x7 x8 r32.1 x10 false r32.2 else aNew h 73 [.int .i64 0, .string ⟨#[]⟩, .int .i64 0, .slice none 0 0] fun p63 h64 => (aSt h64 p63 (.agg (List.toArray [.int .i64 0, .string ⟨#[]⟩, .int .i64 0, .slice none 0 0])) 4).bind fun h65 => (aOff x7 0).bind fun v66 => (aLd1 h65 v66).bind fun v67 => (asI .i64 v67).bind fun n68 => bif n68 == 10 then (aOff x7 2).bind fun v69 => (aLd1 h65 v69).bind fun v70 => (asI .i64 v70).bind fun n71 => (aNil x0).bind fun v72 => (aOff v72 0).bind fun v73 => (aLd1 h65 v73).bind fun v74 => (aIdx x9 (.int .i64 0) 1).bind fun v75 => (aLd1 h65 v75).bind fun v76 => (asI .i64 v76).bind fun n77 => (aIdx v74 (.int .i64 n77) 4).bind fun v78 => (aLdN h65 v78 4).bind fun v79 => (aNil x0).bind fun v80 => (aOff v80 0).bind fun v81 => (aLd1 h65 v81).bind fun v82 => (aIdx x9 (.int .i64 1) 1).bind fun v83 => (aLd1 h65 v83).bind fun v84 => (asI .i64 v84).bind fun n85 => (aIdx v82 (.int .i64 n85) 4).bind fun v86 => (aLdN h65 v86 4).bind fun v87 => (C 123 [.int .i64 n71, v79, v87] h65).bind fun r88 => (aExt r88.1 0).bind fun v89 => (aExt r88.1 1).bind fun v90 => (asB v90).bind fun b91 => (aSt r88.2 p63 v89 4).bind fun h92 => s76_3 hk C N x0 x7 x8 x9 p63 b91 h92 else bif n68 == 11 then (aNil x0).bind fun v93 => (aOff v93 0).bind fun v94 => (aLd1 h65 v94).bind fun v95 => (aIdx x9 (.int .i64 0) 1).bind fun v96 => (aLd1 h65 v96).bind fun v97 => (asI .i64 v97).bind fun n98 => (aIdx v95 (.int .i64 n98) 4).bind fun v99 => (aLdN h65 v99 4).bind fun v100 => aNew h65 73 [.int .i64 0, .string ⟨#[]⟩, .int .i64 0, .slice none 0 0] fun p101 h102 => ((aLd1 h102 v94).bind fun v103 => some (vbeq v103 v95)).bind fun b104 => bif b104 then ((aLd1 h102 v96).bind fun v105 => (asI .i64 v105).bind fun n106 => some (vbeq (.int .i64 n106) (.int .i64 n98))).bind fun b107 => bif b107 then ((aLdN h102 v99 4).bind fun v108 => some (vbeq v108 v100)).bind fun b109 => bif b109 then (aSt h102 p101 v100 4).bind fun h110 => (aOff x7 2).bind fun v111 => (aLd1 h110 v111).bind fun v112 => (asI .i64 v112).bind fun n113 => bif n113 == 2 then (aOff p101 0).bind fun v114 => (aLd1 h110 v114).bind fun v115 => (asI .i64 v115).bind fun n116 => (C 121 [.int .i64 n116] h110).bind fun r117 => (asB r117.1).bind fun b118 => s76_2 hk C N x0 x7 x8 x9 p63 b118 p101 r117.2 else s76_2 hk C N x0 x7 x8 x9 p63 false p101 h110 else none else none else none else s76_3 hk C N x0 x7 x8 x9 p63 false h65 := by kernel_rfl
theorem s76_1_j (C : ACall) (N : Nat) (n1 : Nat) (x0 : Value) (x4 : Value) (x7 : Value) (x8 : Int) (x9 : Value) (x10 : Int) (x67 : Bool) (h : AHeap) : s76_1 hk0 C N n1 x0 x4 x7 x8 x9 x10 x67 h = F76_1 hk0 C N n1 (⟨185, [(0, x0), (4, x4), (7, x7), (8, .int .i64 x8), (9, x9), (10, .int .i64 x10), (67, .bool x67)]⟩) h := by delta s76_1; exact hk0_app _ _ _ _
theorem s76_1_eq (hk : Hk (Value × AHeap)) (C : ACall) (N : Nat) (n1 : Nat) (x0 : Value) (x4 : Value) (x7 : Value) (x8 : Int) (x9 : Value) (x10 : Int) (x67 : Bool) (h : AHeap) : F76_1 hk C N n1 (⟨185, [(0, x0), (4, x4), (7, x7), (8, .int .i64 x8), (9, x9), (10, .int .i64 x10), (67, .bool x67)]⟩) h =
    bif x67 then (aNil x0).bind fun v119 => (aOff v119 0).bind fun v120 => (aLd1 h v120).bind fun v121 => (aIdx x9 (.int .i64 0) 1).bind fun v122 => (aLd1 h v122).bind fun v123 => (asI .i64 v123).bind fun n124 => (aIdx v121 (.int .i64 n124) 4).bind fun v125 => (aLdN h v125 4).bind fun v126 => (aOff x7 0).bind fun v127 => (aLd1 h v127).bind fun v128 => (asI .i64 v128).bind fun n129 => (C 122 [v126] h).bind fun r130 => (asB r130.1).bind fun b131 => ((aLd1 r130.2 v127).bind fun v132 => (asI .i64 v132).bind fun n133 => some (vbeq (.int .i64 n133) (.int .i64 n129))).bind fun b134 => bif b134 then bif b131 == (n129 == 13) then (aIdx x9 (.int .i64 0) 1).bind fun v135 => (aLd1 r130.2 v135).bind fun v136 => (asI .i64 v136).bind fun n137 => some (.int .i64 n137, r130.2) else (aNil x0).bind fun v138 => (aOff v138 0).bind fun v139 => (aLd1 r130.2 v139).bind fun v140 => (aSub r130.2 73 v140 none (some (.int .i64 x8)) 4).bind fun v141 => (aNil x0).bind fun v142 => (aOff v142 0).bind fun v143 => (aSt r130.2 v143 v141 1).bind fun h144 => (aLdN h144 x4 2).bind fun v145 => (aOff x7 3).bind fun v146 => (aLd1 h144 v146).bind fun v147 => (aIdx v147 (.int .i64 1) 1).bind fun v148 => (aLd1 h144 v148).bind fun v149 => (asI .i64 v149).bind fun n150 => (C 76 [x0, v145, .int .i64 n150] h144).bind fun r151 => (asI .i64 r151.1).bind fun n152 => some (.int .i64 n152, r151.2) else none else s76_0 hk C N n1 x0 x4 x7 x8 x9 (IntKind.i64.wrap (x10 + 1)) h := by kernel_rfl
theorem s76_3_j (C : ACall) (N : Nat) (x0 : Value) (x7 : Value) (x8 : Int) (x9 : Value) (x11 : Value) (x12 : Bool) (h : AHeap) : s76_3 hk0 C N x0 x7 x8 x9 x11 x12 h = F76_3 hk0 C N (⟨185, [(0, x0), (7, x7), (8, .int .i64 x8), (9, x9), (11, x11), (12, .bool x12)]⟩) h := by delta s76_3; exact hk0_app _ _ _ _
theorem s76_3_eq (hk : Hk (Value × AHeap)) (C : ACall) (N : Nat) (x0 : Value) (x7 : Value) (x8 : Int) (x9 : Value) (x11 : Value) (x12 : Bool) (h : AHeap) : F76_3 hk C N (⟨185, [(0, x0), (7, x7), (8, .int .i64 x8), (9, x9), (11, x11), (12, .bool x12)]⟩) h =
    bif x12 then (aNil x0).bind fun v153 => (aOff v153 0).bind fun v154 => (aLd1 h v154).bind fun v155 => (aSub h 73 v155 none (some (.int .i64 x8)) 4).bind fun v156 => (aLdN h x11 4).bind fun v157 => (aFill [.int .i64 0, .string ⟨#[]⟩, .int .i64 0, .slice none 0 0] [(0, 4, v157)]).bind fun c158 => aNewS h 73 c158 1 fun p159 h160 => ((aLd1 h160 v154).bind fun v161 => some (vbeq v161 v155)).bind fun b162 => bif b162 then ((aSub h160 73 v155 none (some (.int .i64 x8)) 4).bind fun v163 => some (vbeq v163 v156)).bind fun b164 => bif b164 then (aApp h160 73 4 56 v156 p159).bind fun r165 => (aNil x0).bind fun v166 => (aOff v166 0).bind fun v167 => (aSt r165.2 v167 r165.1 1).bind fun h168 => some (.int .i64 x8, h168) else none else none else (aOff x7 3).bind fun v169 => (aSt h v169 x9 1).bind fun h170 => (aNil x0).bind fun v171 => (aOff v171 0).bind fun v172 => (aLd1 h170 v172).bind fun v173 => (aLdN h170 x7 4).bind fun v174 => (aFill [.int .i64 0, .string ⟨#[]⟩, .int .i64 0, .slice none 0 0] [(0, 4, v174)]).bind fun c175 => aNewS h170 73 c175 1 fun p176 h177 => ((aLd1 h177 v172).bind fun v178 => some (vbeq v178 v173)).bind fun b179 => bif b179 then (aApp h177 73 4 56 v173 p176).bind fun r180 => (aNil x0).bind fun v181 => (aOff v181 0).bind fun v182 => (aSt r180.2 v182 r180.1 1).bind fun h183 => (aNil x0).bind fun v184 => (aOff v184 0).bind fun v185 => (aLd1 h183 v185).bind fun v186 => (aLen v186).bind fun v187 => (asI .i64 v187).bind fun n188 => some (.int .i64 (IntKind.i64.wrap (n188 - 1)), h183) else none := by kernel_rfl
theorem s76_2_j (C : ACall) (N : Nat) (x0 : Value) (x7 : Value) (x8 : Int) (x9 : Value) (x11 : Value) (x12 : Bool) (x13 : Value) (h : AHeap) : s76_2 hk0 C N x0 x7 x8 x9 x11 x12 x13 h = F76_2 hk0 C N (⟨185, [(0, x0), (7, x7), (8, .int .i64 x8), (9, x9), (11, x11), (12, .bool x12), (13, x13)]⟩) h := by delta s76_2; exact hk0_app _ _ _ _
theorem s76_2_eq (hk : Hk (Value × AHeap)) (C : ACall) (N : Nat) (x0 : Value) (x7 : Value) (x8 : Int) (x9 : Value) (x11 : Value) (x12 : Bool) (x13 : Value) (h : AHeap) : F76_2 hk C N (⟨185, [(0, x0), (7, x7), (8, .int .i64 x8), (9, x9), (11, x11), (12, .bool x12), (13, x13)]⟩) h =
    (aLdN h x13 4).bind fun v189 => (C 122 [v189] h).bind fun r190 => (asB r190.1).bind fun b191 => (C 124 [.bool (!b191)] r190.2).bind fun r192 => (aSt r192.2 x11 r192.1 4).bind fun h193 => s76_3 hk C N x0 x7 x8 x9 x11 x12 h193 := by kernel_rfl
theorem c76 (d : Nat) (args : List Value) (h : AHeap) : call Try.prog Ms (d + 1) 76 args h = evFn hk0 Try.prog (call Try.prog Ms d) M76 d Try.f76 args h := by kernel_rfl

/-! 77 (*loop.example/g00101/impl.Tree).lay -/
noncomputable def F77_0 (hk : Hk (Value × AHeap)) (C : ACall) (N : Nat) (n1 : Nat) : Nx (Value × AHeap) := evSt hk Try.prog C M77 N Try.f77 [1, 1, 1, 0, 1, 2, 6] [n1]
noncomputable def s77_0 (hk : Hk (Value × AHeap)) (C : ACall) (N : Nat) (n1 : Nat) (x0 : Value) (x5 : Value) (x17 : Value) (x18 : Int) (x19 : Int) (h : AHeap) := F77_0 hk C N n1 (⟨49, [(0, x0), (5, x5), (17, x17), (18, .int .i64 x18), (19, .int .i64 x19)]⟩) h
theorem e77 (hk : Hk (Value × AHeap)) (C : ACall) (N : Nat) (x0 : Value) (x1 : Value) (h : AHeap) : evFn hk Try.prog C M77 N Try.f77 [x0, x1] h =
    (aNil x1).bind fun v1 => (aOff v1 0).bind fun v2 => (aLdN h v2 4).bind fun v3 => aNew h 73 [.int .i64 0, .string ⟨#[]⟩, .int .i64 0, .slice none 0 0] fun p4 h5 => (aSt h5 p4 v3 4).bind fun h6 => (aOff p4 3).bind fun v7 => (aSt h6 v7 (.slice none 0 0) 1).bind fun h8 => (aNil x1).bind fun v9 => (aOff v9 4).bind fun v10 => (aLd1 h8 v10).bind fun v11 => (aLen v11).bind fun v12 => (asI .i64 v12).bind fun n13 => s77_0 hk C N N x0 p4 v11 n13 0 h8 := by kernel_rfl
theorem s77_0_eq (hk : Hk (Value × AHeap)) (C : ACall) (N : Nat) (n1 : Nat) (x0 : Value) (x5 : Value) (x17 : Value) (x18 : Int) (x19 : Int) (h : AHeap) : s77_0 hk C N (n1 + 1) x0 x5 x17 x18 x19 h =
    bif decide (x19 < x18) then (aIdx x17 (.int .i64 x19) 1).bind fun v14 => (aLd1 h v14).bind fun v15 => (C 77 [x0, v15] h).bind fun r16 => (asI .i64 r16.1).bind fun n17 => (aOff x5 3).bind fun v18 => (aLd1 r16.2 v18).bind fun v19 => aNewS r16.2 3 [.int .i64 n17] 1 fun p20 h21 => (aApp h21 3 1 8 v19 p20).bind fun r22 => (aOff x5 3).bind fun v23 => (aSt r22.2 v23 r22.1 1).bind fun h24 => s77_0 hk C N n1 x0 x5 x17 x18 (IntKind.i64.wrap (x19 + 1)) h24 else (aNil x0).bind fun v25 => (aOff v25 0).bind fun v26 => (aLd1 h v26).bind fun v27 => (aLdN h x5 4).bind fun v28 => (aFill [.int .i64 0, .string ⟨#[]⟩, .int .i64 0, .slice none 0 0] [(0, 4, v28)]).bind fun c29 => aNewS h 73 c29 1 fun p30 h31 => ((aLd1 h31 v26).bind fun v32 => some (vbeq v32 v27)).bind fun b33 => bif b33 then (aApp h31 73 4 56 v27 p30).bind fun r34 => (aNil x0).bind fun v35 => (aOff v35 0).bind fun v36 => (aSt r34.2 v36 r34.1 1).bind fun h37 => (aNil x0).bind fun v38 => (aOff v38 0).bind fun v39 => (aLd1 h37 v39).bind fun v40 => (aLen v40).bind fun v41 => (asI .i64 v41).bind fun n42 => some (.int .i64 (IntKind.i64.wrap (n42 - 1)), h37) else none := by kernel_rfl
theorem c77 (d : Nat) (args : List Value) (h : AHeap) : call Try.prog Ms (d + 1) 77 args h = evFn hk0 Try.prog (call Try.prog Ms d) M77 d Try.f77 args h := by kernel_rfl

/-! 78 (*loop.example/g00101/impl.Tree).twigOf -/
noncomputable def F78_0 (hk : Hk (Value × AHeap)) (C : ACall) (N : Nat) (n1 : Nat) : Nx (Value × AHeap) := evSt hk Try.prog C M78 N Try.f78 [1, 1, 0, 1, 2, 6] [n1]
noncomputable def s78_0 (hk : Hk (Value × AHeap)) (C : ACall) (N : Nat) (n1 : Nat) (x0 : Value) (x5 : Value) (x21 : Value) (x22 : Int) (x23 : Int) (h : AHeap) := F78_0 hk C N n1 (⟨42, [(0, x0), (5, x5), (21, x21), (22, .int .i64 x22), (23, .int .i64 x23)]⟩) h
theorem e78 (hk : Hk (Value × AHeap)) (C : ACall) (N : Nat) (x0 : Value) (x1 : Int) (h : AHeap) : evFn hk Try.prog C M78 N Try.f78 [x0, .int .i64 x1] h =
    (aNil x0).bind fun v1 => (aOff v1 0).bind fun v2 => (aLd1 h v2).bind fun v3 => (aIdx v3 (.int .i64 x1) 4).bind fun v4 => (aLdN h v4 4).bind fun v5 => (aFill [.int .i64 0, .string ⟨#[]⟩, .int .i64 0, .slice none 0 0, .slice none 0 0] [(0, 4, v5)]).bind fun c6 => (aCells (.agg (List.toArray c6))).bind fun c7 => aNew h 155 c7 fun p8 h9 => (aNil p8).bind fun v10 => (aOff v10 0).bind fun v11 => (aOff v11 3).bind fun v12 => (aLd1 h9 v12).bind fun v13 => (aLen v13).bind fun v14 => (asI .i64 v14).bind fun n15 => s78_0 hk C N N x0 p8 v13 n15 0 h9 := by kernel_rfl
theorem s78_0_eq (hk : Hk (Value × AHeap)) (C : ACall) (N : Nat) (n1 : Nat) (x0 : Value) (x5 : Value) (x21 : Value) (x22 : Int) (x23 : Int) (h : AHeap) : s78_0 hk C N (n1 + 1) x0 x5 x21 x22 x23 h =
    bif decide (x23 < x22) then (aIdx x21 (.int .i64 x23) 1).bind fun v16 => (aLd1 h v16).bind fun v17 => (asI .i64 v17).bind fun n18 => (aNil x5).bind fun v19 => (aOff v19 4).bind fun v20 => (aLd1 h v20).bind fun v21 => (C 78 [x0, .int .i64 n18] h).bind fun r22 => ((aLd1 r22.2 v20).bind fun v23 => some (vbeq v23 v21)).bind fun b24 => bif b24 then (aFill [.pointer none] [(0, 1, r22.1)]).bind fun c25 => aNewS r22.2 105 c25 1 fun p26 h27 => ((aLd1 h27 v20).bind fun v28 => some (vbeq v28 v21)).bind fun b29 => bif b29 then (aApp h27 105 1 8 v21 p26).bind fun r30 => (aNil x5).bind fun v31 => (aOff v31 4).bind fun v32 => (aSt r30.2 v32 r30.1 1).bind fun h33 => s78_0 hk C N n1 x0 x5 x21 x22 (IntKind.i64.wrap (x23 + 1)) h33 else none else none else (C 125 [x5] h).bind fun r34 => some (r34.1, r34.2) := by kernel_rfl
theorem c78 (d : Nat) (args : List Value) (h : AHeap) : call Try.prog Ms (d + 1) 78 args h = evFn hk0 Try.prog (call Try.prog Ms d) M78 d Try.f78 args h := by kernel_rfl

/-! 79 loop.example/g00101/laws.heldKnotS -/
noncomputable def F79_0 (hk : Hk (Value × AHeap)) (C : ACall) (N : Nat) (n1 : Nat) : Nx (Value × AHeap) := evSt hk Try.prog C M79 N Try.f79 [1, 0, 1, 2, 6] [n1]
noncomputable def s79_0 (hk : Hk (Value × AHeap)) (C : ACall) (N : Nat) (n1 : Nat) (x0 : Value) (x1 : Int) (x5 : Int) (h : AHeap) := F79_0 hk C N n1 (⟨50, [(0, x0), (1, .int .i64 x1), (5, .int .i64 x5)]⟩) h
theorem e79 (hk : Hk (Value × AHeap)) (C : ACall) (N : Nat) (x0 : Value) (x1 : Int) (h : AHeap) : evFn hk Try.prog C M79 N Try.f79 [x0, .int .i64 x1] h =
    s79_0 hk C N N x0 x1 0 h := by kernel_rfl
theorem s79_0_eq (hk : Hk (Value × AHeap)) (C : ACall) (N : Nat) (n1 : Nat) (x0 : Value) (x1 : Int) (x5 : Int) (h : AHeap) : s79_0 hk C N (n1 + 1) x0 x1 x5 h =
    (aLen x0).bind fun v1 => (asI .i64 v1).bind fun n2 => bif decide (x5 < n2) then (aIdx x0 (.int .i64 x5) 4).bind fun v3 => (aOff v3 0).bind fun v4 => (aLd1 h v4).bind fun v5 => (asI .i64 v5).bind fun n6 => bif n6 != x1 then some (.int .i64 (-1), h) else (aIdx x0 (.int .i64 x5) 4).bind fun v7 => (aOff v7 1).bind fun v8 => (aLd1 h v8).bind fun v9 => (asS v9).bind fun t10 => (C 55 [.int .i64 (IntKind.i64.wrap (x1 + 1))] h).bind fun r11 => (asS r11.1).bind fun t12 => ((aLd1 r11.2 v8).bind fun v13 => (asS v13).bind fun t14 => some (vbeq (.string t14) (.string t10))).bind fun b15 => bif b15 then bif !(t10.toList == t12.toList) then some (.int .i64 (-1), r11.2) else (aIdx x0 (.int .i64 x5) 4).bind fun v16 => (aOff v16 2).bind fun v17 => (aLd1 r11.2 v17).bind fun v18 => (asI .i64 v18).bind fun n19 => bif n19 != (IntKind.i64.wrap ((IntKind.i64.wrap (x1 + 1)) + 1)) then some (.int .i64 (-1), r11.2) else (aIdx x0 (.int .i64 x5) 4).bind fun v20 => (aOff v20 3).bind fun v21 => (aLd1 r11.2 v21).bind fun v22 => (C 35 [v22, .int .i64 (IntKind.i64.wrap ((IntKind.i64.wrap ((IntKind.i64.wrap (x1 + 1)) + 1)) + 1))] r11.2).bind fun r23 => (asI .i64 r23.1).bind fun n24 => bif decide (n24 < 0) then some (.int .i64 (-1), r23.2) else s79_0 hk C N n1 x0 n24 (IntKind.i64.wrap (x5 + 1)) r23.2 else none else some (.int .i64 x1, h) := by kernel_rfl
theorem c79 (d : Nat) (args : List Value) (h : AHeap) : call Try.prog Ms (d + 1) 79 args h = evFn hk0 Try.prog (call Try.prog Ms d) M79 d Try.f79 args h := by kernel_rfl
end Go.Proofs.Ytadmoackacickaa
/- Slices of strings that stay; what looks for a string; marks on strings. -/
set_option linter.unusedSimpArgs false
namespace Go.Proofs.Ytadmoackacickaa
open Go Go.AH

/-- A slice of strings that can be read; its row lies below c. -/
def SSl (c : Nat) (h : AHeap) (v : Value) (xs : List BA) : Prop :=
  (v = .slice none 0 0 ∧ xs = []) ∨ ∃ i o, v = slc i 0 xs.length ∧ h.at? i = some o ∧ o.elem = 9 ∧ o.cells = strs xs ∧ i < c
section
variable {c d : Nat} {h g : AHeap} {v : Value} {xs : List BA}
theorem SSl.ext (x : SSl c h v xs) (e : Ext c h g) : SSl c g v xs := by
  rcases x with x | ⟨i, o, h1, h2, h3, h4, h5⟩
  · exact .inl x
  · exact .inr ⟨i, o, h1, e.at? h5 h2, h3, h4, h5⟩
theorem SSl.mono (x : SSl c h v xs) (hd : c ≤ d) : SSl d h v xs := by
  rcases x with x | ⟨i, o, h1, h2, h3, h4, h5⟩
  · exact .inl x
  · exact .inr ⟨i, o, h1, h2, h3, h4, by omega⟩
theorem SSl.up (x : SSl h.size h v xs) (e : Ext h.size h g) : SSl g.size g v xs := (x.ext e).mono e.size
theorem SSl.src (x : SSl c h v xs) : SSrc h v xs := by
  rcases x with ⟨rfl, rfl⟩ | ⟨i, o, rfl, h2, h3, h4, _⟩
  · exact SSrc.nil h
  · exact SSrc.of ⟨o, h2, h3, h4⟩
theorem SSl.s2 (x : SSl c h v xs) : isS2 v = true := by
  rcases x with ⟨rfl, _⟩ | ⟨i, o, rfl, _⟩ <;> rfl
theorem SOwn.ssl {b : Nat} (x : SOwn b h v xs) : SSl h.size h v xs := by
  obtain ⟨i, e, r, ep, a, _⟩ := x
  exact .inr ⟨i, _, e, a, rfl, rfl, (at?_obj a).2.1⟩
end
theorem SSrc.ld {h : AHeap} {v : Value} {xs : List BA} (x : SSrc h v xs) {j : Nat} (hj : j < xs.length) : aLd1 h (ixP v j) = some (.string xs[j]) := (x.at' j hj).2 h (SF.refl _)
def hasB (xs : List BA) (t : BA) : Bool := xs.any fun u => u.toList == t.toList
theorem has_loop {C : ACall} {N : Nat} {v : Value} {xs : List BA} {t : BA} {h : AHeap} (s : SSrc h v xs) (hl : xs.length ≤ 1000000) : ∀ (k j m : Nat), xs.length - j = k → j ≤ xs.length → k < m →
    s118_0 hk0 C N m v t (j : Int) h = some (.bool (hasB (xs.drop j) t), h) := by
  intro k
  induction k with
  | zero =>
    intro j m hk hj hm
    obtain ⟨m, rfl⟩ : ∃ q, m = q + 1 := ⟨m - 1, by omega⟩
    have : ¬ ((j : Int) < (xs.length : Int)) := by omega
    rw [s118_0_eq, List.drop_eq_nil_of_le (by omega)]
    exact eb s.len (eb rfl (ecf (decide_eq_false this) rfl))
  | succ k ih =>
    intro j m hk hj hm
    obtain ⟨m, rfl⟩ : ∃ q, m = q + 1 := ⟨m - 1, by omega⟩
    have hI : ((j : Int) < (xs.length : Int)) := by omega
    have hjl : j < xs.length := by omega
    have wj : IntKind.i64.wrap ((j : Int) + 1) = ((j + 1 : Nat) : Int) := by rw [wr (by omega) (by omega)]; omega
    have z := ih (j + 1) m (by omega) (by omega) (by omega)
    rw [s118_0_eq, List.drop_eq_getElem_cons hjl]
    refine eb s.len (eb rfl (ect (decide_eq_true hI) (eb (s.at' j hjl).1 (eb (s.ld hjl) (eb rfl ?_)))))
    unfold hasB at z ⊢
    rw [List.any_cons]
    cases e : (xs[j].toList == t.toList) with
    | true => rw [cond_true, Bool.true_or]
    | false => rw [cond_false, Bool.false_or, wj]; exact z
theorem l118 {d : Nat} {v : Value} {xs : List BA} {t : BA} {h : AHeap} (hd : 1048577 < d) (s : SSrc h v xs) (hl : xs.length ≤ 1000000) : call Try.prog Ms (d + 1) 118 [v, .string t] h = some (.bool (hasB xs t), h) := by
  rw [c118, e118]
  exact has_loop s hl xs.length 0 d (by omega) (by omega) (by omega)
def ixB (t : BA) (xs : List BA) : Option Nat := xs.findIdx? fun u => t.toList == u.toList
theorem ixB_loop {C : ACall} {N : Nat} {v : Value} {xs : List BA} {t : BA} {h : AHeap} (s : SSrc h v xs) (hl : xs.length ≤ 1000000) : ∀ (k j m : Nat), xs.length - j = k → j ≤ xs.length → k < m →
    s120_0 hk0 C N m v t (xs.length : Int) (j : Int) h = some (.int .i64 (match ixB t (xs.drop j) with | some q => ((j + q : Nat) : Int) | none => -1), h) := by
  intro k
  induction k with
  | zero =>
    intro j m hk hj hm
    obtain ⟨m, rfl⟩ : ∃ q, m = q + 1 := ⟨m - 1, by omega⟩
    have : ¬ ((j : Int) < (xs.length : Int)) := by omega
    rw [s120_0_eq, List.drop_eq_nil_of_le (by omega)]
    exact ecf (decide_eq_false this) rfl
  | succ k ih =>
    intro j m hk hj hm
    obtain ⟨m, rfl⟩ : ∃ q, m = q + 1 := ⟨m - 1, by omega⟩
    have hI : ((j : Int) < (xs.length : Int)) := by omega
    have hjl : j < xs.length := by omega
    have wj : IntKind.i64.wrap ((j : Int) + 1) = ((j + 1 : Nat) : Int) := by rw [wr (by omega) (by omega)]; omega
    have z := ih (j + 1) m (by omega) (by omega) (by omega)
    rw [s120_0_eq, List.drop_eq_getElem_cons hjl]
    refine ect (decide_eq_true hI) (eb (s.at' j hjl).1 (eb (s.ld hjl) (eb rfl ?_)))
    unfold ixB at z ⊢
    rw [List.findIdx?_cons]
    cases e : (t.toList == xs[j].toList) with
    | true => rw [cond_true]; simp
    | false =>
      rw [cond_false, wj, z]
      simp only [Bool.false_eq_true, if_false]
      cases List.findIdx? (fun u => t.toList == u.toList) (xs.drop (j + 1)) with
      | none => rfl
      | some q => simp; omega
theorem l120s {d : Nat} {v : Value} {xs : List BA} {t : BA} {h : AHeap} (hd : 1048577 < d) (s : SSrc h v xs) (hl : xs.length ≤ 1000000) : call Try.prog Ms (d + 1) 120 [v, .string t] h = some (.int .i64 (match ixB t xs with | some q => ((q : Nat) : Int) | none => -1), h) := by
  rw [c120, e120]
  refine eb s.len (eb rfl ?_)
  have := ixB_loop (C := call Try.prog Ms d) (N := d) s hl (t := t) xs.length 0 d (by omega) (by omega) (by omega)
  simpa using this
theorem ixB_has (t : BA) (xs : List BA) : (ixB t xs).isSome = hasB xs t := by
  unfold ixB hasB
  rw [List.findIdx?_isSome]
  congr 1; funext u
  exact Bool.beq_comm
theorem l75 {d : Nat} {v : Value} {xs : List BA} {t : BA} {h : AHeap} (hd : 1048577 < d) (s : SSrc h v xs) (hl : xs.length ≤ 1000000) : call Try.prog Ms (d + 2) 75 [v, .string t] h = some (.bool (hasB xs t), h) := by
  rw [c75, e75]
  refine eb (l120s hd s hl) (eb rfl ?_)
  rw [← ixB_has]
  cases ixB t xs with
  | none => rfl
  | some q => simp
/-! ### alike -/
theorem eqS_loop {C : ACall} {N : Nat} {v v' : Value} {xs : List BA} {h : AHeap} (hl : xs.length ≤ 1000000) (s : SSrc h v xs) (s' : SSrc h v' xs) : ∀ (k j m : Nat), xs.length - j = k → j ≤ xs.length → k < m → s39_0 hk0 C N m v v' (j : Int) h = some (.bool true, h) := by
  intro k
  induction k with
  | zero =>
    intro j m hk hj hm
    obtain ⟨m, rfl⟩ : ∃ q, m = q + 1 := ⟨m - 1, by omega⟩
    have : ¬ ((j : Int) < (xs.length : Int)) := by omega
    rw [s39_0_eq]
    exact eb s.len (eb rfl (ecf (decide_eq_false this) rfl))
  | succ k ih =>
    intro j m hk hj hm
    obtain ⟨m, rfl⟩ : ∃ q, m = q + 1 := ⟨m - 1, by omega⟩
    have hI : ((j : Int) < (xs.length : Int)) := by omega
    have hjl : j < xs.length := by omega
    have wj : IntKind.i64.wrap ((j : Int) + 1) = ((j + 1 : Nat) : Int) := by rw [wr (by omega) (by omega)]; omega
    have z := ih (j + 1) m (by omega) (by omega) (by omega)
    rw [← wj] at z
    rw [s39_0_eq]
    exact eb s.len (eb rfl (ect (decide_eq_true hI) (eb (s.at' j hjl).1 (eb (s.ld hjl) (eb rfl (eb (s'.at' j hjl).1 (eb (s'.ld hjl) (eb rfl (ecf (by simp) z)))))))))
theorem l39 {d : Nat} (hd : 1048577 < d) {v v' : Value} {xs : List BA} {h : AHeap} (hl : xs.length ≤ 1000000) (s : SSrc h v xs) (s' : SSrc h v' xs) : call Try.prog Ms (d + 1) 39 [v, v'] h = some (.bool true, h) := by
  rw [c39, e39]
  exact eb s.len (eb rfl (eb s'.len (eb rfl (ecf (by simp) (eqS_loop hl s s' xs.length 0 d (by omega) (by omega) (by omega))))))
/-! ### marks -/
def mkS (k : Int) (n : Nat) : List BA := (List.range n).map fun i : Nat => markT (k + (i : Int))
/-- Rows of strings of one family turn, all else stays. -/
def Ks (e : TypeId) (root : Nat) (h h' : AHeap) : Prop := ∀ j o, h.at? j = some o → (o.elem ≠ e ∨ o.root ≠ root) → h'.at? j = some o
theorem Ks.refl (e : TypeId) (root : Nat) (h : AHeap) : Ks e root h h := fun _ _ h _ => h
theorem Ks.trans {e : TypeId} {root : Nat} {h h' h'' : AHeap} (x : Ks e root h h') (y : Ks e root h' h'') : Ks e root h h'' := fun j o a b => y j o (x j o a b) b
theorem Ks.ext {e : TypeId} {root : Nat} {h h' : AHeap} (x : Ext h.size h h') : Ks e root h h' := fun j o a _ => x.at? (at?_obj a).2.1 a
/-- A cell of a row of one's own is written. -/
theorem stOwn {b : Nat} {h : AHeap} {r rt j : Nat} {e : TypeId} {cs : List Value} {v : Value} (o : OwnR h r rt e cs) (hb : b ≤ rt) (hj : j < cs.length) (hv : isCell v = true) :
    ∃ h', aSt h (ptr r j) v 1 = some h' ∧ Ext b h h' ∧ Ks e rt h h' ∧ OwnR h' r rt e (cs.set j v) ∧ h'.size = h.size := by
  obtain ⟨ep, ha⟩ := o
  have hsp : splice cs j [v] = cs.set j v := by
    unfold splice
    rw [List.set_eq_take_append_cons_drop, if_pos hj]; simp
  refine ⟨h.put r ⟨rt, ep, false, e, cs⟩ (cs.set j v), ?_, Ext.put (Nat.le_trans hb (at?_obj ha).2.2.1) hb _, fun k o hk hf => ?_, ⟨_, at?_put_same ha _⟩, rfl⟩
  · have : j + 1 ≤ cs.length := hj
    simp [aSt, ptr, ha, aCells_one hv, this, hsp]
  · refine at?_put_other hk (fun e' => ?_) _ (fun x => hf.elim (fun f => f x.1) fun f => f x.2)
    subst e'; rw [ha] at hk; cases hk
    exact hf.elim (fun f => f rfl) fun f => f rfl
theorem markS_loop {d N b r rt L : Nat} {k0 : Int} (hd : 3000 < d) (hb : b ≤ rt) (hL : L ≤ 1000000) (h0 : 0 ≤ k0) (h1 : k0 ≤ 1000000000) : ∀ (k j m : Nat) (ys : List BA) (h : AHeap), L - j = k → j ≤ L → k < m → ys.length = L → OwnR h r rt 9 (strs ys) → b ≤ h.size → ys.take j = mkS k0 j →
    ∃ h', s40_0 hk0 (call Try.prog Ms (d + 1)) N m (slc r 0 L) (k0 + j) (j : Int) h = some (.int .i64 (k0 + L), h') ∧ Ext b h h' ∧ Ks 9 rt h h' ∧ OwnR h' r rt 9 (strs (mkS k0 L)) := by
  intro k
  induction k with
  | zero =>
    intro j m ys h hk hj hm hy o hbs hlo
    obtain ⟨m, rfl⟩ : ∃ q, m = q + 1 := ⟨m - 1, by omega⟩
    obtain rfl : j = L := by omega
    have : ¬ ((j : Int) < (j : Int)) := by omega
    have hyy : ys = mkS k0 j := by rw [← hlo, ← hy, List.take_length]
    refine ⟨h, ?_, Ext.refl _ _, Ks.refl _ _ _, hyy ▸ o⟩
    rw [s40_0_eq]
    exact eb rfl (eb rfl (ecf (decide_eq_false this) rfl))
  | succ k ih =>
    intro j m ys h hk hj hm hy o hbs hlo
    obtain ⟨m, rfl⟩ : ∃ q, m = q + 1 := ⟨m - 1, by omega⟩
    have hI : ((j : Int) < (L : Int)) := by omega
    have hjl : j < ys.length := by omega
    have hix : aIdx (slc r 0 L) (.int .i64 (j : Int)) 1 = some (ptr r j) := by simp [aIdx, slc]; omega
    have wj : IntKind.i64.wrap ((j : Int) + 1) = ((j + 1 : Nat) : Int) := by rw [wr (by omega) (by omega)]; omega
    have wk : IntKind.i64.wrap (k0 + (j : Int) + 1) = k0 + ((j + 1 : Nat) : Int) := by rw [wr (by omega) (by omega)]; omega
    obtain ⟨h2, c2, x2⟩ := l55 hd (x := k0 + j) (Int.lt_of_le_of_lt (b := 100000000000) (by omega) (by decide)) h
    obtain ⟨ep, ha⟩ := o
    have o2 : OwnR h2 r rt 9 (strs ys) := ⟨ep, x2.at? (at?_obj ha).2.1 ha⟩
    obtain ⟨h3, c3, x3, k3, o3, s3⟩ := stOwn o2 hb (j := j) (v := .string (markT (k0 + j))) (by simp [strs]; omega) rfl
    have e3 : (strs ys).set j (.string (markT (k0 + j))) = strs (ys.set j (markT (k0 + j))) := by simp [strs, List.map_set]
    rw [e3] at o3
    have hsz := x2.size
    obtain ⟨h4, c4, x4, k4, o4⟩ := ih (j + 1) m (ys.set j (markT (k0 + j))) h3 (by omega) (by omega) (by omega) (by simp [hy]) o3 (by omega) (by
      have : mkS k0 (j + 1) = mkS k0 j ++ [markT (k0 + j)] := by simp [mkS, List.range_succ]
      rw [this, ← hlo, List.take_set]
      rw [List.take_add_one, List.getElem?_eq_getElem hjl, Option.toList_some]
      rw [List.set_append_right _ _ (by simp; omega)]
      simp [show j - min j ys.length = 0 by omega])
    refine ⟨h4, ?_, (x2.mono hbs).trans (x3.trans x4), ((Ks.ext x2).trans k3).trans k4, o4⟩
    rw [s40_0_eq]
    refine eb rfl (eb rfl (ect (decide_eq_true hI) (eb c2 (eb rfl (eb hix (eb c3 ?_))))))
    rw [wj, wk]; exact c4
theorem l40 {d b r rt : Nat} (hd : 1048577 < d) {ys : List BA} {k0 : Int} {h : AHeap} (hb : b ≤ rt) (hbs : b ≤ h.size) (hL : ys.length ≤ 1000000) (h0 : 0 ≤ k0) (h1 : k0 ≤ 1000000000) (o : OwnR h r rt 9 (strs ys)) :
    ∃ h', call Try.prog Ms (d + 2) 40 [slc r 0 ys.length, .int .i64 k0] h = some (.int .i64 (k0 + ys.length), h') ∧ Ext b h h' ∧ Ks 9 rt h h' ∧ OwnR h' r rt 9 (strs (mkS k0 ys.length)) := by
  obtain ⟨h', c, x⟩ := markS_loop (d := d) (N := d + 1) (by omega) hb hL h0 h1 ys.length 0 (d + 1) ys h (by omega) (by omega) (by omega) rfl o hbs (by simp [mkS])
  refine ⟨h', ?_, x⟩
  rw [c40, e40]
  have c' : s40_0 hk0 (call Try.prog Ms (d + 1)) (d + 1) (d + 1) (slc r 0 ys.length) (k0 + 0) 0 h = _ := c
  rw [Int.add_zero] at c'
  exact c'
theorem heldS_loop {d N : Nat} {v : Value} {L : Nat} {k0 : Int} (hd : 3000 < d) (hL : L ≤ 1000000) (h0 : 0 ≤ k0) (h1 : k0 ≤ 1000000000) : ∀ (k j m : Nat) (h : AHeap), SSl h.size h v (mkS k0 L) → L - j = k → j ≤ L → k < m →
    ∃ h', s41_0 hk0 (call Try.prog Ms (d + 1)) N m v (k0 + j) (j : Int) h = some (.int .i64 (k0 + L), h') ∧ Ext h.size h h' := by
  have hlen : (mkS k0 L).length = L := by simp [mkS]
  intro k
  induction k with
  | zero =>
    intro j m h s hk hj hm
    obtain ⟨m, rfl⟩ : ∃ q, m = q + 1 := ⟨m - 1, by omega⟩
    obtain rfl : j = L := by omega
    have : ¬ ((j : Int) < ((mkS k0 j).length : Int)) := by omega
    refine ⟨h, ?_, Ext.refl _ _⟩
    rw [s41_0_eq]
    exact eb s.src.len (eb rfl (ecf (decide_eq_false this) rfl))
  | succ k ih =>
    intro j m h s hk hj hm
    obtain ⟨m, rfl⟩ : ∃ q, m = q + 1 := ⟨m - 1, by omega⟩
    have hI : ((j : Int) < ((mkS k0 L).length : Int)) := by omega
    have hjl : j < (mkS k0 L).length := by omega
    have wj : IntKind.i64.wrap ((j : Int) + 1) = ((j + 1 : Nat) : Int) := by rw [wr (by omega) (by omega)]; omega
    have wk : IntKind.i64.wrap (k0 + (j : Int) + 1) = k0 + ((j + 1 : Nat) : Int) := by rw [wr (by omega) (by omega)]; omega
    have hel : (mkS k0 L)[j] = markT (k0 + j) := by simp [mkS]
    obtain ⟨h2, c2, x2⟩ := l55 hd (x := k0 + j) (Int.lt_of_le_of_lt (b := 100000000000) (by omega) (by decide)) h
    have s2 := s.up x2
    obtain ⟨h3, c3, x3⟩ := ih (j + 1) m h2 s2 (by omega) (by omega) (by omega)
    refine ⟨h3, ?_, Ext.tr x2 x3⟩
    have ld := s.src.ld hjl
    have ld2 := s2.src.ld hjl
    rw [hel] at ld ld2
    rw [s41_0_eq]
    refine eb s.src.len (eb rfl (ect (decide_eq_true hI) (eb (s.src.at' j hjl).1 (eb ld (eb rfl (eb c2 (eb rfl (eb (ag2s ld2) (ect (vbeq_str _) (ecf (by simp) ?_))))))))))
    rw [wj, wk]; exact c3
theorem l41 {d : Nat} (hd : 1048577 < d) {v : Value} {L : Nat} {k0 : Int} {h : AHeap} (hL : L ≤ 1000000) (h0 : 0 ≤ k0) (h1 : k0 ≤ 1000000000) (s : SSl h.size h v (mkS k0 L)) :
    ∃ h', call Try.prog Ms (d + 2) 41 [v, .int .i64 k0] h = some (.int .i64 (k0 + L), h') ∧ Ext h.size h h' := by
  obtain ⟨h', c, x⟩ := heldS_loop (d := d) (N := d + 1) (by omega) hL h0 h1 L 0 (d + 1) h s (by omega) (by omega) (by omega)
  refine ⟨h', ?_, x⟩
  rw [c41, e41]
  have c' : s41_0 hk0 (call Try.prog Ms (d + 1)) (d + 1) (d + 1) v (k0 + 0) 0 h = _ := c
  rw [Int.add_zero] at c'
  exact c'
theorem OwnR.ks {h h' : AHeap} {i root rt : Nat} {e e' : TypeId} {cs : List Value} (x : OwnR h i root e cs) (k : Ks e' rt h h') (hr : e ≠ e' ∨ root ≠ rt) : OwnR h' i root e cs := let ⟨ep, a⟩ := x; ⟨ep, k i _ a hr⟩
theorem OwnR.ext {h h' : AHeap} {i root : Nat} {e : TypeId} {cs : List Value} (x : OwnR h i root e cs) (k : Ext h.size h h') : OwnR h' i root e cs := let ⟨ep, a⟩ := x; ⟨ep, k.at? (at?_obj a).2.1 a⟩
theorem orB {R : Type} (x a b : Int) (f : Bool → R) : (bif x == a then f (x == a) else f (x == b)) = f (decide (x = a ∨ x = b)) := by
  by_cases h : x = a
  · have : (x == a) = true := by simp [h]
    rw [this, cond_true]; congr 1; simp [h]
  · have : (x == a) = false := by simp [h]
    rw [this, cond_false]; congr 1
    by_cases h' : x = b
    · rw [decide_eq_true (.inr h')]; simp [h']
    · rw [decide_eq_false (fun e => e.elim h h')]; simp [h']
end Go.Proofs.Ytadmoackacickaa
/- Fold: nodes that are put one behind the other. -/
set_option linter.unusedSimpArgs false
namespace Go.Proofs.Ytadmoackacickaa
open Go Go.AH

/-- All stays but the struct's row and the nodes' family. -/
def K2 (es : TypeId) (p rn : Nat) (h h' : AHeap) : Prop := h.size ≤ h'.size ∧ ∀ j o, h.at? j = some o → ¬ (o.elem = es ∧ o.root = p) → ¬ (o.elem = 73 ∧ o.root = rn) → h'.at? j = some o
theorem K2.refl (es : TypeId) (p rn : Nat) (h : AHeap) : K2 es p rn h h := ⟨Nat.le_refl _, fun _ _ a _ _ => a⟩
theorem K2.trans {es : TypeId} {p rn rn1 : Nat} {h h1 h2 : AHeap} (x : K2 es p rn h h1) (y : K2 es p rn1 h1 h2) (hr : rn1 = rn ∨ h.size ≤ rn1) : K2 es p rn h h2 :=
  ⟨Nat.le_trans x.1 y.1, fun j o a q r => y.2 j o (x.2 j o a q r) q fun e => by
    rcases hr with rfl | hr
    · exact r e
    · have := at?_obj a; omega⟩
theorem K2.ext {es : TypeId} {p rn : Nat} {h h' : AHeap} (x : Ext h.size h h') : K2 es p rn h h' := ⟨x.size, fun j o a _ _ => x.at? (at?_obj a).2.1 a⟩
theorem K2.own {es e : TypeId} {p rn i root : Nat} {h h' : AHeap} {cs : List Value} (k : K2 es p rn h h') (x : OwnR h i root e cs) (h1 : e ≠ es ∨ root ≠ p) (h2 : e ≠ 73 ∨ root ≠ rn) : OwnR h' i root e cs :=
  let ⟨ep, a⟩ := x; ⟨ep, k.2 i _ a (fun z => h1.elim (fun f => f z.1) fun f => f z.2) fun z => h2.elim (fun f => f z.1) fun f => f z.2⟩
theorem K2.rowE {es e : TypeId} {p rn i : Nat} {h h' : AHeap} {cs : List Value} (k : K2 es p rn h h') (x : RowE h i e cs) (h1 : e ≠ es) (h2 : e ≠ 73) : RowE h' i e cs :=
  let ⟨o, a, q1, q2⟩ := x; ⟨o, k.2 i o a (fun z => h1 (q1 ▸ z.1)) fun z => h2 (q1 ▸ z.1), q1, q2⟩
/-- A node's kids: none, or a row of their own. -/
def KZ (h : AHeap) (kv : Value) (ks : List Int) (rt : Nat) : Prop := (kv = .slice none 0 0 ∧ ks = []) ∨ ∃ id, kv = slc id 0 ks.length ∧ OwnR h id rt 3 (ints ks)
theorem KZ.isl {h : AHeap} {kv : Value} {ks : List Int} {rt : Nat} (x : KZ h kv ks rt) : ISl h.size h kv ks := by
  rcases x with x | ⟨id, rfl, ep, a⟩
  · exact .inl x
  · exact .inr (.inr ⟨id, _, rfl, a, rfl, rfl, (at?_obj a).2.1⟩)
theorem KZ.keep {h g : AHeap} {kv : Value} {ks : List Int} {rt : Nat} (x : KZ h kv ks rt) (k : ∀ j o, h.at? j = some o → o.elem = 3 → o.root = rt → g.at? j = some o) : KZ g kv ks rt := by
  rcases x with x | ⟨id, rfl, ep, a⟩
  · exact .inl x
  · exact .inr ⟨id, rfl, ep, k id _ a rfl rfl⟩
theorem getD_mem {xs : List Nat} {i : Nat} (h : i < xs.length) : xs.getD i 0 ∈ xs := by simp [h]
/-- Nodes in a row of their own. -/
def NS (b p : Nat) (h : AHeap) (v : Value) (ns : List Kn) (rts : List Nat) (rn : Nat) : Prop :=
  (v = .slice none 0 0 ∧ ns = [] ∧ rts = [] ∧ rn = p) ∨
  (b ≤ rn ∧ rn < h.size ∧ rts.length = ns.length ∧ rts.Nodup ∧ (∀ q ∈ rts, b ≤ q ∧ q < h.size) ∧ ∃ r cells, v = slc r 0 ns.length ∧ OwnR h r rn 73 cells ∧ ns.length * 4 ≤ cells.length ∧
    ∀ (i : Nat) (n : Kn), ns[i]? = some n → ∃ kv, (cells.drop (i * 4)).take 4 = knCells n kv ∧ KZ h kv n.ks (rts.getD i 0))
/-- The row holds no more than the nodes. -/
def NX (h : AHeap) (v : Value) (ns : List Kn) : Prop := ∃ r rt cells, v = slc r 0 ns.length ∧ OwnR h r rt 73 cells ∧ cells.length = ns.length * 4
theorem NX.keep {h g : AHeap} {v : Value} {ns : List Kn} (x : NX h v ns) (k : ∀ j o, h.at? j = some o → o.elem = 73 → o.cells.length = ns.length * 4 → v = slc j 0 ns.length → g.at? j = some o) : NX g v ns := by
  obtain ⟨r, rt, cells, h1, ⟨ep, a⟩, h3⟩ := x
  exact ⟨r, rt, cells, h1, ⟨ep, k r _ a rfl h3 h1⟩, h3⟩
section
variable {b p : Nat} {h g : AHeap} {v : Value} {ns : List Kn} {rts : List Nat} {rn : Nat}
theorem NS.lo {c : Nat} (x : NS b p h v ns rts rn) (hc : c ≤ b) : NS c p h v ns rts rn := by
  rcases x with x | ⟨h1, h2, h3, h4, h5, x⟩
  · exact .inl x
  · exact .inr ⟨by omega, h2, h3, h4, fun q hq => by have := h5 q hq; omega, x⟩
theorem NS.kse (x : NS b p h v ns rts rn) (hx : ns = [] ∨ NX h v ns) : KSe h.size h v ns := by
  rcases x with ⟨h1, h2, _⟩ | ⟨h1, h2, h3, h4, h5, r, cells, h6, ⟨ep, a⟩, h8, h9⟩
  · exact .inl ⟨h1, h2⟩
  · have hl : cells.length = ns.length * 4 ∨ ns = [] := by
      rcases hx with hx | ⟨r', rt', cells', q1, ⟨ep', q2⟩, q3⟩
      · exact .inr hx
      · rw [h6] at q1
        have hr : r = r' := by simp [slc] at q1; exact q1
        subst hr
        rw [a] at q2; cases q2
        exact .inl q3
    rcases hl with hl | hl
    · exact .inr (.inr ⟨r, _, h6, a, rfl, (at?_obj a).2.1, hl, fun j n hn => let ⟨kv, q, z⟩ := h9 j n hn; ⟨kv, q, z.isl⟩⟩)
    · subst hl
      exact .inr (.inl ⟨⟨r, 0, none⟩, 0, h6, rfl⟩)
theorem NS.keep (x : NS b p h v ns rts rn) (hs : h.size ≤ g.size) (k : ∀ j o, h.at? j = some o → (o.elem = 73 ∧ o.root = rn) ∨ (o.elem = 3 ∧ o.root ∈ rts) → g.at? j = some o) : NS b p g v ns rts rn := by
  rcases x with x | ⟨h1, h2, h3, h4, h5, r, cells, h6, ⟨ep, a⟩, h8, h9⟩
  · exact .inl x
  · exact .inr ⟨h1, by omega, h3, h4, fun q hq => by have := h5 q hq; omega, r, cells, h6, ⟨ep, k r _ a (.inl ⟨rfl, rfl⟩)⟩, h8, fun i n hn => let ⟨kv, a, z⟩ := h9 i n hn; ⟨kv, a, z.keep fun j o ho he hr => k j o ho (.inr ⟨he, hr ▸ getD_mem (by rw [h3]; exact (List.getElem?_eq_some_iff.1 hn).1)⟩)⟩⟩
theorem NS.ext (x : NS b p h v ns rts rn) (e : Ext h.size h g) : NS b p g v ns rts rn := x.keep e.size fun j o a _ => e.at? (at?_obj a).2.1 a
theorem NS.len (x : NS b p h v ns rts rn) : aLen v = some (.int .i64 (ns.length : Int)) := by
  rcases x with ⟨rfl, rfl, _⟩ | ⟨_, _, _, _, _, r, cells, rfl, _⟩ <;> rfl
theorem NS.vb (x : NS b p h v ns rts rn) : vbeq v v = true := by
  rcases x with ⟨rfl, rfl, _⟩ | ⟨_, _, _, _, _, r, cells, rfl, _⟩
  · rfl
  · simp [vbeq, vbeq1, slc]
theorem NS.cell (x : NS b p h v ns rts rn) : isCell v = true := by
  rcases x with ⟨rfl, rfl, _⟩ | ⟨_, _, _, _, _, r, cells, rfl, _⟩ <;> rfl
theorem drop4 {cells : List Value} {i : Nat} {n : Kn} {kv : Value} (h : (cells.drop (i * 4)).take 4 = knCells n kv) : cells[i * 4]? = some (.int .i64 n.k) ∧ cells[i * 4 + 1]? = some (.string n.t) ∧ cells[i * 4 + 2]? = some (.int .i64 n.i) ∧ cells[i * 4 + 3]? = some kv := by
  have q : ∀ c, c < 4 → cells[i * 4 + c]? = (knCells n kv)[c]? := fun c hc => by
    rw [← h, List.getElem?_take, if_pos hc, List.getElem?_drop]
  exact ⟨q 0 (by decide), q 1 (by decide), q 2 (by decide), q 3 (by decide)⟩
theorem NS.at (x : NS b p h v ns rts rn) {i : Nat} (hi : i < ns.length) : ∃ r kv, aIdx v (.int .i64 (i : Int)) 4 = some (ptr r (i * 4)) ∧ aLdN h (ptr r (i * 4)) 4 = some (knVal ns[i] kv) ∧ aLd1 h (ptr r (i * 4)) = some (.int .i64 ns[i].k) ∧ ISl h.size h kv ns[i].ks := by
  rcases x with ⟨_, rfl, _⟩ | ⟨_, _, _, _, _, r, cells, rfl, o, h8, h9⟩
  · simp at hi
  · have hn : ns[i]? = some ns[i] := by simp [hi]
    obtain ⟨kv, a, z⟩ := h9 i _ hn
    obtain ⟨d0, d1, d2, d3⟩ := drop4 a
    refine ⟨r, kv, by simp [aIdx, slc, hi], ?_, o.row.ld1 d0, z.isl⟩
    have := o.row.ldN (off := i * 4) (n := 4) (by omega)
    rw [this, a]; rfl
def cutN (v : Value) (n : Nat) : Value := match v with | .slice (some ⟨r, 0, none⟩) _ _ => slc r 0 n | v => v
theorem NS.cut (x : NS b p h v ns rts rn) {n : Nat} (hn : n ≤ ns.length) : aSub h 73 v none (some (.int .i64 (n : Int))) 4 = some (cutN v n) ∧ NS b p h (cutN v n) (ns.take n) (rts.take n) rn := by
  rcases x with ⟨rfl, rfl, rfl, rfl⟩ | ⟨h1, h2, h3, h4, h5, r, cells, rfl, o, h8, h9⟩
  · obtain rfl : n = 0 := by simpa using hn
    exact ⟨rfl, .inl ⟨rfl, rfl, rfl, rfl⟩⟩
  · have hl : (ns.take n).length = n := by simp; omega
    refine ⟨?_, .inr ⟨h1, h2, by simp [h3], h4.sublist (List.take_sublist _ _), fun q hq => h5 q (List.mem_of_mem_take hq), r, cells, by rw [hl]; rfl, o, by omega, fun i m hm => ?_⟩⟩
    · obtain ⟨ep, a⟩ := o
      have : (n : Int) ≤ (ns.length : Int) := by omega
      simp [aSub, slc, a, aBound, this, cutN]
    · have hi : i < n := by
        have := (List.getElem?_eq_some_iff.1 hm).1
        omega
      rw [List.getElem?_take, if_pos hi] at hm
      obtain ⟨kv, a, z⟩ := h9 i m hm
      refine ⟨kv, a, ?_⟩
      rw [List.getD_eq_getElem?_getD, List.getElem?_take, if_pos hi, ← List.getD_eq_getElem?_getD]; exact z
theorem NS.push (x : NS b p h v ns rts rn) (hb : b ≤ h.size) {n : Kn} {kv : Value} {rt : Nat} (z : KZ h kv n.ks rt) (hr : rt ∉ rts) (hr1 : b ≤ rt) (hr2 : rt < h.size) (hl : ns.length ≤ 1000000) :
    ∃ v' g rn', aApp (h.new 73 (knCells n kv)) 73 4 56 v (slc h.size 0 1) = some (v', g) ∧ NS b p g v' (ns ++ [n]) (rts ++ [rt]) rn' ∧ Ext b h g ∧ h.size ≤ g.size ∧ (∀ j o, h.at? j = some o → ¬ (o.elem = 73 ∧ o.root = rn) → g.at? j = some o) ∧ (rn' = rn ∨ h.size ≤ rn') ∧ NX g v' (ns ++ [n]) := by
  have e1 := Ext.new (Nat.le_refl h.size) 73 (knCells n kv)
  have w := (Own.new (b := 0) (Nat.zero_le h.size) 73 (knCells n kv)).row
  have hS : (h.new 73 (knCells n kv)).size = h.size + 1 := rfl
  have hsrc : aSrc (h.new 73 (knCells n kv)) 4 (slc h.size 0 1) = some (1, knCells n kv) := w.src (n := 1) (esz := 4) (by show 0 + 1 * 4 ≤ 4; omega)
  have x1 := x.ext e1
  have z1 : KZ (h.new 73 (knCells n kv)) kv n.ks rt := z.keep fun j o a _ _ => e1.at? (at?_obj a).2.1 a
  have k1 : ∀ j o, h.at? j = some o → (h.new 73 (knCells n kv)).at? j = some o := fun j o a => e1.at? (at?_obj a).2.1 a
  generalize h.new 73 (knCells n kv) = g1 at e1 w hS hsrc x1 z1 k1 ⊢
  rcases x1 with ⟨rfl, rfl, rfl, rfl⟩ | ⟨h1, h2, h3, h4, h5, r, cells, rfl, o, h8, h9⟩
  · have e2 := Ext.new (Nat.le_refl g1.size) 73 (knCells n kv)
    have q1 : (1 : Nat) ≤ most ∧ 1 * 56 ≤ most := by unfold most; omega
    have : aApp g1 73 4 56 (.slice none 0 0) (slc h.size 0 1) = ((some (1, knCells n kv)).bind fun my : Nat × List Value => if my.1 = 0 then some (.slice none 0 0, g1) else if my.1 ≤ most ∧ my.1 * 56 ≤ most then some (slc g1.size 0 my.1, g1.new 73 my.2) else none) := by rw [← hsrc]; rfl
    refine ⟨slc g1.size 0 1, g1.new 73 (knCells n kv), g1.size, ?_, ?_, (Ext.tr e1 e2).mono hb, (Ext.tr e1 e2).size, fun j o a _ => e2.at? (by have := (at?_obj a).2.1; omega) (k1 j o a), .inr (by omega), ⟨g1.size, g1.size, knCells n kv, rfl, OwnR.new _ _ _, rfl⟩⟩
    · rw [this, Option.bind_some, if_neg (show ¬ (1:Nat) = 0 by decide), if_pos q1]
    · refine .inr ⟨by omega, by show g1.size < g1.size + 1; omega, rfl, by simp, fun q hq => ?_, g1.size, knCells n kv, rfl, OwnR.new _ _ _, by show (0 + 1) * 4 ≤ 4; decide, fun i m hm => ?_⟩
      · have : q = rt := by simpa using hq
        subst this
        show _ ∧ q < g1.size + 1
        omega
      · have hi : i = 0 := by have := (List.getElem?_eq_some_iff.1 hm).1; simp at this; exact this
        subst hi
        cases hm
        exact ⟨kv, rfl, z1.keep fun j o a _ _ => e2.at? (at?_obj a).2.1 a⟩
  · obtain ⟨ep, a⟩ := o
    have q1 : ns.length * 4 ≤ cells.length ∧ ns.length + 1 ≤ most ∧ (ns.length + 1) * 56 ≤ most := by unfold most; omega
    have hcall : aApp g1 73 4 56 (slc r 0 ns.length) (slc h.size 0 1) = some (slc g1.size 0 (ns.length + 1), g1.app ⟨rn, ep, false, 73, cells⟩ (ns.length * 4) (cells.take (ns.length * 4) ++ knCells n kv)) := by
      have : aApp g1 73 4 56 (slc r 0 ns.length) (slc h.size 0 1) = aAppG g1 73 4 56 (slc r 0 ns.length) (some (1, knCells n kv)) := by rw [← hsrc]; rfl
      rw [this]
      simp [aAppG, slc, a, q1]
    have kk : ∀ j o', g1.at? j = some o' → ¬ (o'.elem = 73 ∧ o'.root = rn) → (g1.app ⟨rn, ep, false, 73, cells⟩ (ns.length * 4) (cells.take (ns.length * 4) ++ knCells n kv)).at? j = some o' := fun j o' ho hk => at?_app_old ho _ fun hh => absurd hh hk
    have ko : OwnR (g1.app ⟨rn, ep, false, 73, cells⟩ (ns.length * 4) (cells.take (ns.length * 4) ++ knCells n kv)) g1.size rn 73 (cells.take (ns.length * 4) ++ knCells n kv) := ⟨_, at?_app_same a _ _⟩
    have ks : (g1.app ⟨rn, ep, false, 73, cells⟩ (ns.length * 4) (cells.take (ns.length * 4) ++ knCells n kv)).size = g1.size + 1 := rfl
    have ke : Ext b g1 (g1.app ⟨rn, ep, false, 73, cells⟩ (ns.length * 4) (cells.take (ns.length * 4) ++ knCells n kv)) := Ext.app (by omega) h1 _ _
    generalize g1.app ⟨rn, ep, false, 73, cells⟩ (ns.length * 4) (cells.take (ns.length * 4) ++ knCells n kv) = g2 at hcall kk ko ks ke
    have hct : (cells.take (ns.length * 4)).length = ns.length * 4 := by simp; omega
    refine ⟨_, g2, rn, hcall, .inr ⟨h1, by omega, by simp [h3], ?_, fun q hq => ?_, g1.size, _, by simp, ko, ?_, fun i m hm => ?_⟩, (e1.mono hb).trans ke, by omega, fun j o' ho hk => kk j o' (k1 j o' ho) hk, .inl rfl, ⟨g1.size, rn, _, by simp, ko, by rw [List.length_append, List.length_append, hct]; show _ + 4 = (_ + 1) * 4; omega⟩⟩
    · rw [List.nodup_append]
      exact ⟨h4, by simp, fun q hq s hs => by rw [List.mem_singleton.1 hs]; exact fun e => hr (e ▸ hq)⟩
    · rcases List.mem_append.1 hq with hq | hq
      · have := h5 q hq; omega
      · rw [List.mem_singleton.1 hq]; omega
    · rw [List.length_append, List.length_append, hct]; show (_ + 1) * 4 ≤ _ + 4; omega
    · have hi : i < ns.length + 1 := by have := (List.getElem?_eq_some_iff.1 hm).1; simpa using this
      by_cases hlt : i < ns.length
      · rw [List.getElem?_append_left hlt] at hm
        obtain ⟨kv', a', z'⟩ := h9 i m hm
        refine ⟨kv', ?_, ?_⟩
        · rw [← a', List.drop_append_of_le_length (by omega), List.take_append_of_le_length (by rw [List.length_drop]; omega), List.drop_take, List.take_take, Nat.min_eq_left (by omega)]
        · rw [List.getD_eq_getElem?_getD, List.getElem?_append_left (by omega), ← List.getD_eq_getElem?_getD]
          exact z'.keep fun j o ho he _ => kk j o ho fun e => by rw [he] at e; exact absurd e.1 (by decide)
      · have : i = ns.length := by omega
        subst this
        rw [List.getElem?_append_right (Nat.le_refl _), Nat.sub_self] at hm
        cases hm
        refine ⟨kv, ?_, ?_⟩
        · rw [List.drop_append, List.drop_of_length_le (by omega), hct, Nat.sub_self]; rfl
        · rw [List.getD_eq_getElem?_getD, List.getElem?_append_right (by omega), h3, Nat.sub_self]
          exact z1.keep fun j o ho he _ => kk j o ho fun e => by rw [he] at e; exact absurd e.1 (by decide)
/-- A node is put behind, and the struct holds the new slice. -/
theorem bput {es : TypeId} {tl : List Value} (o : OwnR h p p es (v :: tl)) (hes : es ≠ 73) (hes3 : es ≠ 3) (hbp : b ≤ p) (x : NS b p h v ns rts rn) {n : Kn} {kv : Value} {rt : Nat} (z : KZ h kv n.ks rt) (hr : rt ∉ rts) (hr1 : b ≤ rt) (hr2 : rt < h.size) (hl : ns.length ≤ 1000000) :
    ∃ v' g1 g2 rn', aApp (h.new 73 (knCells n kv)) 73 4 56 v (slc h.size 0 1) = some (v', g1) ∧ aSt g1 (ptr p 0) v' 1 = some g2 ∧ OwnR g2 p p es (v' :: tl) ∧ NS b p g2 v' (ns ++ [n]) (rts ++ [rt]) rn' ∧ Ext b h g2 ∧ K2 es p rn h g2 ∧ (rn' = rn ∨ h.size ≤ rn') ∧ NX g2 v' (ns ++ [n]) := by
  have hp := o.lt
  obtain ⟨v', g1, rn', c1, x1, e1, s1, k1, q, nx⟩ := x.push (by omega) z hr hr1 hr2 hl
  have o1 : OwnR g1 p p es (v :: tl) := let ⟨ep, a⟩ := o; ⟨ep, k1 p _ a fun e => hes e.1⟩
  obtain ⟨g2, c2, e2, k2, o2, s2⟩ := stOwn o1 hbp (j := 0) (v := v') (by simp) x1.cell
  refine ⟨v', g1, g2, rn', c1, c2, o2, x1.keep (by omega) (fun j o a he => k2 j o a ?_), e1.trans e2, ⟨by omega, fun j o a q1 q2 => k2 j o (k1 j o a q2) ?_⟩, q, nx.keep fun j o a he _ _ => k2 j o a (.inl (by rw [he]; exact Ne.symm hes))⟩
  · rcases he with he | he
    · exact .inl (by rw [he.1]; exact Ne.symm hes)
    · exact .inl (by rw [he.1]; exact Ne.symm hes3)
  · by_cases e : o.elem = es
    · exact .inr fun r => q1 ⟨e, r⟩
    · exact .inl e
theorem bcut {es : TypeId} {tl : List Value} (o : OwnR h p p es (v :: tl)) (hes : es ≠ 73) (hes3 : es ≠ 3) (hbp : b ≤ p) (x : NS b p h v ns rts rn) {m : Nat} (hm : m ≤ ns.length) :
    ∃ g, aSub h 73 v none (some (.int .i64 (m : Int))) 4 = some (cutN v m) ∧ aSt h (ptr p 0) (cutN v m) 1 = some g ∧ OwnR g p p es (cutN v m :: tl) ∧ NS b p g (cutN v m) (ns.take m) (rts.take m) rn ∧ Ext b h g ∧ K2 es p rn h g := by
  obtain ⟨c1, x1⟩ := x.cut hm
  obtain ⟨g2, c2, e2, k2, o2, s2⟩ := stOwn o hbp (j := 0) (v := cutN v m) (by simp) x1.cell
  refine ⟨g2, c1, c2, o2, x1.keep (by omega) (fun j o a he => k2 j o a ?_), e2, ⟨by omega, fun j o a q1 q2 => k2 j o a ?_⟩⟩
  · rcases he with he | he
    · exact .inl (by rw [he.1]; exact Ne.symm hes)
    · exact .inl (by rw [he.1]; exact Ne.symm hes3)
  · by_cases e : o.elem = es
    · exact .inr fun r => q1 ⟨e, r⟩
    · exact .inl e
end
end Go.Proofs.Ytadmoackacickaa
