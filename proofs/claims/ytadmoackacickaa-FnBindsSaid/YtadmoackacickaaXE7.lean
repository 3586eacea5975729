import Derived.Test.YtadmoackacickaaXMs
import Derived.KernelRfl
import Derived.Test.YtadmoackacickaaProg
set_option linter.unusedVariables false
namespace Go.Proofs.Ytadmoackacickaa
open Go Go.AH
/-! 109 (*loop.example/g00101/impl.parser).want -/
theorem e109 (hk : Hk (Value × AHeap)) (C : ACall) (N : Nat) (x0 : Value) (x1 : ByteArray) (h : AHeap) : evFn hk Try.prog C M109 N Try.f109 [x0, .string x1] h =
    (C 107 [x0, .string x1] h).bind fun r1 => (asB r1.1).bind fun b2 => bif !b2 then (C 156 [x0, .int .i64 2] r1.2).bind fun r3 => some (.tuple (List.toArray []), r3.2) else some (.tuple (List.toArray []), r1.2) := by kernel_rfl
theorem c109 (d : Nat) (args : List Value) (h : AHeap) : call Try.prog Ms (d + 1) 109 args h = evFn hk0 Try.prog (call Try.prog Ms d) M109 d Try.f109 args h := by kernel_rfl

/-! 110 (*loop.example/g00101/impl.parser).whole -/
theorem e110 (hk : Hk (Value × AHeap)) (C : ACall) (N : Nat) (x0 : Value) (h : AHeap) : evFn hk Try.prog C M110 N Try.f110 [x0] h =
    (C 157 [x0] h).bind fun r1 => (C 158 [x0] r1.2).bind fun r2 => (asI .i64 r2.1).bind fun n3 => (aNil x0).bind fun v4 => (aOff v4 3).bind fun v5 => (aLd1 r2.2 v5).bind fun v6 => (asI .i64 v6).bind fun n7 => (aNil x0).bind fun v8 => (aOff v8 3).bind fun v9 => (aSt r2.2 v9 (.int .i64 (IntKind.i64.wrap (n7 - 1))) 1).bind fun h10 => some (.int .i64 n3, h10) := by kernel_rfl
theorem c110 (d : Nat) (args : List Value) (h : AHeap) : call Try.prog Ms (d + 1) 110 args h = evFn hk0 Try.prog (call Try.prog Ms d) M110 d Try.f110 args h := by kernel_rfl

/-! 111 (*loop.example/g00101/impl.parser).block -/
noncomputable def F111_0 (hk : Hk (Value × AHeap)) (C : ACall) (N : Nat) (n1 : Nat) : Nx (Value × AHeap) := evSt hk Try.prog C M111 N Try.f111 [1, 1, 1, 1, 0, 2, 6] [n1]
noncomputable def s111_0 (hk : Hk (Value × AHeap)) (C : ACall) (N : Nat) (n1 : Nat) (x0 : Value) (x3 : Value) (h : AHeap) := F111_0 hk C N n1 (⟨38, [(0, x0), (3, x3)]⟩) h
noncomputable def F111_1 (hk : Hk (Value × AHeap)) (C : ACall) (N : Nat) (n1 : Nat) : Nx (Value × AHeap) := evSt hk Try.prog C M111 N Try.f111 [1, 1, 1, 1, 0, 2, 3, 1] [n1]
noncomputable def s111_1 (hk : Hk (Value × AHeap)) (C : ACall) (N : Nat) (n1 : Nat) (x0 : Value) (x3 : Value) (h : AHeap) := hk 5 (⟨38, [(0, x0), (3, x3)]⟩) h (F111_1 hk C N n1)
theorem e111 (hk : Hk (Value × AHeap)) (C : ACall) (N : Nat) (x0 : Value) (h : AHeap) : evFn hk Try.prog C M111 N Try.f111 [x0] h =
    (C 157 [x0] h).bind fun r1 => (C 109 [x0, .string (⟨#[123]⟩)] r1.2).bind fun r2 => aNewS r2.2 3 [] 0 fun p3 h4 => s111_0 hk C N N x0 p3 h4 := by kernel_rfl
theorem s111_0_eq (hk : Hk (Value × AHeap)) (C : ACall) (N : Nat) (n1 : Nat) (x0 : Value) (x3 : Value) (h : AHeap) : s111_0 hk C N (n1 + 1) x0 x3 h =
    (aNil x0).bind fun v5 => (aOff v5 5).bind fun v6 => (aLd1 h v6).bind fun v7 => (asI .i64 v7).bind fun n8 => bif n8 == 0 then (C 154 [x0, .string (⟨#[125]⟩)] h).bind fun r9 => (asB r9.1).bind fun b10 => bif !b10 then s111_1 hk C N n1 x0 x3 r9.2 else (C 109 [x0, .string (⟨#[125]⟩)] r9.2).bind fun r11 => (aNil x0).bind fun v12 => (aOff v12 3).bind fun v13 => (aLd1 r11.2 v13).bind fun v14 => (asI .i64 v14).bind fun n15 => (aNil x0).bind fun v16 => (aOff v16 3).bind fun v17 => (aSt r11.2 v17 (.int .i64 (IntKind.i64.wrap (n15 - 1))) 1).bind fun h18 => (C 64 [x0, .int .i64 21, .string ⟨#[]⟩, .int .i64 0, x3] h18).bind fun r19 => (asI .i64 r19.1).bind fun n20 => some (.int .i64 n20, r19.2) else (C 109 [x0, .string (⟨#[125]⟩)] h).bind fun r21 => (aNil x0).bind fun v22 => (aOff v22 3).bind fun v23 => (aLd1 r21.2 v23).bind fun v24 => (asI .i64 v24).bind fun n25 => (aNil x0).bind fun v26 => (aOff v26 3).bind fun v27 => (aSt r21.2 v27 (.int .i64 (IntKind.i64.wrap (n25 - 1))) 1).bind fun h28 => (C 64 [x0, .int .i64 21, .string ⟨#[]⟩, .int .i64 0, x3] h28).bind fun r29 => (asI .i64 r29.1).bind fun n30 => some (.int .i64 n30, r29.2) := by kernel_rfl
theorem s111_1_j (C : ACall) (N : Nat) (n1 : Nat) (x0 : Value) (x3 : Value) (h : AHeap) : s111_1 hk0 C N n1 x0 x3 h = F111_1 hk0 C N n1 (⟨38, [(0, x0), (3, x3)]⟩) h := by delta s111_1; exact hk0_app _ _ _ _
theorem s111_1_eq (hk : Hk (Value × AHeap)) (C : ACall) (N : Nat) (n1 : Nat) (x0 : Value) (x3 : Value) (h : AHeap) : F111_1 hk C N n1 (⟨38, [(0, x0), (3, x3)]⟩) h =
    (C 63 [x0] h).bind fun r31 => (asI .i64 r31.1).bind fun n32 => aNewS r31.2 3 [.int .i64 n32] 1 fun p33 h34 => (aApp h34 3 1 8 x3 p33).bind fun r35 => s111_0 hk C N n1 x0 r35.1 r35.2 := by kernel_rfl
theorem c111 (d : Nat) (args : List Value) (h : AHeap) : call Try.prog Ms (d + 1) 111 args h = evFn hk0 Try.prog (call Try.prog Ms d) M111 d Try.f111 args h := by kernel_rfl

/-! 112 (*loop.example/g00101/impl.parser).begun -/
noncomputable def F112_0 (hk : Hk (Value × AHeap)) (C : ACall) (N : Nat) : Nx (Value × AHeap) := evSt hk Try.prog C M112 N Try.f112 [1, 1, 1, 1, 0, 2, 1] []
noncomputable def s112_0 (hk : Hk (Value × AHeap)) (C : ACall) (N : Nat) (x0 : Value) (x3 : Int) (x4 : Value) (x21 : Bool) (h : AHeap) := hk 100006 (⟨95, [(0, x0), (3, .int .i64 x3), (4, x4), (21, .bool x21)]⟩) h (F112_0 hk C N)
noncomputable def F112_1 (hk : Hk (Value × AHeap)) (C : ACall) (N : Nat) : Nx (Value × AHeap) := evSt hk Try.prog C M112 N Try.f112 [1, 1, 1, 1, 0, 2, 1, 5, 1] []
noncomputable def s112_1 (hk : Hk (Value × AHeap)) (C : ACall) (N : Nat) (x0 : Value) (x3 : Int) (x4 : Value) (x33 : Bool) (h : AHeap) := hk 100008 (⟨95, [(0, x0), (3, .int .i64 x3), (4, x4), (33, .bool x33)]⟩) h (F112_1 hk C N)
noncomputable def F112_2 (hk : Hk (Value × AHeap)) (C : ACall) (N : Nat) : Nx (Value × AHeap) := evSt hk Try.prog C M112 N Try.f112 [1, 1, 1, 1, 0, 2, 1, 5, 1, 5, 1] []
noncomputable def s112_2 (hk : Hk (Value × AHeap)) (C : ACall) (N : Nat) (x0 : Value) (x3 : Int) (x4 : Value) (x60 : Bool) (h : AHeap) := hk 100013 (⟨95, [(0, x0), (3, .int .i64 x3), (4, x4), (60, .bool x60)]⟩) h (F112_2 hk C N)
noncomputable def F112_3 (hk : Hk (Value × AHeap)) (C : ACall) (N : Nat) : Nx (Value × AHeap) := evSt hk Try.prog C M112 N Try.f112 [1, 1, 1, 1, 1] []
noncomputable def s112_3 (hk : Hk (Value × AHeap)) (C : ACall) (N : Nat) (x0 : Value) (h : AHeap) := hk 17 (⟨95, [(0, x0)]⟩) h (F112_3 hk C N)
theorem e112 (hk : Hk (Value × AHeap)) (C : ACall) (N : Nat) (x0 : Value) (h : AHeap) : evFn hk Try.prog C M112 N Try.f112 [x0] h =
    (C 110 [x0] h).bind fun r1 => (asI .i64 r1.1).bind fun n2 => (aNil x0).bind fun v3 => (aOff v3 5).bind fun v4 => (aLd1 r1.2 v4).bind fun v5 => (asI .i64 v5).bind fun n6 => bif n6 != 0 then some (.int .i64 0, r1.2) else (aNil x0).bind fun v7 => (aOff v7 4).bind fun v8 => (aLd1 r1.2 v8).bind fun v9 => (aIdx v9 (.int .i64 n2) 4).bind fun v10 => (aLdN r1.2 v10 4).bind fun v11 => aNew r1.2 73 [.int .i64 0, .string ⟨#[]⟩, .int .i64 0, .slice none 0 0] fun p12 h13 => (aSt h13 p12 v11 4).bind fun h14 => (aOff p12 0).bind fun v15 => (aLd1 h14 v15).bind fun v16 => (asI .i64 v16).bind fun n17 => bif n17 == 9 then (C 107 [x0, .string (⟨#[59]⟩)] h14).bind fun r18 => (asB r18.1).bind fun b19 => s112_0 hk C N x0 n2 p12 b19 r18.2 else s112_0 hk C N x0 n2 p12 false h14 := by kernel_rfl
theorem s112_0_j (C : ACall) (N : Nat) (x0 : Value) (x3 : Int) (x4 : Value) (x21 : Bool) (h : AHeap) : s112_0 hk0 C N x0 x3 x4 x21 h = F112_0 hk0 C N (⟨95, [(0, x0), (3, .int .i64 x3), (4, x4), (21, .bool x21)]⟩) h := by delta s112_0; exact hk0_app _ _ _ _
theorem s112_0_eq (hk : Hk (Value × AHeap)) (C : ACall) (N : Nat) (x0 : Value) (x3 : Int) (x4 : Value) (x21 : Bool) (h : AHeap) : F112_0 hk C N (⟨95, [(0, x0), (3, .int .i64 x3), (4, x4), (21, .bool x21)]⟩) h =
    bif x21 then aNewS h 3 [.int .i64 x3] 1 fun p20 h21 => (C 64 [x0, .int .i64 20, .string ⟨#[]⟩, .int .i64 0, p20] h21).bind fun r22 => (asI .i64 r22.1).bind fun n23 => some (.int .i64 n23, r22.2) else (aOff x4 0).bind fun v24 => (aLd1 h v24).bind fun v25 => (asI .i64 v25).bind fun n26 => bif n26 == 5 then (C 107 [x0, .string (⟨#[61]⟩)] h).bind fun r27 => (asB r27.1).bind fun b28 => s112_1 hk C N x0 x3 x4 b28 r27.2 else s112_1 hk C N x0 x3 x4 false h := by kernel_rfl
theorem s112_1_j (C : ACall) (N : Nat) (x0 : Value) (x3 : Int) (x4 : Value) (x33 : Bool) (h : AHeap) : s112_1 hk0 C N x0 x3 x4 x33 h = F112_1 hk0 C N (⟨95, [(0, x0), (3, .int .i64 x3), (4, x4), (33, .bool x33)]⟩) h := by delta s112_1; exact hk0_app _ _ _ _
theorem s112_1_eq (hk : Hk (Value × AHeap)) (C : ACall) (N : Nat) (x0 : Value) (x3 : Int) (x4 : Value) (x33 : Bool) (h : AHeap) : F112_1 hk C N (⟨95, [(0, x0), (3, .int .i64 x3), (4, x4), (33, .bool x33)]⟩) h =
    bif x33 then (aNil x0).bind fun v29 => (aOff v29 4).bind fun v30 => (aLd1 h v30).bind fun v31 => (aSub h 73 v31 none (some (.int .i64 x3)) 4).bind fun v32 => (aNil x0).bind fun v33 => (aOff v33 4).bind fun v34 => (aSt h v34 v32 1).bind fun h35 => (C 110 [x0] h35).bind fun r36 => (asI .i64 r36.1).bind fun n37 => (C 109 [x0, .string (⟨#[59]⟩)] r36.2).bind fun r38 => (aOff x4 1).bind fun v39 => (aLd1 r38.2 v39).bind fun v40 => (asS v40).bind fun t41 => aNewS r38.2 3 [.int .i64 n37] 1 fun p42 h43 => (C 64 [x0, .int .i64 15, .string t41, .int .i64 0, p42] h43).bind fun r44 => (asI .i64 r44.1).bind fun n45 => some (.int .i64 n45, r44.2) else (aOff x4 0).bind fun v46 => (aLd1 h v46).bind fun v47 => (asI .i64 v47).bind fun n48 => bif n48 == 8 then (C 107 [x0, .string (⟨#[61]⟩)] h).bind fun r49 => (asB r49.1).bind fun b50 => s112_2 hk C N x0 x3 x4 b50 r49.2 else s112_2 hk C N x0 x3 x4 false h := by kernel_rfl
theorem s112_2_j (C : ACall) (N : Nat) (x0 : Value) (x3 : Int) (x4 : Value) (x60 : Bool) (h : AHeap) : s112_2 hk0 C N x0 x3 x4 x60 h = F112_2 hk0 C N (⟨95, [(0, x0), (3, .int .i64 x3), (4, x4), (60, .bool x60)]⟩) h := by delta s112_2; exact hk0_app _ _ _ _
theorem s112_2_eq (hk : Hk (Value × AHeap)) (C : ACall) (N : Nat) (x0 : Value) (x3 : Int) (x4 : Value) (x60 : Bool) (h : AHeap) : F112_2 hk C N (⟨95, [(0, x0), (3, .int .i64 x3), (4, x4), (60, .bool x60)]⟩) h =
    bif x60 then (aNil x0).bind fun v51 => (aOff v51 4).bind fun v52 => (aLd1 h v52).bind fun v53 => (aSub h 73 v53 none (some (.int .i64 x3)) 4).bind fun v54 => (aNil x0).bind fun v55 => (aOff v55 4).bind fun v56 => (aSt h v56 v54 1).bind fun h57 => (C 110 [x0] h57).bind fun r58 => (asI .i64 r58.1).bind fun n59 => (C 109 [x0, .string (⟨#[59]⟩)] r58.2).bind fun r60 => (aOff x4 3).bind fun v61 => (aLd1 r60.2 v61).bind fun v62 => (aIdx v62 (.int .i64 0) 1).bind fun v63 => (aLd1 r60.2 v63).bind fun v64 => (asI .i64 v64).bind fun n65 => (aOff x4 3).bind fun v66 => (aLd1 r60.2 v66).bind fun v67 => (aIdx v67 (.int .i64 1) 1).bind fun v68 => (aLd1 r60.2 v68).bind fun v69 => (asI .i64 v69).bind fun n70 => aNewS r60.2 3 [.int .i64 n65, .int .i64 n70, .int .i64 n59] 3 fun p71 h72 => (C 64 [x0, .int .i64 16, .string ⟨#[]⟩, .int .i64 0, p71] h72).bind fun r73 => (asI .i64 r73.1).bind fun n74 => some (.int .i64 n74, r73.2) else s112_3 hk C N x0 h := by kernel_rfl
theorem s112_3_j (C : ACall) (N : Nat) (x0 : Value) (h : AHeap) : s112_3 hk0 C N x0 h = F112_3 hk0 C N (⟨95, [(0, x0)]⟩) h := by delta s112_3; exact hk0_app _ _ _ _
theorem s112_3_eq (hk : Hk (Value × AHeap)) (C : ACall) (N : Nat) (x0 : Value) (h : AHeap) : F112_3 hk C N (⟨95, [(0, x0)]⟩) h =
    (C 156 [x0, .int .i64 2] h).bind fun r75 => some (.int .i64 0, r75.2) := by kernel_rfl
theorem c112 (d : Nat) (args : List Value) (h : AHeap) : call Try.prog Ms (d + 1) 112 args h = evFn hk0 Try.prog (call Try.prog Ms d) M112 d Try.f112 args h := by kernel_rfl

/-! 120 slices.Index[[]string,string] -/
noncomputable def F120_0 (hk : Hk (Value × AHeap)) (C : ACall) (N : Nat) (n1 : Nat) : Nx (Value × AHeap) := evSt hk Try.prog C M120 N Try.f120 [1, 0, 1, 2, 6] [n1]
noncomputable def s120_0 (hk : Hk (Value × AHeap)) (C : ACall) (N : Nat) (n1 : Nat) (x0 : Value) (x1 : ByteArray) (x7 : Int) (x8 : Int) (h : AHeap) := F120_0 hk C N n1 (⟨19, [(0, x0), (1, .string x1), (7, .int .i64 x7), (8, .int .i64 x8)]⟩) h
theorem e120 (hk : Hk (Value × AHeap)) (C : ACall) (N : Nat) (x0 : Value) (x1 : ByteArray) (h : AHeap) : evFn hk Try.prog C M120 N Try.f120 [x0, .string x1] h =
    (aLen x0).bind fun v1 => (asI .i64 v1).bind fun n2 => s120_0 hk C N N x0 x1 n2 0 h := by kernel_rfl
theorem s120_0_eq (hk : Hk (Value × AHeap)) (C : ACall) (N : Nat) (n1 : Nat) (x0 : Value) (x1 : ByteArray) (x7 : Int) (x8 : Int) (h : AHeap) : s120_0 hk C N (n1 + 1) x0 x1 x7 x8 h =
    bif decide (x8 < x7) then (aIdx x0 (.int .i64 x8) 1).bind fun v3 => (aLd1 h v3).bind fun v4 => (asS v4).bind fun t5 => bif x1.toList == t5.toList then some (.int .i64 x8, h) else s120_0 hk C N n1 x0 x1 x7 (IntKind.i64.wrap (x8 + 1)) h else some (.int .i64 (-1), h) := by kernel_rfl
theorem c120 (d : Nat) (args : List Value) (h : AHeap) : call Try.prog Ms (d + 1) 120 args h = evFn hk0 Try.prog (call Try.prog Ms d) M120 d Try.f120 args h := by kernel_rfl

/-! 154 (*loop.example/g00101/impl.parser).is -/
theorem e154 (hk : Hk (Value × AHeap)) (C : ACall) (N : Nat) (x0 : Value) (x1 : ByteArray) (h : AHeap) : evFn hk Try.prog C M154 N Try.f154 [x0, .string x1] h =
    (C 155 [x0] h).bind fun r1 => aNew r1.2 53 [.int .i64 0, .int .i64 0, .string ⟨#[]⟩, .int .i64 0] fun p2 h3 => (aSt h3 p2 r1.1 4).bind fun h4 => (aOff p2 0).bind fun v5 => (aLd1 h4 v5).bind fun v6 => (asI .i64 v6).bind fun n7 => bif n7 == 5 then (aOff p2 2).bind fun v8 => (aLd1 h4 v8).bind fun v9 => (asS v9).bind fun t10 => some (.bool (t10.toList == x1.toList), h4) else (aOff p2 0).bind fun v11 => (aLd1 h4 v11).bind fun v12 => (asI .i64 v12).bind fun n13 => bif n13 == 2 then (aOff p2 2).bind fun v14 => (aLd1 h4 v14).bind fun v15 => (asS v15).bind fun t16 => some (.bool (t16.toList == x1.toList), h4) else some (.bool false, h4) := by kernel_rfl
theorem c154 (d : Nat) (args : List Value) (h : AHeap) : call Try.prog Ms (d + 1) 154 args h = evFn hk0 Try.prog (call Try.prog Ms d) M154 d Try.f154 args h := by kernel_rfl

/-! 155 (*loop.example/g00101/impl.parser).peek -/
noncomputable def F155_0 (hk : Hk (Value × AHeap)) (C : ACall) (N : Nat) : Nx (Value × AHeap) := evSt hk Try.prog C M155 N Try.f155 [1, 0, 1] []
noncomputable def s155_0 (hk : Hk (Value × AHeap)) (C : ACall) (N : Nat) (x0 : Value) (x2 : Value) (x19 : Bool) (h : AHeap) := hk 100002 (⟨35, [(0, x0), (2, x2), (19, .bool x19)]⟩) h (F155_0 hk C N)
noncomputable def F155_1 (hk : Hk (Value × AHeap)) (C : ACall) (N : Nat) : Nx (Value × AHeap) := evSt hk Try.prog C M155 N Try.f155 [1, 1] []
noncomputable def s155_1 (hk : Hk (Value × AHeap)) (C : ACall) (N : Nat) (x0 : Value) (x2 : Value) (h : AHeap) := hk 3 (⟨35, [(0, x0), (2, x2)]⟩) h (F155_1 hk C N)
theorem e155 (hk : Hk (Value × AHeap)) (C : ACall) (N : Nat) (x0 : Value) (h : AHeap) : evFn hk Try.prog C M155 N Try.f155 [x0] h =
    aNew h 53 [.int .i64 0, .int .i64 0, .string ⟨#[]⟩, .int .i64 0] fun p1 h2 => (aNil x0).bind fun v3 => (aOff v3 5).bind fun v4 => (aLd1 h2 v4).bind fun v5 => (asI .i64 v5).bind fun n6 => bif n6 != 0 then s155_0 hk C N x0 p1 true h2 else (aNil x0).bind fun v7 => (aOff v7 1).bind fun v8 => (aLd1 h2 v8).bind fun v9 => (asI .i64 v9).bind fun n10 => (aNil x0).bind fun v11 => (aOff v11 0).bind fun v12 => (aLd1 h2 v12).bind fun v13 => (aLen v13).bind fun v14 => (asI .i64 v14).bind fun n15 => s155_0 hk C N x0 p1 (decide (n10 ≥ n15)) h2 := by kernel_rfl
theorem s155_0_j (C : ACall) (N : Nat) (x0 : Value) (x2 : Value) (x19 : Bool) (h : AHeap) : s155_0 hk0 C N x0 x2 x19 h = F155_0 hk0 C N (⟨35, [(0, x0), (2, x2), (19, .bool x19)]⟩) h := by delta s155_0; exact hk0_app _ _ _ _
theorem s155_0_eq (hk : Hk (Value × AHeap)) (C : ACall) (N : Nat) (x0 : Value) (x2 : Value) (x19 : Bool) (h : AHeap) : F155_0 hk C N (⟨35, [(0, x0), (2, x2), (19, .bool x19)]⟩) h =
    bif x19 then (aNil x0).bind fun v16 => (aOff v16 2).bind fun v17 => (aLd1 h v17).bind fun v18 => (asI .i64 v18).bind fun n19 => (aSt h x2 (.agg (List.toArray [.int .i64 0, .int .i64 n19, .string ⟨#[]⟩, .int .i64 0])) 4).bind fun h20 => (aLdN h20 x2 4).bind fun v21 => some (v21, h20) else s155_1 hk C N x0 x2 h := by kernel_rfl
theorem s155_1_j (C : ACall) (N : Nat) (x0 : Value) (x2 : Value) (h : AHeap) : s155_1 hk0 C N x0 x2 h = F155_1 hk0 C N (⟨35, [(0, x0), (2, x2)]⟩) h := by delta s155_1; exact hk0_app _ _ _ _
theorem s155_1_eq (hk : Hk (Value × AHeap)) (C : ACall) (N : Nat) (x0 : Value) (x2 : Value) (h : AHeap) : F155_1 hk C N (⟨35, [(0, x0), (2, x2)]⟩) h =
    (aNil x0).bind fun v22 => (aOff v22 0).bind fun v23 => (aLd1 h v23).bind fun v24 => (aNil x0).bind fun v25 => (aOff v25 1).bind fun v26 => (aLd1 h v26).bind fun v27 => (asI .i64 v27).bind fun n28 => (aIdx v24 (.int .i64 n28) 4).bind fun v29 => (aLdN h v29 4).bind fun v30 => (aSt h x2 v30 4).bind fun h31 => (aLdN h31 x2 4).bind fun v32 => some (v32, h31) := by kernel_rfl
theorem c155 (d : Nat) (args : List Value) (h : AHeap) : call Try.prog Ms (d + 1) 155 args h = evFn hk0 Try.prog (call Try.prog Ms d) M155 d Try.f155 args h := by kernel_rfl

/-! 156 (*loop.example/g00101/impl.parser).fail -/
theorem e156 (hk : Hk (Value × AHeap)) (C : ACall) (N : Nat) (x0 : Value) (x1 : Int) (h : AHeap) : evFn hk Try.prog C M156 N Try.f156 [x0, .int .i64 x1] h =
    (aNil x0).bind fun v1 => (aOff v1 5).bind fun v2 => (aLd1 h v2).bind fun v3 => (asI .i64 v3).bind fun n4 => bif n4 == 0 then (C 155 [x0] h).bind fun r5 => (aPart r5.1 1 1 false).bind fun v6 => (asI .i64 v6).bind fun n7 => (aNil x0).bind fun v8 => (aOff v8 6).bind fun v9 => (aSt r5.2 v9 (.int .i64 n7) 1).bind fun h10 => (aNil x0).bind fun v11 => (aOff v11 5).bind fun v12 => (aSt h10 v12 (.int .i64 x1) 1).bind fun h13 => some (.tuple (List.toArray []), h13) else some (.tuple (List.toArray []), h) := by kernel_rfl
theorem c156 (d : Nat) (args : List Value) (h : AHeap) : call Try.prog Ms (d + 1) 156 args h = evFn hk0 Try.prog (call Try.prog Ms d) M156 d Try.f156 args h := by kernel_rfl

/-! 157 (*loop.example/g00101/impl.parser).open -/
noncomputable def F157_0 (hk : Hk (Value × AHeap)) (C : ACall) (N : Nat) : Nx (Value × AHeap) := evSt hk Try.prog C M157 N Try.f157 [0, 1] []
noncomputable def s157_0 (hk : Hk (Value × AHeap)) (C : ACall) (N : Nat) (x0 : Value) (x12 : Bool) (h : AHeap) := hk 100001 (⟨22, [(0, x0), (12, .bool x12)]⟩) h (F157_0 hk C N)
noncomputable def F157_1 (hk : Hk (Value × AHeap)) (C : ACall) (N : Nat) : Nx (Value × AHeap) := evSt hk Try.prog C M157 N Try.f157 [1] []
noncomputable def s157_1 (hk : Hk (Value × AHeap)) (C : ACall) (N : Nat) (x0 : Value) (h : AHeap) := hk 2 (⟨22, [(0, x0)]⟩) h (F157_1 hk C N)
theorem e157 (hk : Hk (Value × AHeap)) (C : ACall) (N : Nat) (x0 : Value) (h : AHeap) : evFn hk Try.prog C M157 N Try.f157 [x0] h =
    (C 155 [x0] h).bind fun r1 => (aPart r1.1 0 1 false).bind fun v2 => (asI .i64 v2).bind fun n3 => bif n3 != 0 then (aNil x0).bind fun v4 => (aOff v4 3).bind fun v5 => (aLd1 r1.2 v5).bind fun v6 => (asI .i64 v6).bind fun n7 => s157_0 hk C N x0 (n7 == 30) r1.2 else s157_0 hk C N x0 false r1.2 := by kernel_rfl
theorem s157_0_j (C : ACall) (N : Nat) (x0 : Value) (x12 : Bool) (h : AHeap) : s157_0 hk0 C N x0 x12 h = F157_0 hk0 C N (⟨22, [(0, x0), (12, .bool x12)]⟩) h := by delta s157_0; exact hk0_app _ _ _ _
theorem s157_0_eq (hk : Hk (Value × AHeap)) (C : ACall) (N : Nat) (x0 : Value) (x12 : Bool) (h : AHeap) : F157_0 hk C N (⟨22, [(0, x0), (12, .bool x12)]⟩) h =
    bif x12 then (C 156 [x0, .int .i64 3] h).bind fun r8 => s157_1 hk C N x0 r8.2 else s157_1 hk C N x0 h := by kernel_rfl
theorem s157_1_j (C : ACall) (N : Nat) (x0 : Value) (h : AHeap) : s157_1 hk0 C N x0 h = F157_1 hk0 C N (⟨22, [(0, x0)]⟩) h := by delta s157_1; exact hk0_app _ _ _ _
theorem s157_1_eq (hk : Hk (Value × AHeap)) (C : ACall) (N : Nat) (x0 : Value) (h : AHeap) : F157_1 hk C N (⟨22, [(0, x0)]⟩) h =
    (aNil x0).bind fun v9 => (aOff v9 3).bind fun v10 => (aLd1 h v10).bind fun v11 => (asI .i64 v11).bind fun n12 => (aNil x0).bind fun v13 => (aOff v13 3).bind fun v14 => (aSt h v14 (.int .i64 (IntKind.i64.wrap (n12 + 1))) 1).bind fun h15 => some (.tuple (List.toArray []), h15) := by kernel_rfl
theorem c157 (d : Nat) (args : List Value) (h : AHeap) : call Try.prog Ms (d + 1) 157 args h = evFn hk0 Try.prog (call Try.prog Ms d) M157 d Try.f157 args h := by kernel_rfl

/-! 158 (*loop.example/g00101/impl.parser).or -/
noncomputable def F158_0 (hk : Hk (Value × AHeap)) (C : ACall) (N : Nat) (n1 : Nat) : Nx (Value × AHeap) := evSt hk Try.prog C M158 N Try.f158 [1, 1, 0, 2, 6] [n1]
noncomputable def s158_0 (hk : Hk (Value × AHeap)) (C : ACall) (N : Nat) (n1 : Nat) (x0 : Value) (x3 : Int) (h : AHeap) := F158_0 hk C N n1 (⟨17, [(0, x0), (3, .int .i64 x3)]⟩) h
theorem e158 (hk : Hk (Value × AHeap)) (C : ACall) (N : Nat) (x0 : Value) (h : AHeap) : evFn hk Try.prog C M158 N Try.f158 [x0] h =
    (C 188 [x0] h).bind fun r1 => (asI .i64 r1.1).bind fun n2 => s158_0 hk C N N x0 n2 r1.2 := by kernel_rfl
theorem s158_0_eq (hk : Hk (Value × AHeap)) (C : ACall) (N : Nat) (n1 : Nat) (x0 : Value) (x3 : Int) (h : AHeap) : s158_0 hk C N (n1 + 1) x0 x3 h =
    (C 107 [x0, .string (⟨#[111, 114]⟩)] h).bind fun r3 => (asB r3.1).bind fun b4 => bif b4 then (C 188 [x0] r3.2).bind fun r5 => (asI .i64 r5.1).bind fun n6 => aNewS r5.2 3 [.int .i64 x3, .int .i64 n6] 2 fun p7 h8 => (C 64 [x0, .int .i64 13, .string ⟨#[]⟩, .int .i64 0, p7] h8).bind fun r9 => (asI .i64 r9.1).bind fun n10 => s158_0 hk C N n1 x0 n10 r9.2 else some (.int .i64 x3, r3.2) := by kernel_rfl
theorem c158 (d : Nat) (args : List Value) (h : AHeap) : call Try.prog Ms (d + 1) 158 args h = evFn hk0 Try.prog (call Try.prog Ms d) M158 d Try.f158 args h := by kernel_rfl

/-! 172 loop.example/g00101/impl.opTexts -/
theorem e172 (hk : Hk (Value × AHeap)) (C : ACall) (N : Nat) (h : AHeap) : evFn hk Try.prog C M172 N Try.f172 [] h =
    aNewS h 9 [.string (⟨#[43]⟩), .string (⟨#[45]⟩), .string (⟨#[42]⟩), .string (⟨#[47]⟩), .string (⟨#[37]⟩), .string (⟨#[46, 46]⟩), .string (⟨#[61, 61]⟩), .string (⟨#[126, 61]⟩), .string (⟨#[60]⟩), .string (⟨#[60, 61]⟩)] 10 fun p1 h2 => some (p1, h2) := by kernel_rfl
theorem c172 (d : Nat) (args : List Value) (h : AHeap) : call Try.prog Ms (d + 1) 172 args h = evFn hk0 Try.prog (call Try.prog Ms d) M172 d Try.f172 args h := by kernel_rfl

/-! 188 (*loop.example/g00101/impl.parser).and -/
noncomputable def F188_0 (hk : Hk (Value × AHeap)) (C : ACall) (N : Nat) (n1 : Nat) : Nx (Value × AHeap) := evSt hk Try.prog C M188 N Try.f188 [1, 1, 0, 2, 6] [n1]
noncomputable def s188_0 (hk : Hk (Value × AHeap)) (C : ACall) (N : Nat) (n1 : Nat) (x0 : Value) (x3 : Int) (h : AHeap) := F188_0 hk C N n1 (⟨17, [(0, x0), (3, .int .i64 x3)]⟩) h
theorem e188 (hk : Hk (Value × AHeap)) (C : ACall) (N : Nat) (x0 : Value) (h : AHeap) : evFn hk Try.prog C M188 N Try.f188 [x0] h =
    (C 203 [x0] h).bind fun r1 => (asI .i64 r1.1).bind fun n2 => s188_0 hk C N N x0 n2 r1.2 := by kernel_rfl
theorem s188_0_eq (hk : Hk (Value × AHeap)) (C : ACall) (N : Nat) (n1 : Nat) (x0 : Value) (x3 : Int) (h : AHeap) : s188_0 hk C N (n1 + 1) x0 x3 h =
    (C 107 [x0, .string (⟨#[97, 110, 100]⟩)] h).bind fun r3 => (asB r3.1).bind fun b4 => bif b4 then (C 203 [x0] r3.2).bind fun r5 => (asI .i64 r5.1).bind fun n6 => aNewS r5.2 3 [.int .i64 x3, .int .i64 n6] 2 fun p7 h8 => (C 64 [x0, .int .i64 12, .string ⟨#[]⟩, .int .i64 0, p7] h8).bind fun r9 => (asI .i64 r9.1).bind fun n10 => s188_0 hk C N n1 x0 n10 r9.2 else some (.int .i64 x3, r3.2) := by kernel_rfl
theorem c188 (d : Nat) (args : List Value) (h : AHeap) : call Try.prog Ms (d + 1) 188 args h = evFn hk0 Try.prog (call Try.prog Ms d) M188 d Try.f188 args h := by kernel_rfl
end Go.Proofs.Ytadmoackacickaa
