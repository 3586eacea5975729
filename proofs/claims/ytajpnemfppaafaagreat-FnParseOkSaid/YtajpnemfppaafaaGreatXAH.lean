import Derived.Test.YtajpnemfppaafaaGreatXAD
import Derived.KernelRfl
import Derived.Test.YtajpnemfppaafaaGreatProg
import Derived.Test.YtajpnemfppaafaaGreatXAG
set_option linter.unusedSimpArgs false
set_option linter.unusedVariables false
namespace Go.Proofs.YtajpnemfppaafaaGreat
open Go Go.AH
noncomputable section
variable (hk : Hk (Value × AHeap)) (C : ACall) (N : Nat)
def F274_0 : Nx (Value × AHeap) := evSt hk Tp C M274 N Tryz.f274 [1, 1, 0, 1] []
def s274_0 (x0 x1 : Value) (x2 : Int) (x7 : Value) (x18 : Bool) (h : AHeap) := hk 100003 (⟨159, [(0, x0), (1, x1), (2, .int .i64 x2), (7, x7), (18, .bool x18)]⟩) h (F274_0 hk C N)
def F274_1 : Nx (Value × AHeap) := evSt hk Tp C M274 N Tryz.f274 [1, 1, 0, 1, 4, 0, 1] []
def s274_1 (x0 x7 : Value) (x26 : Bool) (h : AHeap) := hk 100004 (⟨159, [(0, x0), (7, x7), (26, .bool x26)]⟩) h (F274_1 hk C N)
def F274_3 : Nx (Value × AHeap) := evSt hk Tp C M274 N Tryz.f274 [1, 1, 1] []
def s274_3 (x0 x1 : Value) (x2 : Int) (h : AHeap) := hk 6 (⟨159, [(0, x0), (1, x1), (2, .int .i64 x2)]⟩) h (F274_3 hk C N)
def F274_2 : Nx (Value × AHeap) := evSt hk Tp C M274 N Tryz.f274 [1, 1, 0, 1, 4, 1] []
def s274_2 (x0 : Value) (h : AHeap) := hk 5 (⟨159, [(0, x0)]⟩) h (F274_2 hk C N)
def F274_4 : Nx (Value × AHeap) := evSt hk Tp C M274 N Tryz.f274 [1, 1, 1, 1] []
def s274_4 (x0 x1 : Value) (x2 : Int) (h : AHeap) := hk 28 (⟨159, [(0, x0), (1, x1), (2, .int .i64 x2)]⟩) h (F274_4 hk C N)
theorem e274 (x0 x1 : Value) (x2 : Int) (h : AHeap) : evFn hk Tp C M274 N Tryz.f274 [x0, x1, .int .i64 x2] h =
  (C 352 [x1, .int .i64 1] h).bind fun r1 => bif decide (x2 ≤ 0) then s274_0 hk C N x0 x1 x2 r1.1 true r1.2 else (C 134 [x0, .int .i64 3] r1.2).bind fun r2 => (asB r2.1).bind fun b3 => s274_0 hk C N x0 x1 x2 r1.1 b3 r2.2 := by kernel_rfl
theorem s274_0_j (x0 x1 : Value) (x2 : Int) (x7 : Value) (x18 : Bool) (h : AHeap) : s274_0 hk0 C N x0 x1 x2 x7 x18 h = F274_0 hk0 C N (⟨159, [(0, x0), (1, x1), (2, .int .i64 x2), (7, x7), (18, .bool x18)]⟩) h := by delta s274_0; exact hk0_app _ _ _ _
theorem s274_0_eq (x0 x1 : Value) (x2 : Int) (x7 : Value) (x18 : Bool) (h : AHeap) : F274_0 hk C N (⟨159, [(0, x0), (1, x1), (2, .int .i64 x2), (7, x7), (18, .bool x18)]⟩) h =
  bif x18 then (aLen x7).bind fun v4 => (asI .i64 v4).bind fun n5 => bif decide (n5 > 0) then (C 134 [x0, .int .i64 3] h).bind fun r6 => (asB r6.1).bind fun b7 => s274_1 hk C N x0 x7 (!b7) r6.2 else s274_1 hk C N x0 x7 false h else s274_3 hk C N x0 x1 x2 h := by kernel_rfl
theorem s274_1_j (x0 x7 : Value) (x26 : Bool) (h : AHeap) : s274_1 hk0 C N x0 x7 x26 h = F274_1 hk0 C N (⟨159, [(0, x0), (7, x7), (26, .bool x26)]⟩) h := by delta s274_1; exact hk0_app _ _ _ _
theorem s274_1_eq (x0 x7 : Value) (x26 : Bool) (h : AHeap) : F274_1 hk C N (⟨159, [(0, x0), (7, x7), (26, .bool x26)]⟩) h =
  bif x26 then (C 159 [x0, x7] h).bind fun r8 => (asS r8.1).bind fun t9 => some (.string t9, r8.2) else s274_2 hk C N x0 h := by kernel_rfl
theorem s274_3_j (x0 x1 : Value) (x2 : Int) (h : AHeap) : s274_3 hk0 C N x0 x1 x2 h = F274_3 hk0 C N (⟨159, [(0, x0), (1, x1), (2, .int .i64 x2)]⟩) h := by delta s274_3; exact hk0_app _ _ _ _
theorem s274_3_eq (x0 x1 : Value) (x2 : Int) (h : AHeap) : F274_3 hk C N (⟨159, [(0, x0), (1, x1), (2, .int .i64 x2)]⟩) h =
  (C 136 [x0, .int .i64 9] h).bind fun r10 => (asI .i64 r10.1).bind fun n11 => bif n11 == 0 then (C 352 [x1, .int .i64 3] r10.2).bind fun r12 => (aLen r12.1).bind fun v13 => (asI .i64 v13).bind fun n14 => bif decide (n14 > 0) then (C 159 [x0, r12.1] r12.2).bind fun r15 => (asS r15.1).bind fun t16 => (aBin .add (.string t16) (.string (⟨#[91]⟩))).bind fun v17 => (asS v17).bind fun t18 => (C 274 [x0, x1, .int .i64 (IntKind.i64.wrap (x2 - 1))] r15.2).bind fun r19 => (asS r19.1).bind fun t20 => (aBin .add (.string t18) (.string t20)).bind fun v21 => (asS v21).bind fun t22 => (aBin .add (.string t22) (.string (⟨#[93]⟩))).bind fun v23 => (asS v23).bind fun t24 => some (.string t24, r19.2) else s274_4 hk C N x0 x1 x2 r12.2 else bif n11 == 1 then (C 352 [x1, .int .i64 4] r10.2).bind fun r25 => (aLen r25.1).bind fun v26 => (asI .i64 v26).bind fun n27 => bif decide (n27 > 0) then (C 159 [x0, r25.1] r25.2).bind fun r28 => (asS r28.1).bind fun t29 => (aBin .add (.string t29) (.string (⟨#[40]⟩))).bind fun v30 => (asS v30).bind fun t31 => (C 274 [x0, x1, .int .i64 (IntKind.i64.wrap (x2 - 1))] r28.2).bind fun r32 => (asS r32.1).bind fun t33 => (aBin .add (.string t31) (.string t33)).bind fun v34 => (asS v34).bind fun t35 => (aBin .add (.string t35) (.string (⟨#[41]⟩))).bind fun v36 => (asS v36).bind fun t37 => some (.string t37, r32.2) else s274_4 hk C N x0 x1 x2 r25.2 else bif n11 == 2 then (C 274 [x0, x1, .int .i64 (IntKind.i64.wrap (x2 - 1))] r10.2).bind fun r38 => (asS r38.1).bind fun t39 => (aBin .add (.string (⟨#[45]⟩)) (.string t39)).bind fun v40 => (asS v40).bind fun t41 => some (.string t41, r38.2) else bif n11 == 3 then (C 134 [x0, .int .i64 2] r10.2).bind fun r42 => (asB r42.1).bind fun b43 => bif b43 then (C 350 [x0, x1, .int .i64 (IntKind.i64.wrap (x2 - 1))] r42.2).bind fun r44 => (asS r44.1).bind fun t45 => (aBin .add (.string (⟨#[35]⟩)) (.string t45)).bind fun v46 => (asS v46).bind fun t47 => some (.string t47, r44.2) else (C 352 [x1, .int .i64 3] r42.2).bind fun r48 => (aLen r48.1).bind fun v49 => (asI .i64 v49).bind fun n50 => bif decide (n50 > 0) then (C 159 [x0, r48.1] r48.2).bind fun r51 => (asS r51.1).bind fun t52 => (aBin .add (.string (⟨#[35]⟩)) (.string t52)).bind fun v53 => (asS v53).bind fun t54 => some (.string t54, r51.2) else s274_4 hk C N x0 x1 x2 r48.2 else bif n11 == 4 then (C 354 [x0, x1, .int .i64 (IntKind.i64.wrap (x2 - 1))] r10.2).bind fun r55 => (asS r55.1).bind fun t56 => (aBin .add (.string (⟨#[40]⟩)) (.string t56)).bind fun v57 => (asS v57).bind fun t58 => (aBin .add (.string t58) (.string (⟨#[32, 97, 110, 100, 32]⟩))).bind fun v59 => (asS v59).bind fun t60 => (C 274 [x0, x1, .int .i64 (IntKind.i64.wrap (x2 - 1))] r55.2).bind fun r61 => (asS r61.1).bind fun t62 => (aBin .add (.string t60) (.string t62)).bind fun v63 => (asS v63).bind fun t64 => (aBin .add (.string t64) (.string (⟨#[32, 111, 114, 32]⟩))).bind fun v65 => (asS v65).bind fun t66 => (C 274 [x0, x1, .int .i64 (IntKind.i64.wrap (x2 - 1))] r61.2).bind fun r67 => (asS r67.1).bind fun t68 => (aBin .add (.string t66) (.string t68)).bind fun v69 => (asS v69).bind fun t70 => (aBin .add (.string t70) (.string (⟨#[41]⟩))).bind fun v71 => (asS v71).bind fun t72 => some (.string t72, r67.2) else bif n11 == 5 then (C 134 [x0, .int .i64 3] r10.2).bind fun r73 => (asB r73.1).bind fun b74 => bif b74 then (C 274 [x0, x1, .int .i64 (IntKind.i64.wrap (x2 - 1))] r73.2).bind fun r75 => (asS r75.1).bind fun t76 => (aBin .add (.string (⟨#[40]⟩)) (.string t76)).bind fun v77 => (asS v77).bind fun t78 => aNewS r75.2 9 [.string (⟨#[32, 47, 32]⟩), .string (⟨#[32, 37, 32]⟩)] 2 fun p79 h80 => (C 159 [x0, p79] h80).bind fun r81 => (asS r81.1).bind fun t82 => (aBin .add (.string t78) (.string t82)).bind fun v83 => (asS v83).bind fun t84 => (C 274 [x0, x1, .int .i64 (IntKind.i64.wrap (x2 - 1))] r81.2).bind fun r85 => (asS r85.1).bind fun t86 => (aBin .add (.string t84) (.string t86)).bind fun v87 => (asS v87).bind fun t88 => (aBin .add (.string t88) (.string (⟨#[41]⟩))).bind fun v89 => (asS v89).bind fun t90 => some (.string t90, r85.2) else s274_4 hk C N x0 x1 x2 r73.2 else s274_4 hk C N x0 x1 x2 r10.2 := by kernel_rfl
theorem s274_2_j (x0 : Value) (h : AHeap) : s274_2 hk0 C N x0 h = F274_2 hk0 C N (⟨159, [(0, x0)]⟩) h := by delta s274_2; exact hk0_app _ _ _ _
theorem s274_2_eq (x0 : Value) (h : AHeap) : F274_2 hk C N (⟨159, [(0, x0)]⟩) h =
  aNewS h 9 [.string (⟨#[48]⟩), .string (⟨#[49]⟩), .string (⟨#[50]⟩), .string (⟨#[51]⟩), .string (⟨#[55]⟩), .string (⟨#[49, 48]⟩), .string (⟨#[57, 57, 57, 57, 57, 57, 57, 57, 57, 57, 57, 57, 57, 57, 57]⟩)] 7 fun p91 h92 => (C 159 [x0, p91] h92).bind fun r93 => (asS r93.1).bind fun t94 => some (.string t94, r93.2) := by kernel_rfl
theorem s274_4_j (x0 x1 : Value) (x2 : Int) (h : AHeap) : s274_4 hk0 C N x0 x1 x2 h = F274_4 hk0 C N (⟨159, [(0, x0), (1, x1), (2, .int .i64 x2)]⟩) h := by delta s274_4; exact hk0_app _ _ _ _
theorem s274_4_eq (x0 x1 : Value) (x2 : Int) (h : AHeap) : F274_4 hk C N (⟨159, [(0, x0), (1, x1), (2, .int .i64 x2)]⟩) h =
  (C 274 [x0, x1, .int .i64 (IntKind.i64.wrap (x2 - 1))] h).bind fun r95 => (asS r95.1).bind fun t96 => (aBin .add (.string (⟨#[40]⟩)) (.string t96)).bind fun v97 => (asS v97).bind fun t98 => aNewS r95.2 9 [.string (⟨#[32, 43, 32]⟩), .string (⟨#[32, 45, 32]⟩), .string (⟨#[32, 42, 32]⟩)] 3 fun p99 h100 => (C 159 [x0, p99] h100).bind fun r101 => (asS r101.1).bind fun t102 => (aBin .add (.string t98) (.string t102)).bind fun v103 => (asS v103).bind fun t104 => (C 274 [x0, x1, .int .i64 (IntKind.i64.wrap (x2 - 1))] r101.2).bind fun r105 => (asS r105.1).bind fun t106 => (aBin .add (.string t104) (.string t106)).bind fun v107 => (asS v107).bind fun t108 => (aBin .add (.string t108) (.string (⟨#[41]⟩))).bind fun v109 => (asS v109).bind fun t110 => some (.string t110, r105.2) := by kernel_rfl
theorem c274 (d : Nat) (args : List Value) (h : AHeap) : call Tp Ms (d + 1) 274 args h = evFn hk0 Tp (call Tp Ms d) M274 d Tryz.f274 args h := by kernel_rfl
theorem e228 (x0 : Value) (h : AHeap) : evFn hk Tp C M228 N Tryz.f228 [x0] h =
  (aNil x0).bind fun v1 => (aOff v1 2).bind fun v2 => (aLd1 h v2).bind fun v3 => (asI .i64 v3).bind fun n4 => (aNil x0).bind fun v5 => (aOff v5 2).bind fun v6 => (aSt h v6 (.int .i64 (IntKind.i64.wrap ((IntKind.i64.wrap (n4 * 6364136223846793005)) + 1442695040888963407))) 1).bind fun h7 => (aNil x0).bind fun v8 => (aOff v8 2).bind fun v9 => (aLd1 h7 v9).bind fun v10 => (asI .i64 v10).bind fun n11 => (aNil x0).bind fun v12 => (aOff v12 2).bind fun v13 => (aLd1 h7 v13).bind fun v14 => (asI .i64 v14).bind fun n15 => (aNil x0).bind fun v16 => (aOff v16 1).bind fun v17 => (aLd1 h7 v17).bind fun v18 => (asI .i64 v18).bind fun n19 => (aNil x0).bind fun v20 => (aOff v20 0).bind fun v21 => (aLd1 h7 v21).bind fun v22 => (aLen v22).bind fun v23 => (asI .i64 v23).bind fun n24 => bif decide (n19 < n24) then (aNil x0).bind fun v25 => (aOff v25 0).bind fun v26 => (aLd1 h7 v26).bind fun v27 => (aNil x0).bind fun v28 => (aOff v28 1).bind fun v29 => (aLd1 h7 v29).bind fun v30 => (asI .i64 v30).bind fun n31 => (aIdx v27 (.int .i64 n31) 1).bind fun v32 => (aLd1 h7 v32).bind fun v33 => (asI .u8 v33).bind fun n34 => (aNil x0).bind fun v35 => (aOff v35 1).bind fun v36 => (aLd1 h7 v36).bind fun v37 => (asI .i64 v37).bind fun n38 => (aNil x0).bind fun v39 => (aOff v39 1).bind fun v40 => (aSt h7 v40 (.int .i64 (IntKind.i64.wrap (n38 + 1))) 1).bind fun h41 => some (.int .i64 (IntKind.i64.wrap (BitVec.ofInt IntKind.i64.bits (IntKind.i64.wrap ((IntKind.i64.wrap (BitVec.ofInt IntKind.i64.bits (IntKind.i64.wrap (BitVec.ofInt IntKind.i64.bits (Int.fdiv n11 (2 ^ (min (Int.toNat 33) IntKind.i64.bits))) ^^^ BitVec.ofInt IntKind.i64.bits (Int.fdiv n15 (2 ^ (min (Int.toNat 45) IntKind.i64.bits)))).toNat) &&& BitVec.ofInt IntKind.i64.bits 255).toNat) + (IntKind.i64.wrap n34))) &&& BitVec.ofInt IntKind.i64.bits 255).toNat), h41) else some (.int .i64 (IntKind.i64.wrap (BitVec.ofInt IntKind.i64.bits (IntKind.i64.wrap (BitVec.ofInt IntKind.i64.bits (Int.fdiv n11 (2 ^ (min (Int.toNat 33) IntKind.i64.bits))) ^^^ BitVec.ofInt IntKind.i64.bits (Int.fdiv n15 (2 ^ (min (Int.toNat 45) IntKind.i64.bits)))).toNat) &&& BitVec.ofInt IntKind.i64.bits 255).toNat), h7) := by kernel_rfl
theorem c228 (d : Nat) (args : List Value) (h : AHeap) : call Tp Ms (d + 1) 228 args h = evFn hk0 Tp (call Tp Ms d) M228 d Tryz.f228 args h := by kernel_rfl
theorem e349 (x0 : Value) (x1 : Int) (h : AHeap) : evFn hk Tp C M349 N Tryz.f349 [x0, .int .i64 x1] h =
  (aNil x0).bind fun v1 => (aOff v1 2).bind fun v2 => (aLd1 h v2).bind fun v3 => (asI .i64 v3).bind fun n4 => (aNil x0).bind fun v5 => (aOff v5 2).bind fun v6 => (aSt h v6 (.int .i64 (IntKind.i64.wrap (n4 + 1))) 1).bind fun h7 => (aNil x0).bind fun v8 => (aOff v8 2).bind fun v9 => (aLd1 h7 v9).bind fun v10 => (asI .i64 v10).bind fun n11 => (aNil x0).bind fun v12 => (aOff v12 2).bind fun v13 => (aLd1 h7 v13).bind fun v14 => (asI .i64 v14).bind fun n15 => aNewS h7 5 [.int .u8 (IntKind.u8.wrap (IntKind.i64.wrap (97 + (Int.tmod n11 26)))), .int .u8 (IntKind.u8.wrap (IntKind.i64.wrap (97 + (Int.tmod (IntKind.i64.wrap (Int.tdiv n15 26)) 26))))] 2 fun p16 h17 => (aCvStr h17 p16).bind fun v18 => (asS v18).bind fun t19 => (aBin .add (.string (⟨#[118]⟩)) (.string t19)).bind fun v20 => (asS v20).bind fun t21 => aNewS h17 9 [] 0 fun p22 h23 => (aNil x0).bind fun v24 => (aOff v24 0).bind fun v25 => (aLd1 h23 v25).bind fun v26 => (aApp h23 9 1 16 p22 v26).bind fun r27 => aNewS r27.2 9 [.string t21] 1 fun p28 h29 => (aApp h29 9 1 16 r27.1 p28).bind fun r30 => (aNil x0).bind fun v31 => (aOff v31 0).bind fun v32 => (aSt r30.2 v32 r30.1 1).bind fun h33 => aNewS h33 3 [] 0 fun p34 h35 => (aNil x0).bind fun v36 => (aOff v36 1).bind fun v37 => (aLd1 h35 v37).bind fun v38 => (aApp h35 3 1 8 p34 v38).bind fun r39 => aNewS r39.2 3 [.int .i64 x1] 1 fun p40 h41 => (aApp h41 3 1 8 r39.1 p40).bind fun r42 => (aNil x0).bind fun v43 => (aOff v43 1).bind fun v44 => (aSt r42.2 v44 r42.1 1).bind fun h45 => some (.string t21, h45) := by kernel_rfl
theorem c349 (d : Nat) (args : List Value) (h : AHeap) : call Tp Ms (d + 1) 349 args h = evFn hk0 Tp (call Tp Ms d) M349 d Tryz.f349 args h := by kernel_rfl
def F350_0 : Nx (Value × AHeap) := evSt hk Tp C M350 N Tryz.f350 [1, 1, 0, 1] []
def s350_0 (x0 x1 : Value) (x2 : Int) (x7 : Value) (x16 : Bool) (h : AHeap) := hk 100003 (⟨63, [(0, x0), (1, x1), (2, .int .i64 x2), (7, x7), (16, .bool x16)]⟩) h (F350_0 hk C N)
def F350_1 : Nx (Value × AHeap) := evSt hk Tp C M350 N Tryz.f350 [1, 1, 1] []
def s350_1 (x0 x1 : Value) (x2 : Int) (h : AHeap) := hk 4 (⟨63, [(0, x0), (1, x1), (2, .int .i64 x2)]⟩) h (F350_1 hk C N)
def F350_2 : Nx (Value × AHeap) := evSt hk Tp C M350 N Tryz.f350 [1, 1, 1, 0, 1] []
def s350_2 (x0 x1 : Value) (x2 : Int) (x25 : Bool) (h : AHeap) := hk 100005 (⟨63, [(0, x0), (1, x1), (2, .int .i64 x2), (25, .bool x25)]⟩) h (F350_2 hk C N)
def F350_3 : Nx (Value × AHeap) := evSt hk Tp C M350 N Tryz.f350 [1, 1, 1, 1] []
def s350_3 (x0 x1 : Value) (x2 : Int) (h : AHeap) := hk 6 (⟨63, [(0, x0), (1, x1), (2, .int .i64 x2)]⟩) h (F350_3 hk C N)
theorem e350 (x0 x1 : Value) (x2 : Int) (h : AHeap) : evFn hk Tp C M350 N Tryz.f350 [x0, x1, .int .i64 x2] h =
  (C 352 [x1, .int .i64 2] h).bind fun r1 => (aLen r1.1).bind fun v2 => (asI .i64 v2).bind fun n3 => bif decide (n3 > 0) then (C 134 [x0, .int .i64 2] r1.2).bind fun r4 => (asB r4.1).bind fun b5 => s350_0 hk C N x0 x1 x2 r1.1 b5 r4.2 else s350_0 hk C N x0 x1 x2 r1.1 false r1.2 := by kernel_rfl
theorem s350_0_j (x0 x1 : Value) (x2 : Int) (x7 : Value) (x16 : Bool) (h : AHeap) : s350_0 hk0 C N x0 x1 x2 x7 x16 h = F350_0 hk0 C N (⟨63, [(0, x0), (1, x1), (2, .int .i64 x2), (7, x7), (16, .bool x16)]⟩) h := by delta s350_0; exact hk0_app _ _ _ _
theorem s350_0_eq (x0 x1 : Value) (x2 : Int) (x7 : Value) (x16 : Bool) (h : AHeap) : F350_0 hk C N (⟨63, [(0, x0), (1, x1), (2, .int .i64 x2), (7, x7), (16, .bool x16)]⟩) h =
  bif x16 then (C 159 [x0, x7] h).bind fun r6 => (asS r6.1).bind fun t7 => some (.string t7, r6.2) else s350_1 hk C N x0 x1 x2 h := by kernel_rfl
theorem s350_1_j (x0 x1 : Value) (x2 : Int) (h : AHeap) : s350_1 hk0 C N x0 x1 x2 h = F350_1 hk0 C N (⟨63, [(0, x0), (1, x1), (2, .int .i64 x2)]⟩) h := by delta s350_1; exact hk0_app _ _ _ _
theorem s350_1_eq (x0 x1 : Value) (x2 : Int) (h : AHeap) : F350_1 hk C N (⟨63, [(0, x0), (1, x1), (2, .int .i64 x2)]⟩) h =
  bif decide (x2 ≤ 0) then s350_2 hk C N x0 x1 x2 true h else (C 134 [x0, .int .i64 2] h).bind fun r8 => (asB r8.1).bind fun b9 => s350_2 hk C N x0 x1 x2 b9 r8.2 := by kernel_rfl
theorem s350_2_j (x0 x1 : Value) (x2 : Int) (x25 : Bool) (h : AHeap) : s350_2 hk0 C N x0 x1 x2 x25 h = F350_2 hk0 C N (⟨63, [(0, x0), (1, x1), (2, .int .i64 x2), (25, .bool x25)]⟩) h := by delta s350_2; exact hk0_app _ _ _ _
theorem s350_2_eq (x0 x1 : Value) (x2 : Int) (x25 : Bool) (h : AHeap) : F350_2 hk C N (⟨63, [(0, x0), (1, x1), (2, .int .i64 x2), (25, .bool x25)]⟩) h =
  bif x25 then aNewS h 9 [.string (⟨#[34, 34]⟩), .string (⟨#[34, 97, 34]⟩), .string (⟨#[34, 107, 101, 121, 34]⟩), .string (⟨#[34, 115, 111, 109, 101, 32, 108, 111, 110, 103, 101, 114, 32, 116, 101, 120, 116, 34]⟩)] 4 fun p10 h11 => (C 159 [x0, p10] h11).bind fun r12 => (asS r12.1).bind fun t13 => some (.string t13, r12.2) else s350_3 hk C N x0 x1 x2 h := by kernel_rfl
theorem s350_3_j (x0 x1 : Value) (x2 : Int) (h : AHeap) : s350_3 hk0 C N x0 x1 x2 h = F350_3 hk0 C N (⟨63, [(0, x0), (1, x1), (2, .int .i64 x2)]⟩) h := by delta s350_3; exact hk0_app _ _ _ _
theorem s350_3_eq (x0 x1 : Value) (x2 : Int) (h : AHeap) : F350_3 hk C N (⟨63, [(0, x0), (1, x1), (2, .int .i64 x2)]⟩) h =
  (C 136 [x0, .int .i64 3] h).bind fun r14 => (asI .i64 r14.1).bind fun n15 => bif n15 == 0 then (C 353 [x0, x1, .int .i64 (IntKind.i64.wrap (x2 - 1))] r14.2).bind fun r16 => (asS r16.1).bind fun t17 => (aBin .add (.string (⟨#[116, 111, 115, 116, 114, 40]⟩)) (.string t17)).bind fun v18 => (asS v18).bind fun t19 => (aBin .add (.string t19) (.string (⟨#[41]⟩))).bind fun v20 => (asS v20).bind fun t21 => some (.string t21, r16.2) else bif n15 == 1 then (C 353 [x0, x1, .int .i64 (IntKind.i64.wrap (x2 - 1))] r14.2).bind fun r22 => (asS r22.1).bind fun t23 => (aBin .add (.string (⟨#[116, 121, 112, 101, 40]⟩)) (.string t23)).bind fun v24 => (asS v24).bind fun t25 => (aBin .add (.string t25) (.string (⟨#[41]⟩))).bind fun v26 => (asS v26).bind fun t27 => some (.string t27, r22.2) else (C 350 [x0, x1, .int .i64 (IntKind.i64.wrap (x2 - 1))] r14.2).bind fun r28 => (asS r28.1).bind fun t29 => (aBin .add (.string (⟨#[40]⟩)) (.string t29)).bind fun v30 => (asS v30).bind fun t31 => (aBin .add (.string t31) (.string (⟨#[32, 46, 46, 32]⟩))).bind fun v32 => (asS v32).bind fun t33 => (C 350 [x0, x1, .int .i64 (IntKind.i64.wrap (x2 - 1))] r28.2).bind fun r34 => (asS r34.1).bind fun t35 => (aBin .add (.string t33) (.string t35)).bind fun v36 => (asS v36).bind fun t37 => (aBin .add (.string t37) (.string (⟨#[41]⟩))).bind fun v38 => (asS v38).bind fun t39 => some (.string t39, r34.2) := by kernel_rfl
theorem c350 (d : Nat) (args : List Value) (h : AHeap) : call Tp Ms (d + 1) 350 args h = evFn hk0 Tp (call Tp Ms d) M350 d Tryz.f350 args h := by kernel_rfl
def F351_0 (n1 : Nat) : Nx (Value × AHeap) := evSt hk Tp C M351 N Tryz.f351 [1, 1, 1, 0, 1, 2, 6] [n1]
def s351_0 (n1 : Nat) (x0 x1 : Value) (x2 : Int) (x7 : ByteArray) (x8 x9 : Int) (h : AHeap) := F351_0 hk C N n1 (⟨63, [(0, x0), (1, x1), (2, .int .i64 x2), (7, .string x7), (8, .int .i64 x8), (9, .int .i64 x9)]⟩) h
def F351_1 (n1 : Nat) : Nx (Value × AHeap) := evSt hk Tp C M351 N Tryz.f351 [1, 1, 1, 0, 1, 2, 3, 1, 0, 2, 1] [n1]
def s351_1 (n1 : Nat) (x0 x1 : Value) (x2 : Int) (x7 : ByteArray) (x8 x9 : Int) (h : AHeap) := hk 8 (⟨63, [(0, x0), (1, x1), (2, .int .i64 x2), (7, .string x7), (8, .int .i64 x8), (9, .int .i64 x9)]⟩) h (F351_1 hk C N n1)
theorem e351 (x0 x1 : Value) (x2 : Int) (h : AHeap) : evFn hk Tp C M351 N Tryz.f351 [x0, x1, .int .i64 x2] h =
  (C 136 [x0, .int .i64 4] h).bind fun r1 => (asI .i64 r1.1).bind fun n2 => s351_0 hk C N N x0 x1 x2 (⟨#[123]⟩) n2 0 r1.2 := by kernel_rfl
theorem s351_0_eq (n1 : Nat) (x0 x1 : Value) (x2 : Int) (x7 : ByteArray) (x8 x9 : Int) (h : AHeap) : s351_0 hk C N (n1 + 1) x0 x1 x2 x7 x8 x9 h =
  bif decide (x9 < x8) then bif decide (x9 > 0) then (aBin .add (.string x7) (.string (⟨#[44, 32]⟩))).bind fun v3 => (asS v3).bind fun t4 => s351_1 hk C N n1 x0 x1 x2 t4 x8 x9 h else s351_1 hk C N n1 x0 x1 x2 x7 x8 x9 h else (aBin .add (.string x7) (.string (⟨#[125]⟩))).bind fun v5 => (asS v5).bind fun t6 => some (.string t6, h) := by kernel_rfl
theorem s351_1_j (n1 : Nat) (x0 x1 : Value) (x2 : Int) (x7 : ByteArray) (x8 x9 : Int) (h : AHeap) : s351_1 hk0 C N n1 x0 x1 x2 x7 x8 x9 h = F351_1 hk0 C N n1 (⟨63, [(0, x0), (1, x1), (2, .int .i64 x2), (7, .string x7), (8, .int .i64 x8), (9, .int .i64 x9)]⟩) h := by delta s351_1; exact hk0_app _ _ _ _
theorem s351_1_eq (n1 : Nat) (x0 x1 : Value) (x2 : Int) (x7 : ByteArray) (x8 x9 : Int) (h : AHeap) : F351_1 hk C N n1 (⟨63, [(0, x0), (1, x1), (2, .int .i64 x2), (7, .string x7), (8, .int .i64 x8), (9, .int .i64 x9)]⟩) h =
  (C 136 [x0, .int .i64 4] h).bind fun r7 => (asI .i64 r7.1).bind fun n8 => bif n8 == 0 then aNewS r7.2 9 [.string (⟨#[120]⟩), .string (⟨#[121]⟩), .string (⟨#[107, 101, 121]⟩)] 3 fun p9 h10 => (C 159 [x0, p9] h10).bind fun r11 => (asS r11.1).bind fun t12 => (aBin .add (.string x7) (.string t12)).bind fun v13 => (asS v13).bind fun t14 => (aBin .add (.string t14) (.string (⟨#[32, 61, 32]⟩))).bind fun v15 => (asS v15).bind fun t16 => (C 353 [x0, x1, .int .i64 (IntKind.i64.wrap (x2 - 1))] r11.2).bind fun r17 => (asS r17.1).bind fun t18 => (aBin .add (.string t16) (.string t18)).bind fun v19 => (asS v19).bind fun t20 => s351_0 hk C N n1 x0 x1 x2 t20 x8 (IntKind.i64.wrap (x9 + 1)) r17.2 else bif n8 == 1 then (aBin .add (.string x7) (.string (⟨#[91]⟩))).bind fun v21 => (asS v21).bind fun t22 => (C 353 [x0, x1, .int .i64 (IntKind.i64.wrap (x2 - 2))] r7.2).bind fun r23 => (asS r23.1).bind fun t24 => (aBin .add (.string t22) (.string t24)).bind fun v25 => (asS v25).bind fun t26 => (aBin .add (.string t26) (.string (⟨#[93, 32, 61, 32]⟩))).bind fun v27 => (asS v27).bind fun t28 => (C 353 [x0, x1, .int .i64 (IntKind.i64.wrap (x2 - 1))] r23.2).bind fun r29 => (asS r29.1).bind fun t30 => (aBin .add (.string t28) (.string t30)).bind fun v31 => (asS v31).bind fun t32 => s351_0 hk C N n1 x0 x1 x2 t32 x8 (IntKind.i64.wrap (x9 + 1)) r29.2 else (C 274 [x0, x1, .int .i64 (IntKind.i64.wrap (x2 - 1))] r7.2).bind fun r33 => (asS r33.1).bind fun t34 => (aBin .add (.string x7) (.string t34)).bind fun v35 => (asS v35).bind fun t36 => s351_0 hk C N n1 x0 x1 x2 t36 x8 (IntKind.i64.wrap (x9 + 1)) r33.2 := by kernel_rfl
theorem c351 (d : Nat) (args : List Value) (h : AHeap) : call Tp Ms (d + 1) 351 args h = evFn hk0 Tp (call Tp Ms d) M351 d Tryz.f351 args h := by kernel_rfl
def F352_0 (n1 : Nat) : Nx (Value × AHeap) := evSt hk Tp C M352 N Tryz.f352 [1, 1, 0, 1, 2, 6] [n1]
def s352_0 (n1 : Nat) (x0 : Value) (x1 : Int) (x5 : Value) (x6 : Int) (h : AHeap) := F352_0 hk C N n1 (⟨37, [(0, x0), (1, .int .i64 x1), (5, x5), (6, .int .i64 x6)]⟩) h
theorem e352 (x0 : Value) (x1 : Int) (h : AHeap) : evFn hk Tp C M352 N Tryz.f352 [x0, .int .i64 x1] h =
  aNewS h 9 [] 0 fun p1 h2 => s352_0 hk C N N x0 x1 p1 0 h2 := by kernel_rfl
theorem s352_0_eq (n1 : Nat) (x0 : Value) (x1 : Int) (x5 : Value) (x6 : Int) (h : AHeap) : s352_0 hk C N (n1 + 1) x0 x1 x5 x6 h =
  (aNil x0).bind fun v3 => (aOff v3 0).bind fun v4 => (aLd1 h v4).bind fun v5 => (aLen v5).bind fun v6 => (asI .i64 v6).bind fun n7 => bif decide (x6 < n7) then (aNil x0).bind fun v8 => (aOff v8 1).bind fun v9 => (aLd1 h v9).bind fun v10 => (aIdx v10 (.int .i64 x6) 1).bind fun v11 => (aLd1 h v11).bind fun v12 => (asI .i64 v12).bind fun n13 => bif n13 == x1 then (aNil x0).bind fun v14 => (aOff v14 0).bind fun v15 => (aLd1 h v15).bind fun v16 => (aIdx v16 (.int .i64 x6) 1).bind fun v17 => (aLd1 h v17).bind fun v18 => (asS v18).bind fun t19 => aNewS h 9 [.string t19] 1 fun p20 h21 => (aApp h21 9 1 16 x5 p20).bind fun r22 => s352_0 hk C N n1 x0 x1 r22.1 (IntKind.i64.wrap (x6 + 1)) r22.2 else s352_0 hk C N n1 x0 x1 x5 (IntKind.i64.wrap (x6 + 1)) h else some (x5, h) := by kernel_rfl
theorem c352 (d : Nat) (args : List Value) (h : AHeap) : call Tp Ms (d + 1) 352 args h = evFn hk0 Tp (call Tp Ms d) M352 d Tryz.f352 args h := by kernel_rfl
theorem e353 (x0 x1 : Value) (x2 : Int) (h : AHeap) : evFn hk Tp C M353 N Tryz.f353 [x0, x1, .int .i64 x2] h =
  bif decide (x2 ≤ 0) then (C 274 [x0, x1, .int .i64 0] h).bind fun r1 => (asS r1.1).bind fun t2 => some (.string t2, r1.2) else (C 136 [x0, .int .i64 8] h).bind fun r3 => (asI .i64 r3.1).bind fun n4 => bif n4 == 0 then (C 350 [x0, x1, .int .i64 x2] r3.2).bind fun r5 => (asS r5.1).bind fun t6 => some (.string t6, r5.2) else bif n4 == 1 then (C 354 [x0, x1, .int .i64 (IntKind.i64.wrap (x2 - 1))] r3.2).bind fun r7 => (asS r7.1).bind fun t8 => some (.string t8, r7.2) else bif n4 == 2 then (C 351 [x0, x1, .int .i64 (IntKind.i64.wrap (x2 - 1))] r3.2).bind fun r9 => (asS r9.1).bind fun t10 => some (.string t10, r9.2) else bif n4 == 3 then (aNil x1).bind fun v11 => (aOff v11 0).bind fun v12 => (aLd1 r3.2 v12).bind fun v13 => (aLen v13).bind fun v14 => (asI .i64 v14).bind fun n15 => bif decide (n15 > 0) then (aNil x1).bind fun v16 => (aOff v16 0).bind fun v17 => (aLd1 r3.2 v17).bind fun v18 => (C 159 [x0, v18] r3.2).bind fun r19 => (asS r19.1).bind fun t20 => some (.string t20, r19.2) else (C 274 [x0, x1, .int .i64 x2] r3.2).bind fun r21 => (asS r21.1).bind fun t22 => some (.string t22, r21.2) else (C 274 [x0, x1, .int .i64 x2] r3.2).bind fun r23 => (asS r23.1).bind fun t24 => some (.string t24, r23.2) := by kernel_rfl
theorem c353 (d : Nat) (args : List Value) (h : AHeap) : call Tp Ms (d + 1) 353 args h = evFn hk0 Tp (call Tp Ms d) M353 d Tryz.f353 args h := by kernel_rfl
theorem e354 (x0 x1 : Value) (x2 : Int) (h : AHeap) : evFn hk Tp C M354 N Tryz.f354 [x0, x1, .int .i64 x2] h =
  bif decide (x2 ≤ 0) then aNewS h 9 [.string (⟨#[116, 114, 117, 101]⟩), .string (⟨#[102, 97, 108, 115, 101]⟩)] 2 fun p1 h2 => (C 159 [x0, p1] h2).bind fun r3 => (asS r3.1).bind fun t4 => some (.string t4, r3.2) else (C 136 [x0, .int .i64 6] h).bind fun r5 => (asI .i64 r5.1).bind fun n6 => bif n6 == 0 then aNewS r5.2 9 [.string (⟨#[116, 114, 117, 101]⟩), .string (⟨#[102, 97, 108, 115, 101]⟩), .string (⟨#[110, 105, 108]⟩), .string (⟨#[102, 97, 105, 108, 101, 100, 40, 41]⟩)] 4 fun p7 h8 => (C 159 [x0, p7] h8).bind fun r9 => (asS r9.1).bind fun t10 => some (.string t10, r9.2) else bif n6 == 1 then (C 354 [x0, x1, .int .i64 (IntKind.i64.wrap (x2 - 1))] r5.2).bind fun r11 => (asS r11.1).bind fun t12 => (aBin .add (.string (⟨#[110, 111, 116, 32]⟩)) (.string t12)).bind fun v13 => (asS v13).bind fun t14 => some (.string t14, r11.2) else bif n6 == 2 then (C 353 [x0, x1, .int .i64 (IntKind.i64.wrap (x2 - 1))] r5.2).bind fun r15 => (asS r15.1).bind fun t16 => (aBin .add (.string (⟨#[40]⟩)) (.string t16)).bind fun v17 => (asS v17).bind fun t18 => aNewS r15.2 9 [.string (⟨#[32, 61, 61, 32]⟩), .string (⟨#[32, 126, 61, 32]⟩)] 2 fun p19 h20 => (C 159 [x0, p19] h20).bind fun r21 => (asS r21.1).bind fun t22 => (aBin .add (.string t18) (.string t22)).bind fun v23 => (asS v23).bind fun t24 => (C 353 [x0, x1, .int .i64 (IntKind.i64.wrap (x2 - 1))] r21.2).bind fun r25 => (asS r25.1).bind fun t26 => (aBin .add (.string t24) (.string t26)).bind fun v27 => (asS v27).bind fun t28 => (aBin .add (.string t28) (.string (⟨#[41]⟩))).bind fun v29 => (asS v29).bind fun t30 => some (.string t30, r25.2) else bif n6 == 3 then (C 350 [x0, x1, .int .i64 (IntKind.i64.wrap (x2 - 1))] r5.2).bind fun r31 => (asS r31.1).bind fun t32 => (aBin .add (.string (⟨#[40]⟩)) (.string t32)).bind fun v33 => (asS v33).bind fun t34 => aNewS r31.2 9 [.string (⟨#[32, 60, 32]⟩), .string (⟨#[32, 60, 61, 32]⟩)] 2 fun p35 h36 => (C 159 [x0, p35] h36).bind fun r37 => (asS r37.1).bind fun t38 => (aBin .add (.string t34) (.string t38)).bind fun v39 => (asS v39).bind fun t40 => (C 350 [x0, x1, .int .i64 (IntKind.i64.wrap (x2 - 1))] r37.2).bind fun r41 => (asS r41.1).bind fun t42 => (aBin .add (.string t40) (.string t42)).bind fun v43 => (asS v43).bind fun t44 => (aBin .add (.string t44) (.string (⟨#[41]⟩))).bind fun v45 => (asS v45).bind fun t46 => some (.string t46, r41.2) else (C 274 [x0, x1, .int .i64 (IntKind.i64.wrap (x2 - 1))] r5.2).bind fun r47 => (asS r47.1).bind fun t48 => (aBin .add (.string (⟨#[40]⟩)) (.string t48)).bind fun v49 => (asS v49).bind fun t50 => aNewS r47.2 9 [.string (⟨#[32, 60, 32]⟩), .string (⟨#[32, 60, 61, 32]⟩), .string (⟨#[32, 61, 61, 32]⟩)] 3 fun p51 h52 => (C 159 [x0, p51] h52).bind fun r53 => (asS r53.1).bind fun t54 => (aBin .add (.string t50) (.string t54)).bind fun v55 => (asS v55).bind fun t56 => (C 274 [x0, x1, .int .i64 (IntKind.i64.wrap (x2 - 1))] r53.2).bind fun r57 => (asS r57.1).bind fun t58 => (aBin .add (.string t56) (.string t58)).bind fun v59 => (asS v59).bind fun t60 => (aBin .add (.string t60) (.string (⟨#[41]⟩))).bind fun v61 => (asS v61).bind fun t62 => some (.string t62, r57.2) := by kernel_rfl
theorem c354 (d : Nat) (args : List Value) (h : AHeap) : call Tp Ms (d + 1) 354 args h = evFn hk0 Tp (call Tp Ms d) M354 d Tryz.f354 args h := by kernel_rfl
def F355_0 (n1 : Nat) : Nx (Value × AHeap) := evSt hk Tp C M355 N Tryz.f355 [1, 1, 1, 1, 0, 1, 2, 6] [n1]
def s355_0 (n1 : Nat) (x0 x1 : Value) (x2 : Int) (x3 : Bool) (x9 x10 : Value) (x11 : ByteArray) (x12 x13 : Int) (h : AHeap) := F355_0 hk C N n1 (⟨69, [(0, x0), (1, x1), (2, .int .i64 x2), (3, .bool x3), (9, x9), (10, x10), (11, .string x11), (12, .int .i64 x12), (13, .int .i64 x13)]⟩) h
def F355_1 : Nx (Value × AHeap) := evSt hk Tp C M355 N Tryz.f355 [1, 1, 1, 1, 1, 0, 1, 4, 0, 1] []
def s355_1 (x0 x1 x9 x10 : Value) (x11 : ByteArray) (x44 : Bool) (h : AHeap) := hk 100010 (⟨69, [(0, x0), (1, x1), (9, x9), (10, x10), (11, .string x11), (44, .bool x44)]⟩) h (F355_1 hk C N)
def F355_3 : Nx (Value × AHeap) := evSt hk Tp C M355 N Tryz.f355 [1, 1, 1, 1, 1, 1] []
def s355_3 (x1 x9 x10 : Value) (x11 : ByteArray) (h : AHeap) := hk 12 (⟨69, [(1, x1), (9, x9), (10, x10), (11, .string x11)]⟩) h (F355_3 hk C N)
def F355_2 : Nx (Value × AHeap) := evSt hk Tp C M355 N Tryz.f355 [1, 1, 1, 1, 1, 0, 1, 4, 1] []
def s355_2 (x0 x1 x9 x10 : Value) (x11 : ByteArray) (h : AHeap) := hk 11 (⟨69, [(0, x0), (1, x1), (9, x9), (10, x10), (11, .string x11)]⟩) h (F355_2 hk C N)
theorem e355 (x0 x1 : Value) (x2 : Int) (x3 : Bool) (h : AHeap) : evFn hk Tp C M355 N Tryz.f355 [x0, x1, .int .i64 x2, .bool x3] h =
  (aNil x1).bind fun v1 => (aOff v1 0).bind fun v2 => (aLd1 h v2).bind fun v3 => (aNil x1).bind fun v4 => (aOff v4 1).bind fun v5 => (aLd1 h v5).bind fun v6 => ((aLd1 h v5).bind fun v7 => some (vbeq v7 v6)).bind fun b8 => bif b8 then (C 136 [x0, .int .i64 2] h).bind fun r9 => (asI .i64 r9.1).bind fun n10 => s355_0 hk C N N x0 x1 x2 x3 v3 v6 (⟨#[123, 32]⟩) (IntKind.i64.wrap (1 + n10)) 0 r9.2 else none := by kernel_rfl
theorem s355_0_eq (n1 : Nat) (x0 x1 : Value) (x2 : Int) (x3 : Bool) (x9 x10 : Value) (x11 : ByteArray) (x12 x13 : Int) (h : AHeap) : s355_0 hk C N (n1 + 1) x0 x1 x2 x3 x9 x10 x11 x12 x13 h =
  bif decide (x13 < x12) then (C 272 [x0, x1, .int .i64 x2] h).bind fun r11 => (asS r11.1).bind fun t12 => (aBin .add (.string x11) (.string t12)).bind fun v13 => (asS v13).bind fun t14 => s355_0 hk C N n1 x0 x1 x2 x3 x9 x10 t14 x12 (IntKind.i64.wrap (x13 + 1)) r11.2 else bif x3 then (aNil x1).bind fun v15 => (aOff v15 5).bind fun v16 => (aLd1 h v16).bind fun v17 => (asB v17).bind fun b18 => bif b18 then (C 134 [x0, .int .i64 2] h).bind fun r19 => (asB r19.1).bind fun b20 => s355_1 hk C N x0 x1 x9 x10 x11 b20 r19.2 else s355_1 hk C N x0 x1 x9 x10 x11 false h else s355_3 hk C N x1 x9 x10 x11 h := by kernel_rfl
theorem s355_1_j (x0 x1 x9 x10 : Value) (x11 : ByteArray) (x44 : Bool) (h : AHeap) : s355_1 hk0 C N x0 x1 x9 x10 x11 x44 h = F355_1 hk0 C N (⟨69, [(0, x0), (1, x1), (9, x9), (10, x10), (11, .string x11), (44, .bool x44)]⟩) h := by delta s355_1; exact hk0_app _ _ _ _
theorem s355_1_eq (x0 x1 x9 x10 : Value) (x11 : ByteArray) (x44 : Bool) (h : AHeap) : F355_1 hk C N (⟨69, [(0, x0), (1, x1), (9, x9), (10, x10), (11, .string x11), (44, .bool x44)]⟩) h =
  bif x44 then (aBin .add (.string x11) (.string (⟨#[108, 111, 99, 97, 108, 32, 121, 121, 32, 61, 32, 121, 105, 101, 108, 100, 40]⟩))).bind fun v21 => (asS v21).bind fun t22 => (C 274 [x0, x1, .int .i64 1] h).bind fun r23 => (asS r23.1).bind fun t24 => (aBin .add (.string t22) (.string t24)).bind fun v25 => (asS v25).bind fun t26 => (aBin .add (.string t26) (.string (⟨#[41, 59, 32]⟩))).bind fun v27 => (asS v27).bind fun t28 => s355_2 hk C N x0 x1 x9 x10 t28 r23.2 else s355_2 hk C N x0 x1 x9 x10 x11 h := by kernel_rfl
theorem s355_3_j (x1 x9 x10 : Value) (x11 : ByteArray) (h : AHeap) : s355_3 hk0 C N x1 x9 x10 x11 h = F355_3 hk0 C N (⟨69, [(1, x1), (9, x9), (10, x10), (11, .string x11)]⟩) h := by delta s355_3; exact hk0_app _ _ _ _
theorem s355_3_eq (x1 x9 x10 : Value) (x11 : ByteArray) (h : AHeap) : F355_3 hk C N (⟨69, [(1, x1), (9, x9), (10, x10), (11, .string x11)]⟩) h =
  (aNil x1).bind fun v29 => (aOff v29 0).bind fun v30 => (aSt h v30 x9 1).bind fun h31 => (aNil x1).bind fun v32 => (aOff v32 1).bind fun v33 => (aSt h31 v33 x10 1).bind fun h34 => (aBin .add (.string x11) (.string (⟨#[125]⟩))).bind fun v35 => (asS v35).bind fun t36 => some (.string t36, h34) := by kernel_rfl
theorem s355_2_j (x0 x1 x9 x10 : Value) (x11 : ByteArray) (h : AHeap) : s355_2 hk0 C N x0 x1 x9 x10 x11 h = F355_2 hk0 C N (⟨69, [(0, x0), (1, x1), (9, x9), (10, x10), (11, .string x11)]⟩) h := by delta s355_2; exact hk0_app _ _ _ _
theorem s355_2_eq (x0 x1 x9 x10 : Value) (x11 : ByteArray) (h : AHeap) : F355_2 hk C N (⟨69, [(0, x0), (1, x1), (9, x9), (10, x10), (11, .string x11)]⟩) h =
  (aBin .add (.string x11) (.string (⟨#[114, 101, 116, 117, 114, 110, 32]⟩))).bind fun v37 => (asS v37).bind fun t38 => (C 274 [x0, x1, .int .i64 2] h).bind fun r39 => (asS r39.1).bind fun t40 => (aBin .add (.string t38) (.string t40)).bind fun v41 => (asS v41).bind fun t42 => (aBin .add (.string t42) (.string (⟨#[59, 32]⟩))).bind fun v43 => (asS v43).bind fun t44 => s355_3 hk C N x1 x9 x10 t44 r39.2 := by kernel_rfl
theorem c355 (d : Nat) (args : List Value) (h : AHeap) : call Tp Ms (d + 1) 355 args h = evFn hk0 Tp (call Tp Ms d) M355 d Tryz.f355 args h := by kernel_rfl
def F22_0 (n1 : Nat) : Nx (Value × AHeap) := evSt hk Tp C M22 N Tryz.f22 [1, 1, 1, 1, 1, 0, 2, 6] [n1]
def s22_0 (n1 : Nat) (x2 x5 x8 x9 : Value) (h : AHeap) := F22_0 hk C N n1 (⟨70, [(2, x2), (5, x5), (8, x8), (9, x9)]⟩) h
def F22_1 (n1 : Nat) : Nx (Value × AHeap) := evSt hk Tp C M22 N Tryz.f22 [1, 1, 1, 1, 1, 0, 2, 3, 1] [n1]
def s22_1 (n1 : Nat) (x2 x5 x8 x9 : Value) (h : AHeap) := hk 7 (⟨70, [(2, x2), (5, x5), (8, x8), (9, x9)]⟩) h (F22_1 hk C N n1)
theorem e22 (x0 : ByteArray) (h : AHeap) : evFn hk Tp C M22 N Tryz.f22 [.string x0] h =
  aNew h 41 [.slice none 0 0, .int .i64 0] fun p1 h2 => (C 103 [.string x0] h2).bind fun r3 => (aExt r3.1 0).bind fun v4 => (aExt r3.1 1).bind fun v5 => (asI .i64 v5).bind fun n6 => (aExt r3.1 2).bind fun v7 => (asI .i64 v7).bind fun n8 => bif n6 != 0 then (aSt r3.2 p1 (.agg (List.toArray [.slice none 0 0, .int .i64 0])) 2).bind fun h9 => (aLdN h9 p1 2).bind fun v10 => bif List.all [v10, .int .i64 1, .int .i64 n8] isS2 then some (.tuple (List.toArray [v10, .int .i64 1, .int .i64 n8]), h9) else none else (aFill [.slice none 0 0, .int .i64 0, .slice none 0 0, .int .i64 0, .int .i64 0, .int .i64 0, .int .i64 0] [(0, 1, v4), (6, 1, .int .i64 (ByteArray.size x0 : Int))]).bind fun c11 => (aCells (.agg (List.toArray c11))).bind fun c12 => aNew r3.2 128 c12 fun p13 h14 => aNewS h14 3 [] 0 fun p15 h16 => s22_0 hk C N N p1 v4 p13 p15 h16 := by kernel_rfl
theorem s22_0_eq (n1 : Nat) (x2 x5 x8 x9 : Value) (h : AHeap) : s22_0 hk C N (n1 + 1) x2 x5 x8 x9 h =
  (aNil x8).bind fun v17 => (aOff v17 3).bind fun v18 => (aLd1 h v18).bind fun v19 => (asI .i64 v19).bind fun n20 => bif n20 == 0 then (aNil x8).bind fun v21 => (aOff v21 1).bind fun v22 => (aLd1 h v22).bind fun v23 => (asI .i64 v23).bind fun n24 => (aLen x5).bind fun v25 => (asI .i64 v25).bind fun n26 => bif decide (n24 < n26) then s22_1 hk C N n1 x2 x5 x8 x9 h else (aFill [.int .i64 0, .string ⟨#[]⟩, .int .i64 0, .slice none 0 0] [(0, 1, .int .i64 21), (3, 1, x9)]).bind fun c27 => (C 105 [x8, (.agg (List.toArray c27))] h).bind fun r28 => (asI .i64 r28.1).bind fun n29 => (aNil x8).bind fun v30 => (aOff v30 3).bind fun v31 => (aLd1 r28.2 v31).bind fun v32 => (asI .i64 v32).bind fun n33 => bif n33 != 0 then (aNil x8).bind fun v34 => (aOff v34 3).bind fun v35 => (aLd1 r28.2 v35).bind fun v36 => (asI .i64 v36).bind fun n37 => (aNil x8).bind fun v38 => (aOff v38 4).bind fun v39 => (aLd1 r28.2 v39).bind fun v40 => (asI .i64 v40).bind fun n41 => (aSt r28.2 x2 (.agg (List.toArray [.slice none 0 0, .int .i64 0])) 2).bind fun h42 => ((aLd1 h42 v35).bind fun v43 => (asI .i64 v43).bind fun n44 => some (vbeq (.int .i64 n44) (.int .i64 n37))).bind fun b45 => bif b45 then ((aLd1 h42 v39).bind fun v46 => (asI .i64 v46).bind fun n47 => some (vbeq (.int .i64 n47) (.int .i64 n41))).bind fun b48 => bif b48 then ((aLd1 h42 v39).bind fun v49 => (asI .i64 v49).bind fun n50 => some (vbeq (.int .i64 n50) (.int .i64 n41))).bind fun b51 => bif b51 then (aLdN h42 x2 2).bind fun v52 => bif List.all [v52, .int .i64 n37, .int .i64 n41] isS2 then some (.tuple (List.toArray [v52, .int .i64 n37, .int .i64 n41]), h42) else none else none else none else none else (aNil x8).bind fun v53 => (aOff v53 2).bind fun v54 => (aLd1 r28.2 v54).bind fun v55 => (aFill [.slice none 0 0, .int .i64 0] [(0, 1, v55), (1, 1, .int .i64 n29)]).bind fun c56 => (aSt r28.2 x2 (.agg (List.toArray c56)) 2).bind fun h57 => (aLdN h57 x2 2).bind fun v58 => bif List.all [v58, .int .i64 0, .int .i64 0] isS2 then some (.tuple (List.toArray [v58, .int .i64 0, .int .i64 0]), h57) else none else (aFill [.int .i64 0, .string ⟨#[]⟩, .int .i64 0, .slice none 0 0] [(0, 1, .int .i64 21), (3, 1, x9)]).bind fun c59 => (C 105 [x8, (.agg (List.toArray c59))] h).bind fun r60 => (asI .i64 r60.1).bind fun n61 => (aNil x8).bind fun v62 => (aOff v62 3).bind fun v63 => (aLd1 r60.2 v63).bind fun v64 => (asI .i64 v64).bind fun n65 => bif n65 != 0 then (aNil x8).bind fun v66 => (aOff v66 3).bind fun v67 => (aLd1 r60.2 v67).bind fun v68 => (asI .i64 v68).bind fun n69 => (aNil x8).bind fun v70 => (aOff v70 4).bind fun v71 => (aLd1 r60.2 v71).bind fun v72 => (asI .i64 v72).bind fun n73 => (aSt r60.2 x2 (.agg (List.toArray [.slice none 0 0, .int .i64 0])) 2).bind fun h74 => ((aLd1 h74 v67).bind fun v75 => (asI .i64 v75).bind fun n76 => some (vbeq (.int .i64 n76) (.int .i64 n69))).bind fun b77 => bif b77 then ((aLd1 h74 v71).bind fun v78 => (asI .i64 v78).bind fun n79 => some (vbeq (.int .i64 n79) (.int .i64 n73))).bind fun b80 => bif b80 then ((aLd1 h74 v71).bind fun v81 => (asI .i64 v81).bind fun n82 => some (vbeq (.int .i64 n82) (.int .i64 n73))).bind fun b83 => bif b83 then (aLdN h74 x2 2).bind fun v84 => bif List.all [v84, .int .i64 n69, .int .i64 n73] isS2 then some (.tuple (List.toArray [v84, .int .i64 n69, .int .i64 n73]), h74) else none else none else none else none else (aNil x8).bind fun v85 => (aOff v85 2).bind fun v86 => (aLd1 r60.2 v86).bind fun v87 => (aFill [.slice none 0 0, .int .i64 0] [(0, 1, v87), (1, 1, .int .i64 n61)]).bind fun c88 => (aSt r60.2 x2 (.agg (List.toArray c88)) 2).bind fun h89 => (aLdN h89 x2 2).bind fun v90 => bif List.all [v90, .int .i64 0, .int .i64 0] isS2 then some (.tuple (List.toArray [v90, .int .i64 0, .int .i64 0]), h89) else none := by kernel_rfl
theorem s22_1_j (n1 : Nat) (x2 x5 x8 x9 : Value) (h : AHeap) : s22_1 hk0 C N n1 x2 x5 x8 x9 h = F22_1 hk0 C N n1 (⟨70, [(2, x2), (5, x5), (8, x8), (9, x9)]⟩) h := by delta s22_1; exact hk0_app _ _ _ _
theorem s22_1_eq (n1 : Nat) (x2 x5 x8 x9 : Value) (h : AHeap) : F22_1 hk C N n1 (⟨70, [(2, x2), (5, x5), (8, x8), (9, x9)]⟩) h =
  (C 104 [x8] h).bind fun r91 => (asI .i64 r91.1).bind fun n92 => aNewS r91.2 3 [.int .i64 n92] 1 fun p93 h94 => (aApp h94 3 1 8 x9 p93).bind fun r95 => s22_0 hk C N n1 x2 x5 x8 r95.1 r95.2 := by kernel_rfl
theorem c22 (d : Nat) (args : List Value) (h : AHeap) : call Tp Ms (d + 1) 22 args h = evFn hk0 Tp (call Tp Ms d) M22 d Tryz.f22 args h := by kernel_rfl
def F104_0 : Nx (Value × AHeap) := evSt hk Tp C M104 N Tryz.f104 [1, 0, 2, 1, 5, 1, 4, 1, 1, 1, 1] []
def s104_0 (x0 x6 : Value) (h : AHeap) := hk 15 (⟨109, [(0, x0), (6, x6)]⟩) h (F104_0 hk C N)
theorem e104 (x0 : Value) (h : AHeap) : evFn hk Tp C M104 N Tryz.f104 [x0] h =
  (C 201 [x0, .string (⟨#[108, 111, 99, 97, 108]⟩)] h).bind fun r1 => (asB r1.1).bind fun b2 => bif b2 then (aNil x0).bind fun v3 => (aOff v3 1).bind fun v4 => (aLd1 r1.2 v4).bind fun v5 => (asI .i64 v5).bind fun n6 => (aNil x0).bind fun v7 => (aOff v7 1).bind fun v8 => (aSt r1.2 v8 (.int .i64 (IntKind.i64.wrap (n6 + 1))) 1).bind fun h9 => (C 202 [x0] h9).bind fun r10 => (asS r10.1).bind fun t11 => (C 203 [x0, .string (⟨#[61]⟩)] r10.2).bind fun r12 => (C 204 [x0] r12.2).bind fun r13 => (asI .i64 r13.1).bind fun n14 => (C 203 [x0, .string (⟨#[59]⟩)] r13.2).bind fun r15 => aNewS r15.2 3 [.int .i64 n14] 1 fun p16 h17 => (aFill [.int .i64 0, .string ⟨#[]⟩, .int .i64 0, .slice none 0 0] [(0, 1, .int .i64 14), (1, 1, .string t11), (3, 1, p16)]).bind fun c18 => (C 105 [x0, (.agg (List.toArray c18))] h17).bind fun r19 => (asI .i64 r19.1).bind fun n20 => some (.int .i64 n20, r19.2) else (C 201 [x0, .string (⟨#[105, 102]⟩)] r1.2).bind fun r21 => (asB r21.1).bind fun b22 => bif b22 then (aNil x0).bind fun v23 => (aOff v23 1).bind fun v24 => (aLd1 r21.2 v24).bind fun v25 => (asI .i64 v25).bind fun n26 => (aNil x0).bind fun v27 => (aOff v27 1).bind fun v28 => (aSt r21.2 v28 (.int .i64 (IntKind.i64.wrap (n26 + 1))) 1).bind fun h29 => (C 204 [x0] h29).bind fun r30 => (asI .i64 r30.1).bind fun n31 => (C 205 [x0] r30.2).bind fun r32 => (asI .i64 r32.1).bind fun n33 => aNewS r32.2 3 [.int .i64 n31, .int .i64 n33] 2 fun p34 h35 => (C 201 [x0, .string (⟨#[101, 108, 115, 101]⟩)] h35).bind fun r36 => (asB r36.1).bind fun b37 => bif b37 then (aNil x0).bind fun v38 => (aOff v38 1).bind fun v39 => (aLd1 r36.2 v39).bind fun v40 => (asI .i64 v40).bind fun n41 => (aNil x0).bind fun v42 => (aOff v42 1).bind fun v43 => (aSt r36.2 v43 (.int .i64 (IntKind.i64.wrap (n41 + 1))) 1).bind fun h44 => (C 205 [x0] h44).bind fun r45 => (asI .i64 r45.1).bind fun n46 => aNewS r45.2 3 [.int .i64 n46] 1 fun p47 h48 => (aApp h48 3 1 8 p34 p47).bind fun r49 => s104_0 hk C N x0 r49.1 r49.2 else s104_0 hk C N x0 p34 r36.2 else (C 201 [x0, .string (⟨#[119, 104, 105, 108, 101]⟩)] r21.2).bind fun r50 => (asB r50.1).bind fun b51 => bif b51 then (aNil x0).bind fun v52 => (aOff v52 1).bind fun v53 => (aLd1 r50.2 v53).bind fun v54 => (asI .i64 v54).bind fun n55 => (aNil x0).bind fun v56 => (aOff v56 1).bind fun v57 => (aSt r50.2 v57 (.int .i64 (IntKind.i64.wrap (n55 + 1))) 1).bind fun h58 => (C 204 [x0] h58).bind fun r59 => (asI .i64 r59.1).bind fun n60 => (C 205 [x0] r59.2).bind fun r61 => (asI .i64 r61.1).bind fun n62 => aNewS r61.2 3 [.int .i64 n60, .int .i64 n62] 2 fun p63 h64 => (aFill [.int .i64 0, .string ⟨#[]⟩, .int .i64 0, .slice none 0 0] [(0, 1, .int .i64 18), (3, 1, p63)]).bind fun c65 => (C 105 [x0, (.agg (List.toArray c65))] h64).bind fun r66 => (asI .i64 r66.1).bind fun n67 => some (.int .i64 n67, r66.2) else (C 201 [x0, .string (⟨#[114, 101, 116, 117, 114, 110]⟩)] r50.2).bind fun r68 => (asB r68.1).bind fun b69 => bif b69 then (aNil x0).bind fun v70 => (aOff v70 1).bind fun v71 => (aLd1 r68.2 v71).bind fun v72 => (asI .i64 v72).bind fun n73 => (aNil x0).bind fun v74 => (aOff v74 1).bind fun v75 => (aSt r68.2 v75 (.int .i64 (IntKind.i64.wrap (n73 + 1))) 1).bind fun h76 => (C 204 [x0] h76).bind fun r77 => (asI .i64 r77.1).bind fun n78 => (C 203 [x0, .string (⟨#[59]⟩)] r77.2).bind fun r79 => aNewS r79.2 3 [.int .i64 n78] 1 fun p80 h81 => (aFill [.int .i64 0, .string ⟨#[]⟩, .int .i64 0, .slice none 0 0] [(0, 1, .int .i64 19), (3, 1, p80)]).bind fun c82 => (C 105 [x0, (.agg (List.toArray c82))] h81).bind fun r83 => (asI .i64 r83.1).bind fun n84 => some (.int .i64 n84, r83.2) else (C 206 [x0] r68.2).bind fun r85 => (asI .i64 r85.1).bind fun n86 => some (.int .i64 n86, r85.2) := by kernel_rfl
theorem s104_0_j (x0 x6 : Value) (h : AHeap) : s104_0 hk0 C N x0 x6 h = F104_0 hk0 C N (⟨109, [(0, x0), (6, x6)]⟩) h := by delta s104_0; exact hk0_app _ _ _ _
theorem s104_0_eq (x0 x6 : Value) (h : AHeap) : F104_0 hk C N (⟨109, [(0, x0), (6, x6)]⟩) h =
  (aFill [.int .i64 0, .string ⟨#[]⟩, .int .i64 0, .slice none 0 0] [(0, 1, .int .i64 17), (3, 1, x6)]).bind fun c87 => (C 105 [x0, (.agg (List.toArray c87))] h).bind fun r88 => (asI .i64 r88.1).bind fun n89 => some (.int .i64 n89, r88.2) := by kernel_rfl
theorem c104 (d : Nat) (args : List Value) (h : AHeap) : call Tp Ms (d + 1) 104 args h = evFn hk0 Tp (call Tp Ms d) M104 d Tryz.f104 args h := by kernel_rfl
end
def FrC (h g : AHeap) : Prop := h.size ≤ g.size ∧ ∀ j o, h.at? j = some o → o.elem ≠ 225 → g.at? j = some o
def Fr (h g : AHeap) : Prop := h.size ≤ g.size ∧ ∀ j o, h.at? j = some o → o.elem ≠ 225 → o.elem ≠ 289 → g.at? j = some o
theorem FrC.refl (h : AHeap) : FrC h h := ⟨Nat.le_refl _, fun _ _ a _ => a⟩
theorem FrC.trans {h g k : AHeap} (x : FrC h g) (y : FrC g k) : FrC h k := ⟨Nat.le_trans x.1 y.1, fun j o a b => y.2 j o (x.2 j o a b) b⟩
theorem FrC.ext {h g : AHeap} (x : Ext h.size h g) : FrC h g := ⟨x.size, fun j o a _ => x.at? (at?_obj a).2.1 a⟩
theorem Fr.refl (h : AHeap) : Fr h h := ⟨Nat.le_refl _, fun _ _ a _ _ => a⟩
theorem Fr.trans {h g k : AHeap} (x : Fr h g) (y : Fr g k) : Fr h k := ⟨Nat.le_trans x.1 y.1, fun j o a b c => y.2 j o (x.2 j o a b c) b c⟩
theorem FrC.fr {h g : AHeap} (x : FrC h g) : Fr h g := ⟨x.1, fun j o a b _ => x.2 j o a b⟩
theorem Fr.ext {h g : AHeap} (x : Ext h.size h g) : Fr h g := (FrC.ext x).fr
theorem RowE.fr {h g : AHeap} {i : Nat} {e : TypeId} {cs : List Value} (x : RowE h i e cs) (k : Fr h g) (h1 : e ≠ 225) (h2 : e ≠ 289) : RowE g i e cs := let ⟨o, a, b, c⟩ := x; ⟨o, k.2 i o a (by rw [b]; exact h1) (by rw [b]; exact h2), b, c⟩
theorem OwnR.frc {h g : AHeap} {i r : Nat} {e : TypeId} {cs : List Value} (x : OwnR h i r e cs) (k : FrC h g) (h1 : e ≠ 225) : OwnR g i r e cs := let ⟨ep, a⟩ := x; ⟨ep, k.2 i _ a h1⟩
theorem OwnR.frx {h g : AHeap} {i r : Nat} {e : TypeId} {cs : List Value} (x : OwnR h i r e cs) (k : Ext h.size h g) : OwnR g i r e cs := let ⟨ep, a⟩ := x; ⟨ep, k.at? (at?_obj a).2.1 a⟩
theorem ks143 {q : Nat} {h g : AHeap} (s : g.size = h.size) (k : Ks 225 q h g) : FrC h g := ⟨by omega, fun j o a b => k j o a (.inl b)⟩
theorem ks184 {q : Nat} {h g : AHeap} (s : g.size = h.size) (k : Ks 289 q h g) : Fr h g := ⟨by omega, fun j o a _ b => k j o a (.inl b)⟩
def BR (h : AHeap) (v : Value) (xs : List Int) : Prop := (v = .slice none 0 0 ∧ xs = []) ∨ (∃ a, v = .slice (some a) 0 0 ∧ xs = []) ∨ ∃ i, v = slc i 0 xs.length ∧ RowE h i 5 (xs.map (Value.int .u8))
theorem BR.fr {h g : AHeap} {v : Value} {xs : List Int} (x : BR h v xs) (e : Fr h g) : BR g v xs := by
 rcases x with x | x | ⟨i, a, r⟩
 ·exact .inl x
 ·exact .inr (.inl x)
 ·exact .inr (.inr ⟨i, a, r.fr e (by decide) (by decide)⟩)
theorem BR.len {h : AHeap} {v : Value} {xs : List Int} (x : BR h v xs) : aLen v = some (.int .i64 (xs.length : Int)) := by
 rcases x with ⟨rfl, rfl⟩ | ⟨a, rfl, rfl⟩ | ⟨i, rfl, _⟩ <;> rfl
theorem BR.cell {h : AHeap} {v : Value} {xs : List Int} (x : BR h v xs) : isCell v = true := by
 rcases x with ⟨rfl, rfl⟩ | ⟨a, rfl, rfl⟩ | ⟨i, rfl, _⟩ <;> rfl
theorem BR.at {h : AHeap} {v : Value} {xs : List Int} (x : BR h v xs) {j : Nat} (hj : j < xs.length) : ∃ p, aIdx v (.int .i64 (j : Int)) 1 = some p ∧ aLd1 h p = some (.int .u8 xs[j]) := by
 rcases x with ⟨_, rfl⟩ | ⟨_, _, rfl⟩ | ⟨i, rfl, r⟩
 ·simp at hj
 ·simp at hj
 ·exact ⟨ptr i j, by simp [aIdx, slc, hj], r.row.ld1 (by simp [hj])⟩
def DS (q : Nat) (h : AHeap) : Prop := ∃ (v : Value) (xs : List Int) (i : Nat) (sd : Int), OwnR h q q 225 [v, .int .i64 (i : Int), .int .i64 sd] ∧ BR h v xs ∧ i ≤ xs.length ∧ xs.length ≤ 1048576
theorem DS.ks {q e : Nat} {h g : AHeap} (x : DS q h) (s : g.size = h.size) (k : Ks 289 e h g) : DS q g :=
 let ⟨v, xs, i, sd, ⟨ep, o⟩, b, c, d⟩ := x; ⟨v, xs, i, sd, ⟨ep, k q _ o (.inl (by show (225 : TypeId) ≠ 289; decide))⟩, b.fr (ks184 s k), c, d⟩
theorem DS.ext {q : Nat} {h g : AHeap} (x : DS q h) (k : Ext h.size h g) : DS q g := let ⟨v, xs, i, sd, o, b, c, d⟩ := x; ⟨v, xs, i, sd, o.frx k, b.fr (Fr.ext k), c, d⟩
theorem and255 (x : BitVec IntKind.i64.bits) : (0 : Int) ≤ IntKind.i64.wrap ((x &&& BitVec.ofInt IntKind.i64.bits 255).toNat : Int) ∧ IntKind.i64.wrap ((x &&& BitVec.ofInt IntKind.i64.bits 255).toNat : Int) ≤ 255 := by
 have h : (x &&& BitVec.ofInt IntKind.i64.bits 255).toNat ≤ 255 := by
  have e : (BitVec.ofInt IntKind.i64.bits 255).toNat = 255 := by decide
  have := Nat.and_le_right (n := x.toNat) (m := 255)
  rw [BitVec.toNat_and, e]; exact this
 rw [wr (by omega) (by omega)]; omega
def DN (q : Nat) (h : AHeap) (n : Int) (o : Option (Value × AHeap)) : Prop := ∃ x g, o = some (.int .i64 x, g) ∧ 0 ≤ x ∧ x ≤ n ∧ FrC h g ∧ DS q g
def DT (q : Nat) (h : AHeap) (o : Option (Value × AHeap)) : Prop := ∃ x g, o = some (.bool x, g) ∧ FrC h g ∧ DS q g
def RC (q B : Nat) (h : AHeap) (o : Option (Value × AHeap)) : Prop := ∃ s g, o = some (.string s, g) ∧ s.size ≤ B ∧ FrC h g ∧ DS q g
theorem l162 {d q : Nat} {h : AHeap} (x : DS q h) : DN q h 255 (call Tp Ms (d + 1) 228 [ptr q 0] h) := by
 obtain ⟨v, xs, i, sd, o, bs, hi, hl⟩ := x
 rw [c228, e228]
 obtain ⟨h1, c1, _, k1, o1, s1⟩ := stOwn o (Nat.le_refl q) (j := 2) (v := .int .i64 (IntKind.i64.wrap (IntKind.i64.wrap (sd * 6364136223846793005) + 1442695040888963407))) (by show 2 < 3; decide) rfl
 have o1' : OwnR h1 q q 225 [v, .int .i64 (i : Int), .int .i64 (IntKind.i64.wrap (IntKind.i64.wrap (sd * 6364136223846793005) + 1442695040888963407))] := o1
 have F1 := ks143 s1 k1
 have b1 := bs.fr F1.fr
 have f0 : aLd1 h1 (ptr q 0) = some v := o1'.row.ld1 rfl
 have f1 : aLd1 h1 (ptr q 1) = some (.int .i64 (i : Int)) := o1'.row.ld1 rfl
 have f2 := o1'.row.ld1 (off := 2) rfl
 refine pb (P := DN q h 255) rfl (pb rfl (pb (o.row.ld1 (off := 2) rfl) (pb rfl (pb rfl (pb rfl (pb c1 (pb rfl (pb rfl (pb f2 (pb rfl (pb rfl (pb rfl (pb f2 (pb rfl (pb rfl (pb rfl (pb f1 (pb rfl (pb rfl (pb rfl (pb f0 (pb b1.len (pb rfl ?_)))))))))))))))))))))))
 by_cases hlt : i < xs.length
 ·obtain ⟨p, p1, p2⟩ := b1.at hlt
  have wi : IntKind.i64.wrap ((i : Int) + 1) = ((i + 1 : Nat) : Int) := by rw [wr (by omega) (by omega)]; omega
  obtain ⟨h2, c2, _, k2, o2, s2⟩ := stOwn o1' (Nat.le_refl q) (j := 1) (v := .int .i64 ((i + 1 : Nat) : Int)) (by show 1 < 3; decide) rfl
  have F2 := ks143 s2 k2
  refine pct (P := DN q h 255) (decide_eq_true (by omega)) (pb rfl (pb rfl (pb f0 (pb rfl (pb rfl (pb f1 (pb rfl (pb p1 (pb p2 (pb rfl (pb rfl (pb rfl (pb f1 (pb rfl (pb rfl (pb rfl ?_))))))))))))))))
  rw [wi]
  refine pb (P := DN q h 255) c2 ?_
  have a := and255
  exact ⟨_, h2, rfl, (a _).1, (a _).2, F1.trans F2, v, xs, i + 1, _, o2, b1.fr F2.fr, by omega, hl⟩
 ·refine pcf (P := DN q h 255) (decide_eq_false (by omega)) ?_
  have a := and255
  exact ⟨_, h1, rfl, (a _).1, (a _).2, F1, v, xs, i, _, o1', b1, hi, hl⟩
theorem rem_some {a n : Int} (ha : 0 ≤ a) (hn : 0 < n) : ∃ r, aBin .rem (.int .i64 a) (.int .i64 n) = some (.int .i64 r) ∧ 0 ≤ r ∧ r ≤ n - 1 := by
 have h1 : a.tmod n = a % n := Int.tmod_eq_emod_of_nonneg ha
 have h2 := Int.emod_nonneg a (show n ≠ 0 by omega)
 have h3 := Int.emod_lt_of_pos a hn
 refine ⟨a % n, ?_, h2, by omega⟩
 have hz : n ≠ 0 := by omega
 simp [aBin, hz, h1]
theorem q116 {D q : Nat} {h : AHeap} {n : Int} (hD : 10 ≤ D) (hn : 1 ≤ n) (x : DS q h) : DN q h (n - 1) (call Tp Ms D 136 [ptr q 0, .int .i64 n] h) := by
 obtain ⟨d, rfl⟩ : ∃ d, D = d + 2 := ⟨D - 2, by omega⟩
 rw [c136, e136]
 refine pcf (P := DN q h _) (decide_eq_false (by omega)) ?_
 obtain ⟨n1, g1, c1, a1, a2, e1, x1⟩ := l162 (d := d) x
 by_cases h2 : n ≤ 256
 ·obtain ⟨r, r1, r2, r3⟩ := rem_some (n := n) a1 (by omega)
  exact pct (P := DN q h _) (decide_eq_true h2) (pb c1 (pb rfl (pb r1 (pb rfl ⟨r, g1, rfl, r2, r3, e1, x1⟩))))
 ·obtain ⟨n2, g2, c2, b1, b2, e2, x2⟩ := l162 (d := d) x1
  obtain ⟨n3, g3, c1003, d1, d2, e1003, x3⟩ := l162 (d := d) x2
  obtain ⟨n4, g4, c1004, f1, f2, e1004, x4⟩ := l162 (d := d) x3
  have w1 : IntKind.i64.wrap (n1 * 16777216) = n1 * 16777216 := wr (by omega) (by omega)
  have w2 : IntKind.i64.wrap (n2 * 65536) = n2 * 65536 := wr (by omega) (by omega)
  have w3 : IntKind.i64.wrap (n3 * 256) = n3 * 256 := wr (by omega) (by omega)
  have w4 : IntKind.i64.wrap (n1 * 16777216 + n2 * 65536) = n1 * 16777216 + n2 * 65536 := wr (by omega) (by omega)
  have w5 : IntKind.i64.wrap (n1 * 16777216 + n2 * 65536 + n3 * 256) = n1 * 16777216 + n2 * 65536 + n3 * 256 := wr (by omega) (by omega)
  have w6 : IntKind.i64.wrap (n1 * 16777216 + n2 * 65536 + n3 * 256 + n4) = n1 * 16777216 + n2 * 65536 + n3 * 256 + n4 := wr (by omega) (by omega)
  obtain ⟨r, r1, r2, r3⟩ := rem_some (a := n1 * 16777216 + n2 * 65536 + n3 * 256 + n4) (n := n) (by omega) (by omega)
  refine pcf (P := DN q h _) (decide_eq_false h2) (pb c1 (pb rfl (pb c2 (pb rfl (pb c1003 (pb rfl (pb c1004 (pb rfl ?_))))))))
  rw [w1, w2, w3, w4, w5, w6]
  exact pb (P := DN q h _) r1 (pb rfl ⟨r, g4, rfl, r2, r3, ((e1.trans e2).trans e1003).trans e1004, x4⟩)
theorem q71 {D q : Nat} {h : AHeap} {n : Int} (hD : 20 ≤ D) (hn : 1 ≤ n) (x : DS q h) : DT q h (call Tp Ms D 134 [ptr q 0, .int .i64 n] h) := by
 obtain ⟨d, rfl⟩ : ∃ d, D = d + 1 := ⟨D - 1, by omega⟩
 obtain ⟨r, g, c, _, _, e, y⟩ := q116 (D := d) (by omega) hn x
 rw [c134, e134]
 exact ⟨r == 0, g, eb c (eb rfl rfl), e, y⟩
def ZS (h : AHeap) (v : Value) (xs : List ByteArray) : Prop := (v = .slice none 0 0 ∧ xs = []) ∨ ∃ i, v = slc i 0 xs.length ∧ RowE h i 9 (strs xs)
def ZI (h : AHeap) (v : Value) (xs : List Int) : Prop := (v = .slice none 0 0 ∧ xs = []) ∨ ∃ i, v = slc i 0 xs.length ∧ RowE h i 3 (ints xs)
theorem ZS.fr {h g : AHeap} {v : Value} {xs : List ByteArray} (x : ZS h v xs) (e : Fr h g) : ZS g v xs := by
 rcases x with x | ⟨i, a, r⟩
 ·exact .inl x
 ·exact .inr ⟨i, a, r.fr e (by decide) (by decide)⟩
theorem ZI.fr {h g : AHeap} {v : Value} {xs : List Int} (x : ZI h v xs) (e : Fr h g) : ZI g v xs := by
 rcases x with x | ⟨i, a, r⟩
 ·exact .inl x
 ·exact .inr ⟨i, a, r.fr e (by decide) (by decide)⟩
theorem ZS.len {h : AHeap} {v : Value} {xs : List ByteArray} (x : ZS h v xs) : aLen v = some (.int .i64 (xs.length : Int)) := by
 rcases x with ⟨rfl, rfl⟩ | ⟨i, rfl, _⟩ <;> rfl
theorem ZS.cell {h : AHeap} {v : Value} {xs : List ByteArray} (x : ZS h v xs) : isCell v = true := by
 rcases x with ⟨rfl, rfl⟩ | ⟨i, rfl, _⟩ <;> rfl
theorem ZI.cell {h : AHeap} {v : Value} {xs : List Int} (x : ZI h v xs) : isCell v = true := by
 rcases x with ⟨rfl, rfl⟩ | ⟨i, rfl, _⟩ <;> rfl
theorem ZI.vbeq {h : AHeap} {v : Value} {xs : List Int} (x : ZI h v xs) : vbeq v v = true := by
 rcases x with ⟨rfl, rfl⟩ | ⟨i, rfl, _⟩ <;> simp [AH.vbeq, vbeq1, slc]
theorem ZS.at {h : AHeap} {v : Value} {xs : List ByteArray} (x : ZS h v xs) {j : Nat} (hj : j < xs.length) : ∃ p, aIdx v (.int .i64 (j : Int)) 1 = some p ∧ aLd1 h p = some (.string xs[j]) ∧ ∀ g, Fr h g → aLd1 g p = some (.string xs[j]) := by
 rcases x with ⟨_, rfl⟩ | ⟨i, rfl, r⟩
 ·simp at hj
 ·exact ⟨ptr i j, by simp [aIdx, slc, hj], r.row.ld1 (by simp [strs, hj]), fun g e => (r.fr e (by decide) (by decide)).row.ld1 (by simp [strs, hj])⟩
theorem ZI.at {h : AHeap} {v : Value} {xs : List Int} (x : ZI h v xs) {j : Nat} (hj : j < xs.length) : ∃ p, aIdx v (.int .i64 (j : Int)) 1 = some p ∧ aLd1 h p = some (.int .i64 xs[j]) := by
 rcases x with ⟨_, rfl⟩ | ⟨i, rfl, r⟩
 ·simp at hj
 ·exact ⟨ptr i j, by simp [aIdx, slc, hj], r.row.ld1 (by simp [ints, hj])⟩
theorem ZS.own {b : Nat} {h : AHeap} {v : Value} {xs : List ByteArray} (x : SOwn b h v xs) : ZS h v xs := let ⟨i, a, o⟩ := x; .inr ⟨i, a, Own.rowE o⟩
theorem ZS.src {h : AHeap} {v : Value} {xs : List ByteArray} (x : ZS h v xs) : SSrc h v xs := by
 rcases x with ⟨rfl, rfl⟩ | ⟨i, rfl, r⟩
 ·exact SSrc.nil h
 ·exact SSrc.of r
theorem ZI.src {h : AHeap} {v : Value} {xs : List Int} (x : ZI h v xs) : aSrc h 1 v = some (xs.length, ints xs) := by
 rcases x with ⟨rfl, rfl⟩ | ⟨i, rfl, r⟩
 ·rfl
 ·have := r.row.src (off := 0) (n := xs.length) (esz := 1) (by simp [ints])
  rw [this, Nat.mul_one, List.drop_zero, List.take_of_length_le (by simp [ints])]
theorem q117 {D q B : Nat} {h : AHeap} {v : Value} {xs : List ByteArray} (hD : 20 ≤ D) (x : ZS h v xs) (h0 : 0 < xs.length) (hB : ∀ s, s ∈ xs → s.size ≤ B) (w : DS q h) : RC q B h (call Tp Ms D 159 [ptr q 0, v] h) := by
 obtain ⟨d, rfl⟩ : ∃ d, D = d + 1 := ⟨D - 1, by omega⟩
 obtain ⟨r, g, c, a1, a2, e, y⟩ := q116 (D := d) (n := (xs.length : Int)) (by omega) (by omega) w
 obtain ⟨j, rfl⟩ : ∃ j : Nat, r = (j : Int) := ⟨r.toNat, by omega⟩
 have hj : j < xs.length := by omega
 obtain ⟨p, p1, _, p2⟩ := x.at hj
 rw [c159, e159]
 exact ⟨xs[j], g, eb x.len (eb rfl (eb c (eb rfl (eb p1 (eb (p2 g e.fr) (eb rfl rfl)))))), hB _ (List.getElem_mem hj), e, y⟩
def ecells (nv kv : Value) (cnt left : Int) (fn co : Bool) : List Value := [nv, kv, .int .i64 cnt, .int .i64 left, .bool fn, .bool co]
def ES (e n : Nat) (h : AHeap) : Prop := ∃ (nv kv : Value) (cnt left : Int) (fn co : Bool) (ns : List ByteArray) (ks : List Int),
 OwnR h e e 289 (ecells nv kv cnt left fn co) ∧ ZS h nv ns ∧ ZI h kv ks ∧ ns.length = ks.length ∧ ns.length ≤ n ∧ ∀ s, s ∈ ns → s.size ≤ 3
theorem ES.frc {e n : Nat} {h g : AHeap} (x : ES e n h) (k : FrC h g) : ES e n g :=
 let ⟨nv, kv, cnt, left, fn, co, ns, ks, o, a, b, c⟩ := x; ⟨nv, kv, cnt, left, fn, co, ns, ks, o.frc k (by decide), a.fr k.fr, b.fr k.fr, c⟩
theorem ES.mono {e n m : Nat} {h : AHeap} (x : ES e n h) (k : n ≤ m) : ES e m h :=
 let ⟨nv, kv, cnt, left, fn, co, ns, ks, o, a, b, c, d, f⟩ := x; ⟨nv, kv, cnt, left, fn, co, ns, ks, o, a, b, c, by omega, f⟩
structure St (q e n : Nat) (h0 h : AHeap) : Prop where
 fr : Fr h0 h
 ds : DS q h
 es : ES e n h
theorem St.self {q e n : Nat} {h0 h : AHeap} (x : St q e n h0 h) : St q e n h h := ⟨Fr.refl h, x.ds, x.es⟩
theorem St.next {q e n m : Nat} {h0 h g : AHeap} (x : St q e n h0 h) (y : St q e m h g) : St q e m h0 g := ⟨x.fr.trans y.fr, y.ds, y.es⟩
theorem St.frc {q e n : Nat} {h0 h g : AHeap} (x : St q e n h0 h) (k : FrC h g) (d : DS q g) : St q e n h0 g := ⟨x.fr.trans k.fr, d, x.es.frc k⟩
theorem St.ext {q e n : Nat} {h0 h g : AHeap} (x : St q e n h0 h) (k : Ext h.size h g) : St q e n h0 g := x.frc (FrC.ext k) (x.ds.ext k)
theorem St.mono {q e n m : Nat} {h0 h : AHeap} (x : St q e n h0 h) (k : n ≤ m) : St q e m h0 h := ⟨x.fr, x.ds, x.es.mono k⟩
def RE (q e n B : Nat) (h : AHeap) (o : Option (Value × AHeap)) : Prop := ∃ s g, o = some (.string s, g) ∧ s.size ≤ B ∧ St q e n h g
theorem RE.le {q e n B C m : Nat} {h : AHeap} {o : Option (Value × AHeap)} (x : RE q e n B h o) (hB : B ≤ C) (hm : n ≤ m) : RE q e m C h o := let ⟨s, g, a, b, c⟩ := x; ⟨s, g, a, by omega, c.mono hm⟩
section
variable {P : Option (Value × AHeap) → Prop} {q e n m B : Nat} {h0 h : AHeap} {o : Option (Value × AHeap)}
theorem scS {K : Value × AHeap → ByteArray → Option (Value × AHeap)} (w : St q e n h0 h) (x : RE q e m B h o) (hk : ∀ s g, s.size ≤ B → St q e m h0 g → Fr h g → P (K (.string s, g) s)) : P (o.bind fun r => (asS r.1).bind fun t => K r t) := by
 obtain ⟨s, g, rfl, b, c⟩ := x
 exact hk s g b (w.next c) c.fr
theorem scC {K : Value × AHeap → ByteArray → Option (Value × AHeap)} (w : St q e n h0 h) (x : RC q B h o) (hk : ∀ s g, s.size ≤ B → St q e n h0 g → Fr h g → P (K (.string s, g) s)) : P (o.bind fun r => (asS r.1).bind fun t => K r t) := by
 obtain ⟨s, g, rfl, b, c, d⟩ := x
 exact hk s g b (w.frc c d) c.fr
theorem scN {N : Int} {K : Value × AHeap → Int → Option (Value × AHeap)} (w : St q e n h0 h) (x : DN q h N o) (hk : ∀ s g, 0 ≤ s → s ≤ N → St q e n h0 g → Fr h g → P (K (.int .i64 s, g) s)) : P (o.bind fun r => (asI .i64 r.1).bind fun t => K r t) := by
 obtain ⟨s, g, rfl, a, b, c, d⟩ := x
 exact hk s g a b (w.frc c d) c.fr
theorem scB {K : Value × AHeap → Bool → Option (Value × AHeap)} (w : St q e n h0 h) (x : DT q h o) (hk : ∀ s g, St q e n h0 g → Fr h g → P (K (.bool s, g) s)) : P (o.bind fun r => (asB r.1).bind fun t => K r t) := by
 obtain ⟨s, g, rfl, c, d⟩ := x
 exact hk s g (w.frc c d) c.fr
theorem ad {x y : Nat} {a b : ByteArray} {K : ByteArray → Option (Value × AHeap)} (ha : a.size ≤ x) (hb : b.size ≤ y) (hxy : x + y ≤ 100000000000000) (hk : ∀ s : ByteArray, s.size ≤ x + y → P (K s)) : P ((aBin .add (.string a) (.string b)).bind fun v => (asS v).bind fun t => K t) := by
 have hs : (a ++ b).size = a.size + b.size := ByteArray.size_append
 have h1 : a.size + b.size ≤ most := by unfold most; omega
 have : aBin .add (.string a) (.string b) = some (.string (a ++ b)) := by
  show (if a.size + b.size ≤ most then some (Value.string (a ++ b)) else none) = _
  rw [if_pos h1]
 rw [this]
 exact hk (a ++ b) (by omega)
theorem ls {cells : List Value} {l : Nat} {k : Value → AHeap → Option (Value × AHeap)} (xs : List ByteArray) (w : St q e n h0 h) (hc : cells = strs xs) (hn : l = xs.length)
  (hk : ∀ v g, St q e n h0 g → ZS g v xs → Fr h g → P (k v g)) : P (aNewS h 9 cells l k) := by
 subst hc; subst hn
 exact hk _ _ (w.ext (Ext.new (Nat.le_refl _) _ _)) (.inr ⟨h.size, rfl, RowE.new h 9 (strs xs)⟩) (Fr.ext (Ext.new (Nat.le_refl _) _ _))
end
theorem of_loop {D N e : Nat} {k : Int} {nv kv : Value} {cells : List Value} {ns : List ByteArray} {ks : List Int} {h0 : AHeap} (hl : ns.length = ks.length) (hn : ns.length ≤ 1000) (hz : ∀ s, s ∈ ns → s.size ≤ 3) (c0 : cells[0]? = some nv) (c1 : cells[1]? = some kv)
  (r0 : RowE h0 e 289 cells) (z0 : ZS h0 nv ns) (i0 : ZI h0 kv ks) :
  ∀ (t j m : Nat) (v : Value) (ys : List ByteArray) (h : AHeap), ns.length - j = t → j ≤ ns.length → t < m → ys.length ≤ j → Ext h0.size h0 h → SOwn h0.size h v ys → (∀ s, s ∈ ys → s.size ≤ 3) →
  ∃ v' g ys', s352_0 hk0 (call Tp Ms D) N m (ptr e 0) k v (j : Int) h = some (v', g) ∧ Ext h0.size h0 g ∧ ZS g v' ys' ∧ (∀ s, s ∈ ys' → s.size ≤ 3) ∧ ys'.length ≤ ns.length := by
 intro t
 induction t with
 | zero =>
  intro j m v ys h ht hj hm hy X o hs
  obtain ⟨m, rfl⟩ : ∃ q, m = q + 1 := ⟨m - 1, by omega⟩
  have r := r0.ext' X
  rw [s352_0_eq]
  exact ⟨v, h, ys, eb rfl (eb rfl (eb (r.row.ld1 c0) (eb z0.len (eb rfl (ecf (decide_eq_false (by omega)) rfl))))), X, ZS.own o, hs, by omega⟩
 | succ t ih =>
  intro j m v ys h ht hj hm hy X o hs
  obtain ⟨m, rfl⟩ : ∃ q, m = q + 1 := ⟨m - 1, by omega⟩
  have hlt : j < ns.length := by omega
  have r := r0.ext' X
  have wj : IntKind.i64.wrap ((j : Int) + 1) = ((j + 1 : Nat) : Int) := by rw [wr (by omega) (by omega)]; omega
  obtain ⟨p, p1, p2⟩ := (i0.fr (Fr.ext X)).at (j := j) (by omega)
  obtain ⟨p', p3, p4, _⟩ := (z0.fr (Fr.ext X)).at (j := j) (by omega)
  rw [s352_0_eq, wj]
  by_cases hk : ks[j] = k
  ·have e1 := Ext.new (Nat.le_refl h.size) 9 (strs [ns[j]])
   have o1 : SOwn h.size (h.new 9 (strs [ns[j]])) (slc h.size 0 1) [ns[j]] := SOwn.new [ns[j]]
   have X1 := X.trans (e1.mono X.size)
   obtain ⟨v', h', a1, a2, a3, _⟩ := (o.ext e1).app X1.size o1.src (by have : [ns[j]].length = 1 := rfl; omega)
   obtain ⟨v2, g, ys', q1, q2⟩ := ih (j + 1) m v' (ys ++ [ns[j]]) h' (by omega) (by omega) (by omega) (by simp; omega) (X1.trans a2) a3 (fun s h => by
    rcases List.mem_append.1 h with h | h
    ·exact hs s h
    ·obtain rfl := List.mem_singleton.1 h; exact hz _ (List.getElem_mem hlt))
   refine ⟨v2, g, ys', ?_, q2⟩
   refine eb rfl (eb rfl (eb (r.row.ld1 c0) (eb z0.len (eb rfl (ect (decide_eq_true (by omega)) (eb rfl (eb rfl (eb (r.row.ld1 c1) (eb p1 (eb p2 (eb rfl (ect (by simp [hk]) (eb rfl (eb rfl (eb (r.row.ld1 c0) (eb p3 (eb p4 (eb rfl ?_))))))))))))))))))
   exact eb a1 q1
  ·obtain ⟨v2, g, ys', q1, q2⟩ := ih (j + 1) m v ys h (by omega) (by omega) (by omega) (by omega) X o hs
   exact ⟨v2, g, ys', eb rfl (eb rfl (eb (r.row.ld1 c0) (eb z0.len (eb rfl (ect (decide_eq_true (by omega)) (eb rfl (eb rfl (eb (r.row.ld1 c1) (eb p1 (eb p2 (eb rfl (ecf (by simp [hk]) q1)))))))))))), q2⟩
theorem q192 {D q e n : Nat} {h0 h : AHeap} {k : Int} (hD : 3000 ≤ D) (hn : n ≤ 1000) (w : St q e n h0 h) : ∃ v g ys, call Tp Ms D 352 [ptr e 0, .int .i64 k] h = some (v, g) ∧ St q e n h0 g ∧ ZS g v ys ∧ (∀ s, s ∈ ys → s.size ≤ 3) ∧ Fr h g := by
 obtain ⟨D, rfl⟩ : ∃ d, D = d + 1 := ⟨D - 1, by omega⟩
 obtain ⟨nv, kv, cnt, left, fn, co, ns, ks, o, zn, zi, hl, hle, hz⟩ := w.es
 have e1 := Ext.new (Nat.le_refl h.size) 9 (strs [])
 have o1 : SOwn h.size (h.new 9 (strs [])) (slc h.size 0 0) [] := SOwn.new []
 obtain ⟨v, g, ys, c, X, z, hs, _⟩ := of_loop (D := D) (N := D) (k := k) (cells := ecells nv kv cnt left fn co) hl (by omega) hz rfl rfl (Own.rowE (o.own (Nat.le_refl _))) zn zi ns.length 0 D (slc h.size 0 0) [] (h.new 9 (strs [])) (by omega) (by omega) (by omega) (by simp) e1 o1 (by simp)
 rw [c352, e352]
 exact ⟨v, g, ys, c, w.ext X, z, hs, Fr.ext X⟩
section
variable {P : Option (Value × AHeap) → Prop} {q e n : Nat} {h0 h : AHeap}
theorem scO {D : Nat} {k : Int} {K : Value × AHeap → Int → Option (Value × AHeap)} (w : St q e n h0 h) (hD : 3000 ≤ D) (hn : n ≤ 1000) (hk : ∀ v g (ys : List ByteArray), St q e n h0 g → ZS g v ys → (∀ s, s ∈ ys → s.size ≤ 3) → Fr h g → P (K (v, g) (ys.length : Int))) :
  P ((call Tp Ms D 352 [ptr e 0, .int .i64 k] h).bind fun r => (aLen r.1).bind fun l => (asI .i64 l).bind fun t => K r t) := by
 obtain ⟨v, g, ys, c, w', z, hs, f⟩ := q192 (k := k) hD hn w
 rw [c, oBs, z.len]
 exact hk v g ys w' z hs f
end
theorem stEn {e j : Nat} {h : AHeap} {cs : List Value} {v : Value} (o : OwnR h e e 289 cs) (hj : j < cs.length) (hv : isCell v = true) : ∃ h', aSt h (ptr e j) v 1 = some h' ∧ OwnR h' e e 289 (cs.set j v) ∧ h'.size = h.size ∧ Ks 289 e h h' := by
 obtain ⟨h', a, _, b, c, d⟩ := stOwn o (Nat.le_refl e) hj hv
 exact ⟨h', a, c, d, b⟩
theorem tx2 (a b : Int) (h : AHeap) : ∃ s : ByteArray, aCvStr (h.new 5 [.int .u8 a, .int .u8 b]) (slc h.size 0 2) = some (.string s) ∧ s.size = 2 := by
 have r := (RowE.new h 5 [Value.int .u8 a, .int .u8 b]).row.rd (off := 0) (n := 2) (by show 0 + 2 ≤ 2; omega)
 refine ⟨⟨#[UInt8.ofNat a.toNat, UInt8.ofNat b.toNat]⟩, ?_, rfl⟩
 show ((AHeap.rd (h.new 5 [.int .u8 a, .int .u8 b]) h.size 0 2).bind fun cs => (bytesOf cs).map fun l => Value.string ⟨l.toArray⟩) = _
 rw [r]; rfl
theorem zApp {b : Nat} {h : AHeap} {xs ys : List Int} {u v : Value} (o : IOwn b h u xs) (hb : b ≤ h.size) (y : aSrc h 1 v = some (ys.length, ints ys)) (hl : xs.length + ys.length ≤ 1000000) :
  ∃ w h', aApp h 3 1 8 u v = some (w, h') ∧ Ext b h h' ∧ IOwn b h' w (xs ++ ys) := by
 obtain ⟨i, rfl, o⟩ := o
 obtain ⟨h', a, b, c, _⟩ := o.app (n := xs.length) (m := ys.length) (esz := 1) (bytes := 8) hb y (by simp [ints]) (by unfold most; omega) (by unfold most; omega)
 exact ⟨_, h', a, b, h.size, by simp, by rw [show ints (xs ++ ys) = ints xs ++ ints ys by simp [ints]]; exact c⟩
theorem nS {P : Option (Value × AHeap) → Prop} {h : AHeap} {e : TypeId} {cells : List Value} {l : Nat} {k : Value → AHeap → Option (Value × AHeap)} (hk : P (k (slc h.size 0 l) (h.new e cells))) : P (aNewS h e cells l k) := hk
theorem q189 {D q e n : Nat} {h : AHeap} {k : Int} (hD : 1 ≤ D) (hn : n ≤ 1000) (w : St q e n h h) : RE q e (n + 1) 3 h (call Tp Ms D 349 [ptr e 0, .int .i64 k] h) := by
 obtain ⟨D, rfl⟩ : ∃ d, D = d + 1 := ⟨D - 1, by omega⟩
 obtain ⟨_, ds, nv, kv, cnt, left, fn, co, ns, ks, o, zn, zi, hl, hle, hz⟩ := w
 rw [c349, e349]
 have x0 : aLd1 h (ptr e 2) = some (.int .i64 cnt) := o.row.ld1 rfl
 obtain ⟨h1, a1, o1, s1, k1⟩ := stEn o (j := 2) (v := .int .i64 (IntKind.i64.wrap (cnt + 1))) (by show 2 < 6; decide) rfl
 have F1 := ks184 s1 k1
 have D1 := ds.ks s1 k1
 have y2 : aLd1 h1 (ptr e 2) = some (.int .i64 (IntKind.i64.wrap (cnt + 1))) := o1.row.ld1 rfl
 refine pb (P := RE q e (n + 1) 3 h) rfl (pb rfl (pb x0 (pb rfl (pb rfl (pb rfl (pb a1 (pb rfl (pb rfl (pb y2 (pb rfl (pb rfl (pb rfl (pb y2 (pb rfl ?_))))))))))))))
 generalize IntKind.u8.wrap (IntKind.i64.wrap (97 + Int.tmod (IntKind.i64.wrap (cnt + 1)) 26)) = z1
 generalize IntKind.u8.wrap (IntKind.i64.wrap (97 + Int.tmod (IntKind.i64.wrap (Int.tdiv (IntKind.i64.wrap (cnt + 1)) 26)) 26)) = z2
 have e2 := Ext.new (Nat.le_refl h1.size) 5 [Value.int .u8 z1, .int .u8 z2]
 obtain ⟨s, cs, ss⟩ := tx2 z1 z2 h1
 refine nS (P := RE q e (n + 1) 3 h) (pb cs (pb rfl ?_))
 generalize h1.new 5 [Value.int .u8 z1, .int .u8 z2] = h2 at e2
 refine ad (x := 1) (y := 2) (Nat.le_refl _) (by omega) (by omega) fun t ht => ?_
 have e1003 := Ext.new (Nat.le_refl h2.size) 9 (strs [])
 have o3 : SOwn h2.size (h2.new 9 (strs [])) (slc h2.size 0 0) [] := SOwn.new []
 have E3 := Ext.tr e2 e1003
 have o3' := o1.frx E3
 have y3 : aLd1 (h2.new 9 (strs [])) (ptr e 0) = some nv := o3'.row.ld1 rfl
 have n3 := zn.fr (F1.trans (Fr.ext E3))
 obtain ⟨v4, h4, c1004, x4, o4, _⟩ := o3.app e1003.size n3.src (by simp; omega)
 refine nS (P := RE q e (n + 1) 3 h) (pb rfl (pb rfl (pb y3 (pb c1004 (nS ?_)))))
 have E4 := Ext.trans E3 (x4.mono e2.size)
 have e1005 := Ext.new (Nat.le_refl h4.size) 9 (strs [t])
 have q5 : SOwn h4.size (h4.new 9 (strs [t])) (slc h4.size 0 1) [t] := SOwn.new [t]
 have o5 := o4.ext e1005
 have E5 := Ext.tr E4 e1005
 obtain ⟨v6, h6, c1006, x6, o6, _⟩ := o5.app (Nat.le_trans (Nat.le_trans e1003.size x4.size) e1005.size) q5.src (by simp; omega)
 have E6 := Ext.trans E5 (x6.mono e2.size)
 refine pb (P := RE q e (n + 1) 3 h) c1006 ?_
 have p6 := o1.frx E6
 have z6 := ZS.own o6
 obtain ⟨h7, a7, o7, s7, k7⟩ := stEn p6 (j := 0) (v := v6) (by show 0 < 6; decide) z6.cell
 have F7 := ks184 s7 k7
 have D7 := (D1.ext E6).ks s7 k7
 refine pb rfl (pb rfl (pb a7 (nS ?_)))
 have e1008 := Ext.new (Nat.le_refl h7.size) 3 (ints [])
 have o8 : IOwn h7.size (h7.new 3 (ints [])) (slc h7.size 0 0) [] := ⟨_, rfl, Own.new (Nat.le_refl _) 3 (ints [])⟩
 have p8 := o7.frx e1008
 have y8 : aLd1 (h7.new 3 (ints [])) (ptr e 1) = some kv := p8.row.ld1 rfl
 have i8 := zi.fr ((F1.trans (Fr.ext E6)).trans (F7.trans (Fr.ext e1008)))
 obtain ⟨v9, h9, c1009, x9, o9⟩ := zApp o8 e1008.size i8.src (by simp; omega)
 refine pb (P := RE q e (n + 1) 3 h) rfl (pb rfl (pb y8 (pb c1009 (nS ?_))))
 have E9 := e1008.trans x9
 have eA := Ext.new (Nat.le_refl h9.size) 3 (ints [k])
 have rA : Row (h9.new 3 (ints [k])) h9.size (ints [k]) := (Own.new (b := 0) (Nat.zero_le _) 3 (ints [k])).row
 have oA : IOwn h7.size (h9.new 3 (ints [k])) v9 ([] ++ ks) := let ⟨i, a, b⟩ := o9; ⟨i, a, b.ext eA b.lt.2⟩
 have EA := Ext.tr E9 eA
 have sA : aSrc (h9.new 3 (ints [k])) 1 (slc h9.size 0 1) = some ([k].length, ints [k]) := rA.src (n := 1) (esz := 1) (by show 0 + 1 * 1 ≤ 1; omega)
 obtain ⟨vB, hB, cB, xB, oB⟩ := zApp oA (Nat.le_trans E9.size eA.size) sA (by simp; omega)
 have EB := Ext.trans EA xB
 refine pb (P := RE q e (n + 1) 3 h) cB ?_
 have pB := o7.frx EB
 have zB : ZI hB vB ([] ++ ks ++ [k]) := let ⟨i, a, b⟩ := oB; .inr ⟨i, a, Own.rowE b⟩
 obtain ⟨hC, aC, oC, sC, kC⟩ := stEn pB (j := 1) (v := vB) (by show 1 < 6; decide) zB.cell
 have FC := ks184 sC kC
 refine pb rfl (pb rfl (pb aC ?_))
 have T1 : Fr h hC := (F1.trans (Fr.ext E6)).trans (F7.trans ((Fr.ext EB).trans FC))
 refine ⟨t, hC, rfl, ht, T1, (D7.ext EB).ks sC kC, v6, _, _, _, _, _, [] ++ ns ++ [t], [] ++ ks ++ [k], oC, z6.fr (F7.trans ((Fr.ext EB).trans FC)), zB.fr FC, by simp [hl], by simp; omega, ?_⟩
 ·intro s' hs'
  rcases List.mem_append.1 hs' with hs' | hs'
  ·exact hz _ hs'
  ·obtain rfl := List.mem_singleton.1 hs'; exact ht
structure IH (q e k u : Nat) : Prop where
 i161 : ∀ (D : Nat) (y : Int) (n : Nat) (h : AHeap), 3010 + 10 * k ≤ D → y ≤ k → n ≤ 1000 → St q e n h h → RE q e n u h (call Tp Ms D 274 [ptr q 0, ptr e 0, .int .i64 y] h)
 i190 : ∀ (D : Nat) (y : Int) (n : Nat) (h : AHeap), 3010 + 10 * k ≤ D → y ≤ k → n ≤ 1000 → St q e n h h → RE q e n u h (call Tp Ms D 350 [ptr q 0, ptr e 0, .int .i64 y] h)
 i194 : ∀ (D : Nat) (y : Int) (n : Nat) (h : AHeap), 3010 + 10 * k ≤ D → y ≤ k → n ≤ 1000 → St q e n h h → RE q e n u h (call Tp Ms D 354 [ptr q 0, ptr e 0, .int .i64 y] h)
 i191 : ∀ (D : Nat) (y : Int) (n : Nat) (h : AHeap), 3010 + 10 * k ≤ D → -5 ≤ y → y ≤ k → n ≤ 1000 → St q e n h h → RE q e n u h (call Tp Ms D 351 [ptr q 0, ptr e 0, .int .i64 y] h)
 i193 : ∀ (D : Nat) (y : Int) (n : Nat) (h : AHeap), 3015 + 10 * k ≤ D → y ≤ k → n ≤ 1000 → St q e n h h → RE q e n u h (call Tp Ms D 353 [ptr q 0, ptr e 0, .int .i64 y] h)
section
variable {q e k u n D : Nat} {h0 h : AHeap} {y : Int}
theorem g161_2 (hD : 3000 ≤ D) (hn : n ≤ 1000)  (w : St q e n h0 h) : RE q e n 20 h0 (s274_2 hk0 (call Tp Ms D) D (ptr q 0) h) := by
 rw [s274_2_j, s274_2_eq]
 skip
 refine ls [(⟨#[48]⟩ : ByteArray), (⟨#[49]⟩ : ByteArray), (⟨#[50]⟩ : ByteArray), (⟨#[51]⟩ : ByteArray), (⟨#[55]⟩ : ByteArray), (⟨#[49, 48]⟩ : ByteArray), (⟨#[57, 57, 57, 57, 57, 57, 57, 57, 57, 57, 57, 57, 57, 57, 57]⟩ : ByteArray)] w rfl rfl fun v1 g1 w1 z1 f1 => ?_
 refine scC w1 (q117 (B := 15) (by omega) z1 (by decide) (by decide) w1.ds) fun s2 g2 b2 w2 f2 => ?_
 exact ⟨_, _, rfl, by omega, w2⟩
theorem g161_1 (hD : 3000 ≤ D) (hn : n ≤ 1000) {v : Value} {ys : List ByteArray} {b : Bool} (z : ZS h v ys) (hs : ∀ s, s ∈ ys → s.size ≤ 3) (c : b = true → 0 < ys.length) (w : St q e n h0 h) : RE q e n 20 h0 (s274_1 hk0 (call Tp Ms D) D (ptr q 0) v b h) := by
 rw [s274_1_j, s274_1_eq]
 skip
 by_cases c1 : b = true
 ·refine pct (c1) ?_
  refine scC w (q117 (B := 3) (by omega) z (c c1) hs w.ds) fun s2 g2 b2 w2 f2 => ?_
  exact ⟨_, _, rfl, by omega, w2⟩
 ·refine pcf (by simpa using c1) ?_
  exact g161_2 hD hn w
theorem g161_4 (H : IH q e k u) (hu : u ≤ 1000000000) (hD : 3010 + 10 * k + 5 ≤ D) (hn : n ≤ 1000) (hk : k ≤ 1000) (y1 : y ≤ k + 1) (y0 : 1 ≤ y)  (w : St q e n h0 h) : RE q e n (7 * u + 100) h0 (s274_4 hk0 (call Tp Ms D) D (ptr q 0) (ptr e 0) y h) := by
 rw [s274_4_j, s274_4_eq]
 have w1 : IntKind.i64.wrap (y - 1) = y - 1 := wr (by omega) (by omega)
 have w2 : IntKind.i64.wrap (y - 2) = y - 2 := wr (by omega) (by omega)
 refine scS w (H.i161 _ _ _ _ (by omega) (by omega) hn w.self) fun s1 g1 b1 w1 f1 => ?_
 refine ad (x := 1) (y := (1 * u + 0)) (Nat.le_refl _) (by omega) (by omega) fun s2 b2 => ?_
 refine ls [(⟨#[32, 43, 32]⟩ : ByteArray), (⟨#[32, 45, 32]⟩ : ByteArray), (⟨#[32, 42, 32]⟩ : ByteArray)] w1 rfl rfl fun v3 g3 w3 z3 f3 => ?_
 refine scC w3 (q117 (B := 3) (by omega) z3 (by decide) (by decide) w3.ds) fun s4 g4 b4 w4 f4 => ?_
 refine ad (x := (1 * u + 1)) (y := 3) (by omega) (by omega) (by omega) fun s5 b5 => ?_
 refine scS w4 (H.i161 _ _ _ _ (by omega) (by omega) hn w4.self) fun s6 g6 b6 w6 f6 => ?_
 refine ad (x := (1 * u + 4)) (y := (1 * u + 0)) (by omega) (by omega) (by omega) fun s7 b7 => ?_
 refine ad (x := (2 * u + 4)) (y := 1) (by omega) (Nat.le_refl _) (by omega) fun s8 b8 => ?_
 exact ⟨_, _, rfl, by omega, w6⟩
theorem g161_3 (H : IH q e k u) (hu : u ≤ 1000000000) (hD : 3010 + 10 * k + 5 ≤ D) (hn : n ≤ 1000) (hk : k ≤ 1000) (y1 : y ≤ k + 1) (y0 : 1 ≤ y)  (w : St q e n h0 h) : RE q e n (7 * u + 100) h0 (s274_3 hk0 (call Tp Ms D) D (ptr q 0) (ptr e 0) y h) := by
 rw [s274_3_j, s274_3_eq]
 have w1 : IntKind.i64.wrap (y - 1) = y - 1 := wr (by omega) (by omega)
 have w2 : IntKind.i64.wrap (y - 2) = y - 2 := wr (by omega) (by omega)
 refine scN w (q116 (by omega) (by omega) w.ds) fun n1 g1 a1 b1 w1 f1 => ?_
 by_cases c2 : n1 = 0
 ·refine pct (by simp [c2]) ?_
  refine scO w1 (by omega) (by omega) fun v3 g3 y3 w3 z3 hs3 f3 => ?_
  by_cases c1004 : 0 < y3.length
  ·refine pct (decide_eq_true (by omega)) ?_
   refine scC w3 (q117 (B := 3) (by omega) z3 c1004 hs3 w3.ds) fun s5 g5 b5 w5 f5 => ?_
   refine ad (x := 3) (y := 1) (by omega) (Nat.le_refl _) (by omega) fun s6 b6 => ?_
   refine scS w5 (H.i161 _ _ _ _ (by omega) (by omega) hn w5.self) fun s7 g7 b7 w7 f7 => ?_
   refine ad (x := 4) (y := (1 * u + 0)) (by omega) (by omega) (by omega) fun s8 b8 => ?_
   refine ad (x := (1 * u + 4)) (y := 1) (by omega) (Nat.le_refl _) (by omega) fun s9 b9 => ?_
   exact ⟨_, _, rfl, by omega, w7⟩
  ·refine pcf (decide_eq_false (by omega)) ?_
   exact g161_4 H hu hD hn hk y1 y0 w3
 ·refine pcf (by simp [c2]) ?_
  by_cases c1010 : n1 = 1
  ·refine pct (by simp [c1010]) ?_
   refine scO w1 (by omega) (by omega) fun v11 g11 y11 w11 z11 hs11 f11 => ?_
   by_cases c1012 : 0 < y11.length
   ·refine pct (decide_eq_true (by omega)) ?_
    refine scC w11 (q117 (B := 3) (by omega) z11 c1012 hs11 w11.ds) fun s13 g13 b13 w13 f13 => ?_
    refine ad (x := 3) (y := 1) (by omega) (Nat.le_refl _) (by omega) fun s14 b14 => ?_
    refine scS w13 (H.i161 _ _ _ _ (by omega) (by omega) hn w13.self) fun s15 g15 b15 w15 f15 => ?_
    refine ad (x := 4) (y := (1 * u + 0)) (by omega) (by omega) (by omega) fun s16 b16 => ?_
    refine ad (x := (1 * u + 4)) (y := 1) (by omega) (Nat.le_refl _) (by omega) fun s17 b17 => ?_
    exact ⟨_, _, rfl, by omega, w15⟩
   ·refine pcf (decide_eq_false (by omega)) ?_
    exact g161_4 H hu hD hn hk y1 y0 w11
  ·refine pcf (by simp [c1010]) ?_
   by_cases c1018 : n1 = 2
   ·refine pct (by simp [c1018]) ?_
    refine scS w1 (H.i161 _ _ _ _ (by omega) (by omega) hn w1.self) fun s19 g19 b19 w19 f19 => ?_
    refine ad (x := 1) (y := (1 * u + 0)) (Nat.le_refl _) (by omega) (by omega) fun s20 b20 => ?_
    exact ⟨_, _, rfl, by omega, w19⟩
   ·refine pcf (by simp [c1018]) ?_
    by_cases c1021 : n1 = 3
    ·refine pct (by simp [c1021]) ?_
     refine scB w1 (q71 (by omega) (by omega) w1.ds) fun t22 g22 w22 f22 => ?_
     by_cases c1023 : t22 = true
     ·refine pct (c1023) ?_
      refine scS w22 (H.i190 _ _ _ _ (by omega) (by omega) hn w22.self) fun s24 g24 b24 w24 f24 => ?_
      refine ad (x := 1) (y := (1 * u + 0)) (Nat.le_refl _) (by omega) (by omega) fun s25 b25 => ?_
      exact ⟨_, _, rfl, by omega, w24⟩
     ·refine pcf (by simpa using c1023) ?_
      refine scO w22 (by omega) (by omega) fun v26 g26 y26 w26 z26 hs26 f26 => ?_
      by_cases c1027 : 0 < y26.length
      ·refine pct (decide_eq_true (by omega)) ?_
       refine scC w26 (q117 (B := 3) (by omega) z26 c1027 hs26 w26.ds) fun s28 g28 b28 w28 f28 => ?_
       refine ad (x := 1) (y := 3) (Nat.le_refl _) (by omega) (by omega) fun s29 b29 => ?_
       exact ⟨_, _, rfl, by omega, w28⟩
      ·refine pcf (decide_eq_false (by omega)) ?_
       exact g161_4 H hu hD hn hk y1 y0 w26
    ·refine pcf (by simp [c1021]) ?_
     by_cases c63 : n1 = 4
     ·refine pct (by simp [c63]) ?_
      refine scS w1 (H.i194 _ _ _ _ (by omega) (by omega) hn w1.self) fun s31 g31 b31 w31 f31 => ?_
      refine ad (x := 1) (y := (1 * u + 0)) (Nat.le_refl _) (by omega) (by omega) fun s32 b32 => ?_
      refine ad (x := (1 * u + 1)) (y := 5) (by omega) (Nat.le_refl _) (by omega) fun s33 b33 => ?_
      refine scS w31 (H.i161 _ _ _ _ (by omega) (by omega) hn w31.self) fun s34 g34 b34 w34 f34 => ?_
      refine ad (x := (1 * u + 6)) (y := (1 * u + 0)) (by omega) (by omega) (by omega) fun s35 b35 => ?_
      refine ad (x := (2 * u + 6)) (y := 4) (by omega) (Nat.le_refl _) (by omega) fun s36 b36 => ?_
      refine scS w34 (H.i161 _ _ _ _ (by omega) (by omega) hn w34.self) fun s37 g37 b37 w37 f37 => ?_
      refine ad (x := (2 * u + 10)) (y := (1 * u + 0)) (by omega) (by omega) (by omega) fun s38 b38 => ?_
      refine ad (x := (3 * u + 10)) (y := 1) (by omega) (Nat.le_refl _) (by omega) fun s39 b39 => ?_
      exact ⟨_, _, rfl, by omega, w37⟩
     ·refine pcf (by simp [c63]) ?_
      by_cases c1040 : n1 = 5
      ·refine pct (by simp [c1040]) ?_
       refine scB w1 (q71 (by omega) (by omega) w1.ds) fun t41 g41 w41 f41 => ?_
       by_cases c1042 : t41 = true
       ·refine pct (c1042) ?_
        refine scS w41 (H.i161 _ _ _ _ (by omega) (by omega) hn w41.self) fun s43 g43 b43 w43 f43 => ?_
        refine ad (x := 1) (y := (1 * u + 0)) (Nat.le_refl _) (by omega) (by omega) fun s44 b44 => ?_
        refine ls [(⟨#[32, 47, 32]⟩ : ByteArray), (⟨#[32, 37, 32]⟩ : ByteArray)] w43 rfl rfl fun v45 g45 w45 z45 f45 => ?_
        refine scC w45 (q117 (B := 3) (by omega) z45 (by decide) (by decide) w45.ds) fun s46 g46 b46 w46 f46 => ?_
        refine ad (x := (1 * u + 1)) (y := 3) (by omega) (by omega) (by omega) fun s47 b47 => ?_
        refine scS w46 (H.i161 _ _ _ _ (by omega) (by omega) hn w46.self) fun s48 g48 b48 w48 f48 => ?_
        refine ad (x := (1 * u + 4)) (y := (1 * u + 0)) (by omega) (by omega) (by omega) fun s49 b49 => ?_
        refine ad (x := (2 * u + 4)) (y := 1) (by omega) (Nat.le_refl _) (by omega) fun s50 b50 => ?_
        exact ⟨_, _, rfl, by omega, w48⟩
       ·refine pcf (by simpa using c1042) ?_
        exact g161_4 H hu hD hn hk y1 y0 w41
      ·refine pcf (by simp [c1040]) ?_
       exact g161_4 H hu hD hn hk y1 y0 w1
theorem g161_0t (hD : 3000 ≤ D) (hn : n ≤ 1000) {v : Value} {ys : List ByteArray} (z : ZS h v ys) (hs : ∀ s, s ∈ ys → s.size ≤ 3) (w : St q e n h0 h) : RE q e n 20 h0 (s274_0 hk0 (call Tp Ms D) D (ptr q 0) (ptr e 0) y v true h) := by
 rw [s274_0_j, s274_0_eq]
 refine pct rfl (pb z.len (pb rfl ?_))
 by_cases c : 0 < ys.length
 ·refine pct (decide_eq_true (by omega)) ?_
  refine scB w (q71 (by omega) (by omega) w.ds) fun t g w1 f => ?_
  exact g161_1 hD hn (z.fr f) hs (fun _ => c) w1
 ·refine pcf (decide_eq_false (by omega)) ?_
  exact g161_1 hD hn z hs (fun c => by cases c) w
theorem num0 (hD : 3001 ≤ D) (hn : n ≤ 1000) (y1 : y ≤ 0) (w : St q e n h h) : RE q e n 20 h (call Tp Ms D 274 [ptr q 0, ptr e 0, .int .i64 y] h) := by
 obtain ⟨D, rfl⟩ : ∃ d, D = d + 1 := ⟨D - 1, by omega⟩
 rw [c274, e274]
 obtain ⟨v, g, ys, c, w1, z, hs, f⟩ := q192 (D := D) (k := 1) (by omega) hn w
 refine pb c (pct (decide_eq_true y1) ?_)
 exact g161_0t (by omega) hn z hs w1
theorem num (H : IH q e k u) (hu : u ≤ 1000000000) (hD : 3010 + 10 * k + 5 ≤ D) (hn : n ≤ 1000) (hk : k ≤ 1000) (y1 : y ≤ k + 1) (w : St q e n h h) : RE q e n (7 * u + 100) h (call Tp Ms (D + 1) 274 [ptr q 0, ptr e 0, .int .i64 y] h) := by
 by_cases c0 : y ≤ 0
 ·exact (num0 (by omega) hn c0 w).le (by omega) (Nat.le_refl _)
 rw [c274, e274]
 obtain ⟨v, g, ys, c, w1, z, hs, f⟩ := q192 (D := D) (k := 1) (by omega) hn w
 refine pb c (pcf (decide_eq_false c0) ?_)
 refine scB w1 (q71 (by omega) (by omega) w1.ds) fun t g2 w2 f2 => ?_
 cases t with
 | true => exact (g161_0t (by omega) hn (z.fr f2) hs w2).le (by omega) (Nat.le_refl _)
 | false =>
  rw [s274_0_j, s274_0_eq]
  exact pcf rfl (g161_3 H hu hD hn hk y1 (by omega) w2)
theorem g190_3 (H : IH q e k u) (hu : u ≤ 1000000000) (hD : 3010 + 10 * k + 5 ≤ D) (hn : n ≤ 1000) (hk : k ≤ 1000) (y1 : y ≤ k + 1) (y0 : 1 ≤ y)  (w : St q e n h0 h) : RE q e n (7 * u + 100) h0 (s350_3 hk0 (call Tp Ms D) D (ptr q 0) (ptr e 0) y h) := by
 rw [s350_3_j, s350_3_eq]
 have w1 : IntKind.i64.wrap (y - 1) = y - 1 := wr (by omega) (by omega)
 have w2 : IntKind.i64.wrap (y - 2) = y - 2 := wr (by omega) (by omega)
 refine scN w (q116 (by omega) (by omega) w.ds) fun n1 g1 a1 b1 w1 f1 => ?_
 by_cases c2 : n1 = 0
 ·refine pct (by simp [c2]) ?_
  refine scS w1 (H.i193 _ _ _ _ (by omega) (by omega) hn w1.self) fun s3 g3 b3 w3 f3 => ?_
  refine ad (x := 6) (y := (1 * u + 0)) (Nat.le_refl _) (by omega) (by omega) fun s4 b4 => ?_
  refine ad (x := (1 * u + 6)) (y := 1) (by omega) (Nat.le_refl _) (by omega) fun s5 b5 => ?_
  exact ⟨_, _, rfl, by omega, w3⟩
 ·refine pcf (by simp [c2]) ?_
  by_cases c1006 : n1 = 1
  ·refine pct (by simp [c1006]) ?_
   refine scS w1 (H.i193 _ _ _ _ (by omega) (by omega) hn w1.self) fun s7 g7 b7 w7 f7 => ?_
   refine ad (x := 5) (y := (1 * u + 0)) (Nat.le_refl _) (by omega) (by omega) fun s8 b8 => ?_
   refine ad (x := (1 * u + 5)) (y := 1) (by omega) (Nat.le_refl _) (by omega) fun s9 b9 => ?_
   exact ⟨_, _, rfl, by omega, w7⟩
  ·refine pcf (by simp [c1006]) ?_
   refine scS w1 (H.i190 _ _ _ _ (by omega) (by omega) hn w1.self) fun s10 g10 b10 w10 f10 => ?_
   refine ad (x := 1) (y := (1 * u + 0)) (Nat.le_refl _) (by omega) (by omega) fun s11 b11 => ?_
   refine ad (x := (1 * u + 1)) (y := 4) (by omega) (Nat.le_refl _) (by omega) fun s12 b12 => ?_
   refine scS w10 (H.i190 _ _ _ _ (by omega) (by omega) hn w10.self) fun s13 g13 b13 w13 f13 => ?_
   refine ad (x := (1 * u + 5)) (y := (1 * u + 0)) (by omega) (by omega) (by omega) fun s14 b14 => ?_
   refine ad (x := (2 * u + 5)) (y := 1) (by omega) (Nat.le_refl _) (by omega) fun s15 b15 => ?_
   exact ⟨_, _, rfl, by omega, w13⟩
theorem g190_2t (hD : 3000 ≤ D) (hn : n ≤ 1000) (w : St q e n h0 h) : RE q e n 20 h0 (s350_2 hk0 (call Tp Ms D) D (ptr q 0) (ptr e 0) y true h) := by
 rw [s350_2_j, s350_2_eq]
 refine pct rfl ?_
 refine ls [(⟨#[34, 34]⟩ : ByteArray), (⟨#[34, 97, 34]⟩ : ByteArray), (⟨#[34, 107, 101, 121, 34]⟩ : ByteArray), (⟨#[34, 115, 111, 109, 101, 32, 108, 111, 110, 103, 101, 114, 32, 116, 101, 120, 116, 34]⟩ : ByteArray)] w rfl rfl fun v1 g1 w1 z1 f1 => ?_
 refine scC w1 (q117 (B := 18) (by omega) z1 (by decide) (by decide) w1.ds) fun s2 g2 b2 w2 f2 => ?_
 exact ⟨_, _, rfl, by omega, w2⟩
theorem g190_0 {b : Bool} {v : Value} {ys : List ByteArray} (hk : RE q e n 20 h0 (s350_1 hk0 (call Tp Ms D) D (ptr q 0) (ptr e 0) y h) ∨ RE q e n (7 * u + 100) h0 (s350_1 hk0 (call Tp Ms D) D (ptr q 0) (ptr e 0) y h)) (hD : 3000 ≤ D) (hn : n ≤ 1000) (z : ZS h v ys) (hs : ∀ s, s ∈ ys → s.size ≤ 3) (c : b = true → 0 < ys.length) (w : St q e n h0 h) : RE q e n (7 * u + 100) h0 (s350_0 hk0 (call Tp Ms D) D (ptr q 0) (ptr e 0) y v b h) := by
 rw [s350_0_j, s350_0_eq]
 cases b with
 | true =>
  refine pct rfl ?_
  refine scC w (q117 (B := 3) (by omega) z (c rfl) hs w.ds) fun s1 g1 b1 w1 f1 => ?_
  exact ⟨_, _, rfl, by omega, w1⟩
 | false => exact pcf rfl (hk.elim (fun a => a.le (by omega) (Nat.le_refl _)) id)
theorem g190_1 (HS : 0 < y → ∀ g, St q e n h0 g → RE q e n (7 * u + 100) h0 (s350_3 hk0 (call Tp Ms D) D (ptr q 0) (ptr e 0) y g)) (hD : 3000 ≤ D) (hn : n ≤ 1000) (w : St q e n h0 h) : RE q e n (7 * u + 100) h0 (s350_1 hk0 (call Tp Ms D) D (ptr q 0) (ptr e 0) y h) := by
 rw [s350_1_j, s350_1_eq]
 by_cases c0 : y ≤ 0
 ·exact pct (decide_eq_true c0) ((g190_2t hD hn w).le (by omega) (Nat.le_refl _))
 refine pcf (decide_eq_false c0) ?_
 refine scB w (q71 (by omega) (by omega) w.ds) fun t g w1 f => ?_
 cases t with
 | true => exact (g190_2t hD hn w1).le (by omega) (Nat.le_refl _)
 | false =>
  rw [s350_2_j, s350_2_eq]
  exact pcf rfl (HS (by omega) g w1)
theorem str_of (HS : 0 < y → ∀ g, St q e n h g → RE q e n (7 * u + 100) h (s350_3 hk0 (call Tp Ms D) D (ptr q 0) (ptr e 0) y g)) (hD : 3000 ≤ D) (hn : n ≤ 1000) (w : St q e n h h) : RE q e n (7 * u + 100) h (call Tp Ms (D + 1) 350 [ptr q 0, ptr e 0, .int .i64 y] h) := by
 rw [c350, e350]
 refine scO w (by omega) (by omega) fun v1 g1 y1 w1 z1 hs1 f1 => ?_
 by_cases c : 0 < y1.length
 ·refine pct (decide_eq_true (by omega)) ?_
  refine scB w1 (q71 (by omega) (by omega) w1.ds) fun t g w2 f => ?_
  exact g190_0 (.inr (g190_1 HS hD hn w2)) hD hn (z1.fr f) hs1 (fun _ => c) w2
 ·exact pcf (decide_eq_false (by omega)) (g190_0 (.inr (g190_1 HS hD hn w1)) hD hn z1 hs1 (fun c => by cases c) w1)
theorem str (H : IH q e k u) (hu : u ≤ 1000000000) (hD : 3010 + 10 * k + 5 ≤ D) (hn : n ≤ 1000) (hk : k ≤ 1000) (y1 : y ≤ k + 1) (w : St q e n h h) : RE q e n (7 * u + 100) h (call Tp Ms (D + 1) 350 [ptr q 0, ptr e 0, .int .i64 y] h) :=
 str_of (fun y0 g w => g190_3 H hu hD hn hk y1 y0 w) (by omega) hn w
theorem str0 (hD : 3001 ≤ D) (hn : n ≤ 1000) (y1 : y ≤ 0) (w : St q e n h h) : RE q e n 100 h (call Tp Ms D 350 [ptr q 0, ptr e 0, .int .i64 y] h) := by
 obtain ⟨D, rfl⟩ : ∃ d, D = d + 1 := ⟨D - 1, by omega⟩
 exact str_of (u := 0) (fun h => by omega) (by omega) hn w
theorem boo (H : IH q e k u) (hu : u ≤ 1000000000) (hD : 3010 + 10 * k + 5 ≤ D) (hn : n ≤ 1000) (hk : k ≤ 1000) (y1 : y ≤ k + 1) (w : St q e n h h) : RE q e n (7 * u + 100) h (call Tp Ms (D + 1) 354 [ptr q 0, ptr e 0, .int .i64 y] h) := by
 rw [c354, e354]
 by_cases c0 : y ≤ 0
 ·refine pct (decide_eq_true c0) ?_
  refine ls [(⟨#[116, 114, 117, 101]⟩ : ByteArray), (⟨#[102, 97, 108, 115, 101]⟩ : ByteArray)] w rfl rfl fun v1 g1 w1 z1 f1 => ?_
  refine scC w1 (q117 (B := 5) (by omega) z1 (by decide) (by decide) w1.ds) fun s2 g2 b2 w2 f2 => ?_
  exact ⟨_, _, rfl, by omega, w2⟩
 refine pcf (decide_eq_false c0) ?_
 have w1 : IntKind.i64.wrap (y - 1) = y - 1 := wr (by omega) (by omega)
 have w2 : IntKind.i64.wrap (y - 2) = y - 2 := wr (by omega) (by omega)
 refine scN w (q116 (by omega) (by omega) w.ds) fun n1 g1 a1 b1 w1 f1 => ?_
 by_cases c2 : n1 = 0
 ·refine pct (by simp [c2]) ?_
  refine ls [(⟨#[116, 114, 117, 101]⟩ : ByteArray), (⟨#[102, 97, 108, 115, 101]⟩ : ByteArray), (⟨#[110, 105, 108]⟩ : ByteArray), (⟨#[102, 97, 105, 108, 101, 100, 40, 41]⟩ : ByteArray)] w1 rfl rfl fun v3 g3 w3 z3 f3 => ?_
  refine scC w3 (q117 (B := 8) (by omega) z3 (by decide) (by decide) w3.ds) fun s4 g4 b4 w4 f4 => ?_
  exact ⟨_, _, rfl, by omega, w4⟩
 ·refine pcf (by simp [c2]) ?_
  by_cases c1005 : n1 = 1
  ·refine pct (by simp [c1005]) ?_
   refine scS w1 (H.i194 _ _ _ _ (by omega) (by omega) hn w1.self) fun s6 g6 b6 w6 f6 => ?_
   refine ad (x := 4) (y := (1 * u + 0)) (Nat.le_refl _) (by omega) (by omega) fun s7 b7 => ?_
   exact ⟨_, _, rfl, by omega, w6⟩
  ·refine pcf (by simp [c1005]) ?_
   by_cases c1008 : n1 = 2
   ·refine pct (by simp [c1008]) ?_
    refine scS w1 (H.i193 _ _ _ _ (by omega) (by omega) hn w1.self) fun s9 g9 b9 w9 f9 => ?_
    refine ad (x := 1) (y := (1 * u + 0)) (Nat.le_refl _) (by omega) (by omega) fun s10 b10 => ?_
    refine ls [(⟨#[32, 61, 61, 32]⟩ : ByteArray), (⟨#[32, 126, 61, 32]⟩ : ByteArray)] w9 rfl rfl fun v11 g11 w11 z11 f11 => ?_
    refine scC w11 (q117 (B := 4) (by omega) z11 (by decide) (by decide) w11.ds) fun s12 g12 b12 w12 f12 => ?_
    refine ad (x := (1 * u + 1)) (y := 4) (by omega) (by omega) (by omega) fun s13 b13 => ?_
    refine scS w12 (H.i193 _ _ _ _ (by omega) (by omega) hn w12.self) fun s14 g14 b14 w14 f14 => ?_
    refine ad (x := (1 * u + 5)) (y := (1 * u + 0)) (by omega) (by omega) (by omega) fun s15 b15 => ?_
    refine ad (x := (2 * u + 5)) (y := 1) (by omega) (Nat.le_refl _) (by omega) fun s16 b16 => ?_
    exact ⟨_, _, rfl, by omega, w14⟩
   ·refine pcf (by simp [c1008]) ?_
    by_cases c1017 : n1 = 3
    ·refine pct (by simp [c1017]) ?_
     refine scS w1 (H.i190 _ _ _ _ (by omega) (by omega) hn w1.self) fun s18 g18 b18 w18 f18 => ?_
     refine ad (x := 1) (y := (1 * u + 0)) (Nat.le_refl _) (by omega) (by omega) fun s19 b19 => ?_
     refine ls [(⟨#[32, 60, 32]⟩ : ByteArray), (⟨#[32, 60, 61, 32]⟩ : ByteArray)] w18 rfl rfl fun v20 g20 w20 z20 f20 => ?_
     refine scC w20 (q117 (B := 4) (by omega) z20 (by decide) (by decide) w20.ds) fun s21 g21 b21 w21 f21 => ?_
     refine ad (x := (1 * u + 1)) (y := 4) (by omega) (by omega) (by omega) fun s22 b22 => ?_
     refine scS w21 (H.i190 _ _ _ _ (by omega) (by omega) hn w21.self) fun s23 g23 b23 w23 f23 => ?_
     refine ad (x := (1 * u + 5)) (y := (1 * u + 0)) (by omega) (by omega) (by omega) fun s24 b24 => ?_
     refine ad (x := (2 * u + 5)) (y := 1) (by omega) (Nat.le_refl _) (by omega) fun s25 b25 => ?_
     exact ⟨_, _, rfl, by omega, w23⟩
    ·refine pcf (by simp [c1017]) ?_
     refine scS w1 (H.i161 _ _ _ _ (by omega) (by omega) hn w1.self) fun s26 g26 b26 w26 f26 => ?_
     refine ad (x := 1) (y := (1 * u + 0)) (Nat.le_refl _) (by omega) (by omega) fun s27 b27 => ?_
     refine ls [(⟨#[32, 60, 32]⟩ : ByteArray), (⟨#[32, 60, 61, 32]⟩ : ByteArray), (⟨#[32, 61, 61, 32]⟩ : ByteArray)] w26 rfl rfl fun v28 g28 w28 z28 f28 => ?_
     refine scC w28 (q117 (B := 4) (by omega) z28 (by decide) (by decide) w28.ds) fun s29 g29 b29 w29 f29 => ?_
     refine ad (x := (1 * u + 1)) (y := 4) (by omega) (by omega) (by omega) fun s30 b30 => ?_
     refine scS w29 (H.i161 _ _ _ _ (by omega) (by omega) hn w29.self) fun s31 g31 b31 w31 f31 => ?_
     refine ad (x := (1 * u + 5)) (y := (1 * u + 0)) (by omega) (by omega) (by omega) fun s32 b32 => ?_
     refine ad (x := (2 * u + 5)) (y := 1) (by omega) (Nat.le_refl _) (by omega) fun s33 b33 => ?_
     exact ⟨_, _, rfl, by omega, w31⟩
theorem boo0 (hD : 3001 ≤ D) (hn : n ≤ 1000) (y1 : y ≤ 0) (w : St q e n h h) : RE q e n 20 h (call Tp Ms D 354 [ptr q 0, ptr e 0, .int .i64 y] h) := by
 obtain ⟨D, rfl⟩ : ∃ d, D = d + 1 := ⟨D - 1, by omega⟩
 rw [c354, e354]
 refine pct (decide_eq_true y1) ?_
 refine ls [(⟨#[116, 114, 117, 101]⟩ : ByteArray), (⟨#[102, 97, 108, 115, 101]⟩ : ByteArray)] w rfl rfl fun v1 g1 w1 z1 f1 => ?_
 refine scC w1 (q117 (B := 5) (by omega) z1 (by decide) (by decide) w1.ds) fun s2 g2 b2 w2 f2 => ?_
 exact ⟨_, _, rfl, by omega, w2⟩
theorem any0 (hD : 3002 ≤ D) (hn : n ≤ 1000) (y1 : y ≤ 0) (w : St q e n h h) : RE q e n 20 h (call Tp Ms D 353 [ptr q 0, ptr e 0, .int .i64 y] h) := by
 obtain ⟨D, rfl⟩ : ∃ d, D = d + 1 := ⟨D - 1, by omega⟩
 rw [c353, e353]
 refine pct (decide_eq_true y1) ?_
 refine scS w (num0 (by omega) hn (by omega) w) fun s1 g1 b1 w1 f1 => ?_
 exact ⟨_, _, rfl, by omega, w1⟩
theorem anames (H : IH q e k u) (hu : u ≤ 1000000000) (hD : 3010 + 10 * k + 6 ≤ D + 1) (hn : n ≤ 1000) (hk : k ≤ 1000) (y1 : y ≤ k + 1) (w : St q e n h0 h) : RE q e n (7 * u + 100) h0 ((aNil (ptr e 0)).bind fun v11 => (aOff v11 0).bind fun v12 => (aLd1 h v12).bind fun v13 => (aLen v13).bind fun v14 => (asI .i64 v14).bind fun n15 =>
  bif decide (n15 > 0) then (aNil (ptr e 0)).bind fun v16 => (aOff v16 0).bind fun v17 => (aLd1 h v17).bind fun v18 => (call Tp Ms (D + 1) 159 [ptr q 0, v18] h).bind fun r19 => (asS r19.1).bind fun t20 => some (.string t20, r19.2)
  else (call Tp Ms (D + 1) 274 [ptr q 0, ptr e 0, .int .i64 y] h).bind fun r21 => (asS r21.1).bind fun t22 => some (.string t22, r21.2)) := by
 obtain ⟨nv, kv, cnt, left, fn, co, ns, ks, o, zn, zi, hl, hle, hz⟩ := w.es
 have f0 : aLd1 h (ptr e 0) = some nv := o.row.ld1 rfl
 refine pb rfl (pb rfl (pb f0 (pb zn.len (pb rfl ?_))))
 by_cases c : 0 < ns.length
 ·refine pct (decide_eq_true (by omega)) (pb rfl (pb rfl (pb f0 ?_)))
  refine scC w (q117 (B := 3) (by omega) zn c hz w.ds) fun s1 g1 b1 w1 f1 => ?_
  exact ⟨_, _, rfl, by omega, w1⟩
 ·refine pcf (decide_eq_false (by omega)) ?_
  refine scS w (num H hu (by omega) hn hk y1 w.self) fun s1 g1 b1 w1 f1 => ?_
  exact ⟨_, _, rfl, by omega, w1⟩
theorem any (H : IH q e k u) (hu : u ≤ 1000000000) (hD : 3010 + 10 * k + 6 ≤ D + 1) (hn : n ≤ 1000) (hk : k ≤ 1000) (y1 : y ≤ k + 1) (w : St q e n h h) : RE q e n (7 * u + 100) h (call Tp Ms (D + 2) 353 [ptr q 0, ptr e 0, .int .i64 y] h) := by
 rw [c353, e353]
 by_cases c0 : y ≤ 0
 ·refine pct (decide_eq_true c0) ?_
  refine scS w (num0 (by omega) hn (by omega) w) fun s1 g1 b1 w1 f1 => ?_
  exact ⟨_, _, rfl, by omega, w1⟩
 refine pcf (decide_eq_false c0) ?_
 have w1 : IntKind.i64.wrap (y - 1) = y - 1 := wr (by omega) (by omega)
 have w2 : IntKind.i64.wrap (y - 2) = y - 2 := wr (by omega) (by omega)
 refine scN w (q116 (by omega) (by omega) w.ds) fun n1 g1 a1 b1 w1 f1 => ?_
 by_cases c2 : n1 = 0
 ·refine pct (by simp [c2]) ?_
  refine scS w1 (str H hu (by omega) hn hk y1 w1.self) fun s3 g3 b3 w3 f3 => ?_
  exact ⟨_, _, rfl, by omega, w3⟩
 ·refine pcf (by simp [c2]) ?_
  by_cases c1004 : n1 = 1
  ·refine pct (by simp [c1004]) ?_
   refine scS w1 (H.i194 _ _ _ _ (by omega) (by omega) hn w1.self) fun s5 g5 b5 w5 f5 => ?_
   exact ⟨_, _, rfl, by omega, w5⟩
  ·refine pcf (by simp [c1004]) ?_
   by_cases c1006 : n1 = 2
   ·refine pct (by simp [c1006]) ?_
    refine scS w1 (H.i191 _ _ _ _ (by omega) (by omega) (by omega) hn w1.self) fun s7 g7 b7 w7 f7 => ?_
    exact ⟨_, _, rfl, by omega, w7⟩
   ·refine pcf (by simp [c1006]) ?_
    by_cases c1008 : n1 = 3
    ·refine pct (by simp [c1008]) ?_
     exact anames H hu hD hn hk y1 w1
    ·refine pcf (by simp [c1008]) ?_
     refine scS w1 ((num H hu (by omega) hn hk y1 w1.self).le (C := 7 * u + 100) (by omega) (Nat.le_refl _)) fun s9 g9 b9 w9 f9 => ?_
     exact ⟨_, _, rfl, by omega, w9⟩
end
section
variable {q e k u n D : Nat} {h0 h : AHeap} {y : Int}
theorem tab_loop (hD : 100 ≤ D) (hu : u ≤ 1000000000) (y0 : -100 ≤ y) (y1 : y ≤ 100000)
  (HA : ∀ z m g, z ≤ y - 1 → St q e m g g → m = n → RE q e m u g (call Tp Ms D 353 [ptr q 0, ptr e 0, .int .i64 z] g))
  (HN : ∀ z g, z ≤ y - 1 → St q e n g g → RE q e n u g (call Tp Ms D 274 [ptr q 0, ptr e 0, .int .i64 z] g)) :
  ∀ (t j m : Nat) (s : ByteArray) (B : Nat) (h : AHeap), j + t ≤ 3 → t < m → s.size ≤ B → B + t * (2 * u + 30) ≤ 10000000000000 → St q e n h0 h →
  RE q e n (B + t * (2 * u + 30) + 1) h0 (s351_0 hk0 (call Tp Ms D) D m (ptr q 0) (ptr e 0) y s ((j + t : Nat) : Int) (j : Int) h) := by
 have w1 : IntKind.i64.wrap (y - 1) = y - 1 := wr (by omega) (by omega)
 have w2 : IntKind.i64.wrap (y - 2) = y - 2 := wr (by omega) (by omega)
 intro t
 induction t with
 | zero =>
  intro j m s B h hj hm hs hB w
  obtain ⟨m, rfl⟩ : ∃ q, m = q + 1 := ⟨m - 1, by omega⟩
  rw [s351_0_eq]
  refine pcf (decide_eq_false (by omega)) ?_
  refine ad (x := B) (y := 1) hs (Nat.le_refl _) (by omega) fun s1 b1 => ?_
  exact ⟨_, _, rfl, by omega, w⟩
 | succ t ih =>
  intro j m s B h hj hm hs hB w
  obtain ⟨m, rfl⟩ : ∃ q, m = q + 1 := ⟨m - 1, by omega⟩
  have wj : IntKind.i64.wrap ((j : Int) + 1) = ((j + 1 : Nat) : Int) := by rw [wr (by omega) (by omega)]; omega
  have hm2 : (t + 1) * (2 * u + 30) = t * (2 * u + 30) + (2 * u + 30) := Nat.succ_mul _ _
  have e1 : ((j + (t + 1) : Nat) : Int) = (((j + 1) + t : Nat) : Int) := by omega
  have body : ∀ (s : ByteArray) (h : AHeap), s.size ≤ B + 2 → St q e n h0 h → RE q e n (B + (t + 1) * (2 * u + 30) + 1) h0 (s351_1 hk0 (call Tp Ms D) D m (ptr q 0) (ptr e 0) y s (((j + 1) + t : Nat) : Int) (j : Int) h) := by
   intro s h hs w
   rw [s351_1_j, s351_1_eq]
   refine scN w (q116 (by omega) (by omega) w.ds) fun n1 g1 a1 b1 w1 f1 => ?_
   by_cases c2 : n1 = 0
   ·refine pct (by simp [c2]) ?_
    refine ls [(⟨#[120]⟩ : ByteArray), (⟨#[121]⟩ : ByteArray), (⟨#[107, 101, 121]⟩ : ByteArray)] w1 rfl rfl fun v3 g3 w3 z3 f3 => ?_
    refine scC w3 (q117 (B := 3) (by omega) z3 (by decide) (by decide) w3.ds) fun s4 g4 b4 w4 f4 => ?_
    refine ad (x := (2 + B)) (y := 3) (by omega) (by omega) (by omega) fun s5 b5 => ?_
    refine ad (x := (5 + B)) (y := 3) (by omega) (Nat.le_refl _) (by omega) fun s6 b6 => ?_
    refine scS w4 (HA _ _ _ (by omega) w4.self rfl) fun s7 g7 b7 w7 f7 => ?_
    refine ad (x := (8 + B)) (y := (1 * u + 0)) (by omega) (by omega) (by omega) fun s8 b8 => ?_
    rw [wj]; exact (ih (j + 1) m s8 (B + (2 * u + 30)) _ (by omega) (by omega) (by omega) (by omega) w7).le (by omega) (Nat.le_refl _)
   ·refine pcf (by simp [c2]) ?_
    by_cases c1009 : n1 = 1
    ·refine pct (by simp [c1009]) ?_
     refine ad (x := (2 + B)) (y := 1) (by omega) (Nat.le_refl _) (by omega) fun s10 b10 => ?_
     refine scS w1 (HA _ _ _ (by omega) w1.self rfl) fun s11 g11 b11 w11 f11 => ?_
     refine ad (x := (3 + B)) (y := (1 * u + 0)) (by omega) (by omega) (by omega) fun s12 b12 => ?_
     refine ad (x := (1 * u + 3 + B)) (y := 4) (by omega) (Nat.le_refl _) (by omega) fun s13 b13 => ?_
     refine scS w11 (HA _ _ _ (by omega) w11.self rfl) fun s14 g14 b14 w14 f14 => ?_
     refine ad (x := (1 * u + 7 + B)) (y := (1 * u + 0)) (by omega) (by omega) (by omega) fun s15 b15 => ?_
     rw [wj]; exact (ih (j + 1) m s15 (B + (2 * u + 30)) _ (by omega) (by omega) (by omega) (by omega) w14).le (by omega) (Nat.le_refl _)
    ·refine pcf (by simp [c1009]) ?_
     refine scS w1 (HN _ _ (by omega) w1.self) fun s16 g16 b16 w16 f16 => ?_
     refine ad (x := (2 + B)) (y := (1 * u + 0)) (by omega) (by omega) (by omega) fun s17 b17 => ?_
     rw [wj]; exact (ih (j + 1) m s17 (B + (2 * u + 30)) _ (by omega) (by omega) (by omega) (by omega) w16).le (by omega) (Nat.le_refl _)
  rw [s351_0_eq, e1]
  refine pct (decide_eq_true (by omega)) ?_
  by_cases c : 0 < j
  ·refine pct (decide_eq_true (by omega)) ?_
   refine ad (x := B) (y := 2) hs (Nat.le_refl _) (by omega) fun s1 b1 => ?_
   exact body s1 h (by omega) w
  ·exact pcf (decide_eq_false (by omega)) (body s h (by omega) w)
theorem tab (hD : 100 ≤ D) (hu : u ≤ 1000000000) (y0 : -100 ≤ y) (y1 : y ≤ 100000)
  (HA : ∀ z m g, z ≤ y - 1 → St q e m g g → m = n → RE q e m u g (call Tp Ms D 353 [ptr q 0, ptr e 0, .int .i64 z] g))
  (HN : ∀ z g, z ≤ y - 1 → St q e n g g → RE q e n u g (call Tp Ms D 274 [ptr q 0, ptr e 0, .int .i64 z] g)) (w : St q e n h h) :
  RE q e n (6 * u + 100) h (call Tp Ms (D + 1) 351 [ptr q 0, ptr e 0, .int .i64 y] h) := by
 rw [c351, e351]
 refine scN w (q116 (by omega) (by omega) w.ds) fun z g a b w1 f => ?_
 obtain ⟨t, rfl⟩ : ∃ t : Nat, z = (t : Int) := ⟨z.toNat, by omega⟩
 have h3 : t * (2 * u + 30) ≤ 3 * (2 * u + 30) := Nat.mul_le_mul_right _ (by omega)
 have := tab_loop hD hu y0 y1 HA HN t 0 D ⟨#[123]⟩ 1 g (by omega) (by omega) (Nat.le_refl _) (by omega) w1
 rw [Nat.zero_add] at this
 exact this.le (by omega) (Nat.le_refl _)
theorem ih0 (q e : Nat) : IH q e 0 300 := by
 refine ⟨fun D y n h hD hy hn w => (num0 (by omega) hn (by simpa using hy) w).le (by omega) (Nat.le_refl _), fun D y n h hD hy hn w => (str0 (by omega) hn (by omega) w).le (by omega) (Nat.le_refl _),
  fun D y n h hD hy hn w => (boo0 (by omega) hn (by omega) w).le (by omega) (Nat.le_refl _), ?_, fun D y n h hD hy hn w => (any0 (by omega) hn (by omega) w).le (by omega) (Nat.le_refl _)⟩
 intro D y n h hD hy0 hy hn w
 obtain ⟨D, rfl⟩ : ∃ d, D = d + 1 := ⟨D - 1, by omega⟩
 refine (tab (u := 20) (by omega) (by omega) (by omega) (by omega) (fun z m g hz w hm => ?_) (fun z g hz w => ?_) w).le (by omega) (Nat.le_refl _)
 ·exact any0 (by omega) (by omega) (by omega) w
 ·exact num0 (by omega) hn (by omega) w
theorem ihS {q e k u : Nat} (H : IH q e k u) (hk : k ≤ 1000) (hu : u ≤ 1000000000) : IH q e (k + 1) (7 * u + 100) := by
 refine ⟨fun D y n h hD hy hn w => ?_, fun D y n h hD hy hn w => ?_, fun D y n h hD hy hn w => ?_, fun D y n h hD hy0 hy hn w => ?_, fun D y n h hD hy hn w => ?_⟩
 ·obtain ⟨D, rfl⟩ : ∃ d, D = d + 1 := ⟨D - 1, by omega⟩
  exact num H hu (by omega) hn hk (by omega) w
 ·obtain ⟨D, rfl⟩ : ∃ d, D = d + 1 := ⟨D - 1, by omega⟩
  exact str H hu (by omega) hn hk (by omega) w
 ·obtain ⟨D, rfl⟩ : ∃ d, D = d + 1 := ⟨D - 1, by omega⟩
  exact boo H hu (by omega) hn hk (by omega) w
 ·obtain ⟨D, rfl⟩ : ∃ d, D = d + 1 := ⟨D - 1, by omega⟩
  refine (tab (u := u) (by omega) hu (by omega) (by omega) (fun z m g hz w hm => ?_) (fun z g hz w => ?_) w).le (by omega) (Nat.le_refl _)
  ·exact H.i193 D z m g (by omega) (by omega) (by omega) w
  ·exact H.i161 D z n g (by omega) (by omega) hn w
 ·obtain ⟨D, rfl⟩ : ∃ d, D = d + 2 := ⟨D - 2, by omega⟩
  exact any H hu (by omega) hn hk (by omega) w
theorem ih3 (q e : Nat) : IH q e 3 200000 := by
 have H := ihS (ihS (ihS (ih0 q e) (by omega) (by omega)) (by omega) (by omega)) (by omega) (by omega)
 exact ⟨fun D y n h a b c d => (H.i161 D y n h a b c d).le (by omega) (Nat.le_refl _), fun D y n h a b c d => (H.i190 D y n h a b c d).le (by omega) (Nat.le_refl _), fun D y n h a b c d => (H.i194 D y n h a b c d).le (by omega) (Nat.le_refl _),
  fun D y n h a b c d f => (H.i191 D y n h a b c d f).le (by omega) (Nat.le_refl _), fun D y n h a b c d => (H.i193 D y n h a b c d).le (by omega) (Nat.le_refl _)⟩
end
end Go.Proofs.YtajpnemfppaafaaGreat
