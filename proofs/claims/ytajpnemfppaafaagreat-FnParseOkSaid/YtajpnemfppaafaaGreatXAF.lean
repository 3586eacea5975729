import Derived.Test.YtajpnemfppaafaaGreatXAD
import Derived.KernelRfl
import Derived.Test.YtajpnemfppaafaaGreatProg
import Derived.Test.YtajpnemfppaafaaGreatXAE
import Derived.Test.YtajpnemfppaafaaGreatRows
import Derived.Test.YtajpnemfppaafaaGreatChecked
set_option linter.unusedSimpArgs false
set_option linter.unusedVariables false
namespace Go.Proofs.YtajpnemfppaafaaGreat
open Go Go.AH
noncomputable section
variable (hk : Hk (Value × AHeap)) (C : ACall) (N : Nat)
theorem e144 (x0 x1 x2 : Int) (h : AHeap) : evFn hk Tp C M144 N Tryz.f144 [.int .i64 x0, .int .i64 x1, .int .i64 x2] h =
  bif decide (x0 ≥ x1) then some (.bool (decide (x0 ≤ x2)), h) else some (.bool false, h) := by kernel_rfl
theorem c144 (d : Nat) (args : List Value) (h : AHeap) : call Tp Ms (d + 1) 144 args h = evFn hk0 Tp (call Tp Ms d) M144 d Tryz.f144 args h := by kernel_rfl
def F207_0 : Nx (Value × AHeap) := evSt hk Tp C M207 N Tryz.f207 [1, 0, 1, 2, 1] []
def s207_0 (x1 : Value) (x4 : Int) (x5 : Bool) (h : AHeap) := hk 100006 (⟨86, [(1, x1), (4, .int .i64 x4), (5, .bool x5)]⟩) h (F207_0 hk C N)
def F207_1 : Nx (Value × AHeap) := evSt hk Tp C M207 N Tryz.f207 [1, 1] []
def s207_1 (x1 : Value) (h : AHeap) := hk 17 (⟨86, [(1, x1)]⟩) h (F207_1 hk C N)
theorem e207 (x0 : Value) (h : AHeap) : evFn hk Tp C M207 N Tryz.f207 [x0] h =
  (aCells x0).bind fun c1 => aNew h 48 c1 fun p2 h3 => (aOff p2 0).bind fun v4 => (aLd1 h3 v4).bind fun v5 => (asI .i64 v5).bind fun n6 => bif n6 == 5 then s207_0 hk C N p2 n6 (n6 == 5) h3 else bif n6 == 14 then s207_0 hk C N p2 n6 (n6 == 14) h3 else bif n6 == 15 then s207_0 hk C N p2 n6 (n6 == 15) h3 else s207_0 hk C N p2 n6 (n6 == 22) h3 := by kernel_rfl
theorem s207_0_j (x1 : Value) (x4 : Int) (x5 : Bool) (h : AHeap) : s207_0 hk0 C N x1 x4 x5 h = F207_0 hk0 C N (⟨86, [(1, x1), (4, .int .i64 x4), (5, .bool x5)]⟩) h := by delta s207_0; exact hk0_app _ _ _ _
theorem s207_0_eq (x1 : Value) (x4 : Int) (x5 : Bool) (h : AHeap) : F207_0 hk C N (⟨86, [(1, x1), (4, .int .i64 x4), (5, .bool x5)]⟩) h =
  bif x5 then (aOff x1 1).bind fun v7 => (aLd1 h v7).bind fun v8 => (asS v8).bind fun t9 => (C 294 [.string t9] h).bind fun r10 => (asB r10.1).bind fun b11 => bif b11 then (aOff x1 2).bind fun v12 => (aLd1 r10.2 v12).bind fun v13 => (asI .i64 v13).bind fun n14 => some (.bool (n14 == 0), r10.2) else some (.bool false, r10.2) else bif x4 == 4 then (aOff x1 1).bind fun v15 => (aLd1 h v15).bind fun v16 => (asS v16).bind fun t17 => bif decide ((ByteArray.size t17 : Int) ≤ 160) then (aOff x1 1).bind fun v18 => (aLd1 h v18).bind fun v19 => (asS v19).bind fun t20 => (aOff x1 1).bind fun v21 => (aLd1 h v21).bind fun v22 => (asS v22).bind fun t23 => (C 191 [.string t20, .int .i64 0, (.func (.func 279) #[] #[])] h).bind fun r24 => (asI .i64 r24.1).bind fun n25 => ((aLd1 r24.2 v21).bind fun v26 => (asS v26).bind fun t27 => some (vbeq (.string t27) (.string t23))).bind fun b28 => bif b28 then bif n25 == (ByteArray.size t23 : Int) then (aOff x1 2).bind fun v29 => (aLd1 r24.2 v29).bind fun v30 => (asI .i64 v30).bind fun n31 => some (.bool (n31 == 0), r24.2) else some (.bool false, r24.2) else none else some (.bool false, h) else bif x4 == 2 then (aOff x1 1).bind fun v32 => (aLd1 h v32).bind fun v33 => (asS v33).bind fun t34 => bif t34.toList == (⟨#[]⟩ : ByteArray).toList then (aOff x1 2).bind fun v35 => (aLd1 h v35).bind fun v36 => (asI .i64 v36).bind fun n37 => (C 144 [.int .i64 n37, .int .i64 0, .int .i64 1] h).bind fun r38 => (asB r38.1).bind fun b39 => some (.bool b39, r38.2) else some (.bool false, h) else bif x4 == 3 then (aOff x1 1).bind fun v40 => (aLd1 h v40).bind fun v41 => (asS v41).bind fun t42 => bif t42.toList == (⟨#[]⟩ : ByteArray).toList then (aOff x1 2).bind fun v43 => (aLd1 h v43).bind fun v44 => (asI .i64 v44).bind fun n45 => (C 144 [.int .i64 n45, .int .i64 0, .int .i64 999999999999999] h).bind fun r46 => (asB r46.1).bind fun b47 => some (.bool b47, r46.2) else some (.bool false, h) else bif x4 == 10 then (aOff x1 1).bind fun v48 => (aLd1 h v48).bind fun v49 => (asS v49).bind fun t50 => bif t50.toList == (⟨#[]⟩ : ByteArray).toList then (aOff x1 2).bind fun v51 => (aLd1 h v51).bind fun v52 => (asI .i64 v52).bind fun n53 => (C 144 [.int .i64 n53, .int .i64 1, .int .i64 10] h).bind fun r54 => (asB r54.1).bind fun b55 => some (.bool b55, r54.2) else some (.bool false, h) else bif x4 == 11 then (aOff x1 1).bind fun v56 => (aLd1 h v56).bind fun v57 => (asS v57).bind fun t58 => bif t58.toList == (⟨#[]⟩ : ByteArray).toList then (aOff x1 2).bind fun v59 => (aLd1 h v59).bind fun v60 => (asI .i64 v60).bind fun n61 => (C 144 [.int .i64 n61, .int .i64 1, .int .i64 3] h).bind fun r62 => (asB r62.1).bind fun b63 => some (.bool b63, r62.2) else some (.bool false, h) else s207_1 hk C N x1 h := by kernel_rfl
theorem s207_1_j (x1 : Value) (h : AHeap) : s207_1 hk0 C N x1 h = F207_1 hk0 C N (⟨86, [(1, x1)]⟩) h := by delta s207_1; exact hk0_app _ _ _ _
theorem s207_1_eq (x1 : Value) (h : AHeap) : F207_1 hk C N (⟨86, [(1, x1)]⟩) h =
  (aOff x1 1).bind fun v64 => (aLd1 h v64).bind fun v65 => (asS v65).bind fun t66 => bif t66.toList == (⟨#[]⟩ : ByteArray).toList then (aOff x1 2).bind fun v67 => (aLd1 h v67).bind fun v68 => (asI .i64 v68).bind fun n69 => some (.bool (n69 == 0), h) else some (.bool false, h) := by kernel_rfl
theorem c207 (d : Nat) (args : List Value) (h : AHeap) : call Tp Ms (d + 1) 207 args h = evFn hk0 Tp (call Tp Ms d) M207 d Tryz.f207 args h := by kernel_rfl
def F208_0 : Nx (Value × AHeap) := evSt hk Tp C M208 N Tryz.f208 [1, 1, 0, 1, 2, 1] []
def s208_0 (x0 x3 x5 : Value) (x9 : Int) (x10 : Bool) (h : AHeap) := hk 100009 (⟨132, [(0, x0), (3, x3), (5, x5), (9, .int .i64 x9), (10, .bool x10)]⟩) h (F208_0 hk C N)
def F208_1 : Nx (Value × AHeap) := evSt hk Tp C M208 N Tryz.f208 [1, 1, 0, 1, 2, 1, 5, 1, 5, 1, 5, 1] []
def s208_1 (x0 x3 x5 : Value) (x9 : Int) (x59 : Bool) (h : AHeap) := hk 100020 (⟨132, [(0, x0), (3, x3), (5, x5), (9, .int .i64 x9), (59, .bool x59)]⟩) h (F208_1 hk C N)
def F208_2 : Nx (Value × AHeap) := evSt hk Tp C M208 N Tryz.f208 [1, 1, 0, 1, 2, 1, 5, 1, 5, 1, 5, 1, 5, 1, 5, 1] []
def s208_2 (x0 x3 x5 : Value) (x9 : Int) (x81 : Bool) (h : AHeap) := hk 100028 (⟨132, [(0, x0), (3, x3), (5, x5), (9, .int .i64 x9), (81, .bool x81)]⟩) h (F208_2 hk C N)
theorem e208 (x0 x1 : Value) (h : AHeap) : evFn hk Tp C M208 N Tryz.f208 [x0, x1] h =
  (aCells x1).bind fun c1 => aNew h 48 c1 fun p2 h3 => (C 295 [.int .i64 21] h3).bind fun r4 => (aOff p2 0).bind fun v5 => (aLd1 r4.2 v5).bind fun v6 => (asI .i64 v6).bind fun n7 => bif n7 == 1 then s208_0 hk C N x0 p2 r4.1 n7 (n7 == 1) r4.2 else bif n7 == 2 then s208_0 hk C N x0 p2 r4.1 n7 (n7 == 2) r4.2 else bif n7 == 3 then s208_0 hk C N x0 p2 r4.1 n7 (n7 == 3) r4.2 else bif n7 == 4 then s208_0 hk C N x0 p2 r4.1 n7 (n7 == 4) r4.2 else bif n7 == 5 then s208_0 hk C N x0 p2 r4.1 n7 (n7 == 5) r4.2 else s208_0 hk C N x0 p2 r4.1 n7 (n7 == 22) r4.2 := by kernel_rfl
theorem s208_0_j (x0 x3 x5 : Value) (x9 : Int) (x10 : Bool) (h : AHeap) : s208_0 hk0 C N x0 x3 x5 x9 x10 h = F208_0 hk0 C N (⟨132, [(0, x0), (3, x3), (5, x5), (9, .int .i64 x9), (10, .bool x10)]⟩) h := by delta s208_0; exact hk0_app _ _ _ _
theorem s208_0_eq (x0 x3 x5 : Value) (x9 : Int) (x10 : Bool) (h : AHeap) : F208_0 hk C N (⟨132, [(0, x0), (3, x3), (5, x5), (9, .int .i64 x9), (10, .bool x10)]⟩) h =
  bif x10 then (aOff x3 3).bind fun v8 => (aLd1 h v8).bind fun v9 => (aLen v9).bind fun v10 => (asI .i64 v10).bind fun n11 => some (.bool (n11 == 0), h) else bif x9 == 6 then (aOff x3 3).bind fun v12 => (aLd1 h v12).bind fun v13 => (aLen v13).bind fun v14 => (asI .i64 v14).bind fun n15 => bif decide ((IntKind.i64.wrap (n15 - 1)) ≥ 0) then (aOff x3 3).bind fun v16 => (aLd1 h v16).bind fun v17 => (aSub h 3 v17 none (some (.int .i64 (IntKind.i64.wrap (n15 - 1)))) 1).bind fun v18 => (C 295 [.int .i64 22] h).bind fun r19 => ((aLd1 r19.2 v16).bind fun v20 => some (vbeq v20 v17)).bind fun b21 => bif b21 then ((aSub r19.2 3 v17 none (some (.int .i64 (IntKind.i64.wrap (n15 - 1)))) 1).bind fun v22 => some (vbeq v22 v18)).bind fun b23 => bif b23 then (C 296 [x0, v18, r19.1] r19.2).bind fun r24 => (asB r24.1).bind fun b25 => bif b25 then (aNil x0).bind fun v26 => (aOff v26 0).bind fun v27 => (aLd1 r24.2 v27).bind fun v28 => (aOff x3 3).bind fun v29 => (aLd1 r24.2 v29).bind fun v30 => (aIdx v30 (.int .i64 (IntKind.i64.wrap (n15 - 1))) 1).bind fun v31 => (aLd1 r24.2 v31).bind fun v32 => (asI .i64 v32).bind fun n33 => (aIdx v28 (.int .i64 n33) 4).bind fun v34 => (aOff v34 0).bind fun v35 => (aLd1 r24.2 v35).bind fun v36 => (asI .i64 v36).bind fun n37 => some (.bool (n37 == 21), r24.2) else some (.bool false, r24.2) else none else none else some (.bool false, h) else bif x9 == 7 then (aOff x3 3).bind fun v38 => (aLd1 h v38).bind fun v39 => (C 296 [x0, v39, (.func (.func 297) #[] #[])] h).bind fun r40 => (asB r40.1).bind fun b41 => some (.bool b41, r40.2) else bif x9 == 8 then s208_1 hk C N x0 x3 x5 x9 (x9 == 8) h else bif x9 == 10 then s208_1 hk C N x0 x3 x5 x9 (x9 == 10) h else bif x9 == 12 then s208_1 hk C N x0 x3 x5 x9 (x9 == 12) h else bif x9 == 13 then s208_1 hk C N x0 x3 x5 x9 (x9 == 13) h else s208_1 hk C N x0 x3 x5 x9 (x9 == 24) h := by kernel_rfl
theorem s208_1_j (x0 x3 x5 : Value) (x9 : Int) (x59 : Bool) (h : AHeap) : s208_1 hk0 C N x0 x3 x5 x9 x59 h = F208_1 hk0 C N (⟨132, [(0, x0), (3, x3), (5, x5), (9, .int .i64 x9), (59, .bool x59)]⟩) h := by delta s208_1; exact hk0_app _ _ _ _
theorem s208_1_eq (x0 x3 x5 : Value) (x9 : Int) (x59 : Bool) (h : AHeap) : F208_1 hk C N (⟨132, [(0, x0), (3, x3), (5, x5), (9, .int .i64 x9), (59, .bool x59)]⟩) h =
  bif x59 then (aLdN h x3 4).bind fun v42 => (aFill [.nilFunc, .nilFunc] [(0, 1, (.func (.func 299) #[] #[])), (1, 1, (.func (.func 299) #[] #[]))]).bind fun c43 => aNewS h 131 c43 2 fun p44 h45 => (C 298 [x0, v42, p44] h45).bind fun r46 => (asB r46.1).bind fun b47 => some (.bool b47, r46.2) else bif x9 == 9 then (aOff x3 3).bind fun v48 => (aLd1 h v48).bind fun v49 => (aLen v49).bind fun v50 => (asI .i64 v50).bind fun n51 => bif decide (n51 > 0) then (aOff x3 3).bind fun v52 => (aLd1 h v52).bind fun v53 => (C 296 [x0, v53, (.func (.func 299) #[] #[])] h).bind fun r54 => (asB r54.1).bind fun b55 => some (.bool b55, r54.2) else some (.bool false, h) else bif x9 == 11 then s208_2 hk C N x0 x3 x5 x9 (x9 == 11) h else bif x9 == 14 then s208_2 hk C N x0 x3 x5 x9 (x9 == 14) h else bif x9 == 15 then s208_2 hk C N x0 x3 x5 x9 (x9 == 15) h else bif x9 == 19 then s208_2 hk C N x0 x3 x5 x9 (x9 == 19) h else s208_2 hk C N x0 x3 x5 x9 (x9 == 23) h := by kernel_rfl
theorem s208_2_j (x0 x3 x5 : Value) (x9 : Int) (x81 : Bool) (h : AHeap) : s208_2 hk0 C N x0 x3 x5 x9 x81 h = F208_2 hk0 C N (⟨132, [(0, x0), (3, x3), (5, x5), (9, .int .i64 x9), (81, .bool x81)]⟩) h := by delta s208_2; exact hk0_app _ _ _ _
theorem s208_2_eq (x0 x3 x5 : Value) (x9 : Int) (x81 : Bool) (h : AHeap) : F208_2 hk C N (⟨132, [(0, x0), (3, x3), (5, x5), (9, .int .i64 x9), (81, .bool x81)]⟩) h =
  bif x81 then (aLdN h x3 4).bind fun v56 => (aFill [.nilFunc] [(0, 1, (.func (.func 299) #[] #[]))]).bind fun c57 => aNewS h 131 c57 1 fun p58 h59 => (C 298 [x0, v56, p58] h59).bind fun r60 => (asB r60.1).bind fun b61 => some (.bool b61, r60.2) else bif x9 == 16 then (aLdN h x3 4).bind fun v62 => (aFill [.nilFunc, .nilFunc, .nilFunc] [(0, 1, (.func (.func 299) #[] #[])), (1, 1, (.func (.func 299) #[] #[])), (2, 1, (.func (.func 299) #[] #[]))]).bind fun c63 => aNewS h 131 c63 3 fun p64 h65 => (C 298 [x0, v62, p64] h65).bind fun r66 => (asB r66.1).bind fun b67 => some (.bool b67, r66.2) else bif x9 == 17 then (aLdN h x3 4).bind fun v68 => (aFill [.nilFunc, .nilFunc] [(0, 1, (.func (.func 299) #[] #[])), (1, 1, x5)]).bind fun c69 => aNewS h 131 c69 2 fun p70 h71 => (C 298 [x0, v68, p70] h71).bind fun r72 => (asB r72.1).bind fun b73 => bif b73 then some (.bool true, r72.2) else (aLdN r72.2 x3 4).bind fun v74 => (aFill [.nilFunc, .nilFunc, .nilFunc] [(0, 1, (.func (.func 299) #[] #[])), (1, 1, x5), (2, 1, x5)]).bind fun c75 => aNewS r72.2 131 c75 3 fun p76 h77 => (C 298 [x0, v74, p76] h77).bind fun r78 => (asB r78.1).bind fun b79 => some (.bool b79, r78.2) else bif x9 == 18 then (aLdN h x3 4).bind fun v80 => (aFill [.nilFunc, .nilFunc] [(0, 1, (.func (.func 299) #[] #[])), (1, 1, x5)]).bind fun c81 => aNewS h 131 c81 2 fun p82 h83 => (C 298 [x0, v80, p82] h83).bind fun r84 => (asB r84.1).bind fun b85 => some (.bool b85, r84.2) else bif x9 == 20 then (aLdN h x3 4).bind fun v86 => (C 295 [.int .i64 9] h).bind fun r87 => ((aLdN r87.2 x3 4).bind fun v88 => some (vbeq v88 v86)).bind fun b89 => bif b89 then (aFill [.nilFunc] [(0, 1, r87.1)]).bind fun c90 => aNewS r87.2 131 c90 1 fun p91 h92 => ((aLdN h92 x3 4).bind fun v93 => some (vbeq v93 v86)).bind fun b94 => bif b94 then (C 298 [x0, v86, p91] h92).bind fun r95 => (asB r95.1).bind fun b96 => some (.bool b96, r95.2) else none else none else bif x9 == 21 then (aOff x3 3).bind fun v97 => (aLd1 h v97).bind fun v98 => (C 296 [x0, v98, (.func (.func 300) #[] #[])] h).bind fun r99 => (asB r99.1).bind fun b100 => some (.bool b100, r99.2) else some (.bool false, h) := by kernel_rfl
theorem c208 (d : Nat) (args : List Value) (h : AHeap) : call Tp Ms (d + 1) 208 args h = evFn hk0 Tp (call Tp Ms d) M208 d Tryz.f208 args h := by kernel_rfl
end
noncomputable section
variable (hk : Hk (Value × AHeap)) (C : ACall) (N : Nat)
theorem e294 (x0 : ByteArray) (h : AHeap) : evFn hk Tp C M294 N Tryz.f294 [.string x0] h =
  (C 144 [.int .i64 (ByteArray.size x0 : Int), .int .i64 1, .int .i64 12] h).bind fun r1 => (asB r1.1).bind fun b2 => bif b2 then (C 191 [.string x0, .int .i64 0, (.func (.func 275) #[] #[])] r1.2).bind fun r3 => (asI .i64 r3.1).bind fun n4 => bif n4 == (ByteArray.size x0 : Int) then (C 276 [.string x0] r3.2).bind fun r5 => (asB r5.1).bind fun b6 => some (.bool (!b6), r5.2) else some (.bool false, r3.2) else some (.bool false, r1.2) := by kernel_rfl
theorem c294 (d : Nat) (args : List Value) (h : AHeap) : call Tp Ms (d + 1) 294 args h = evFn hk0 Tp (call Tp Ms d) M294 d Tryz.f294 args h := by kernel_rfl
theorem e295 (x0 : Int) (h : AHeap) : evFn hk Tp C M295 N Tryz.f295 [.int .i64 x0] h =
  aNew h 3 [.int .i64 x0] fun p1 h2 => (aFn 360 [] [p1]).bind fun v3 => some (v3, h2) := by kernel_rfl
theorem c295 (d : Nat) (args : List Value) (h : AHeap) : call Tp Ms (d + 1) 295 args h = evFn hk0 Tp (call Tp Ms d) M295 d Tryz.f295 args h := by kernel_rfl
theorem e296 (x0 x1 x2 : Value) (h : AHeap) : evFn hk Tp C M296 N Tryz.f296 [x0, x1, x2] h =
  (aCells x0).bind fun c1 => aNew h 155 c1 fun p2 h3 => (aCells x2).bind fun c4 => aNew h3 131 c4 fun p5 h6 => (aFn 362 [] [p5, p2]).bind fun v7 => (C 361 [x1, v7] h6).bind fun r8 => (asB r8.1).bind fun b9 => some (.bool (!b9), r8.2) := by kernel_rfl
theorem c296 (d : Nat) (args : List Value) (h : AHeap) : call Tp Ms (d + 1) 296 args h = evFn hk0 Tp (call Tp Ms d) M296 d Tryz.f296 args h := by kernel_rfl
theorem e297 (x0 : Int) (h : AHeap) : evFn hk Tp C M297 N Tryz.f297 [.int .i64 x0] h =
  bif x0 == 23 then some (.bool true, h) else some (.bool (x0 == 24), h) := by kernel_rfl
theorem c297 (d : Nat) (args : List Value) (h : AHeap) : call Tp Ms (d + 1) 297 args h = evFn hk0 Tp (call Tp Ms d) M297 d Tryz.f297 args h := by kernel_rfl
def F298_0 (n1 : Nat) : Nx (Value × AHeap) := evSt hk Tp C M298 N Tryz.f298 [1, 1, 0, 1, 2, 6] [n1]
def s298_0 (n1 : Nat) (x0 x4 x15 : Value) (x16 x17 : Int) (h : AHeap) := F298_0 hk C N n1 (⟨38, [(0, x0), (4, x4), (15, x15), (16, .int .i64 x16), (17, .int .i64 x17)]⟩) h
theorem e298 (x0 x1 x2 : Value) (h : AHeap) : evFn hk Tp C M298 N Tryz.f298 [x0, x1, x2] h =
  (aCells x1).bind fun c1 => aNew h 48 c1 fun p2 h3 => (aOff p2 3).bind fun v4 => (aLd1 h3 v4).bind fun v5 => (aLen v5).bind fun v6 => (asI .i64 v6).bind fun n7 => (aLen x2).bind fun v8 => (asI .i64 v8).bind fun n9 => bif n7 != n9 then some (.bool false, h3) else (aLen x2).bind fun v10 => (asI .i64 v10).bind fun n11 => s298_0 hk C N N x0 p2 x2 n11 0 h3 := by kernel_rfl
theorem s298_0_eq (n1 : Nat) (x0 x4 x15 : Value) (x16 x17 : Int) (h : AHeap) : s298_0 hk C N (n1 + 1) x0 x4 x15 x16 x17 h =
  bif decide (x17 < x16) then (aIdx x15 (.int .i64 x17) 1).bind fun v12 => (aLd1 h v12).bind fun v13 => (aNil x0).bind fun v14 => (aOff v14 0).bind fun v15 => (aLd1 h v15).bind fun v16 => (aOff x4 3).bind fun v17 => (aLd1 h v17).bind fun v18 => (aIdx v18 (.int .i64 x17) 1).bind fun v19 => (aLd1 h v19).bind fun v20 => (asI .i64 v20).bind fun n21 => (aIdx v16 (.int .i64 n21) 4).bind fun v22 => (aOff v22 0).bind fun v23 => (aLd1 h v23).bind fun v24 => (asI .i64 v24).bind fun n25 => (aCallV C v13 [.int .i64 n25] h).bind fun r26 => (asB r26.1).bind fun b27 => bif !b27 then some (.bool false, r26.2) else s298_0 hk C N n1 x0 x4 x15 x16 (IntKind.i64.wrap (x17 + 1)) r26.2 else some (.bool true, h) := by kernel_rfl
theorem c298 (d : Nat) (args : List Value) (h : AHeap) : call Tp Ms (d + 1) 298 args h = evFn hk0 Tp (call Tp Ms d) M298 d Tryz.f298 args h := by kernel_rfl
theorem e299 (x0 : Int) (h : AHeap) : evFn hk Tp C M299 N Tryz.f299 [.int .i64 x0] h =
  (C 144 [.int .i64 x0, .int .i64 1, .int .i64 13] h).bind fun r1 => (asB r1.1).bind fun b2 => some (.bool b2, r1.2) := by kernel_rfl
theorem c299 (d : Nat) (args : List Value) (h : AHeap) : call Tp Ms (d + 1) 299 args h = evFn hk0 Tp (call Tp Ms d) M299 d Tryz.f299 args h := by kernel_rfl
theorem e300 (x0 : Int) (h : AHeap) : evFn hk Tp C M300 N Tryz.f300 [.int .i64 x0] h =
  (C 144 [.int .i64 x0, .int .i64 14, .int .i64 20] h).bind fun r1 => (asB r1.1).bind fun b2 => some (.bool b2, r1.2) := by kernel_rfl
theorem c300 (d : Nat) (args : List Value) (h : AHeap) : call Tp Ms (d + 1) 300 args h = evFn hk0 Tp (call Tp Ms d) M300 d Tryz.f300 args h := by kernel_rfl
theorem e360 (x0 : Int) (x1 : Value) (h : AHeap) : evFn hk Tp C M360 N Tryz.f360 [.int .i64 x0, x1] h =
  (aLd1 h x1).bind fun v1 => (asI .i64 v1).bind fun n2 => some (.bool (x0 == n2), h) := by kernel_rfl
theorem c360 (d : Nat) (args : List Value) (h : AHeap) : call Tp Ms (d + 1) 360 args h = evFn hk0 Tp (call Tp Ms d) M360 d Tryz.f360 args h := by kernel_rfl
theorem e361 (x0 x1 : Value) (h : AHeap) : evFn hk Tp C M361 N Tryz.f361 [x0, x1] h =
  (C 385 [x0, x1] h).bind fun r1 => (asI .i64 r1.1).bind fun n2 => some (.bool (decide (n2 ≥ 0)), r1.2) := by kernel_rfl
theorem c361 (d : Nat) (args : List Value) (h : AHeap) : call Tp Ms (d + 1) 361 args h = evFn hk0 Tp (call Tp Ms d) M361 d Tryz.f361 args h := by kernel_rfl
theorem e362 (x0 : Int) (x1 x2 : Value) (h : AHeap) : evFn hk Tp C M362 N Tryz.f362 [.int .i64 x0, x1, x2] h =
  (aLd1 h x1).bind fun v1 => (aLd1 h x2).bind fun v2 => (aNil v2).bind fun v3 => (aOff v3 0).bind fun v4 => (aLd1 h v4).bind fun v5 => (aIdx v5 (.int .i64 x0) 4).bind fun v6 => (aOff v6 0).bind fun v7 => (aLd1 h v7).bind fun v8 => (asI .i64 v8).bind fun n9 => (aCallV C v1 [.int .i64 n9] h).bind fun r10 => (asB r10.1).bind fun b11 => some (.bool (!b11), r10.2) := by kernel_rfl
theorem c362 (d : Nat) (args : List Value) (h : AHeap) : call Tp Ms (d + 1) 362 args h = evFn hk0 Tp (call Tp Ms d) M362 d Tryz.f362 args h := by kernel_rfl
end
noncomputable section
variable (hk : Hk (Value × AHeap)) (C : ACall) (N : Nat)
def F385_0 (n1 : Nat) : Nx (Value × AHeap) := evSt hk Tp C M385 N Tryz.f385 [1, 0, 1, 2, 6] [n1]
def s385_0 (n1 : Nat) (x0 x1 : Value) (x7 x8 : Int) (h : AHeap) := F385_0 hk C N n1 (⟨19, [(0, x0), (1, x1), (7, .int .i64 x7), (8, .int .i64 x8)]⟩) h
theorem e385 (x0 x1 : Value) (h : AHeap) : evFn hk Tp C M385 N Tryz.f385 [x0, x1] h =
  (aLen x0).bind fun v1 => (asI .i64 v1).bind fun n2 => s385_0 hk C N N x0 x1 n2 0 h := by kernel_rfl
theorem s385_0_eq (n1 : Nat) (x0 x1 : Value) (x7 x8 : Int) (h : AHeap) : s385_0 hk C N (n1 + 1) x0 x1 x7 x8 h =
  bif decide (x8 < x7) then (aIdx x0 (.int .i64 x8) 1).bind fun v3 => (aLd1 h v3).bind fun v4 => (asI .i64 v4).bind fun n5 => (aCallV C x1 [.int .i64 n5] h).bind fun r6 => (asB r6.1).bind fun b7 => bif b7 then some (.int .i64 x8, r6.2) else s385_0 hk C N n1 x0 x1 x7 (IntKind.i64.wrap (x8 + 1)) r6.2 else some (.int .i64 (-1), h) := by kernel_rfl
theorem c385 (d : Nat) (args : List Value) (h : AHeap) : call Tp Ms (d + 1) 385 args h = evFn hk0 Tp (call Tp Ms d) M385 d Tryz.f385 args h := by kernel_rfl
end
theorem vbeq1_self : ∀ v : Value, isCell v = true → (∀ f a c, v ≠ .func f a c) → vbeq1 v v = true := by
 intro v h hf
 cases v <;> simp [isCell] at h <;> simp [vbeq1]
 ·rename_i s
  have := vbeq_str s
  simpa [vbeq, vbeq1] using this
 ·rename_i f a c; exact absurd rfl (hf f a c)
structure Kn where
 k : Int
 t : ByteArray
 i : Int
 ks : List Int
def ints (xs : List Int) : List Value := xs.map (Value.int .i64)
def ISl (c : Nat) (h : AHeap) (v : Value) (xs : List Int) : Prop :=
 (v = .slice none 0 0 ∧ xs = []) ∨ (∃ a n, v = .slice (some a) 0 n ∧ xs = []) ∨ ∃ i o, v = slc i 0 xs.length ∧ h.at? i = some o ∧ o.elem = 3 ∧ o.cells = ints xs ∧ i < c
theorem ISl.ext {c : Nat} {h h' : AHeap} {v : Value} {xs : List Int} (x : ISl c h v xs) (e : Ext c h h') : ISl c h' v xs := by
 rcases x with x | x | ⟨i, o, h1, h2, h3, h4, h5⟩
 ·exact .inl x
 ·exact .inr (.inl x)
 ·exact .inr (.inr ⟨i, o, h1, e.at? h5 h2, h3, h4, h5⟩)
theorem ISl.mono {c d : Nat} {h : AHeap} {v : Value} {xs : List Int} (x : ISl c h v xs) (hd : c ≤ d) : ISl d h v xs := by
 rcases x with x | x | ⟨i, o, h1, h2, h3, h4, h5⟩
 ·exact .inl x
 ·exact .inr (.inl x)
 ·exact .inr (.inr ⟨i, o, h1, h2, h3, h4, Nat.lt_of_lt_of_le h5 hd⟩)
theorem ISl.len {c : Nat} {h : AHeap} {v : Value} {xs : List Int} (x : ISl c h v xs) : aLen v = some (.int .i64 xs.length) := by
 rcases x with ⟨rfl, rfl⟩ | ⟨a, n, rfl, rfl⟩ | ⟨i, o, rfl, _⟩ <;> rfl
theorem ISl.at {c : Nat} {h : AHeap} {v : Value} {xs : List Int} (x : ISl c h v xs) {j : Nat} (hj : j < xs.length) : ∃ p, aIdx v (.int .i64 (j : Int)) 1 = some p ∧ aLd1 h p = some (.int .i64 xs[j]) := by
 rcases x with ⟨rfl, rfl⟩ | ⟨a, n, rfl, rfl⟩ | ⟨i, o, rfl, h2, h3, h4, h5⟩
 ·simp at hj
 ·simp at hj
 ·refine ⟨ptr i j, by simp [aIdx, slc, hj], ?_⟩
  have r : Row h i (ints xs) := ⟨o, h2, h4⟩
  exact r.ld1 (by simp [ints, hj])
theorem ISl.cell {c : Nat} {h : AHeap} {v : Value} {xs : List Int} (x : ISl c h v xs) : isCell v = true ∧ ∀ f a b, v ≠ .func f a b := by
 rcases x with ⟨rfl, rfl⟩ | ⟨a, n, rfl, rfl⟩ | ⟨i, o, rfl, _⟩ <;> exact ⟨rfl, fun _ _ _ h => by cases h⟩
theorem ISl.vbeq {c : Nat} {h : AHeap} {v : Value} {xs : List Int} (x : ISl c h v xs) : vbeq v v = true := by
 have := vbeq1_self v x.cell.1 x.cell.2
 rcases x with ⟨rfl, rfl⟩ | ⟨a, n, rfl, rfl⟩ | ⟨i, o, rfl, _⟩ <;> exact this
def knCells (n : Kn) (kv : Value) : List Value := [.int .i64 n.k, .string n.t, .int .i64 n.i, kv]
def knVal (n : Kn) (kv : Value) : Value := .agg (List.toArray (knCells n kv))
theorem kn_aCells {c : Nat} {h : AHeap} {n : Kn} {kv : Value} (x : ISl c h kv n.ks) : aCells (knVal n kv) = some (knCells n kv) := by
 have e : (List.all (List.toArray (knCells n kv)).toList isCell) = true := by
  show (true && (true && (true && (isCell kv && true)))) = true
  rw [x.cell.1]; rfl
 show (if (List.all (List.toArray (knCells n kv)).toList isCell) = true then some (List.toArray (knCells n kv)).toList else none) = _
 rw [if_pos e]
def KSl (c : Nat) (h : AHeap) (v : Value) (ns : List Kn) : Prop :=
 (v = .slice none 0 0 ∧ ns = []) ∨ (∃ a n, v = .slice (some a) 0 n ∧ ns = []) ∨
 ∃ i o, v = slc i 0 ns.length ∧ h.at? i = some o ∧ i < c ∧ ns.length * 4 ≤ o.cells.length ∧ ∀ (j : Nat) (n : Kn), ns[j]? = some n → ∃ kv, (o.cells.drop (j * 4)).take 4 = knCells n kv ∧ ISl c h kv n.ks
theorem KSl.ext {c : Nat} {h h' : AHeap} {v : Value} {ns : List Kn} (x : KSl c h v ns) (e : Ext c h h') : KSl c h' v ns := by
 rcases x with x | x | ⟨i, o, h1, h2, h3, h4, h5⟩
 ·exact .inl x
 ·exact .inr (.inl x)
 ·exact .inr (.inr ⟨i, o, h1, e.at? h3 h2, h3, h4, fun j n hn => let ⟨kv, a, b⟩ := h5 j n hn; ⟨kv, a, b.ext e⟩⟩)
theorem KSl.mono {c d : Nat} {h : AHeap} {v : Value} {ns : List Kn} (x : KSl c h v ns) (hd : c ≤ d) : KSl d h v ns := by
 rcases x with x | x | ⟨i, o, h1, h2, h3, h4, h5⟩
 ·exact .inl x
 ·exact .inr (.inl x)
 ·exact .inr (.inr ⟨i, o, h1, h2, Nat.lt_of_lt_of_le h3 hd, h4, fun j n hn => let ⟨kv, a, b⟩ := h5 j n hn; ⟨kv, a, b.mono hd⟩⟩)
theorem KSl.len {c : Nat} {h : AHeap} {v : Value} {ns : List Kn} (x : KSl c h v ns) : aLen v = some (.int .i64 ns.length) := by
 rcases x with ⟨rfl, rfl⟩ | ⟨a, n, rfl, rfl⟩ | ⟨i, o, rfl, _⟩ <;> rfl
theorem KSl.cell {c : Nat} {h : AHeap} {v : Value} {ns : List Kn} (x : KSl c h v ns) : isCell v = true ∧ ∀ f a b, v ≠ .func f a b := by
 rcases x with ⟨rfl, rfl⟩ | ⟨a, n, rfl, rfl⟩ | ⟨i, o, rfl, _⟩ <;> exact ⟨rfl, fun _ _ _ h => by cases h⟩
theorem KSl.vbeq1 {c : Nat} {h : AHeap} {v : Value} {ns : List Kn} (x : KSl c h v ns) : vbeq1 v v = true := vbeq1_self v x.cell.1 x.cell.2
theorem KSl.vbeq {c : Nat} {h : AHeap} {v : Value} {ns : List Kn} (x : KSl c h v ns) : vbeq v v = true := by
 have := x.vbeq1
 rcases x with ⟨rfl, rfl⟩ | ⟨a, n, rfl, rfl⟩ | ⟨i, o, rfl, _⟩ <;> exact this
theorem drop_take_get {cs : List Value} {a : Nat} {l : List Value} (h : (cs.drop a).take 4 = l) {c : Nat} (hc : c < 4) : cs[a + c]? = l[c]? := by
 rw [← h, List.getElem?_take, if_pos hc, List.getElem?_drop]
theorem KSl.at {c : Nat} {h : AHeap} {v : Value} {ns : List Kn} (x : KSl c h v ns) {j : Nat} (hj : j < ns.length) : ∃ i kv, aIdx v (.int .i64 (j : Int)) 4 = some (ptr i (j * 4)) ∧ ISl c h kv ns[j].ks ∧
  ∀ h', Ext c h h' → aLdN h' (ptr i (j * 4)) 4 = some (knVal ns[j] kv) ∧ aLd1 h' (ptr i (j * 4)) = some (.int .i64 ns[j].k) ∧ aLd1 h' (ptr i (j * 4 + 1)) = some (.string ns[j].t) ∧ aLd1 h' (ptr i (j * 4 + 2)) = some (.int .i64 ns[j].i) ∧ aLd1 h' (ptr i (j * 4 + 3)) = some kv := by
 rcases x with ⟨rfl, rfl⟩ | ⟨a, n, rfl, rfl⟩ | ⟨i, o, rfl, h2, h3, h4, h5⟩
 ·simp at hj
 ·simp at hj
 ·obtain ⟨kv, e1, e2⟩ := h5 j ns[j] (List.getElem?_eq_getElem hj)
  refine ⟨i, kv, by simp [aIdx, slc, hj], e2, fun h' e => ?_⟩
  have r : Row h' i o.cells := ⟨o, e.at? h3 h2, rfl⟩
  refine ⟨?_, r.ld1 (drop_take_get (c := 0) e1 (by omega)), r.ld1 (drop_take_get (c := 1) e1 (by omega)), r.ld1 (drop_take_get (c := 2) e1 (by omega)), r.ld1 (drop_take_get (c := 3) e1 (by omega))⟩
  rw [r.ldN (by omega), e1]; rfl
theorem ld4 {h : AHeap} {i : Nat} {a b c d : Value} (r : Row h i [a, b, c, d]) : aLd1 h (ptr i 0) = some a ∧ aLd1 h (ptr i 1) = some b ∧ aLd1 h (ptr i 2) = some c ∧ aLd1 h (ptr i 3) = some d ∧ aLdN h (ptr i 0) 4 = some (.agg (List.toArray [a, b, c, d])) :=
 ⟨r.ld1 rfl, r.ld1 rfl, r.ld1 rfl, r.ld1 rfl, r.ldN (off := 0) (n := 4) (Nat.le_refl _)⟩
theorem ld2 {h : AHeap} {i : Nat} {a b : Value} (r : Row h i [a, b]) : aLd1 h (ptr i 0) = some a ∧ aLd1 h (ptr i 1) = some b ∧ aLdN h (ptr i 0) 2 = some (.agg (List.toArray [a, b])) :=
 ⟨r.ld1 rfl, r.ld1 rfl, r.ldN (off := 0) (n := 2) (Nat.le_refl _)⟩
theorem Own.stN {b : Nat} {h : AHeap} {i n : Nat} {e : TypeId} {cs vs : List Value} {v : Value} (x : Own b h i e cs) (hv : aCells v = some vs) (hl : vs.length = n) (hc : cs.length = n) :
  ∃ h', aSt h (ptr i 0) v n = some h' ∧ Ext b h h' ∧ Own b h' i e vs ∧ h'.size = h.size := by
 obtain ⟨h', h1, h2, h3, h4, _⟩ := x.st (off := 0) (n := n) hv hl (by omega)
 refine ⟨h', h1, h2, ?_, h4⟩
 have : splice cs 0 vs = vs := by
  unfold splice
  rw [List.take_zero, List.nil_append, List.drop_eq_nil_of_le (by omega), List.append_nil]
 rw [this] at h3; exact h3
theorem aCells_int (k : IntKind) (n : Int) : aCells (.int k n) = some [.int k n] := rfl
theorem aCells_str (s : ByteArray) : aCells (.string s) = some [.string s] := rfl
theorem aCells_one {v : Value} (h : isCell v = true) : aCells v = some [v] := by
 cases v <;> simp [isCell] at h <;> simp [aCells, isCell]
def trVal (nv : Value) (top : Int) : Value := .agg (List.toArray [nv, .int .i64 top])
theorem tr_aCells {c : Nat} {h : AHeap} {nv : Value} {ns : List Kn} (x : KSl c h nv ns) (top : Int) : aCells (trVal nv top) = some [nv, .int .i64 top] := by
 have e : (List.all (List.toArray [nv, .int .i64 top]).toList isCell) = true := by
  show (isCell nv && (true && true)) = true
  rw [x.cell.1]; rfl
 show (if (List.all (List.toArray [nv, .int .i64 top]).toList isCell) = true then some (List.toArray [nv, .int .i64 top]).toList else none) = _
 rw [if_pos e]
open Go.ChangeShapes Go.WideShapes Go.ChangeAt Go.RowKit Go.ChangeMaps Go.AH
theorem own : ownKnob Tp.godebug = none := by kernel_rfl
theorem fnOk : Tp.funcs.all (fun (fn : Func) => fn.name != "runtime.NumGoroutine") = true := by kernel_rfl
theorem uBool : Tp.underlying 4 = some .bool := by kernel_rfl
theorem mixed : Tp.follows .mixedOrders = true := Checked.mixed Tryz.checked
def Blk (W : World) (b n : Nat) : Prop := ∃ arr el fr, W.heap[b]? = some (.cells arr el fr) ∧ n ≤ arr.size
theorem range_get {α : Type} (f : Nat → α) {len j : Nat} {x : α} (h : ((List.range len).map f)[j]? = some x) : j < len ∧ x = f j := by
 rw [List.getElem?_map, Option.map_eq_some_iff] at h
 obtain ⟨a, h1, h2⟩ := h
 obtain ⟨h3, h4⟩ := List.getElem?_eq_some_iff.1 h1
 rw [List.getElem_range] at h4
 subst h4
 exact ⟨by simpa using h3, h2.symm⟩
section
variable {H : Type} {enc : TypeId × Value → H} {W : World}
end
theorem Blk.lt {W : World} {b n : Nat} (h : Blk W b n) : b < W.heap.size := by
 obtain ⟨_, _, _, h1, _⟩ := h
 exact (Array.getElem?_eq_some_iff.1 h1).1
theorem bt_data {s : ByteArray} {i : Nat} (h : i < s.size) : s.data[i]'h = UInt8.ofNat (bt s i).toNat := by
  have h2 : s.data[i]? = some (s.data[i]'h) := Array.getElem?_eq_getElem (by exact h)
  unfold bt; rw [h2]; simp
theorem ba_ext {a b : ByteArray} (hs : a.size = b.size) (h : ∀ j, j < a.size → bt a j = bt b j) : a = b := by
  apply ByteArray.ext
  apply Array.ext
  · exact hs
  · intro i h1 h2
    rw [bt_data (s := a) h1, bt_data (s := b) h2, h i h1]
theorem bt_left {a b : ByteArray} {i : Nat} (h : i < a.size) : bt (a ++ b) i = bt a i := by
  unfold bt
  rw [ByteArray.data_append, Array.getElem?_append_left (by exact h)]
theorem bt_right {a b : ByteArray} {i : Nat} (h : a.size ≤ i) : bt (a ++ b) i = bt b (i - a.size) := by
  unfold bt
  rw [ByteArray.data_append, Array.getElem?_append_right (by exact h)]; rfl
theorem bt_ext {s : ByteArray} {i e j : Nat} (h : i + j < e) (he : e ≤ s.size) : bt (s.extract i e) j = bt s (i + j) := by
  unfold bt
  have hs : s.size = s.data.size := rfl
  rw [ByteArray.data_extract, Array.getElem?_extract_of_lt (by omega), Array.getElem?_eq_getElem (by omega)]
theorem exSize {s : ByteArray} {i e : Nat} (he : e ≤ s.size) : (s.extract i e).size = e - i := by
  rw [ByteArray.size_extract]; omega
def AtB (s : ByteArray) (p : Nat) (w : ByteArray) : Prop := p + w.size ≤ s.size ∧ ∀ j, j < w.size → bt s (p + j) = bt w j
theorem AtB.ext {s : ByteArray} {p : Nat} {w : ByteArray} (x : AtB s p w) : s.extract p (p + w.size) = w := by
  apply ba_ext
  · rw [exSize x.1]; omega
  · intro j hj
    rw [exSize x.1] at hj
    rw [bt_ext (by omega) x.1, x.2 j (by omega)]
theorem AtB.of {s : ByteArray} {i e : Nat} (hi : i ≤ e) (he : e ≤ s.size) : AtB s i (s.extract i e) := by
  refine ⟨by rw [exSize he]; omega, fun j hj => ?_⟩
  rw [exSize he] at hj
  exact (bt_ext (by omega) he).symm
theorem endOf_all {p : Int → Bool} {s : ByteArray} : ∀ (n i : Nat), endOf p s i - i = n → i ≤ s.size → (∀ j, i ≤ j → j < endOf p s i → p (bt s j) = true) ∧ ¬ (endOf p s i < s.size ∧ p (bt s (endOf p s i)) = true) := by
  intro n
  induction n with
  | zero =>
    intro i hn hi
    have hb := endOf_bd (p := p) (s := s) _ i rfl hi
    have he : endOf p s i = i := by omega
    refine ⟨fun j h1 h2 => by omega, ?_⟩
    rw [he]
    intro h
    rw [endOf_step h.1 h.2] at he
    have := (endOf_bd (p := p) (s := s) _ (i + 1) rfl h.1).1
    omega
  | succ n ih =>
    intro i hn hi
    have hb := endOf_bd (p := p) (s := s) _ i rfl hi
    have h : i < s.size ∧ p (bt s i) = true := by
      by_cases h : i < s.size ∧ p (bt s i) = true
      · exact h
      · rw [endOf_stop h] at hn; omega
    have st := endOf_step (p := p) h.1 h.2
    obtain ⟨h1, h2⟩ := ih (i + 1) (by rw [← st]; omega) h.1
    rw [st]
    refine ⟨fun j a b => ?_, h2⟩
    by_cases hj : j = i
    · rw [hj]; exact h.2
    · exact h1 j (by omega) b
theorem endOf_is {p : Int → Bool} {s : ByteArray} : ∀ (n i e : Nat), e - i = n → i ≤ e → e ≤ s.size → (∀ j, i ≤ j → j < e → p (bt s j) = true) → ¬ (e < s.size ∧ p (bt s e) = true) → endOf p s i = e := by
  intro n
  induction n with
  | zero => intro i e hn hi he _ h2; obtain rfl : i = e := by omega
            exact endOf_stop h2
  | succ n ih => intro i e hn hi he h1 h2; rw [endOf_step (by omega) (h1 i (by omega) (by omega))]; exact ih (i + 1) e (by omega) (by omega) he (fun j a b => h1 j (by omega) b) h2
theorem numGo_eq {s t : ByteArray} : ∀ (n i j : Nat) (x : Int), (∀ k, k < n → bt s (i + k) = bt t (j + k)) → numGo s n i x = numGo t n j x := by
  intro n
  induction n with
  | zero => intro i j x _; rfl
  | succ n ih =>
    intro i j x h
    unfold numGo
    have h0 := h 0 (by omega)
    rw [Nat.add_zero, Nat.add_zero] at h0
    rw [h0]
    exact ih _ _ _ (fun k hk => by have := h (k + 1) (by omega); rw [show i + 1 + k = i + (k + 1) by omega, show j + 1 + k = j + (k + 1) by omega]; exact this)
def AllB (p : Int → Bool) (w : ByteArray) : Prop := ∀ j, j < w.size → p (bt w j) = true
inductive GTok : Tok → Prop where
 | word (a : Nat) (w : ByteArray) : 0 < w.size → AllB isLet w → isWd w = true → GTok ⟨2, a, w, 0⟩
 | name (a : Nat) (w : ByteArray) : 0 < w.size → AllB isLet w → isWd w = false → w.size ≤ 12 → GTok ⟨1, a, w, 0⟩
 | num (a : Nat) (w : ByteArray) : 0 < w.size → AllB isDig w → w.size ≤ 15 → (1 < w.size → bt w 0 ≠ 48) → GTok ⟨3, a, w, numGo w w.size 0 0⟩
 | text (a : Nat) (w : ByteArray) : AllB isPln w → w.size ≤ 160 → GTok ⟨4, a, w, 0⟩
 | mark (a : Nat) (w : ByteArray) : w ∈ marksL → GTok ⟨5, a, w, 0⟩
theorem AllB.sub {p : Int → Bool} {s : ByteArray} {i e : Nat} (he : e ≤ s.size) (h : ∀ j, i ≤ j → j < e → p (bt s j) = true) : AllB p (s.extract i e) := fun j hj => by
 rw [exSize he] at hj
 rw [bt_ext (by omega) he]
 exact h _ (by omega) (by omega)
theorem tokR_good {s : ByteArray} {i : Nat} (hi : i < s.size) (h0 : (tokR s i).2.1 = 0) : GTok (tokR s i).1 ∧ (tokR s i).1.at' = (i : Int) := by
 unfold tokR at h0 ⊢
 by_cases hL : isLet (bt s i) = true
 ·rw [if_pos hL] at h0 ⊢
  have st := endOf_step hi hL
  have bd := endOf_bd (p := isLet) (s := s) _ (i + 1) rfl (by omega)
  have al := endOf_all (p := isLet) (s := s) _ i rfl (by omega)
  have A := AllB.sub (by omega) al.1
  have sz : (s.extract i (endOf isLet s i)).size = endOf isLet s i - i := exSize (by omega)
  by_cases hW : isWd (s.extract i (endOf isLet s i)) = true
  ·rw [if_pos hW]; exact ⟨.word _ _ (by omega) A hW, rfl⟩
  ·rw [if_neg hW] at h0 ⊢
   by_cases hn : endOf isLet s i - i > 12
   ·rw [if_pos hn] at h0; cases h0
   ·rw [if_neg hn]; exact ⟨.name _ _ (by omega) A (by simpa using hW) (by omega), rfl⟩
 ·rw [if_neg hL] at h0 ⊢
  by_cases hD : isDig (bt s i) = true
  ·rw [if_pos hD] at h0 ⊢
   have st := endOf_step hi hD
   have bd := endOf_bd (p := isDig) (s := s) _ (i + 1) rfl (by omega)
   have al := endOf_all (p := isDig) (s := s) _ i rfl (by omega)
   have A := AllB.sub (by omega) al.1
   have sz : (s.extract i (endOf isDig s i)).size = endOf isDig s i - i := exSize (by omega)
   by_cases hN : numBad s i = true
   ·rw [if_pos hN] at h0; cases h0
   ·rw [if_neg hN]
    unfold numBad at hN
    simp only [Bool.or_eq_true, Bool.and_eq_true, decide_eq_true_eq, not_or, not_and, beq_iff_eq] at hN
    refine ⟨?_, rfl⟩
    have e : numGo s (endOf isDig s i - i) i 0 = numGo (s.extract i (endOf isDig s i)) (s.extract i (endOf isDig s i)).size 0 0 := by
     rw [sz]; exact numGo_eq _ _ _ _ (fun k hk => by rw [bt_ext (by omega) (by omega), Nat.zero_add])
    unfold numTok
    rw [e]
    refine .num _ _ (by omega) A (by omega) (fun h => ?_)
    rw [bt_ext (by omega) (by omega)]
    exact hN.1.2 (by omega)
  ·rw [if_neg hD] at h0 ⊢
   by_cases h34 : bt s i = 34
   ·rw [if_pos h34] at h0 ⊢
    have bd := endOf_bd (p := isPln) (s := s) _ (i + 1) rfl (by omega)
    have al := endOf_all (p := isPln) (s := s) _ (i + 1) rfl (by omega)
    have A := AllB.sub (by omega) al.1
    have sz : (s.extract (i + 1) (endOf isPln s (i + 1))).size = endOf isPln s (i + 1) - (i + 1) := exSize (by omega)
    by_cases hc : endOf isPln s (i + 1) ≥ s.size ∨ bt s (endOf isPln s (i + 1)) ≠ 34 ∨ endOf isPln s (i + 1) - i - 1 > 160
    ·rw [if_pos hc] at h0; cases h0
    ·rw [if_neg hc]
     exact ⟨.text _ _ A (by omega), rfl⟩
   ·rw [if_neg h34] at h0 ⊢
    cases hm : markOf s i with
    | none => rw [hm] at h0; cases h0
    | some m => exact ⟨.mark _ _ (List.mem_of_find?_eq_some hm), rfl⟩
theorem mark_sz : ∀ m, m ∈ marksL → m.size ≤ 2 := by decide +kernel
theorem hit_iff {s : ByteArray} {p : Nat} {m : ByteArray} : hitM s p m = true ↔ AtB s p m := by
 constructor
 ·intro h
  have e := hit_ext h
  unfold hitM at h
  simp only [Bool.and_eq_true, decide_eq_true_eq] at h
  have := AtB.of (s := s) (i := p) (e := p + m.size) (by omega) h.1
  rw [e] at this; exact this
 ·intro h
  unfold hitM
  rw [h.ext, decide_eq_true h.1]; simp
def strip (t : Tok) : Int × ByteArray × Int := (t.k, t.text, t.i)
theorem lexGo_inv {s : ByteArray} : ∀ (f i : Nat) (acc : List Tok), (∀ t, t ∈ acc → GTok t ∧ t.at' < (i : Int)) → acc.Pairwise (fun a b => a.at' < b.at') →
  (∀ t, t ∈ (lexGo s f i acc).1 → GTok t) ∧ (lexGo s f i acc).1.Pairwise (fun a b => a.at' < b.at') ∧ ((lexGo s f i acc).2.1 ≠ 0 → (lexGo s f i acc).1 = []) := by
 intro f
 induction f with
 | zero => intro i acc h p; exact ⟨fun t ht => (h t ht).1, p, fun h => absurd rfl h⟩
 | succ f ih =>
  intro i acc h p
  unfold lexGo
  by_cases h1 : s.size ≤ i
  ·rw [if_pos h1]; exact ⟨fun t ht => (h t ht).1, p, fun h => absurd rfl h⟩
  rw [if_neg h1]
  by_cases h2 : bt s i = 9 ∨ bt s i = 10 ∨ bt s i = 32
  ·rw [if_pos h2]; exact ih _ _ (fun t ht => ⟨(h t ht).1, by have := (h t ht).2; omega⟩) p
  rw [if_neg h2]
  by_cases h3 : bt s i = 45 ∧ i + 1 < s.size ∧ bt s (i + 1) = 45
  ·rw [if_pos h3]
   have := (endOf_bd (p := fun b => b != 10) (s := s) _ i rfl (by omega)).1
   exact ih _ _ (fun t ht => ⟨(h t ht).1, by have := (h t ht).2; omega⟩) p
  rw [if_neg h3]
  by_cases h4 : (tokR s i).2.1 ≠ 0
  ·rw [if_pos h4]; exact ⟨fun t ht => (List.not_mem_nil ht).elim, .nil, fun _ => rfl⟩
  rw [if_neg h4]
  have h4' : (tokR s i).2.1 = 0 := by omega
  obtain ⟨g, ga⟩ := tokR_good (by omega) h4'
  have bd := tokR_bd (by omega) h4'
  refine ih _ _ (fun t ht => ?_) ?_
  ·rcases List.mem_append.1 ht with ht | ht
   ·exact ⟨(h t ht).1, by have := (h t ht).2; omega⟩
   ·obtain rfl := List.mem_singleton.1 ht
    exact ⟨g, by omega⟩
  ·rw [List.pairwise_append]
   refine ⟨p, List.pairwise_singleton _ _, fun a ha b hb => ?_⟩
   obtain rfl := List.mem_singleton.1 hb
   have := (h a ha).2; omega
theorem lexR_inv (s : ByteArray) : (∀ t, t ∈ (lexR s).1 → GTok t) ∧ (lexR s).1.Pairwise (fun a b => a.at' < b.at') ∧ ((lexR s).2.1 ≠ 0 → (lexR s).1 = []) := by
 unfold lexR
 by_cases h : s.size > 3000
 ·rw [if_pos h]; exact ⟨fun t ht => (List.not_mem_nil ht).elim, .nil, fun _ => rfl⟩
 ·rw [if_neg h]; exact lexGo_inv _ _ _ (fun t ht => (List.not_mem_nil ht).elim) .nil
def IOwn (b : Nat) (h : AHeap) (v : Value) (xs : List Int) : Prop := ∃ i, v = slc i 0 xs.length ∧ Own b h i 3 (ints xs)
def inR (x a b : Int) : Bool := decide (a ≤ x) && decide (x ≤ b)
theorem l103 (d : Nat) (x a b : Int) (h : AHeap) : call Tp Ms (d + 1) 144 [.int .i64 x, .int .i64 a, .int .i64 b] h = some (.bool (inR x a b), h) := by
 rw [c144, e144]; unfold inR
 by_cases h1 : a ≤ x
 ·have : x ≥ a := h1
  rw [decide_eq_true this, cond_true]; rfl
 ·have : ¬ x ≥ a := h1
  rw [decide_eq_false this, cond_false]; rfl
def cls (k : Int) : Int := if inR k 1 13 = true then 1 else if inR k 14 20 = true then 2 else if k = 21 then 3 else if k = 22 then 4 else if k = 23 ∨ k = 24 then 5 else 0
def two2 (k : Int) : Bool := k == 8 || (k == 10 || (k == 12 || (k == 13 || k == 24)))
def one1 (k : Int) : Bool := k == 11 || (k == 14 || (k == 15 || (k == 19 || k == 23)))
def shape (k : Int) (m : Nat) : List Int :=
 if k = 6 then List.replicate (m - 1) 4 ++ [3]
 else if k = 7 then List.replicate m 5
 else if two2 k = true then [1, 1]
 else if k = 9 then [1] ++ List.replicate (m - 1) 1
 else if one1 k = true then [1]
 else if k = 16 then [1, 1, 1]
 else if k = 17 then (if m = 3 then [1, 3, 3] else [1, 3])
 else if k = 18 then [1, 3]
 else if k = 20 then [6]
 else if k = 21 then List.replicate m 2
 else []
def emp (t : ByteArray) : Bool := t.toList == (⟨#[]⟩ : ByteArray).toList
def nameP (t : ByteArray) : Bool := inR (t.size : Int) 1 12 && (!isWd t && decide (endOf isLet t 0 = t.size))
def textP (t : ByteArray) : Bool := decide ((t.size : Int) ≤ 160) && decide (endOf isPln t 0 = t.size)
def nm4 (k : Int) : Bool := k == 5 || (k == 14 || (k == 15 || k == 22))
def hasP (n : Kn) : Bool :=
 if nm4 n.k = true then nameP n.t && n.i == 0
 else if n.k = 4 then textP n.t && n.i == 0
 else emp n.t && (if n.k = 2 then inR n.i 0 1 else if n.k = 3 then inR n.i 0 999999999999999 else if n.k = 10 then inR n.i 1 10 else if n.k = 11 then inR n.i 1 3 else n.i == 0)
def clsOk (c k : Int) : Bool := if c = 6 then k == 9 else (cls k == c && c != 0)
def RowE (h : AHeap) (i : Nat) (e : TypeId) (cs : List Value) : Prop := ∃ o, h.at? i = some o ∧ o.elem = e ∧ o.cells = cs
theorem RowE.row {h : AHeap} {i : Nat} {e : TypeId} {cs : List Value} (x : RowE h i e cs) : Row h i cs := let ⟨o, a, _, b⟩ := x; ⟨o, a, b⟩
theorem Own.rowE {b : Nat} {h : AHeap} {i : Nat} {e : TypeId} {cs : List Value} (x : Own b h i e cs) : RowE h i e cs := let ⟨_, _, a, _⟩ := x; ⟨_, a, rfl, rfl⟩
theorem RowE.new (h : AHeap) (e : TypeId) (cs : List Value) : RowE (h.new e cs) h.size e cs := Own.rowE (Own.new (Nat.le_refl h.size) e cs)
theorem l147 {d : Nat} (hd : 1048577 < d) (t : ByteArray) (h : AHeap) : call Tp Ms (d + 2) 294 [.string t] h = some (.bool (nameP t), h) := by
 have c1 : ∀ (x a b : Int) (h : AHeap), call Tp Ms (d + 1) 144 [.int .i64 x, .int .i64 a, .int .i64 b] h = some (.bool (inR x a b), h) := l103 d
 have c2 : ∀ (h : AHeap), call Tp Ms (d + 1) 276 [.string t] h = some (.bool (isWd t), h) := l93 d t
 rw [c294, e294, c1, oBs]
 simp only [asB, oBs]
 unfold nameP
 cases hR : inR (t.size : Int) 1 12 with
 | false => rfl
 | true =>
  have hs : t.size ≤ 12 := by
   unfold inR at hR
   simp at hR; omega
  have l51' := l51 (d := d) (g := 275) (p := isLet) (s := t) (by omega) (by omega) (fun n h => by obtain ⟨d, rfl⟩ : ∃ k, d = k + 1 := ⟨d - 1, by omega⟩; exact l92 d n h) (i := 0) (by omega) h
  have l51'' : call Tp Ms (d + 1) 191 [.string t, .int .i64 0, .func (.func 275) #[] #[]] h = some (.int .i64 (endOf isLet t 0 : Nat), h) := l51'
  rw [cond_true, l51'', oBs]
  simp only [asI, if_true, oBs, Bool.true_and]
  generalize endOf isLet t 0 = e
  by_cases he : e = t.size
  ·have : (((e : Nat) : Int) == (t.size : Int)) = true := by rw [he]; simp
   rw [this, cond_true, c2, oBs]
   simp only [asB, oBs, decide_eq_true he, Bool.and_true]
  ·have : (((e : Nat) : Int) == (t.size : Int)) = false := by rw [beq_eq_false_iff_ne]; omega
   rw [this, cond_false, decide_eq_false he, Bool.and_false]
theorem l104 {d c : Nat} (hd : 1048577 < d) {kv : Value} {n : Kn} {h : AHeap} (x : ISl c h kv n.ks) :
  ∃ h', call Tp Ms (d + 3) 207 [knVal n kv] h = some (.bool (hasP n), h') ∧ Ext h.size h h' := by
 have e1 := Ext.new (Nat.le_refl h.size) 48 (knCells n kv)
 have r1 : Row (h.new 48 (knCells n kv)) h.size [.int .i64 n.k, .string n.t, .int .i64 n.i, kv] := (Own.new (b := h.size) (Nat.le_refl _) 48 (knCells n kv)).row
 rw [c207, e207, kn_aCells x, oBs]
 simp only [aNew]
 generalize h.new 48 (knCells n kv) = h1 at e1 r1 ⊢
 obtain ⟨a0, a1, a2, a3, _⟩ := ld4 r1
 have l103' : ∀ (x a b : Int) (h : AHeap), call Tp Ms (d + 2) 144 [.int .i64 x, .int .i64 a, .int .i64 b] h = some (.bool (inR x a b), h) := l103 (d + 1)
 simp only [aOff_ptr, Nat.zero_add, oBs, a0, asI, if_true]
 have E : ∀ f : Bool → Option (Value × AHeap), (bif n.k == 5 then f (n.k == 5) else bif n.k == 14 then f (n.k == 14) else bif n.k == 15 then f (n.k == 15) else f (n.k == 22)) = f (nm4 n.k) := by
  intro f; unfold nm4
  cases (n.k == 5) <;> cases (n.k == 14) <;> cases (n.k == 15) <;> rfl
 rw [E (fun t => s207_0 hk0 (call Tp Ms (d + 2)) (d + 2) (ptr h.size 0) n.k t h1), s207_0_j, s207_0_eq]
 refine ⟨h1, ?_, e1⟩
 unfold hasP
 have hE : (n.t.toList == (⟨#[]⟩ : ByteArray).toList) = emp n.t := rfl
 cases nm4 n.k with
 | true =>
  rw [cond_true, if_pos rfl]
  simp only [aOff_ptr, Nat.zero_add, oBs, a1, asS]
  rw [l147 hd, oBs]
  simp only [asB, oBs]
  cases nameP n.t with
  | true => simp only [cond_true, a2, oBs, asI, if_true, Bool.true_and]
  | false => rfl
 | false =>
  rw [cond_false, if_neg (by simp)]
  simp only [aOff_ptr, Nat.zero_add, oBs, a1, a2, asS, asI, if_true]
  rw [hE]
  by_cases k4 : n.k = 4
  ·rw [if_pos k4, k4, show ((4 : Int) == 4) = true from rfl, cond_true]
   unfold textP
   by_cases hs : (n.t.size : Int) ≤ 160
   ·have l51' := l51 (d := d + 1) (g := 279) (p := isPln) (s := n.t) (by omega) (by omega) (fun n h => l96 d n h) (i := 0) (by omega) h1
    have l51'' : call Tp Ms (d + 2) 191 [.string n.t, .int .i64 0, .func (.func 279) #[] #[]] h1 = some (.int .i64 (endOf isPln n.t 0 : Nat), h1) := l51'
    rw [decide_eq_true hs, cond_true, l51'', oBs, Bool.true_and]
    simp only [asI, if_true, oBs, a1, asS, vbeq_str, cond_true]
    generalize endOf isPln n.t 0 = e
    by_cases he : e = n.t.size
    ·have : (((e : Nat) : Int) == (n.t.size : Int)) = true := by rw [he]; simp
     rw [this, cond_true, decide_eq_true he, Bool.true_and, a2, oBs]
     simp only [asI, if_true, oBs]
    ·have : (((e : Nat) : Int) == (n.t.size : Int)) = false := by rw [beq_eq_false_iff_ne]; omega
     rw [this, cond_false, decide_eq_false he, Bool.false_and]
   ·rw [decide_eq_false hs, cond_false]; simp
  rw [beq_eq_false_iff_ne.2 k4, cond_false, if_neg k4]
  by_cases k2 : n.k = 2
  ·rw [if_pos k2, k2, show ((2 : Int) == 2) = true from rfl, cond_true, l103', oBs]
   cases emp n.t <;> rfl
  rw [beq_eq_false_iff_ne.2 k2, cond_false, if_neg k2]
  by_cases k3 : n.k = 3
  ·rw [if_pos k3, k3, show ((3 : Int) == 3) = true from rfl, cond_true, l103', oBs]
   cases emp n.t <;> rfl
  rw [beq_eq_false_iff_ne.2 k3, cond_false, if_neg k3]
  by_cases k10 : n.k = 10
  ·rw [if_pos k10, k10, show ((10 : Int) == 10) = true from rfl, cond_true, l103', oBs]
   cases emp n.t <;> rfl
  rw [beq_eq_false_iff_ne.2 k10, cond_false, if_neg k10]
  by_cases k11 : n.k = 11
  ·rw [if_pos k11, k11, show ((11 : Int) == 11) = true from rfl, cond_true, l103', oBs]
   cases emp n.t <;> rfl
  rw [beq_eq_false_iff_ne.2 k11, cond_false, if_neg k11, s207_1_j, s207_1_eq]
  simp only [aOff_ptr, Nat.zero_add, oBs, a1, a2, asS, asI, if_true]
  rw [hE]
  cases emp n.t <;> rfl
theorem callV0 (C : ACall) (g : FuncId) (args : List Value) (h : AHeap) : aCallV C (.func (.func g) #[] #[]) args h = C g args h := by simp only [aCallV, List.append_nil, List.nil_append]
theorem callV1 (C : ACall) (g : FuncId) (p : Value) (args : List Value) (h : AHeap) : aCallV C (.func (.func g) #[] #[p]) args h = C g (args ++ [p]) h := by simp only [aCallV, List.nil_append]
theorem callV2 (C : ACall) (g : FuncId) (p q : Value) (args : List Value) (h : AHeap) : aCallV C (.func (.func g) #[] #[p, q]) args h = C g (args ++ [p, q]) h := by simp only [aCallV, List.nil_append]
def FnV (D c : Nat) (h : AHeap) (v : Value) (P : Int → Bool) : Prop := aCells v = some [v] ∧ ∀ h', Ext c h h' → ∀ n, aCallV (call Tp Ms D) v [.int .i64 n] h' = some (.bool (P n), h')
theorem FnV.ext {D c : Nat} {h h' : AHeap} {v : Value} {P : Int → Bool} (x : FnV D c h v P) (e : Ext c h h') : FnV D c h' v P := ⟨x.1, fun h2 e2 => x.2 h2 (e.trans e2)⟩
theorem FnV.mono {D c c' : Nat} {h : AHeap} {v : Value} {P : Int → Bool} (x : FnV D c h v P) (hc : c ≤ c') : FnV D c' h v P := ⟨x.1, fun h2 e2 => x.2 h2 (e2.mono hc)⟩
def isEx (k : Int) : Bool := inR k 1 13
def isSt (k : Int) : Bool := inR k 14 20
theorem fn152 (d : Nat) (c : Nat) (h : AHeap) : FnV (d + 2) c h (.func (.func 299) #[] #[]) isEx := ⟨rfl, fun h' _ n => by
 rw [callV0]
 have l103' : ∀ (x a b : Int) (h : AHeap), call Tp Ms (d + 1) 144 [.int .i64 x, .int .i64 a, .int .i64 b] h = some (.bool (inR x a b), h) := l103 d
 rw [c299, e299, l103', oBs]; rfl⟩
theorem fn153 (d : Nat) (c : Nat) (h : AHeap) : FnV (d + 2) c h (.func (.func 300) #[] #[]) isSt := ⟨rfl, fun h' _ n => by
 rw [callV0]
 have l103' : ∀ (x a b : Int) (h : AHeap), call Tp Ms (d + 1) 144 [.int .i64 x, .int .i64 a, .int .i64 b] h = some (.bool (inR x a b), h) := l103 d
 rw [c300, e300, l103', oBs]; rfl⟩
theorem fn150 (d : Nat) (c : Nat) (h : AHeap) : FnV (d + 1) c h (.func (.func 297) #[] #[]) (fun k => k == 23 || k == 24) := ⟨rfl, fun h' _ n => by
 rw [callV0]
 rw [c297, e297]
 by_cases h1 : n = 23
 ·subst h1; rfl
 ·rw [beq_eq_false_iff_ne.2 h1, cond_false]
  simp only [beq_eq_false_iff_ne.2 h1, Bool.false_or]⟩
theorem l148 (d d' : Nat) (k : Int) (h : AHeap) : ∃ v h', call Tp Ms (d + 1) 295 [.int .i64 k] h = some (v, h') ∧ Ext h.size h h' ∧ FnV (d' + 1) h'.size h' v (fun n => n == k) := by
 have e1 := Ext.new (Nat.le_refl h.size) 3 [.int .i64 k]
 have r1 := (Own.new (b := h.size) (Nat.le_refl _) 3 [Value.int .i64 k]).row
 have s1 : (h.new 3 [.int .i64 k]).size = h.size + 1 := rfl
 refine ⟨.func (.func 360) #[] #[ptr h.size 0], h.new 3 [.int .i64 k], ?_, e1, rfl, fun h' e n => ?_⟩
 ·rw [c295, e295]; rfl
 ·rw [callV1, show [Value.int .i64 n] ++ [ptr h.size 0] = [.int .i64 n, ptr h.size 0] from rfl]
  have r2 := r1.ext e (by omega)
  have a : aLd1 h' (ptr h.size 0) = some (.int .i64 k) := r2.ld1 rfl
  rw [c360, e360, a, oBs]; rfl
def kd (T : List Kn) (k : Int) : Int := ((T[k.toNat]?).map Kn.k).getD 0
def RdI (c : Nat) (h : AHeap) (v : Value) (xs : List Int) : Prop := aLen v = some (.int .i64 xs.length) ∧ ∀ j (hj : j < xs.length), ∃ p, aIdx v (.int .i64 (j : Int)) 1 = some p ∧ ∀ h', Ext c h h' → aLd1 h' p = some (.int .i64 xs[j])
theorem ISl.rd {c : Nat} {h : AHeap} {v : Value} {xs : List Int} (x : ISl c h v xs) : RdI c h v xs := by
 refine ⟨x.len, fun j hj => ?_⟩
 obtain ⟨p, e1, _⟩ := x.at hj
 refine ⟨p, e1, fun h' e => ?_⟩
 obtain ⟨p', e1', e2'⟩ := (x.ext e).at hj
 rw [e1] at e1'; cases e1'
 exact e2'
theorem RdI.ext {c : Nat} {h h' : AHeap} {v : Value} {xs : List Int} (x : RdI c h v xs) (e : Ext c h h') : RdI c h' v xs := ⟨x.1, fun j hj => let ⟨p, a, b⟩ := x.2 j hj; ⟨p, a, fun h2 e2 => b h2 (e.trans e2)⟩⟩
theorem RdI.mono {c d : Nat} {h : AHeap} {v : Value} {xs : List Int} (x : RdI c h v xs) (hd : c ≤ d) : RdI d h v xs := ⟨x.1, fun j hj => let ⟨p, a, b⟩ := x.2 j hj; ⟨p, a, fun h2 e2 => b h2 (e2.mono hd)⟩⟩
def TreeP (c : Nat) (h : AHeap) (v : Value) (T : List Kn) : Prop := ∃ t nv top, v = ptr t 0 ∧ t < c ∧ Row h t [nv, .int .i64 top] ∧ KSl c h nv T
theorem TreeP.ext {c : Nat} {h h' : AHeap} {v : Value} {T : List Kn} (x : TreeP c h v T) (e : Ext c h h') : TreeP c h' v T := let ⟨t, nv, top, a, b, r, k⟩ := x; ⟨t, nv, top, a, b, r.ext e b, k.ext e⟩
theorem TreeP.mono {c d : Nat} {h : AHeap} {v : Value} {T : List Kn} (x : TreeP c h v T) (hd : c ≤ d) : TreeP d h v T := let ⟨t, nv, top, a, b, r, k⟩ := x; ⟨t, nv, top, a, Nat.lt_of_lt_of_le b hd, r, k.mono hd⟩
theorem TreeP.cells {c : Nat} {h : AHeap} {v : Value} {T : List Kn} (x : TreeP c h v T) : aCells v = some [v] ∧ aNil v = some v := by obtain ⟨t, nv, top, rfl, _⟩ := x; exact ⟨rfl, rfl⟩
theorem TreeP.nodes {c : Nat} {h : AHeap} {v : Value} {T : List Kn} (x : TreeP c h v T) : ∃ p nv, aOff v 0 = some p ∧ KSl c h nv T ∧ ∀ h', Ext c h h' → aLd1 h' p = some nv := by
 obtain ⟨t, nv, top, rfl, b, r, k⟩ := x
 exact ⟨ptr t 0, nv, rfl, k, fun h' e => (r.ext e b).ld1 rfl⟩
theorem KSl.kind {c : Nat} {h : AHeap} {v : Value} {ns : List Kn} (x : KSl c h v ns) {k : Int} (h0 : 0 ≤ k) (h1 : k < ns.length) : ∃ i, aIdx v (.int .i64 k) 4 = some (ptr i (k.toNat * 4)) ∧ ∀ h', Ext c h h' → aLd1 h' (ptr i (k.toNat * 4)) = some (.int .i64 (kd ns k)) := by
 obtain ⟨j, rfl⟩ : ∃ j : Nat, k = (j : Int) := ⟨k.toNat, by omega⟩
 have hj : j < ns.length := by omega
 obtain ⟨i, kv, e1, _, e1003⟩ := x.at hj
 refine ⟨i, e1, fun h' e => ?_⟩
 have : kd ns (j : Int) = ns[j].k := by unfold kd; simp [hj]
 rw [this]; exact (e1003 h' e).2.1
theorem l187 {D c : Nat} {tv fv : Value} {T : List Kn} {P : Int → Bool} {h : AHeap} (x : TreeP c h tv T) (f : FnV D c h fv P) {p5 p2 : Nat} (r5 : Row h p5 [fv]) (r2 : Row h p2 [tv]) {k : Int} (h0 : 0 ≤ k) (h1 : k < T.length) :
  call Tp Ms (D + 1) 362 [.int .i64 k, ptr p5 0, ptr p2 0] h = some (.bool (!P (kd T k)), h) := by
 obtain ⟨p, nv, e1, e2, e1003⟩ := x.nodes
 obtain ⟨i, e1004, e1005⟩ := e2.kind h0 h1
 have a5 : aLd1 h (ptr p5 0) = some fv := r5.ld1 rfl
 have a2 : aLd1 h (ptr p2 0) = some tv := r2.ld1 rfl
 rw [c362, e362]
 simp only [a5, a2, oBs, x.cells.2, e1, e1003 h (Ext.refl _ _), e1004, aOff_ptr, Nat.add_zero, e1005 h (Ext.refl _ _), asI, if_true]
 rw [f.2 h (Ext.refl _ _), oBs]
 rfl
theorem idx_loop {D N c : Nat} {cv v : Value} {xs : List Int} {Q : Int → Bool} {h : AHeap} (hQ : ∀ k ∈ xs, aCallV (call Tp Ms D) cv [.int .i64 k] h = some (.bool (Q k), h)) (hl : xs.length ≤ 1048576) (x : RdI c h v xs) :
  ∀ (k j m : Nat), xs.length - j = k → j ≤ xs.length → k < m → ∃ r : Int, s385_0 hk0 (call Tp Ms D) N m v cv (xs.length : Int) (j : Int) h = some (.int .i64 r, h) ∧ (decide (r ≥ 0) = (xs.drop j).any Q) := by
 intro k
 induction k with
 | zero =>
  intro j m hk hj hm
  obtain ⟨m, rfl⟩ : ∃ q, m = q + 1 := ⟨m - 1, by omega⟩
  have : ¬ ((j : Int) < (xs.length : Int)) := by omega
  refine ⟨-1, ?_, by rw [List.drop_eq_nil_of_le (by omega)]; rfl⟩
  rw [s385_0_eq, decide_eq_false this, cond_false]
 | succ k ih =>
  intro j m hk hj hm
  obtain ⟨m, rfl⟩ : ∃ q, m = q + 1 := ⟨m - 1, by omega⟩
  have hlt : j < xs.length := by omega
  have hI : ((j : Int) < (xs.length : Int)) := by omega
  obtain ⟨p, e1, e2⟩ := x.2 j hlt
  have wj : IntKind.i64.wrap ((j : Int) + 1) = ((j + 1 : Nat) : Int) := by rw [wr (by omega) (by omega)]; omega
  rw [s385_0_eq, decide_eq_true hI, cond_true, e1, oBs, e2 h (Ext.refl _ _), oBs]
  simp only [asI, if_true, oBs]
  rw [hQ _ (List.getElem_mem hlt), oBs, List.drop_eq_getElem_cons hlt, List.any_cons]
  simp only [asB, oBs]
  cases Q xs[j] with
  | true => exact ⟨j, rfl, by rw [Bool.true_or]; simp⟩
  | false =>
   rw [cond_false, wj, Bool.false_or]
   exact ih (j + 1) m (by omega) (by omega) (by omega)
theorem l149 {d c : Nat} (hd : 1048577 < d) {tv v fv : Value} {T : List Kn} {xs : List Int} {P : Int → Bool} {h : AHeap} (x : TreeP c h tv T) (f : FnV d c h fv P) (y : RdI c h v xs) (hc : c ≤ h.size) (hl : xs.length ≤ 1048576) (hx : ∀ k ∈ xs, 0 ≤ k ∧ k < T.length) :
  ∃ h', call Tp Ms (d + 4) 296 [tv, v, fv] h = some (.bool ((xs.map (kd T)).all P), h') ∧ Ext h.size h h' := by
 have e1 := Ext.new (Nat.le_refl h.size) 155 [tv]
 have r1 := (Own.new (b := h.size) (Nat.le_refl _) 155 [tv]).row
 have s1 : (h.new 155 [tv]).size = h.size + 1 := rfl
 rw [c296, e296, x.cells.1, oBs]
 simp only [aNew]
 generalize h.new 155 [tv] = h1 at e1 r1 s1 ⊢
 rw [f.1, oBs]
 have e2 := Ext.new (Nat.le_refl h1.size) 131 [fv]
 have r2 := (Own.new (b := h1.size) (Nat.le_refl _) 131 [fv]).row
 have s2 : (h1.new 131 [fv]).size = h1.size + 1 := rfl
 generalize h1.new 131 [fv] = h2 at e2 r2 s2 ⊢
 have E : Ext h.size h h2 := e1.trans (e2.mono (by omega))
 have r12 := r1.ext e2 (by omega)
 refine ⟨h2, ?_, E⟩
 have hf : aFn 362 [] [ptr h1.size 0, ptr h.size 0] = some (.func (.func 362) #[] #[ptr h1.size 0, ptr h.size 0]) := rfl
 have x2 := x.ext (E.mono hc)
 have f2 := f.ext (E.mono hc)
 have y2 := y.ext (E.mono hc)
 have q : ∀ k ∈ xs, aCallV (call Tp Ms (d + 1)) (.func (.func 362) #[] #[ptr h1.size 0, ptr h.size 0]) [.int .i64 k] h2 = some (.bool (!P (kd T k)), h2) := fun k hk => by
  rw [callV2, show [Value.int .i64 k] ++ [ptr h1.size 0, ptr h.size 0] = [.int .i64 k, ptr h1.size 0, ptr h.size 0] from rfl]
  exact l187 x2 f2 r2 r12 (hx k hk).1 (hx k hk).2
 obtain ⟨r, c1003, hr⟩ := idx_loop (N := d + 1) (Q := fun k => !P (kd T k)) q hl y2 xs.length 0 (d + 1) (by omega) (by omega) (by omega)
 have c385' : call Tp Ms (d + 2) 385 [v, .func (.func 362) #[] #[ptr h1.size 0, ptr h.size 0]] h2 = some (.int .i64 r, h2) := by
  rw [c385, e385, y.1, oBs]
  simp only [asI, if_true, oBs]
  exact c1003
 have c361' : call Tp Ms (d + 3) 361 [v, .func (.func 362) #[] #[ptr h1.size 0, ptr h.size 0]] h2 = some (.bool (decide (r ≥ 0)), h2) := by
  rw [c361, e361, c385', oBs]
  simp only [asI, if_true, oBs]
 have hb : ∀ l : List Int, (!(l.any fun k => !P (kd T k))) = (l.map (kd T)).all P := by
  intro l
  induction l with
  | nil => rfl
  | cons k l ih =>
   rw [List.any_cons, List.map_cons, List.all_cons, ← ih, Bool.not_or, Bool.not_not]
 have hr2 : (!decide (r ≥ 0)) = (xs.map (kd T)).all P := by rw [hr, List.drop_zero]; exact hb xs
 rw [hf, oBs, c361', oBs]
 simp only [asB, oBs]
 rw [hr2]
theorem nodeRow {h : AHeap} {q : Nat} {n : Kn} {kv : Value} (r : Row h q (knCells n kv)) : aLd1 h (ptr q 0) = some (.int .i64 n.k) ∧ aLd1 h (ptr q 3) = some kv ∧ aLdN h (ptr q 0) 4 = some (knVal n kv) := by
 obtain ⟨a, _, _, b, c⟩ := ld4 r
 exact ⟨a, b, c⟩
theorem kidsAre_loop {d N c : Nat} {tv fs : Value} {T : List Kn} {n : Kn} {kv : Value} {Ps : List (Value × (Int → Bool))} {q r : Nat} (hl : n.ks.length ≤ 1048576) (hp : Ps.length = n.ks.length) (hx : ∀ k ∈ n.ks, 0 ≤ k ∧ k < T.length) {h : AHeap}
  (x : TreeP c h tv T) (y : ISl c h kv n.ks) (rq : Row h q (knCells n kv)) (rf : Row h r (Ps.map Prod.fst)) (hfs : fs = slc r 0 Ps.length) (hf : ∀ j (hj : j < Ps.length), FnV d c h (Ps[j]).1 (Ps[j]).2) :
  ∀ (k j m : Nat), n.ks.length - j = k → j ≤ n.ks.length → k < m →
   s298_0 hk0 (call Tp Ms d) N m tv (ptr q 0) fs (n.ks.length : Int) (j : Int) h = some (.bool (((n.ks.drop j).zip (Ps.drop j)).all fun p => p.2.2 (kd T p.1)), h) := by
 intro k
 induction k with
 | zero =>
  intro j m hk hj hm
  obtain ⟨m, rfl⟩ : ∃ q, m = q + 1 := ⟨m - 1, by omega⟩
  have : ¬ ((j : Int) < (n.ks.length : Int)) := by omega
  rw [s298_0_eq, decide_eq_false this, cond_false, List.drop_eq_nil_of_le (by omega)]; rfl
 | succ k ih =>
  intro j m hk hj hm
  obtain ⟨m, rfl⟩ : ∃ q, m = q + 1 := ⟨m - 1, by omega⟩
  have hlt : j < n.ks.length := by omega
  have hlt2 : j < Ps.length := by omega
  have hI : ((j : Int) < (n.ks.length : Int)) := by omega
  obtain ⟨p, e1, e2⟩ := y.at hlt
  obtain ⟨pn, nv, g1, g2, g3⟩ := x.nodes
  obtain ⟨b0, b3, _⟩ := nodeRow rq
  have hk := hx _ (List.getElem_mem hlt)
  obtain ⟨i, k1, k2⟩ := g2.kind hk.1 hk.2
  have hix : aIdx fs (.int .i64 (j : Int)) 1 = some (ptr r j) := by rw [hfs]; simp [aIdx, slc, hlt2]
  have hld : aLd1 h (ptr r j) = some (Ps[j]).1 := rf.ld1 (by simp [hlt2])
  have wj : IntKind.i64.wrap ((j : Int) + 1) = ((j + 1 : Nat) : Int) := by rw [wr (by omega) (by omega)]; omega
  rw [s298_0_eq, decide_eq_true hI, cond_true, List.drop_eq_getElem_cons hlt, List.drop_eq_getElem_cons hlt2, List.zip_cons_cons, List.all_cons]
  simp only [hix, hld, oBs, x.cells.2, g1, g3 h (Ext.refl _ _), aOff_ptr, Nat.zero_add, b3, e1, e2, asI, if_true, k1, Nat.add_zero, k2 h (Ext.refl _ _)]
  rw [(hf j hlt2).2 h (Ext.refl _ _), oBs]
  simp only [asB, oBs]
  cases (Ps[j]).2 (kd T n.ks[j]) with
  | false => rfl
  | true =>
   rw [Bool.not_true, cond_false, wj, Bool.true_and]
   exact ih (j + 1) m (by omega) (by omega) (by omega)
theorem l151 {d c : Nat} (hd : 1048577 < d) {tv : Value} {T : List Kn} {n : Kn} {kv : Value} {Ps : List (Value × (Int → Bool))} {r : Nat} (hl : n.ks.length ≤ 1048576) (hps : Ps.length ≤ 10) (hx : ∀ k ∈ n.ks, 0 ≤ k ∧ k < T.length) {h : AHeap}
  (x : TreeP c h tv T) (y : ISl c h kv n.ks) (hc : c ≤ h.size) (rf : Row h r (Ps.map Prod.fst)) (hr : r < h.size) (hf : ∀ j (hj : j < Ps.length), FnV d c h (Ps[j]).1 (Ps[j]).2) :
  ∃ h', call Tp Ms (d + 1) 298 [tv, knVal n kv, slc r 0 Ps.length] h = some (.bool (decide (n.ks.length = Ps.length) && (n.ks.zip Ps).all fun p => p.2.2 (kd T p.1)), h') ∧ Ext h.size h h' := by
 have e1 := Ext.new (Nat.le_refl h.size) 48 (knCells n kv)
 have r1 : Row (h.new 48 (knCells n kv)) h.size (knCells n kv) := (Own.new (b := h.size) (Nat.le_refl _) 48 (knCells n kv)).row
 rw [c298, e298, kn_aCells y, oBs]
 simp only [aNew]
 generalize h.new 48 (knCells n kv) = h1 at e1 r1 ⊢
 refine ⟨h1, ?_, e1⟩
 obtain ⟨_, b3, _⟩ := nodeRow r1
 have hlen : aLen (slc r 0 Ps.length) = some (.int .i64 (Ps.length : Int)) := rfl
 simp only [aOff_ptr, Nat.zero_add, oBs, b3, y.len, hlen, asI, if_true]
 by_cases hp : n.ks.length = Ps.length
 ·have : ((n.ks.length : Int) != (Ps.length : Int)) = false := by simp [hp]
  rw [this, cond_false, decide_eq_true hp, Bool.true_and]
  have := kidsAre_loop (d := d) (N := d) hl hp.symm hx (x.ext (e1.mono hc)) (y.ext (e1.mono hc)) r1 (rf.ext e1 hr) rfl (fun j hj => (hf j hj).ext (e1.mono hc)) n.ks.length 0 d (by omega) (by omega) (by omega)
  rw [← hp]
  rw [← hp] at this
  exact this
 ·have : ((n.ks.length : Int) != (Ps.length : Int)) = true := by simp; omega
  rw [this, cond_true, decide_eq_false hp, Bool.false_and]
def leaf (k : Int) : Bool := k == 1 || (k == 2 || (k == 3 || (k == 4 || (k == 5 || k == 22))))
def isBl (k : Int) : Bool := k == 21
def kidsAreP (kk : List Int) (Ps : List (Int → Bool)) : Bool := decide (kk.length = Ps.length) && (kk.zip Ps).all fun p => p.2 p.1
def kidsP (k : Int) (kk : List Int) : Bool :=
 if leaf k = true then decide (kk.length = 0)
 else if k = 6 then decide (0 < kk.length) && (kk.dropLast.all (· == 22) && kk.getLast? == some 21)
 else if k = 7 then kk.all fun k => k == 23 || k == 24
 else if two2 k = true then kidsAreP kk [isEx, isEx]
 else if k = 9 then decide (0 < kk.length) && kk.all isEx
 else if one1 k = true then kidsAreP kk [isEx]
 else if k = 16 then kidsAreP kk [isEx, isEx, isEx]
 else if k = 17 then kidsAreP kk [isEx, isBl] || kidsAreP kk [isEx, isBl, isBl]
 else if k = 18 then kidsAreP kk [isEx, isBl]
 else if k = 20 then kidsAreP kk [fun k => k == 9]
 else if k = 21 then kk.all isSt
 else false
theorem zip_all {T : List Kn} : ∀ (xs : List Int) (Ps : List (Value × (Int → Bool))), ((xs.zip Ps).all fun p => p.2.2 (kd T p.1)) = (((xs.map (kd T)).zip (Ps.map Prod.snd)).all fun p => p.2 p.1)
 | [], _ => by simp
 | x :: xs, [] => by simp
 | x :: xs, p :: ps => by
  rw [List.zip_cons_cons, List.map_cons, List.map_cons, List.zip_cons_cons, List.all_cons, List.all_cons, zip_all xs ps]
theorem are151 {d c : Nat} (hd : 1048577 < d) {tv : Value} {T : List Kn} {n : Kn} {kv : Value} (Ps : List (Value × (Int → Bool))) (hl : n.ks.length ≤ 1048576) (hps : Ps.length ≤ 10) (hx : ∀ k ∈ n.ks, 0 ≤ k ∧ k < T.length) {h : AHeap}
  (x : TreeP c h tv T) (y : ISl c h kv n.ks) (hc : c ≤ h.size) (hf : ∀ j (hj : j < Ps.length), FnV d c h (Ps[j]).1 (Ps[j]).2) :
  ∃ h', call Tp Ms (d + 1) 298 [tv, knVal n kv, slc h.size 0 Ps.length] (h.new 131 (Ps.map Prod.fst)) = some (.bool (kidsAreP (n.ks.map (kd T)) (Ps.map Prod.snd)), h') ∧ Ext h.size h h' := by
 have e1 := Ext.new (Nat.le_refl h.size) 131 (Ps.map Prod.fst)
 have r1 := (Own.new (b := h.size) (Nat.le_refl _) 131 (Ps.map Prod.fst)).row
 have s1 : (h.new 131 (Ps.map Prod.fst)).size = h.size + 1 := rfl
 obtain ⟨h2, c2, x2⟩ := l151 hd hl hps hx (x.ext (e1.mono hc)) (y.ext (e1.mono hc)) (by omega) r1 (by omega) (fun j hj => (hf j hj).ext (e1.mono hc))
 refine ⟨h2, ?_, e1.trans (x2.mono (by omega))⟩
 rw [c2, zip_all]
 unfold kidsAreP
 rw [List.length_map, List.length_map]
theorem ISl.sub {c : Nat} {h : AHeap} {v : Value} {xs : List Int} (x : ISl c h v xs) (hx : 0 < xs.length) :
  ∃ v', (∀ h', Ext c h h' → aSub h' 3 v none (some (.int .i64 ((xs.length : Int) - 1))) 1 = some v') ∧ RdI c h v' xs.dropLast ∧ Go.AH.vbeq v' v' = true := by
 rcases x with ⟨rfl, rfl⟩ | ⟨a, n, rfl, rfl⟩ | ⟨i, o, rfl, h2, h3, h4, h5⟩
 ·simp at hx
 ·simp at hx
 ·have hd : (xs.dropLast).length = xs.length - 1 := by simp
  refine ⟨.slice (some ⟨i, 0, none⟩) (xs.length - 1) (xs.length - 1), fun h' e => ?_, ⟨?_, fun j hj => ⟨ptr i j, ?_, fun h' e => ?_⟩⟩, ?_⟩
  ·have hb : aBound (.int .i64 ((xs.length : Int) - 1)) xs.length = some (xs.length - 1) := by
    show (if 0 ≤ (xs.length : Int) - 1 ∧ (xs.length : Int) - 1 ≤ xs.length then some ((xs.length : Int) - 1).toNat else none) = _
    rw [if_pos ⟨by omega, by omega⟩]; congr 1; omega
   have he : (h'.at? i).map (·.elem) = some 3 := by rw [e.at? h5 h2]; simp [h3]
   show (if (h'.at? i).map (·.elem) = some 3 then (aBound (.int .i64 ((xs.length : Int) - 1)) xs.length).bind fun h => (some 0).bind fun l => some (Value.slice (some ⟨i, 0 + l * 1, none⟩) (h - l) (h - l)) else none) = _
   rw [if_pos he, hb]; rfl
  ·rw [hd]; rfl
  ·rw [hd] at hj
   simp [aIdx, hj]
  ·rw [hd] at hj
   have r : Row h' i (ints xs) := ⟨o, e.at? h5 h2, h4⟩
   rw [r.ld1 (v := .int .i64 xs[j]) (by simp [ints, show j < xs.length by omega])]
   simp [List.getElem_dropLast]
  ·exact vbeq1_self (.slice (some ⟨i, 0, none⟩) (xs.length - 1) (xs.length - 1)) rfl (fun _ _ _ h => by cases h)
theorem fill1 {a : Value} (ha : aCells a = some [a]) : aFill [.nilFunc] [(0, 1, a)] = some [a] := by simp [aFill, ha, splice]
theorem fill2 {a b : Value} (ha : aCells a = some [a]) (hb : aCells b = some [b]) : aFill [.nilFunc, .nilFunc] [(0, 1, a), (1, 1, b)] = some [a, b] := by simp [aFill, ha, hb, splice]
theorem fill3 {a b c : Value} (ha : aCells a = some [a]) (hb : aCells b = some [b]) (hc : aCells c = some [c]) : aFill [.nilFunc, .nilFunc, .nilFunc] [(0, 1, a), (1, 1, b), (2, 1, c)] = some [a, b, c] := by simp [aFill, ha, hb, hc, splice]
theorem kd_last {T : List Kn} {xs : List Int} (hx : 0 < xs.length) : (xs.map (kd T)).getLast? = some (kd T (xs[xs.length - 1]'(by omega))) := by
 rw [List.getLast?_eq_getElem?, List.length_map, List.getElem?_map, List.getElem?_eq_getElem (by omega)]; rfl
theorem l105 {d c : Nat} (hd : 1048577 < d) {tv : Value} {T : List Kn} {n : Kn} {kv : Value} (hl : n.ks.length ≤ 1048576) (hx : ∀ k ∈ n.ks, 0 ≤ k ∧ k < T.length) {h : AHeap} (x : TreeP c h tv T) (y : ISl c h kv n.ks) (hc : c ≤ h.size) :
  ∃ h', call Tp Ms (d + 7) 208 [tv, knVal n kv] h = some (.bool (kidsP n.k (n.ks.map (kd T))), h') ∧ Ext h.size h h' := by
 have e1 := Ext.new (Nat.le_refl h.size) 48 (knCells n kv)
 have r1 : Row (h.new 48 (knCells n kv)) h.size (knCells n kv) := (Own.new (b := h.size) (Nat.le_refl _) 48 (knCells n kv)).row
 have s1 : (h.new 48 (knCells n kv)).size = h.size + 1 := rfl
 rw [c208, e208, kn_aCells y, oBs]
 simp only [aNew]
 have x1 := x.ext (e1.mono hc)
 have y1 := y.ext (e1.mono hc)
 generalize h.new 48 (knCells n kv) = h1 at e1 r1 s1 x1 y1 ⊢
 obtain ⟨bf, h2, c2, e2, f2⟩ := l148 (d + 5) (d + 4) 21 h1
 have c2' : call Tp Ms (d + 6) 295 [.int .i64 21] h1 = some (bf, h2) := c2
 have s2 := e2.size
 have r2 := r1.ext e2 (by omega)
 have x2 := (x1.ext (e2.mono (by omega))).mono (show c ≤ h2.size by omega)
 have y2 := (y1.ext (e2.mono (by omega))).mono (show c ≤ h2.size by omega)
 have f2' : FnV (d + 5) h2.size h2 bf isBl := f2
 have E2 : Ext h.size h h2 := e1.trans (e2.mono (by omega))
 have f152 := fn152 (d + 3) h2.size h2
 rw [c2', oBs]
 obtain ⟨b0, b3, bN⟩ := nodeRow r2
 simp only [aOff_ptr, Nat.zero_add, oBs, b0, asI, if_true]
 have E : ∀ f : Bool → Option (Value × AHeap), (bif n.k == 1 then f (n.k == 1) else bif n.k == 2 then f (n.k == 2) else bif n.k == 3 then f (n.k == 3) else bif n.k == 4 then f (n.k == 4) else bif n.k == 5 then f (n.k == 5) else f (n.k == 22)) = f (leaf n.k) := by
  intro f; unfold leaf
  cases (n.k == 1) <;> cases (n.k == 2) <;> cases (n.k == 3) <;> cases (n.k == 4) <;> cases (n.k == 5) <;> rfl
 rw [E (fun t => s208_0 hk0 (call Tp Ms (d + 6)) (d + 6) tv (ptr h.size 0) bf n.k t h2), s208_0_j, s208_0_eq]
 suffices hs : ∃ h', _ = some (Value.bool (kidsP n.k (n.ks.map (kd T))), h') ∧ Ext h2.size h2 h' from by
  obtain ⟨h', a, b⟩ := hs
  exact ⟨h', a, E2.trans (b.mono (by omega))⟩
 unfold kidsP
 rw [List.length_map]
 have are := fun (Ps : List (Value × (Int → Bool))) (hp : Ps.length ≤ 10) (hf : ∀ j (hj : j < Ps.length), FnV (d + 5) h2.size h2 (Ps[j]).1 (Ps[j]).2) => are151 (d := d + 5) (by omega) Ps hl hp hx x2 y2 (Nat.le_refl _) hf
 cases leaf n.k with
 | true =>
  rw [cond_true, if_pos rfl]
  refine ⟨h2, ?_, Ext.refl _ _⟩
  simp only [aOff_ptr, Nat.zero_add, oBs, b3, y2.len, asI, if_true]
  have : ((n.ks.length : Int) == 0) = decide (n.ks.length = 0) := by rw [Bool.eq_iff_iff]; simp
  rw [this]
 | false =>
  rw [cond_false, if_neg (by simp)]
  by_cases k6 : n.k = 6
  ·rw [if_pos k6, k6, show ((6 : Int) == 6) = true from rfl, cond_true]
   simp only [aOff_ptr, Nat.zero_add, oBs, b3, y2.len, asI, if_true]
   have w : IntKind.i64.wrap ((n.ks.length : Int) - 1) = (n.ks.length : Int) - 1 := wr (by omega) (by omega)
   rw [w]
   by_cases hp : 0 < n.ks.length
   ·have hge : (n.ks.length : Int) - 1 ≥ 0 := by omega
    obtain ⟨v', g1, g2, g3⟩ := y2.sub hp
    obtain ⟨pf, h3, c1003, e1003, f3⟩ := l148 (d + 5) (d + 1) 22 h2
    have c1003' : call Tp Ms (d + 6) 295 [.int .i64 22] h2 = some (pf, h3) := c1003
    have s3 := e1003.size
    have r3 := r2.ext e1003 (by omega)
    obtain ⟨_, d3, _⟩ := nodeRow r3
    have x3 := (x2.ext e1003).mono s3
    have y3 := (y2.ext e1003).mono s3
    have hx' : ∀ k ∈ n.ks.dropLast, 0 ≤ k ∧ k < T.length := fun k hk => hx k (by rw [List.dropLast_eq_take] at hk; exact List.mem_of_mem_take hk)
    obtain ⟨h4, c1004, e1004⟩ := l149 (d := d + 2) (by omega) x3 f3 ((g2.ext e1003).mono s3) (Nat.le_refl _) (by simp; omega) hx'
    have c1004' : call Tp Ms (d + 6) 296 [tv, v', pf] h3 = _ := c1004
    have r4 := r3.ext e1004 (by omega)
    obtain ⟨_, d4, _⟩ := nodeRow r4
    have x4 := x3.ext e1004
    have y4 := y3.ext e1004
    refine ⟨h4, ?_, e1003.trans (e1004.mono s3)⟩
    rw [decide_eq_true hge, cond_true, g1 h2 (Ext.refl _ _), oBs, c1003', oBs]
    simp only [d3, y3.vbeq, oBs, cond_true, g1 h3 e1003, g3]
    rw [c1004', oBs, decide_eq_true hp, Bool.true_and, List.map_dropLast]
    simp only [asB, oBs]
    cases ((n.ks.map (kd T)).dropLast).all (fun n => n == 22) with
    | false => rfl
    | true =>
     rw [cond_true, Bool.true_and, kd_last hp]
     obtain ⟨pn, nv, k1, k2, k3⟩ := x4.nodes
     have hk := hx _ (List.getElem_mem (show n.ks.length - 1 < n.ks.length by omega))
     obtain ⟨i, m1, m2⟩ := k2.kind hk.1 hk.2
     obtain ⟨pk, q1, q2⟩ := y4.at (show n.ks.length - 1 < n.ks.length by omega)
     have q1' : aIdx kv (.int .i64 ((n.ks.length : Int) - 1)) 1 = some pk := by
      rw [show (n.ks.length : Int) - 1 = ((n.ks.length - 1 : Nat) : Int) by omega]; exact q1
     simp only [x4.cells.2, oBs, k1, k3 h4 (Ext.refl _ _), d4, q1', q2, asI, if_true, m1, aOff_ptr, Nat.add_zero, m2 h4 (Ext.refl _ _)]
     have : (kd T (n.ks[n.ks.length - 1]'(by omega)) == 21) = (some (kd T (n.ks[n.ks.length - 1]'(by omega))) == some 21) := rfl
     rw [this]
   ·have hge : ¬ (n.ks.length : Int) - 1 ≥ 0 := by omega
    rw [decide_eq_false hge, cond_false, decide_eq_false hp, Bool.false_and]
    exact ⟨h2, rfl, Ext.refl _ _⟩
  rw [beq_eq_false_iff_ne.2 k6, cond_false, if_neg k6]
  by_cases k7 : n.k = 7
  ·rw [if_pos k7, k7, show ((7 : Int) == 7) = true from rfl, cond_true]
   obtain ⟨h3, c1003, e1003⟩ := l149 (d := d + 2) (by omega) x2 (fn150 (d + 1) h2.size h2) y2.rd (Nat.le_refl _) hl hx
   have c1003' : call Tp Ms (d + 6) 296 [tv, kv, .func (.func 297) #[] #[]] h2 = _ := c1003
   refine ⟨h3, ?_, e1003⟩
   simp only [aOff_ptr, Nat.zero_add, oBs, b3]
   rw [c1003', oBs]; rfl
  rw [beq_eq_false_iff_ne.2 k7, cond_false, if_neg k7]
  have E2 : ∀ f : Bool → Option (Value × AHeap), (bif n.k == 8 then f (n.k == 8) else bif n.k == 10 then f (n.k == 10) else bif n.k == 12 then f (n.k == 12) else bif n.k == 13 then f (n.k == 13) else f (n.k == 24)) = f (two2 n.k) := by
   intro f; unfold two2
   cases (n.k == 8) <;> cases (n.k == 10) <;> cases (n.k == 12) <;> cases (n.k == 13) <;> rfl
  have E1 : ∀ f : Bool → Option (Value × AHeap), (bif n.k == 11 then f (n.k == 11) else bif n.k == 14 then f (n.k == 14) else bif n.k == 15 then f (n.k == 15) else bif n.k == 19 then f (n.k == 19) else f (n.k == 23)) = f (one1 n.k) := by
   intro f; unfold one1
   cases (n.k == 11) <;> cases (n.k == 14) <;> cases (n.k == 15) <;> cases (n.k == 19) <;> rfl
  rw [E2 (fun t => s208_1 hk0 (call Tp Ms (d + 6)) (d + 6) tv (ptr h.size 0) bf n.k t h2), s208_1_j, s208_1_eq]
  have FX := f152.1
  have FB := f2'.1
  cases two2 n.k with
  | true =>
   rw [cond_true, if_pos rfl]
   obtain ⟨h3, c1003, e1003⟩ := are [(.func (.func 299) #[] #[], isEx), (.func (.func 299) #[] #[], isEx)] (by decide) (fun j hj => by match j, hj with | 0, _ => exact f152 | 1, _ => exact f152)
   refine ⟨h3, ?_, e1003⟩
   have c1003' : call Tp Ms (d + 6) 298 [tv, knVal n kv, slc h2.size 0 2] (h2.new 131 [.func (.func 299) #[] #[], .func (.func 299) #[] #[]]) = _ := c1003
   rw [bN, oBs, fill2 FX FX, oBs]
   simp only [aNewS]
   rw [c1003', oBs]; rfl
  | false =>
   rw [cond_false, if_neg (by simp)]
   by_cases k9 : n.k = 9
   ·rw [if_pos k9, k9, show ((9 : Int) == 9) = true from rfl, cond_true]
    simp only [aOff_ptr, Nat.zero_add, oBs, b3, y2.len, asI, if_true]
    by_cases hp : 0 < n.ks.length
    ·have hp' : (n.ks.length : Int) > 0 := by omega
     obtain ⟨h3, c1003, e1003⟩ := l149 (d := d + 2) (by omega) x2 (fn152 d h2.size h2) y2.rd (Nat.le_refl _) hl hx
     have c1003' : call Tp Ms (d + 6) 296 [tv, kv, .func (.func 299) #[] #[]] h2 = _ := c1003
     refine ⟨h3, ?_, e1003⟩
     rw [decide_eq_true hp', cond_true, c1003', oBs, decide_eq_true hp, Bool.true_and]; rfl
    ·have hp' : ¬ (n.ks.length : Int) > 0 := by omega
     rw [decide_eq_false hp', cond_false, decide_eq_false hp, Bool.false_and]
     exact ⟨h2, rfl, Ext.refl _ _⟩
   rw [beq_eq_false_iff_ne.2 k9, cond_false, if_neg k9, E1 (fun t => s208_2 hk0 (call Tp Ms (d + 6)) (d + 6) tv (ptr h.size 0) bf n.k t h2), s208_2_j, s208_2_eq]
   have c298 : ∀ (Ps : List (Value × (Int → Bool))) (h3 h4 : AHeap) (b : Bool), call Tp Ms (d + 5 + 1) 298 [tv, knVal n kv, slc h3.size 0 Ps.length] (h3.new 131 (Ps.map Prod.fst)) = some (.bool b, h4) →
     (call Tp Ms (d + 6) 298 [tv, knVal n kv, slc h3.size 0 Ps.length] (h3.new 131 (Ps.map Prod.fst)) = some (.bool b, h4)) := fun _ _ _ _ h => h
   cases one1 n.k with
   | true =>
    rw [cond_true, if_pos rfl]
    obtain ⟨h3, c1003, e1003⟩ := are [(.func (.func 299) #[] #[], isEx)] (by decide) (fun j hj => by match j, hj with | 0, _ => exact f152)
    refine ⟨h3, ?_, e1003⟩
    have c1003' : call Tp Ms (d + 6) 298 [tv, knVal n kv, slc h2.size 0 1] (h2.new 131 [.func (.func 299) #[] #[]]) = _ := c1003
    rw [bN, oBs, fill1 FX, oBs]
    simp only [aNewS]
    rw [c1003', oBs]; rfl
   | false =>
    rw [cond_false, if_neg (by simp)]
    by_cases k16 : n.k = 16
    ·rw [if_pos k16, k16, show ((16 : Int) == 16) = true from rfl, cond_true]
     obtain ⟨h3, c1003, e1003⟩ := are [(.func (.func 299) #[] #[], isEx), (.func (.func 299) #[] #[], isEx), (.func (.func 299) #[] #[], isEx)] (by decide) (fun j hj => by match j, hj with | 0, _ => exact f152 | 1, _ => exact f152 | 2, _ => exact f152)
     refine ⟨h3, ?_, e1003⟩
     have c1003' : call Tp Ms (d + 6) 298 [tv, knVal n kv, slc h2.size 0 3] (h2.new 131 [.func (.func 299) #[] #[], .func (.func 299) #[] #[], .func (.func 299) #[] #[]]) = _ := c1003
     rw [bN, oBs, fill3 FX FX FX, oBs]
     simp only [aNewS]
     rw [c1003', oBs]; rfl
    rw [beq_eq_false_iff_ne.2 k16, cond_false, if_neg k16]
    by_cases k17 : n.k = 17
    ·rw [if_pos k17, k17, show ((17 : Int) == 17) = true from rfl, cond_true]
     obtain ⟨h3, c1003, e1003⟩ := are [(.func (.func 299) #[] #[], isEx), (bf, isBl)] (by show 2 ≤ 10; omega) (fun j hj => by match j, hj with | 0, _ => exact f152 | 1, _ => exact f2')
     have c1003' : call Tp Ms (d + 6) 298 [tv, knVal n kv, slc h2.size 0 2] (h2.new 131 [.func (.func 299) #[] #[], bf]) = _ := c1003
     rw [bN, oBs, fill2 FX FB, oBs]
     simp only [aNewS]
     rw [c1003', oBs]
     simp only [asB, oBs]
     have s3 := e1003.size
     have r3 := r2.ext e1003 (by omega)
     obtain ⟨_, _, dN⟩ := nodeRow r3
     have hP : (kidsAreP (n.ks.map (kd T)) (List.map Prod.snd [((Value.func (.func 299) #[] #[]), isEx), (bf, isBl)])) = kidsAreP (n.ks.map (kd T)) [isEx, isBl] := rfl
     rw [hP]
     cases kidsAreP (n.ks.map (kd T)) [isEx, isBl] with
     | true => exact ⟨h3, rfl, e1003⟩
     | false =>
      obtain ⟨h4, c1004, e1004⟩ := are151 (d := d + 5) (by omega) [(.func (.func 299) #[] #[], isEx), (bf, isBl), (bf, isBl)] hl (by show 3 ≤ 10; omega) hx ((x2.ext e1003).mono s3) ((y2.ext e1003).mono s3) (Nat.le_refl _) (fun j hj => by match j, hj with | 0, _ => exact fn152 (d + 3) h3.size h3 | 1, _ => exact (f2'.ext e1003).mono s3 | 2, _ => exact (f2'.ext e1003).mono s3)
      have c1004' : call Tp Ms (d + 6) 298 [tv, knVal n kv, slc h3.size 0 3] (h3.new 131 [.func (.func 299) #[] #[], bf, bf]) = _ := c1004
      refine ⟨h4, ?_, e1003.trans (e1004.mono s3)⟩
      rw [cond_false, dN, oBs, fill3 FX FB FB, oBs]
      rw [c1004', oBs, Bool.false_or]; rfl
    rw [beq_eq_false_iff_ne.2 k17, cond_false, if_neg k17]
    by_cases k18 : n.k = 18
    ·rw [if_pos k18, k18, show ((18 : Int) == 18) = true from rfl, cond_true]
     obtain ⟨h3, c1003, e1003⟩ := are [(.func (.func 299) #[] #[], isEx), (bf, isBl)] (by show 2 ≤ 10; omega) (fun j hj => by match j, hj with | 0, _ => exact f152 | 1, _ => exact f2')
     have c1003' : call Tp Ms (d + 6) 298 [tv, knVal n kv, slc h2.size 0 2] (h2.new 131 [.func (.func 299) #[] #[], bf]) = _ := c1003
     refine ⟨h3, ?_, e1003⟩
     rw [bN, oBs, fill2 FX FB, oBs]
     simp only [aNewS]
     rw [c1003', oBs]; rfl
    rw [beq_eq_false_iff_ne.2 k18, cond_false, if_neg k18]
    by_cases k20 : n.k = 20
    ·rw [if_pos k20, k20, show ((20 : Int) == 20) = true from rfl, cond_true, bN, oBs]
     obtain ⟨cf, h3, c1003, e1003, f3⟩ := l148 (d + 5) (d + 4) 9 h2
     have c1003' : call Tp Ms (d + 6) 295 [.int .i64 9] h2 = some (cf, h3) := c1003
     have s3 := e1003.size
     have r3 := r2.ext e1003 (by omega)
     obtain ⟨_, _, dN⟩ := nodeRow r3
     have hv : Go.AH.vbeq (knVal n kv) (knVal n kv) = true := by
      show (vbeq1 (.int .i64 n.k) (.int .i64 n.k) && (vbeq1 (.string n.t) (.string n.t) && (vbeq1 (.int .i64 n.i) (.int .i64 n.i) && (vbeq1 kv kv && true)))) = true
      have hs : vbeq1 (.string n.t) (.string n.t) = true := vbeq_str n.t
      rw [vbeq1_self kv y.cell.1 y.cell.2, hs]
      simp [vbeq1]
     have e1004 := Ext.new (Nat.le_refl h3.size) 131 [cf]
     obtain ⟨h5, c1005, e1005⟩ := are151 (d := d + 5) (by omega) [(cf, fun k => k == 9)] hl (by show 1 ≤ 10; omega) hx ((x2.ext e1003).mono s3) ((y2.ext e1003).mono s3) (Nat.le_refl _) (fun j hj => by match j, hj with | 0, _ => exact f3)
     have c1005' : call Tp Ms (d + 6) 298 [tv, knVal n kv, slc h3.size 0 1] (h3.new 131 [cf]) = _ := c1005
     obtain ⟨_, _, dN4⟩ := nodeRow (r3.ext e1004 (by omega))
     refine ⟨h5, ?_, e1003.trans (e1005.mono s3)⟩
     rw [c1003', oBs]
     simp only [dN, oBs, hv, cond_true, fill1 f3.1, aNewS, dN4]
     rw [c1005', oBs]; rfl
    rw [beq_eq_false_iff_ne.2 k20, cond_false, if_neg k20]
    by_cases k21 : n.k = 21
    ·rw [if_pos k21, k21, show ((21 : Int) == 21) = true from rfl, cond_true]
     obtain ⟨h3, c1003, e1003⟩ := l149 (d := d + 2) (by omega) x2 (fn153 d h2.size h2) y2.rd (Nat.le_refl _) hl hx
     have c1003' : call Tp Ms (d + 6) 296 [tv, kv, .func (.func 300) #[] #[]] h2 = _ := c1003
     refine ⟨h3, ?_, e1003⟩
     simp only [aOff_ptr, Nat.zero_add, oBs, b3]
     rw [c1003', oBs]; rfl
    rw [beq_eq_false_iff_ne.2 k21, cond_false, if_neg k21]
    exact ⟨h2, rfl, Ext.refl _ _⟩
def nodeOkP (T : List Kn) (i : Int) (n : Kn) : Bool := n.ks.all (fun k => inR k 0 (i - 1)) && (hasP n && kidsP n.k (n.ks.map (kd T)))
theorem nodeOk_loop {d c : Nat} (hd : 1048577 < d) {tv : Value} {T : List Kn} (hT : T.length ≤ 3000) {iN : Nat} (hi : iN < T.length) {kv : Value} {n : Kn} (hl : n.ks.length ≤ 1048576) {h : AHeap} {q : Nat}
    (x : TreeP c h tv T) (y : ISl c h kv n.ks) (hc : c ≤ h.size) (rq : Row h q (knCells n kv)) (hq : q < h.size) :
    ∀ (k j m : Nat), n.ks.length - j = k → j ≤ n.ks.length → k < m → (∀ z ∈ n.ks.take j, 0 ≤ z ∧ z < iN) →
      ∃ h', s106_0 hk0 (call Tp Ms (d + 7)) (d + 7) m tv (iN : Int) (ptr q 0) kv (n.ks.length : Int) (j : Int) h = some (.bool ((n.ks.drop j).all (fun k => inR k 0 ((iN : Int) - 1)) && (hasP n && kidsP n.k (n.ks.map (kd T)))), h') ∧ Ext h.size h h' := by
  intro k
  induction k with
  | zero =>
    intro j m hk hj hm hpre
    obtain ⟨m, rfl⟩ : ∃ q, m = q + 1 := ⟨m - 1, by omega⟩
    have : ¬ ((j : Int) < (n.ks.length : Int)) := by omega
    have hx : ∀ z ∈ n.ks, 0 ≤ z ∧ z < T.length := fun z hz => by
      rw [List.take_of_length_le (by omega)] at hpre
      have := hpre z hz; omega
    obtain ⟨_, _, dN⟩ := nodeRow rq
    obtain ⟨h2, c2, e2⟩ := l104 (d := d + 4) (by omega) y
    have c2' : call Tp Ms (d + 7) 207 [knVal n kv] h = _ := c2
    have r2 := rq.ext e2 hq
    obtain ⟨_, _, dN2⟩ := nodeRow r2
    rw [s106_0_eq, decide_eq_false this, cond_false, dN, oBs, c2', oBs, List.drop_eq_nil_of_le (by omega), List.all_nil, Bool.true_and]
    simp only [asB, oBs]
    cases hasP n with
    | false => exact ⟨h2, rfl, e2⟩
    | true =>
      obtain ⟨h3, c1003, e1003⟩ := l105 hd hl hx (x.ext (e2.mono hc)) (y.ext (e2.mono hc)) (Nat.le_trans hc e2.size)
      refine ⟨h3, ?_, e2.trans (e1003.mono e2.size)⟩
      rw [cond_true, dN2, oBs, c1003, oBs]; rfl
  | succ k ih =>
    intro j m hk hj hm hpre
    obtain ⟨m, rfl⟩ : ∃ q, m = q + 1 := ⟨m - 1, by omega⟩
    have hlt : j < n.ks.length := by omega
    have hI : ((j : Int) < (n.ks.length : Int)) := by omega
    obtain ⟨p, e1, e2⟩ := y.at hlt
    have w : IntKind.i64.wrap ((iN : Int) - 1) = (iN : Int) - 1 := wr (by omega) (by omega)
    have wj : IntKind.i64.wrap ((j : Int) + 1) = ((j + 1 : Nat) : Int) := by rw [wr (by omega) (by omega)]; omega
    have l103' : ∀ (x a b : Int) (h : AHeap), call Tp Ms (d + 7) 144 [.int .i64 x, .int .i64 a, .int .i64 b] h = some (.bool (inR x a b), h) := l103 (d + 6)
    rw [s106_0_eq, decide_eq_true hI, cond_true, e1, oBs, e2, oBs]
    simp only [asI, if_true, oBs]
    rw [w, l103', oBs, List.drop_eq_getElem_cons hlt, List.all_cons]
    simp only [asB, oBs]
    cases hR : inR n.ks[j] 0 ((iN : Int) - 1) with
    | false =>
      rw [Bool.not_false, cond_true, Bool.false_and, Bool.false_and]
      exact ⟨h, rfl, Ext.refl _ _⟩
    | true =>
      rw [Bool.not_true, cond_false, Bool.true_and, wj]
      refine ih (j + 1) m (by omega) (by omega) (by omega) (fun z hz => ?_)
      rw [List.take_succ_eq_append_getElem hlt, List.mem_append] at hz
      rcases hz with hz | hz
      · exact hpre z hz
      · simp at hz; subst hz
        unfold inR at hR; simp at hR; omega
theorem l59 {d c : Nat} (hd : 1048577 < d) {tv : Value} {T : List Kn} (hT : T.length ≤ 3000) {iN : Nat} (hi : iN < T.length) (hN : ∀ n ∈ T, n.t.size ≤ 1048576 ∧ n.ks.length ≤ 1048576) {h : AHeap}
    (x : TreeP c h tv T) (hc : c ≤ h.size) :
    ∃ h', call Tp Ms (d + 8) 106 [tv, .int .i64 (iN : Int)] h = some (.bool (nodeOkP T iN T[iN]), h') ∧ Ext h.size h h' := by
  have hcall : call Tp Ms (d + 8) 106 [tv, .int .i64 (iN : Int)] h = evFn hk0 Tp (call Tp Ms (d + 7)) M106 (d + 7) Tryz.f106 [tv, .int .i64 (iN : Int)] h := c106 (d + 7) _ _
  obtain ⟨pn, nv, k1, k2, k3⟩ := x.nodes
  obtain ⟨i, kv, g1, g2, g3⟩ := k2.at hi
  obtain ⟨g4, _⟩ := g3 h (Ext.refl _ _)
  have e1 := Ext.new (Nat.le_refl h.size) 48 [.int .i64 0, .string ⟨#[]⟩, .int .i64 0, .slice none 0 0]
  have o1 := Own.new (Nat.le_refl h.size) 48 [.int .i64 0, .string ⟨#[]⟩, .int .i64 0, .slice none 0 0]
  have s1 : (h.new 48 [.int .i64 0, .string ⟨#[]⟩, .int .i64 0, .slice none 0 0]).size = h.size + 1 := rfl
  rw [hcall, e106]
  simp only [x.cells.2, oBs, k1, k3 h (Ext.refl _ _), g1, g4, aNew]
  generalize h.new 48 [.int .i64 0, .string ⟨#[]⟩, .int .i64 0, .slice none 0 0] = h1 at e1 o1 s1 ⊢
  obtain ⟨h2, t2, x2, o2, s2⟩ := Own.stN o1 (n := 4) (v := knVal T[iN] kv) (kn_aCells g2) rfl rfl
  have E2 := e1.trans x2
  have r2 : Row h2 h.size (knCells T[iN] kv) := o2.row
  obtain ⟨_, b3, _⟩ := nodeRow r2
  have y2 := g2.ext (E2.mono hc)
  obtain ⟨h3, c1003, e1003⟩ := nodeOk_loop hd hT hi (hN _ (List.getElem_mem hi)).2 (x.ext (E2.mono hc)) y2 (by omega) r2 (by omega) T[iN].ks.length 0 (d + 7) (by omega) (by omega) (by have := (hN _ (List.getElem_mem hi)).2; omega) (fun z hz => by simp at hz)
  refine ⟨h3, ?_, E2.trans (e1003.mono (by omega))⟩
  simp only [t2, oBs, aOff_ptr, Nat.zero_add, b3, y2.len, asI, if_true]
  exact c1003
def numGo' (F : Int → Int → Int) (i : Int) : List Int → Int → Int
  | [], fr => if i = fr then fr + 1 else -1
  | k :: ks, fr => if F k fr < 0 then -1 else numGo' F i ks (F k fr)
def numP (T : List Kn) : Nat → Int → Int → Int
  | 0, _, _ => -1
  | f + 1, i, fr => match T[i.toNat]? with
    | some n => numGo' (numP T f) i n.ks fr
    | none => -1
theorem num_loop {D N c : Nat} {tv : Value} {F : Int → Int → Int} {iN : Nat} (hiN : iN ≤ 3000) {xs : List Int} (hl : xs.length ≤ 1048576) {kv : Value} {h : AHeap} (y : ISl c h kv xs)
    (hF : ∀ k fr : Int, k ∈ xs → 0 ≤ fr → fr ≤ 10000 → call Tp Ms D 107 [tv, .int .i64 k, .int .i64 fr] h = some (.int .i64 (F k fr), h) ∧ (0 ≤ F k fr → F k fr = k + 1 ∧ k < iN)) :
    ∀ (k j m : Nat) (fr : Int), xs.length - j = k → j ≤ xs.length → k < m → 0 ≤ fr → fr ≤ 10000 →
      s107_0 hk0 (call Tp Ms D) N m tv (iN : Int) fr kv (xs.length : Int) (j : Int) h = some (.int .i64 (numGo' F iN (xs.drop j) fr), h) ∧ (0 ≤ numGo' F iN (xs.drop j) fr → numGo' F iN (xs.drop j) fr = iN + 1) := by
  intro k
  induction k with
  | zero =>
    intro j m fr hk hj hm h0 h1
    obtain ⟨m, rfl⟩ : ∃ q, m = q + 1 := ⟨m - 1, by omega⟩
    have : ¬ ((j : Int) < (xs.length : Int)) := by omega
    have w : IntKind.i64.wrap (fr + 1) = fr + 1 := wr (by omega) (by omega)
    rw [s107_0_eq, decide_eq_false this, cond_false, List.drop_eq_nil_of_le (by omega), numGo', w]
    by_cases he : (iN : Int) = fr
    · have : ((iN : Int) != fr) = false := by simp [he]
      rw [this, cond_false, if_pos he]
      exact ⟨rfl, fun _ => by omega⟩
    · have : ((iN : Int) != fr) = true := by simp [he]
      rw [this, cond_true, if_neg he]
      exact ⟨rfl, fun hh => by omega⟩
  | succ k ih =>
    intro j m fr hk hj hm h0 h1
    obtain ⟨m, rfl⟩ : ∃ q, m = q + 1 := ⟨m - 1, by omega⟩
    have hlt : j < xs.length := by omega
    have hI : ((j : Int) < (xs.length : Int)) := by omega
    obtain ⟨p, e1, e2⟩ := y.at hlt
    have wj : IntKind.i64.wrap ((j : Int) + 1) = ((j + 1 : Nat) : Int) := by rw [wr (by omega) (by omega)]; omega
    obtain ⟨c1003, b3⟩ := hF xs[j] fr (List.getElem_mem hlt) h0 h1
    rw [s107_0_eq, decide_eq_true hI, cond_true, e1, oBs, e2, oBs, List.drop_eq_getElem_cons hlt, numGo']
    simp only [asI, if_true, oBs]
    rw [c1003, oBs]
    simp only [asI, if_true, oBs]
    by_cases hn : F xs[j] fr < 0
    · rw [decide_eq_true hn, cond_true, if_pos hn]
      exact ⟨rfl, fun hh => by omega⟩
    · have hb := b3 (by omega)
      rw [decide_eq_false hn, cond_false, if_neg hn, wj]
      exact ih (j + 1) m (F xs[j] fr) (by omega) (by omega) (by omega) (by omega) (by omega)
theorem l60 {d c : Nat} (hd : 1048577 < d) {tv : Value} {T : List Kn} (hT : T.length ≤ 3000) (hN : ∀ n ∈ T, n.t.size ≤ 1048576 ∧ n.ks.length ≤ 1048576) (hG : ∀ (j : Nat) (n : Kn), T[j]? = some n → ∀ k ∈ n.ks, 0 ≤ k ∧ k < j) {h : AHeap} (x : TreeP c h tv T) :
    ∀ (f e : Nat) (i fr : Int), d + f ≤ e → 0 ≤ i → i < f → i < T.length → 0 ≤ fr → fr ≤ 10000 →
      call Tp Ms (e + 1) 107 [tv, .int .i64 i, .int .i64 fr] h = some (.int .i64 (numP T f i fr), h) ∧ (0 ≤ numP T f i fr → numP T f i fr = i + 1) := by
  intro f
  induction f with
  | zero => intro e i fr _ h0 h1; omega
  | succ f ih =>
    intro e i fr he h0 hif hit h3 h4
    obtain ⟨e, rfl⟩ : ∃ q, e = q + 1 := ⟨e - 1, by omega⟩
    obtain ⟨iN, rfl⟩ : ∃ iN : Nat, i = (iN : Int) := ⟨i.toNat, by omega⟩
    have hi : iN < T.length := by omega
    obtain ⟨pn, nv, k1, k2, k3⟩ := x.nodes
    obtain ⟨id, kv, g1, g2, g3⟩ := k2.at hi
    obtain ⟨_, _, _, _, g4⟩ := g3 h (Ext.refl _ _)
    have hTi : T[(iN : Int).toNat]? = some T[iN] := by simp [hi]
    have hTi' : T[iN]? = some T[iN] := by simp [hi]
    have hok := hN T[iN] (List.getElem_mem hi)
    have loop := num_loop (D := e + 1) (N := e + 1) (tv := tv) (F := numP T f) (iN := iN) (by omega) hok.2 g2 (fun k fr' hk a b => by
      have hk' := hG iN _ hTi' k hk
      obtain ⟨q1, q2⟩ := ih e k fr' (by omega) hk'.1 (by omega) (by omega) a b
      exact ⟨q1, fun hh => ⟨q2 hh, hk'.2⟩⟩) T[iN].ks.length 0 (e + 1) fr (by omega) (by omega) (by omega) h3 h4
    rw [List.drop_zero] at loop
    unfold numP
    rw [hTi, c107, e107]
    simp only [x.cells.2, oBs, k1, k3 h (Ext.refl _ _), g1, aOff_ptr, g4, g2.len, asI, if_true]
    exact loop
def nodeOkI (T : List Kn) (j : Nat) : Bool := match T[j]? with
  | some n => nodeOkP T j n
  | none => true
def okFrom (T : List Kn) : Nat → Nat → Bool
  | 0, _ => true
  | k + 1, j => nodeOkI T j && okFrom T k (j + 1)
theorem okFrom_all {T : List Kn} : ∀ (k j : Nat), okFrom T k j = true ↔ ∀ i, j ≤ i → i < j + k → nodeOkI T i = true
  | 0, j => ⟨fun _ i h1 h2 => by omega, fun _ => rfl⟩
  | k + 1, j => by
    rw [okFrom, Bool.and_eq_true, okFrom_all k (j + 1)]
    refine ⟨fun ⟨a, b⟩ i h1 h2 => ?_, fun H => ⟨H j (by omega) (by omega), fun i h1 h2 => H i (by omega) (by omega)⟩⟩
    by_cases he : i = j
    · subst he; exact a
    · exact b i (by omega) (by omega)
def implOk (T : List Kn) (top : Int) : Bool :=
  if T.length > 3000 ∨ T.length = 0 ∨ top ≠ (T.length : Int) - 1 ∨ kd T ((T.length : Int) - 1) ≠ 21 then false
  else okFrom T T.length 0 && numP T (T.length + 1) ((T.length : Int) - 1) 0 == (T.length : Int)
theorem ok_ranges {T : List Kn} (h : okFrom T T.length 0 = true) : ∀ (j : Nat) (n : Kn), T[j]? = some n → ∀ k ∈ n.ks, 0 ≤ k ∧ k < j := by
  intro j n hn k hk
  have hj : j < T.length := (List.getElem?_eq_some_iff.1 hn).1
  have := (okFrom_all _ _).1 h j (by omega) (by omega)
  unfold nodeOkI at this
  rw [hn] at this
  simp only [nodeOkP, Bool.and_eq_true, List.all_eq_true] at this
  have hR := this.1 k hk
  unfold inR at hR; simp at hR; omega
theorem impl_loop {d c : Nat} (hd : 1048577 < d) {T : List Kn} (hT : T.length ≤ 3000) (hN : ∀ n ∈ T, n.t.size ≤ 1048576 ∧ n.ks.length ≤ 1048576) {t : Nat} :
    ∀ (k j m : Nat) (h : AHeap), T.length - j = k → j ≤ T.length → k < m → 0 < T.length → TreeP c h (ptr t 0) T → c ≤ h.size → (∀ i, i < j → nodeOkI T i = true) →
      ∃ h', s23_2 hk0 (call Tp Ms (d + 3010 + 8)) (d + 3010 + 8) m (ptr t 0) ((T.length : Int) - 1) (T.length : Int) (j : Int) h = some (.bool (okFrom T k j && numP T (T.length + 1) ((T.length : Int) - 1) 0 == (T.length : Int)), h') ∧ Ext h.size h h' := by
  intro k
  induction k with
  | zero =>
    intro j m h hk hj hm hpos x hc hpre
    obtain ⟨m, rfl⟩ : ∃ q, m = q + 1 := ⟨m - 1, by omega⟩
    have : ¬ ((j : Int) < (T.length : Int)) := by omega
    have hall : okFrom T T.length 0 = true := (okFrom_all _ _).2 fun i _ h2 => hpre i (by omega)
    obtain ⟨pn, nv, k1, k2, k3⟩ := x.nodes
    have k3' := k3 h (Ext.refl _ _)
    obtain ⟨c1003, _⟩ := l60 hd hT hN (ok_ranges hall) x (T.length + 1) (d + 3010 + 7) ((T.length : Int) - 1) 0 (by omega) (by omega) (by omega) (by omega) (by omega) (by omega)
    have c1003' : call Tp Ms (d + 3010 + 8) 107 [ptr t 0, .int .i64 ((T.length : Int) - 1), .int .i64 0] h = _ := c1003
    refine ⟨h, ?_, Ext.refl _ _⟩
    rw [s23_2_eq, decide_eq_false this, cond_false, k1, oBs, k3', oBs, k2.len, oBs]
    simp only [asI, if_true, oBs]
    rw [c1003', oBs]
    simp only [asI, if_true, oBs, k3', k2.vbeq, cond_true, okFrom, Bool.true_and]
  | succ k ih =>
    intro j m h hk hj hm hpos x hc hpre
    obtain ⟨m, rfl⟩ : ∃ q, m = q + 1 := ⟨m - 1, by omega⟩
    have hlt : j < T.length := by omega
    have hI : ((j : Int) < (T.length : Int)) := by omega
    have wj : IntKind.i64.wrap ((j : Int) + 1) = ((j + 1 : Nat) : Int) := by rw [wr (by omega) (by omega)]; omega
    obtain ⟨h2, c2, e2⟩ := l59 (d := d + 3010) (by omega) hT hlt hN x hc
    have hI2 : nodeOkI T j = nodeOkP T j T[j] := by unfold nodeOkI; simp [hlt]
    rw [s23_2_eq, decide_eq_true hI, cond_true, c2, oBs, okFrom, hI2]
    simp only [asB, oBs]
    cases hok : nodeOkP T j T[j] with
    | false =>
      rw [Bool.not_false, cond_true, Bool.false_and, Bool.false_and]
      exact ⟨h2, rfl, e2⟩
    | true =>
      rw [Bool.not_true, cond_false, Bool.true_and, wj]
      obtain ⟨h3, c1003, e1003⟩ := ih (j + 1) m h2 (by omega) (by omega) (by omega) hpos (x.ext (e2.mono hc)) (Nat.le_trans hc e2.size) (fun i hi => by
        by_cases he : i = j
        · subst he; rw [hI2]; exact hok
        · exact hpre i (by omega))
      exact ⟨h3, c1003, e2.trans (e1003.mono e2.size)⟩
theorem l22 {d c : Nat} (hd : 1048577 < d) {nv : Value} {T : List Kn} {top : Int} {h : AHeap} (x : KSl c h nv T) (hc : c ≤ h.size) (hb : T.length ≤ 1048576) (hN : ∀ n ∈ T, n.t.size ≤ 1048576 ∧ n.ks.length ≤ 1048576) :
    ∃ h', call Tp Ms (d + 3010 + 9) 23 [trVal nv top] h = some (.bool (implOk T top), h') ∧ Ext h.size h h' := by
  have e1 := Ext.new (Nat.le_refl h.size) 41 [nv, .int .i64 top]
  have r1 := (Own.new (b := h.size) (Nat.le_refl _) 41 [nv, .int .i64 top]).row
  have s1 : (h.new 41 [nv, .int .i64 top]).size = h.size + 1 := rfl
  have hcall : call Tp Ms (d + 3010 + 9) 23 [trVal nv top] h = evFn hk0 Tp (call Tp Ms (d + 3010 + 8)) M23 (d + 3010 + 8) Tryz.f23 [trVal nv top] h := c23 (d + 3010 + 8) _ _
  rw [hcall, e23, tr_aCells x, oBs]
  simp only [aNew]
  have x1 := x.ext (e1.mono hc)
  generalize h.new 41 [nv, .int .i64 top] = h1 at e1 r1 s1 x1 ⊢
  obtain ⟨a0, a1, _⟩ := ld2 r1
  have w : IntKind.i64.wrap ((T.length : Int) - 1) = (T.length : Int) - 1 := wr (by omega) (by omega)
  simp only [aOff_ptr, Nat.zero_add, oBs, a0, a1, x.len, asI, if_true, w]
  have no : s23_0 hk0 (call Tp Ms (d + 3010 + 8)) (d + 3010 + 8) (ptr h.size 0) ((T.length : Int) - 1) true h1 = some (.bool false, h1) := by
    rw [s23_0_j, s23_0_eq]; rfl
  unfold implOk
  by_cases h3 : (T.length : Int) > 3000
  · rw [decide_eq_true h3, cond_true, no, if_pos (.inl (by omega))]; exact ⟨h1, rfl, e1⟩
  rw [decide_eq_false h3, cond_false]
  by_cases h4 : (T.length : Int) - 1 < 0
  · rw [decide_eq_true h4, cond_true, no, if_pos (.inr (.inl (by omega)))]; exact ⟨h1, rfl, e1⟩
  rw [decide_eq_false h4, cond_false]
  by_cases h5 : top = (T.length : Int) - 1
  · have : (top != (T.length : Int) - 1) = false := by simp [h5]
    rw [this, cond_false]
    obtain ⟨i, m1, m2⟩ := x1.kind (k := (T.length : Int) - 1) (by omega) (by omega)
    rw [m1, oBs]
    simp only [aOff_ptr, Nat.add_zero, oBs, m2 h1 (Ext.refl _ _), asI, if_true]
    by_cases h6 : kd T ((T.length : Int) - 1) = 21
    · have : (kd T ((T.length : Int) - 1) != 21) = false := by simp [h6]
      rw [this, if_neg (by rintro (a | a | a | a)
                           · omega
                           · omega
                           · exact a h5
                           · exact a h6), s23_0_j, s23_0_eq, cond_false, s23_1_j, s23_1_eq]
      simp only [aOff_ptr, Nat.zero_add, oBs, a0, x.len, asI, if_true]
      have tp : TreeP (h1.size) h1 (ptr h.size 0) T := ⟨h.size, nv, top, rfl, by omega, r1, x1.mono (by omega)⟩
      obtain ⟨h7, c1007, e1007⟩ := impl_loop hd (by omega) hN T.length 0 (d + 3010 + 8) h1 (by omega) (by omega) (by omega) (by omega) tp (Nat.le_refl _) (fun i hi => by omega)
      exact ⟨h7, c1007, e1.trans (e1007.mono (by omega))⟩
    · have : (kd T ((T.length : Int) - 1) != 21) = true := by simp [h6]
      rw [this, no, if_pos (.inr (.inr (.inr h6)))]; exact ⟨h1, rfl, e1⟩
  · have : (top != (T.length : Int) - 1) = true := by simp [h5]
    rw [this, cond_true, no, if_pos (.inr (.inr (.inl h5)))]; exact ⟨h1, rfl, e1⟩
end Go.Proofs.YtajpnemfppaafaaGreat
