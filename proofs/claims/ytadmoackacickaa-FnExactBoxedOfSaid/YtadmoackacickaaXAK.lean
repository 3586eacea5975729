import Derived.Test.YtadmoackacickaaXAD
import Derived.KernelRfl
import Derived.Test.YtadmoackacickaaProg
import Derived.Test.YtadmoackacickaaXAI
import Derived.Test.YtadmoackacickaaXAJ
set_option linter.unusedSimpArgs false
set_option linter.unusedVariables false
namespace Go.Proofs.Ytadmoackacickaa
open Go Go.AH
noncomputable section
variable (hk : Hk (Value × AHeap)) (C : ACall) (N : Nat)
theorem e182 (x0 : Value) (x1 x2 : Int) (h : AHeap) : evFn hk Tp C M182 N Try.f182 [x0, .int .i64 x1, .int .i64 x2] h =
  (aNil x0).bind fun v1 => (aOff v1 3).bind fun v2 => (aOff v2 3).bind fun v3 => (aLd1 h v3).bind fun v4 => (aFill [.int .i64 0, .int .i64 0] [(0, 2, (.agg (List.toArray [.int .i64 x1, .int .i64 x2])))]).bind fun c5 => aNewS h 206 c5 1 fun p6 h7 => (aApp h7 206 2 16 v4 p6).bind fun r8 => (aNil x0).bind fun v9 => (aOff v9 3).bind fun v10 => (aOff v10 3).bind fun v11 => (aSt r8.2 v11 r8.1 1).bind fun h12 => (aNil x0).bind fun v13 => (aOff v13 3).bind fun v14 => (aOff v14 3).bind fun v15 => (aLd1 h12 v15).bind fun v16 => (aLen v16).bind fun v17 => (asI .i64 v17).bind fun n18 => some (.int .i64 (IntKind.i64.wrap (n18 - 1)), h12) := by kernel_rfl
theorem c182 (d : Nat) (args : List Value) (h : AHeap) : call Tp Ms (d + 1) 182 args h = evFn hk0 Tp (call Tp Ms d) M182 d Try.f182 args h := by kernel_rfl
theorem e183 (x0 : Value) (x1 : Int) (h : AHeap) : evFn hk Tp C M183 N Try.f183 [x0, .int .i64 x1] h =
  (aNil x0).bind fun v1 => (aOff v1 0).bind fun v2 => (aLd1 h v2).bind fun v3 => (aNil v3).bind fun v4 => (aOff v4 5).bind fun v5 => (aLd1 h v5).bind fun v6 => (asI .i64 v6).bind fun n7 => bif n7 != 0 then some (.tuple (List.toArray []), h) else (aNil x0).bind fun v8 => (aOff v8 0).bind fun v9 => (aLd1 h v9).bind fun v10 => (aNil v10).bind fun v11 => (aOff v11 0).bind fun v12 => (aLd1 h v12).bind fun v13 => (aNil v13).bind fun v14 => (aOff v14 0).bind fun v15 => (aLd1 h v15).bind fun v16 => (aIdx v16 (.int .i64 x1) 4).bind fun v17 => (aLdN h v17 4).bind fun v18 => aNew h 73 [.int .i64 0, .string ⟨#[]⟩, .int .i64 0, .slice none 0 0] fun p19 h20 => (aSt h20 p19 v18 4).bind fun h21 => (aOff p19 0).bind fun v22 => (aLd1 h21 v22).bind fun v23 => (asI .i64 v23).bind fun n24 => (C 152 [.int .i64 n24] h21).bind fun r25 => (asB r25.1).bind fun b26 => bif b26 then (aLdN r25.2 p19 4).bind fun v27 => (C 200 [x0, .int .i64 x1, v27] r25.2).bind fun r28 => some (.tuple (List.toArray []), r28.2) else (aLdN r25.2 p19 4).bind fun v29 => (C 201 [x0, .int .i64 x1, v29] r25.2).bind fun r30 => some (.tuple (List.toArray []), r30.2) := by kernel_rfl
theorem c183 (d : Nat) (args : List Value) (h : AHeap) : call Tp Ms (d + 1) 183 args h = evFn hk0 Tp (call Tp Ms d) M183 d Try.f183 args h := by kernel_rfl
theorem e184 (x0 : Value) (x1 x2 : Int) (h : AHeap) : evFn hk Tp C M184 N Try.f184 [x0, .int .i64 x1, .int .i64 x2] h =
  (aNil x0).bind fun v1 => (aOff v1 5).bind fun v2 => (aLd1 h v2).bind fun v3 => (asI .i64 v3).bind fun n4 => bif n4 == 0 then (aNil x0).bind fun v5 => (aOff v5 5).bind fun v6 => (aSt h v6 (.int .i64 x1) 1).bind fun h7 => (aNil x0).bind fun v8 => (aOff v8 6).bind fun v9 => (aSt h7 v9 (.int .i64 x2) 1).bind fun h10 => some (.tuple (List.toArray []), h10) else some (.tuple (List.toArray []), h) := by kernel_rfl
theorem c184 (d : Nat) (args : List Value) (h : AHeap) : call Tp Ms (d + 1) 184 args h = evFn hk0 Tp (call Tp Ms d) M184 d Try.f184 args h := by kernel_rfl
def F200_0 : Nx (Value × AHeap) := evSt hk Tp C M200 N Try.f200 [1, 1, 2, 1, 5, 1, 5, 1, 5, 1, 5, 1, 5, 1, 5, 1, 5, 1, 5, 1, 5, 1, 5, 1, 4, 1, 1, 1] []
def s200_0 (x0 x5 : Value) (h : AHeap) := hk 37 (⟨131, [(0, x0), (5, x5)]⟩) h (F200_0 hk C N)
def F200_1 : Nx (Value × AHeap) := evSt hk Tp C M200 N Try.f200 [1, 1, 2, 1, 5, 1, 5, 1, 5, 1, 5, 1, 5, 1, 5, 1, 5, 1, 5, 1, 5, 1, 5, 1, 5, 1, 1] []
def s200_1 (x0 x5 : Value) (x6 : Int) (h : AHeap) := hk 5 (⟨131, [(0, x0), (5, x5), (6, .int .i64 x6)]⟩) h (F200_1 hk C N)
theorem e200 (x0 : Value) (x1 : Int) (x2 : Value) (h : AHeap) : evFn hk Tp C M200 N Try.f200 [x0, .int .i64 x1, x2] h =
  (aCells x2).bind fun c1 => aNew h 73 c1 fun p2 h3 => (aOff p2 0).bind fun v4 => (aLd1 h3 v4).bind fun v5 => (asI .i64 v5).bind fun n6 => bif n6 == 1 then (C 182 [x0, .int .i64 1, .int .i64 0] h3).bind fun r7 => (asI .i64 r7.1).bind fun n8 => some (.tuple (List.toArray []), r7.2) else bif n6 == 2 then (aOff p2 2).bind fun v9 => (aLd1 h3 v9).bind fun v10 => (asI .i64 v10).bind fun n11 => (C 182 [x0, .int .i64 2, .int .i64 n11] h3).bind fun r12 => (asI .i64 r12.1).bind fun n13 => some (.tuple (List.toArray []), r12.2) else bif n6 == 3 then (aOff p2 2).bind fun v14 => (aLd1 h3 v14).bind fun v15 => (asI .i64 v15).bind fun n16 => (C 182 [x0, .int .i64 3, .int .i64 n16] h3).bind fun r17 => (asI .i64 r17.1).bind fun n18 => some (.tuple (List.toArray []), r17.2) else bif n6 == 4 then (C 212 [x0, .int .i64 x1] h3).bind fun r19 => (asI .i64 r19.1).bind fun n20 => (C 182 [x0, .int .i64 4, .int .i64 n20] r19.2).bind fun r21 => (asI .i64 r21.1).bind fun n22 => some (.tuple (List.toArray []), r21.2) else bif n6 == 5 then (aLdN h3 p2 4).bind fun v23 => (C 213 [x0, .int .i64 x1, v23] h3).bind fun r24 => some (.tuple (List.toArray []), r24.2) else bif n6 == 6 then (aLdN h3 p2 4).bind fun v25 => (C 214 [x0, .int .i64 x1, v25] h3).bind fun r26 => some (.tuple (List.toArray []), r26.2) else bif n6 == 7 then (aLdN h3 p2 4).bind fun v27 => (C 215 [x0, v27] h3).bind fun r28 => some (.tuple (List.toArray []), r28.2) else bif n6 == 8 then (aOff p2 3).bind fun v29 => (aLd1 h3 v29).bind fun v30 => (C 216 [x0, v30] h3).bind fun r31 => (C 182 [x0, .int .i64 14, .int .i64 0] r31.2).bind fun r32 => (asI .i64 r32.1).bind fun n33 => some (.tuple (List.toArray []), r32.2) else bif n6 == 10 then (aOff p2 3).bind fun v34 => (aLd1 h3 v34).bind fun v35 => (C 216 [x0, v35] h3).bind fun r36 => (aOff p2 2).bind fun v37 => (aLd1 r36.2 v37).bind fun v38 => (asI .i64 v38).bind fun n39 => (C 182 [x0, .int .i64 16, .int .i64 n39] r36.2).bind fun r40 => (asI .i64 r40.1).bind fun n41 => some (.tuple (List.toArray []), r40.2) else bif n6 == 11 then (aOff p2 3).bind fun v42 => (aLd1 h3 v42).bind fun v43 => (C 216 [x0, v43] h3).bind fun r44 => (aOff p2 2).bind fun v45 => (aLd1 r44.2 v45).bind fun v46 => (asI .i64 v46).bind fun n47 => (C 182 [x0, .int .i64 17, .int .i64 n47] r44.2).bind fun r48 => (asI .i64 r48.1).bind fun n49 => some (.tuple (List.toArray []), r48.2) else bif n6 == 9 then (C 182 [x0, .int .i64 22, .int .i64 0] h3).bind fun r50 => (asI .i64 r50.1).bind fun n51 => (aOff p2 3).bind fun v52 => (aLd1 r50.2 v52).bind fun v53 => (C 216 [x0, v53] r50.2).bind fun r54 => (aOff p2 3).bind fun v55 => (aLd1 r54.2 v55).bind fun v56 => (aLen v56).bind fun v57 => (asI .i64 v57).bind fun n58 => bif decide ((IntKind.i64.wrap (n58 - 1)) > 40) then (aNil x0).bind fun v59 => (aOff v59 0).bind fun v60 => (aLd1 r54.2 v60).bind fun v61 => (C 184 [v61, .int .i64 3, .int .i64 x1] r54.2).bind fun r62 => s200_0 hk C N x0 p2 r62.2 else s200_0 hk C N x0 p2 r54.2 else (aOff p2 0).bind fun v63 => (aLd1 h3 v63).bind fun v64 => (asI .i64 v64).bind fun n65 => bif n65 == 13 then s200_1 hk C N x0 p2 21 h3 else s200_1 hk C N x0 p2 20 h3 := by kernel_rfl
theorem s200_0_j (x0 x5 : Value) (h : AHeap) : s200_0 hk0 C N x0 x5 h = F200_0 hk0 C N (⟨131, [(0, x0), (5, x5)]⟩) h := by delta s200_0; exact hk0_app _ _ _ _
theorem s200_0_eq (x0 x5 : Value) (h : AHeap) : F200_0 hk C N (⟨131, [(0, x0), (5, x5)]⟩) h =
  (aOff x5 3).bind fun v66 => (aLd1 h v66).bind fun v67 => (aLen v67).bind fun v68 => (asI .i64 v68).bind fun n69 => (C 182 [x0, .int .i64 23, .int .i64 (IntKind.i64.wrap (n69 - 1))] h).bind fun r70 => (asI .i64 r70.1).bind fun n71 => some (.tuple (List.toArray []), r70.2) := by kernel_rfl
theorem s200_1_j (x0 x5 : Value) (x6 : Int) (h : AHeap) : s200_1 hk0 C N x0 x5 x6 h = F200_1 hk0 C N (⟨131, [(0, x0), (5, x5), (6, .int .i64 x6)]⟩) h := by delta s200_1; exact hk0_app _ _ _ _
theorem s200_1_eq (x0 x5 : Value) (x6 : Int) (h : AHeap) : F200_1 hk C N (⟨131, [(0, x0), (5, x5), (6, .int .i64 x6)]⟩) h =
  (aOff x5 3).bind fun v72 => (aLd1 h v72).bind fun v73 => (aIdx v73 (.int .i64 0) 1).bind fun v74 => (aLd1 h v74).bind fun v75 => (asI .i64 v75).bind fun n76 => (C 183 [x0, .int .i64 n76] h).bind fun r77 => (C 182 [x0, .int .i64 x6, .int .i64 0] r77.2).bind fun r78 => (asI .i64 r78.1).bind fun n79 => (aOff x5 3).bind fun v80 => (aLd1 r78.2 v80).bind fun v81 => (aIdx v81 (.int .i64 1) 1).bind fun v82 => (aLd1 r78.2 v82).bind fun v83 => (asI .i64 v83).bind fun n84 => (C 183 [x0, .int .i64 n84] r78.2).bind fun r85 => (aNil x0).bind fun v86 => (aOff v86 3).bind fun v87 => (aOff v87 3).bind fun v88 => (aLd1 r85.2 v88).bind fun v89 => (C 217 [x0] r85.2).bind fun r90 => (asI .i64 r90.1).bind fun n91 => ((aLd1 r90.2 v88).bind fun v92 => some (vbeq v92 v89)).bind fun b93 => bif b93 then (aIdx v89 (.int .i64 n79) 2).bind fun v94 => (aOff v94 1).bind fun v95 => (aSt r90.2 v95 (.int .i64 n91) 1).bind fun h96 => some (.tuple (List.toArray []), h96) else none := by kernel_rfl
theorem c200 (d : Nat) (args : List Value) (h : AHeap) : call Tp Ms (d + 1) 200 args h = evFn hk0 Tp (call Tp Ms d) M200 d Try.f200 args h := by kernel_rfl
theorem e201 (x0 : Value) (x1 : Int) (x2 : Value) (h : AHeap) : evFn hk Tp C M201 N Try.f201 [x0, .int .i64 x1, x2] h =
  (aCells x2).bind fun c1 => aNew h 73 c1 fun p2 h3 => (aOff p2 0).bind fun v4 => (aLd1 h3 v4).bind fun v5 => (asI .i64 v5).bind fun n6 => bif n6 == 14 then (aOff p2 3).bind fun v7 => (aLd1 h3 v7).bind fun v8 => (C 216 [x0, v8] h3).bind fun r9 => (C 181 [x0, .int .i64 x1] r9.2).bind fun r10 => (aNil x0).bind fun v11 => (aOff v11 7).bind fun v12 => (aLd1 r10.2 v12).bind fun v13 => (aMget r10.2 v13 (.int .i64 x1) (.int .i64 0) false).bind fun v14 => (asI .i64 v14).bind fun n15 => (C 182 [x0, .int .i64 8, .int .i64 n15] r10.2).bind fun r16 => (asI .i64 r16.1).bind fun n17 => (aNil x0).bind fun v18 => (aOff v18 0).bind fun v19 => (aLd1 r16.2 v19).bind fun v20 => (aNil v20).bind fun v21 => (aOff v21 1).bind fun v22 => (aLd1 r16.2 v22).bind fun v23 => (aNil v23).bind fun v24 => (aOff v24 2).bind fun v25 => (aLd1 r16.2 v25).bind fun v26 => (aIdx v26 (.int .i64 x1) 1).bind fun v27 => (aLd1 r16.2 v27).bind fun v28 => (asB v28).bind fun b29 => bif b29 then (aNil x0).bind fun v30 => (aOff v30 7).bind fun v31 => (aLd1 r16.2 v31).bind fun v32 => (aMget r16.2 v32 (.int .i64 x1) (.int .i64 0) false).bind fun v33 => (asI .i64 v33).bind fun n34 => (C 182 [x0, .int .i64 11, .int .i64 n34] r16.2).bind fun r35 => (asI .i64 r35.1).bind fun n36 => some (.tuple (List.toArray []), r35.2) else some (.tuple (List.toArray []), r16.2) else bif n6 == 15 then (aOff p2 3).bind fun v37 => (aLd1 h3 v37).bind fun v38 => (C 216 [x0, v38] h3).bind fun r39 => (C 218 [x0, .int .i64 x1] r39.2).bind fun r40 => some (.tuple (List.toArray []), r40.2) else bif n6 == 16 then (aOff p2 3).bind fun v41 => (aLd1 h3 v41).bind fun v42 => (C 216 [x0, v42] h3).bind fun r43 => (C 182 [x0, .int .i64 15, .int .i64 0] r43.2).bind fun r44 => (asI .i64 r44.1).bind fun n45 => some (.tuple (List.toArray []), r44.2) else bif n6 == 19 then (aOff p2 3).bind fun v46 => (aLd1 h3 v46).bind fun v47 => (C 216 [x0, v47] h3).bind fun r48 => (C 182 [x0, .int .i64 24, .int .i64 0] r48.2).bind fun r49 => (asI .i64 r49.1).bind fun n50 => some (.tuple (List.toArray []), r49.2) else bif n6 == 20 then (aOff p2 3).bind fun v51 => (aLd1 h3 v51).bind fun v52 => (C 216 [x0, v52] h3).bind fun r53 => (C 182 [x0, .int .i64 25, .int .i64 0] r53.2).bind fun r54 => (asI .i64 r54.1).bind fun n55 => some (.tuple (List.toArray []), r54.2) else bif n6 == 21 then (aOff p2 3).bind fun v56 => (aLd1 h3 v56).bind fun v57 => (C 216 [x0, v57] h3).bind fun r58 => some (.tuple (List.toArray []), r58.2) else (aLdN h3 p2 4).bind fun v59 => (C 219 [x0, v59] h3).bind fun r60 => some (.tuple (List.toArray []), r60.2) := by kernel_rfl
theorem c201 (d : Nat) (args : List Value) (h : AHeap) : call Tp Ms (d + 1) 201 args h = evFn hk0 Tp (call Tp Ms d) M201 d Try.f201 args h := by kernel_rfl
theorem e212 (x0 : Value) (x1 : Int) (h : AHeap) : evFn hk Tp C M212 N Try.f212 [x0, .int .i64 x1] h =
  (aNil x0).bind fun v1 => (aOff v1 0).bind fun v2 => (aLd1 h v2).bind fun v3 => (aNil v3).bind fun v4 => (aOff v4 0).bind fun v5 => (aLd1 h v5).bind fun v6 => (aNil v6).bind fun v7 => (aOff v7 0).bind fun v8 => (aLd1 h v8).bind fun v9 => (aIdx v9 (.int .i64 x1) 4).bind fun v10 => (aOff v10 1).bind fun v11 => (aLd1 h v11).bind fun v12 => (asS v12).bind fun t13 => (aNil x0).bind fun v14 => (aOff v14 0).bind fun v15 => (aLd1 h v15).bind fun v16 => (aNil v16).bind fun v17 => (aOff v17 3).bind fun v18 => (aOff v18 1).bind fun v19 => (aLd1 h v19).bind fun v20 => (C 120 [v20, .string t13] h).bind fun r21 => (asI .i64 r21.1).bind fun n22 => bif decide (n22 ≥ 0) then some (.int .i64 n22, r21.2) else (aNil x0).bind fun v23 => (aOff v23 0).bind fun v24 => (aLd1 r21.2 v24).bind fun v25 => (aNil v25).bind fun v26 => (aOff v26 3).bind fun v27 => (aOff v27 1).bind fun v28 => (aLd1 r21.2 v28).bind fun v29 => (aLen v29).bind fun v30 => (asI .i64 v30).bind fun n31 => bif n31 == 255 then (aNil x0).bind fun v32 => (aOff v32 0).bind fun v33 => (aLd1 r21.2 v33).bind fun v34 => (C 184 [v34, .int .i64 3, .int .i64 x1] r21.2).bind fun r35 => some (.int .i64 0, r35.2) else (aNil x0).bind fun v36 => (aOff v36 0).bind fun v37 => (aLd1 r21.2 v37).bind fun v38 => (aNil x0).bind fun v39 => (aOff v39 0).bind fun v40 => (aLd1 r21.2 v40).bind fun v41 => (aNil v41).bind fun v42 => (aOff v42 3).bind fun v43 => (aOff v43 1).bind fun v44 => (aLd1 r21.2 v44).bind fun v45 => aNewS r21.2 9 [.string t13] 1 fun p46 h47 => ((aLd1 h47 v37).bind fun v48 => some (vbeq v48 v38)).bind fun b49 => bif b49 then ((aLd1 h47 v40).bind fun v50 => some (vbeq v50 v41)).bind fun b51 => bif b51 then ((aLd1 h47 v44).bind fun v52 => some (vbeq v52 v45)).bind fun b53 => bif b53 then (aApp h47 9 1 16 v45 p46).bind fun r54 => ((aLd1 r54.2 v37).bind fun v55 => some (vbeq v55 v38)).bind fun b56 => bif b56 then (aNil v38).bind fun v57 => (aOff v57 3).bind fun v58 => (aOff v58 1).bind fun v59 => (aSt r54.2 v59 r54.1 1).bind fun h60 => (aNil x0).bind fun v61 => (aOff v61 0).bind fun v62 => (aLd1 h60 v62).bind fun v63 => (aNil v63).bind fun v64 => (aOff v64 3).bind fun v65 => (aOff v65 1).bind fun v66 => (aLd1 h60 v66).bind fun v67 => (aLen v67).bind fun v68 => (asI .i64 v68).bind fun n69 => some (.int .i64 (IntKind.i64.wrap (n69 - 1)), h60) else none else none else none else none := by kernel_rfl
theorem c212 (d : Nat) (args : List Value) (h : AHeap) : call Tp Ms (d + 1) 212 args h = evFn hk0 Tp (call Tp Ms d) M212 d Try.f212 args h := by kernel_rfl
def F213_0 : Nx (Value × AHeap) := evSt hk Tp C M213 N Try.f213 [1, 1, 2, 1] []
def s213_0 (x0 : Value) (x1 : Int) (x5 : Value) (x6 : Int) (x28 : Bool) (h : AHeap) := hk 100004 (⟨97, [(0, x0), (1, .int .i64 x1), (5, x5), (6, .int .i64 x6), (28, .bool x28)]⟩) h (F213_0 hk C N)
theorem e213 (x0 : Value) (x1 : Int) (x2 : Value) (h : AHeap) : evFn hk Tp C M213 N Try.f213 [x0, .int .i64 x1, x2] h =
  (aCells x2).bind fun c1 => aNew h 73 c1 fun p2 h3 => (aNil x0).bind fun v4 => (aOff v4 0).bind fun v5 => (aLd1 h3 v5).bind fun v6 => (aNil v6).bind fun v7 => (aOff v7 1).bind fun v8 => (aLd1 h3 v8).bind fun v9 => (aNil v9).bind fun v10 => (aOff v10 1).bind fun v11 => (aLd1 h3 v11).bind fun v12 => (aIdx v12 (.int .i64 x1) 1).bind fun v13 => (aLd1 h3 v13).bind fun v14 => (asI .i64 v14).bind fun n15 => bif decide (n15 < 0) then (aOff p2 1).bind fun v16 => (aLd1 h3 v16).bind fun v17 => (asS v17).bind fun t18 => (C 229 [.string t18] h3).bind fun r19 => (asI .i64 r19.1).bind fun n20 => s213_0 hk C N x0 x1 p2 n15 (decide (n20 > 0)) r19.2 else s213_0 hk C N x0 x1 p2 n15 false h3 := by kernel_rfl
theorem s213_0_j (x0 : Value) (x1 : Int) (x5 : Value) (x6 : Int) (x28 : Bool) (h : AHeap) : s213_0 hk0 C N x0 x1 x5 x6 x28 h = F213_0 hk0 C N (⟨97, [(0, x0), (1, .int .i64 x1), (5, x5), (6, .int .i64 x6), (28, .bool x28)]⟩) h := by delta s213_0; exact hk0_app _ _ _ _
theorem s213_0_eq (x0 : Value) (x1 : Int) (x5 : Value) (x6 : Int) (x28 : Bool) (h : AHeap) : F213_0 hk C N (⟨97, [(0, x0), (1, .int .i64 x1), (5, x5), (6, .int .i64 x6), (28, .bool x28)]⟩) h =
  bif x28 then (aOff x5 1).bind fun v21 => (aLd1 h v21).bind fun v22 => (asS v22).bind fun t23 => (C 229 [.string t23] h).bind fun r24 => (asI .i64 r24.1).bind fun n25 => (C 182 [x0, .int .i64 27, .int .i64 n25] r24.2).bind fun r26 => (asI .i64 r26.1).bind fun n27 => some (.tuple (List.toArray []), r26.2) else bif decide (x6 < 0) then (aNil x0).bind fun v28 => (aOff v28 0).bind fun v29 => (aLd1 h v29).bind fun v30 => (C 184 [v30, .int .i64 2, .int .i64 x1] h).bind fun r31 => some (.tuple (List.toArray []), r31.2) else (aNil x0).bind fun v32 => (aOff v32 0).bind fun v33 => (aLd1 h v33).bind fun v34 => (aNil v34).bind fun v35 => (aOff v35 1).bind fun v36 => (aLd1 h v36).bind fun v37 => (aNil v37).bind fun v38 => (aOff v38 3).bind fun v39 => (aLd1 h v39).bind fun v40 => (aIdx v40 (.int .i64 x6) 1).bind fun v41 => (aLd1 h v41).bind fun v42 => (asI .i64 v42).bind fun n43 => (aNil x0).bind fun v44 => (aOff v44 2).bind fun v45 => (aLd1 h v45).bind fun v46 => (asI .i64 v46).bind fun n47 => bif n43 != n47 then (C 230 [x0, .int .i64 x6] h).bind fun r48 => (asI .i64 r48.1).bind fun n49 => (C 182 [x0, .int .i64 7, .int .i64 n49] r48.2).bind fun r50 => (asI .i64 r50.1).bind fun n51 => some (.tuple (List.toArray []), r50.2) else (aNil x0).bind fun v52 => (aOff v52 0).bind fun v53 => (aLd1 h v53).bind fun v54 => (aNil v54).bind fun v55 => (aOff v55 1).bind fun v56 => (aLd1 h v56).bind fun v57 => (aNil v57).bind fun v58 => (aOff v58 2).bind fun v59 => (aLd1 h v59).bind fun v60 => (aIdx v60 (.int .i64 x6) 1).bind fun v61 => (aLd1 h v61).bind fun v62 => (asB v62).bind fun b63 => bif b63 then (aNil x0).bind fun v64 => (aOff v64 7).bind fun v65 => (aLd1 h v65).bind fun v66 => (aMget h v66 (.int .i64 x6) (.int .i64 0) false).bind fun v67 => (asI .i64 v67).bind fun n68 => (C 182 [x0, .int .i64 6, .int .i64 n68] h).bind fun r69 => (asI .i64 r69.1).bind fun n70 => some (.tuple (List.toArray []), r69.2) else (aNil x0).bind fun v71 => (aOff v71 7).bind fun v72 => (aLd1 h v72).bind fun v73 => (aMget h v73 (.int .i64 x6) (.int .i64 0) false).bind fun v74 => (asI .i64 v74).bind fun n75 => (C 182 [x0, .int .i64 5, .int .i64 n75] h).bind fun r76 => (asI .i64 r76.1).bind fun n77 => some (.tuple (List.toArray []), r76.2) := by kernel_rfl
theorem c213 (d : Nat) (args : List Value) (h : AHeap) : call Tp Ms (d + 1) 213 args h = evFn hk0 Tp (call Tp Ms d) M213 d Try.f213 args h := by kernel_rfl
theorem e214 (x0 : Value) (x1 : Int) (x2 : Value) (h : AHeap) : evFn hk Tp C M214 N Try.f214 [x0, .int .i64 x1, x2] h =
  (aCells x2).bind fun c1 => aNew h 73 c1 fun p2 h3 => (aNil x0).bind fun v4 => (aOff v4 0).bind fun v5 => (aLd1 h3 v5).bind fun v6 => (aNil v6).bind fun v7 => (aOff v7 2).bind fun v8 => (aLd1 h3 v8).bind fun v9 => (aMget h3 v9 (.int .i64 x1) (.int .i64 0) false).bind fun v10 => (asI .i64 v10).bind fun n11 => bif decide (n11 ≥ 100) then (aNil x0).bind fun v12 => (aOff v12 0).bind fun v13 => (aLd1 h3 v13).bind fun v14 => (C 184 [v14, .int .i64 3, .int .i64 x1] h3).bind fun r15 => some (.tuple (List.toArray []), r15.2) else (aNil x0).bind fun v16 => (aOff v16 0).bind fun v17 => (aLd1 h3 v17).bind fun v18 => aNewM h3 fun p19 h20 => (aFill [.pointer none, .pointer none, .int .i64 0, .int .i64 0, .int .i64 0, .slice none 0 0, .slice none 0 0, .map none, .slice none 0 0] [(0, 1, v18), (1, 1, x0), (2, 1, .int .i64 x1), (7, 1, p19)]).bind fun c21 => (aCells (.agg (List.toArray c21))).bind fun c22 => aNew h20 175 c22 fun p23 h24 => (aOff p2 3).bind fun v25 => (aLd1 h24 v25).bind fun v26 => (aLen v26).bind fun v27 => (asI .i64 v27).bind fun n28 => (aOff p2 3).bind fun v29 => (aLd1 h24 v29).bind fun v30 => (aSub h24 3 v30 none (some (.int .i64 (IntKind.i64.wrap (n28 - 1)))) 1).bind fun v31 => (aOff p2 3).bind fun v32 => (aLd1 h24 v32).bind fun v33 => (aIdx v33 (.int .i64 (IntKind.i64.wrap (n28 - 1))) 1).bind fun v34 => (aLd1 h24 v34).bind fun v35 => (asI .i64 v35).bind fun n36 => (C 142 [p23, .int .i64 x1, v31, .int .i64 n36] h24).bind fun r37 => (aNil x0).bind fun v38 => (aOff v38 0).bind fun v39 => (aLd1 r37.2 v39).bind fun v40 => (aNil v40).bind fun v41 => (aOff v41 2).bind fun v42 => (aLd1 r37.2 v42).bind fun v43 => (aMget r37.2 v43 (.int .i64 x1) (.int .i64 0) false).bind fun v44 => (asI .i64 v44).bind fun n45 => (C 182 [x0, .int .i64 12, .int .i64 n45] r37.2).bind fun r46 => (asI .i64 r46.1).bind fun n47 => some (.tuple (List.toArray []), r46.2) := by kernel_rfl
theorem c214 (d : Nat) (args : List Value) (h : AHeap) : call Tp Ms (d + 1) 214 args h = evFn hk0 Tp (call Tp Ms d) M214 d Try.f214 args h := by kernel_rfl
def F215_0 (n1 : Nat) : Nx (Value × AHeap) := evSt hk Tp C M215 N Try.f215 [1, 1, 1, 1, 2, 6] [n1]
def s215_0 (n1 : Nat) (x0 : Value) (x4 : Int) (x11 : Value) (x12 x13 : Int) (h : AHeap) := F215_0 hk C N n1 (⟨47, [(0, x0), (4, .int .i64 x4), (11, x11), (12, .int .i64 x12), (13, .int .i64 x13)]⟩) h
def F215_1 (n1 : Nat) : Nx (Value × AHeap) := evSt hk Tp C M215 N Try.f215 [1, 1, 1, 1, 2, 3, 1, 1, 0, 2, 1, 1, 1, 1] [n1]
def s215_1 (n1 : Nat) (x0 : Value) (x4 : Int) (x7 x11 : Value) (x12 x13 : Int) (h : AHeap) := hk 11 (⟨47, [(0, x0), (4, .int .i64 x4), (7, x7), (11, x11), (12, .int .i64 x12), (13, .int .i64 x13)]⟩) h (F215_1 hk C N n1)
theorem e215 (x0 x1 : Value) (h : AHeap) : evFn hk Tp C M215 N Try.f215 [x0, x1] h =
  (aCells x1).bind fun c1 => aNew h 73 c1 fun p2 h3 => (C 182 [x0, .int .i64 13, .int .i64 0] h3).bind fun r4 => (asI .i64 r4.1).bind fun n5 => (aOff p2 3).bind fun v6 => (aLd1 r4.2 v6).bind fun v7 => (aLen v7).bind fun v8 => (asI .i64 v8).bind fun n9 => s215_0 hk C N N x0 0 v7 n9 0 r4.2 := by kernel_rfl
theorem s215_0_eq (n1 : Nat) (x0 : Value) (x4 : Int) (x11 : Value) (x12 x13 : Int) (h : AHeap) : s215_0 hk C N (n1 + 1) x0 x4 x11 x12 x13 h =
  bif decide (x13 < x12) then (aIdx x11 (.int .i64 x13) 1).bind fun v10 => (aLd1 h v10).bind fun v11 => (asI .i64 v11).bind fun n12 => (aNil x0).bind fun v13 => (aOff v13 0).bind fun v14 => (aLd1 h v14).bind fun v15 => (aNil v15).bind fun v16 => (aOff v16 0).bind fun v17 => (aLd1 h v17).bind fun v18 => (aNil v18).bind fun v19 => (aOff v19 0).bind fun v20 => (aLd1 h v20).bind fun v21 => (aIdx v21 (.int .i64 n12) 4).bind fun v22 => (aLdN h v22 4).bind fun v23 => aNew h 73 [.int .i64 0, .string ⟨#[]⟩, .int .i64 0, .slice none 0 0] fun p24 h25 => (aSt h25 p24 v23 4).bind fun h26 => (C 182 [x0, .int .i64 26, .int .i64 0] h26).bind fun r27 => (asI .i64 r27.1).bind fun n28 => (aOff p24 0).bind fun v29 => (aLd1 r27.2 v29).bind fun v30 => (asI .i64 v30).bind fun n31 => bif n31 == 23 then (C 182 [x0, .int .i64 3, .int .i64 (IntKind.i64.wrap (x4 + 1))] r27.2).bind fun r32 => (asI .i64 r32.1).bind fun n33 => s215_1 hk C N n1 x0 (IntKind.i64.wrap (x4 + 1)) p24 x11 x12 x13 r32.2 else s215_1 hk C N n1 x0 x4 p24 x11 x12 x13 r27.2 else some (.tuple (List.toArray []), h) := by kernel_rfl
theorem s215_1_j (n1 : Nat) (x0 : Value) (x4 : Int) (x7 x11 : Value) (x12 x13 : Int) (h : AHeap) : s215_1 hk0 C N n1 x0 x4 x7 x11 x12 x13 h = F215_1 hk0 C N n1 (⟨47, [(0, x0), (4, .int .i64 x4), (7, x7), (11, x11), (12, .int .i64 x12), (13, .int .i64 x13)]⟩) h := by delta s215_1; exact hk0_app _ _ _ _
theorem s215_1_eq (n1 : Nat) (x0 : Value) (x4 : Int) (x7 x11 : Value) (x12 x13 : Int) (h : AHeap) : F215_1 hk C N n1 (⟨47, [(0, x0), (4, .int .i64 x4), (7, x7), (11, x11), (12, .int .i64 x12), (13, .int .i64 x13)]⟩) h =
  (aOff x7 3).bind fun v34 => (aLd1 h v34).bind fun v35 => (C 216 [x0, v35] h).bind fun r36 => (C 182 [x0, .int .i64 15, .int .i64 0] r36.2).bind fun r37 => (asI .i64 r37.1).bind fun n38 => s215_0 hk C N n1 x0 x4 x11 x12 (IntKind.i64.wrap (x13 + 1)) r37.2 := by kernel_rfl
theorem c215 (d : Nat) (args : List Value) (h : AHeap) : call Tp Ms (d + 1) 215 args h = evFn hk0 Tp (call Tp Ms d) M215 d Try.f215 args h := by kernel_rfl
def F216_0 (n1 : Nat) : Nx (Value × AHeap) := evSt hk Tp C M216 N Try.f216 [1, 2, 6] [n1]
def s216_0 (n1 : Nat) (x0 x6 : Value) (x7 x8 : Int) (h : AHeap) := F216_0 hk C N n1 (⟨16, [(0, x0), (6, x6), (7, .int .i64 x7), (8, .int .i64 x8)]⟩) h
theorem e216 (x0 x1 : Value) (h : AHeap) : evFn hk Tp C M216 N Try.f216 [x0, x1] h =
  (aLen x1).bind fun v1 => (asI .i64 v1).bind fun n2 => s216_0 hk C N N x0 x1 n2 0 h := by kernel_rfl
theorem s216_0_eq (n1 : Nat) (x0 x6 : Value) (x7 x8 : Int) (h : AHeap) : s216_0 hk C N (n1 + 1) x0 x6 x7 x8 h =
  bif decide (x8 < x7) then (aIdx x6 (.int .i64 x8) 1).bind fun v3 => (aLd1 h v3).bind fun v4 => (asI .i64 v4).bind fun n5 => (C 183 [x0, .int .i64 n5] h).bind fun r6 => s216_0 hk C N n1 x0 x6 x7 (IntKind.i64.wrap (x8 + 1)) r6.2 else some (.tuple (List.toArray []), h) := by kernel_rfl
theorem c216 (d : Nat) (args : List Value) (h : AHeap) : call Tp Ms (d + 1) 216 args h = evFn hk0 Tp (call Tp Ms d) M216 d Try.f216 args h := by kernel_rfl
theorem e217 (x0 : Value) (h : AHeap) : evFn hk Tp C M217 N Try.f217 [x0] h =
  (aNil x0).bind fun v1 => (aOff v1 3).bind fun v2 => (aOff v2 3).bind fun v3 => (aLd1 h v3).bind fun v4 => (aLen v4).bind fun v5 => (asI .i64 v5).bind fun n6 => some (.int .i64 n6, h) := by kernel_rfl
theorem c217 (d : Nat) (args : List Value) (h : AHeap) : call Tp Ms (d + 1) 217 args h = evFn hk0 Tp (call Tp Ms d) M217 d Try.f217 args h := by kernel_rfl
theorem e218 (x0 : Value) (x1 : Int) (h : AHeap) : evFn hk Tp C M218 N Try.f218 [x0, .int .i64 x1] h =
  (aNil x0).bind fun v1 => (aOff v1 0).bind fun v2 => (aLd1 h v2).bind fun v3 => (aNil v3).bind fun v4 => (aOff v4 1).bind fun v5 => (aLd1 h v5).bind fun v6 => (aNil v6).bind fun v7 => (aOff v7 1).bind fun v8 => (aLd1 h v8).bind fun v9 => (aIdx v9 (.int .i64 x1) 1).bind fun v10 => (aLd1 h v10).bind fun v11 => (asI .i64 v11).bind fun n12 => bif decide (n12 < 0) then (aNil x0).bind fun v13 => (aOff v13 0).bind fun v14 => (aLd1 h v14).bind fun v15 => (C 184 [v15, .int .i64 2, .int .i64 x1] h).bind fun r16 => some (.tuple (List.toArray []), r16.2) else (aNil x0).bind fun v17 => (aOff v17 0).bind fun v18 => (aLd1 h v18).bind fun v19 => (aNil v19).bind fun v20 => (aOff v20 1).bind fun v21 => (aLd1 h v21).bind fun v22 => (aNil v22).bind fun v23 => (aOff v23 3).bind fun v24 => (aLd1 h v24).bind fun v25 => (aIdx v25 (.int .i64 n12) 1).bind fun v26 => (aLd1 h v26).bind fun v27 => (asI .i64 v27).bind fun n28 => (aNil x0).bind fun v29 => (aOff v29 2).bind fun v30 => (aLd1 h v30).bind fun v31 => (asI .i64 v31).bind fun n32 => bif n28 != n32 then (C 230 [x0, .int .i64 n12] h).bind fun r33 => (asI .i64 r33.1).bind fun n34 => (C 182 [x0, .int .i64 10, .int .i64 n34] r33.2).bind fun r35 => (asI .i64 r35.1).bind fun n36 => some (.tuple (List.toArray []), r35.2) else (aNil x0).bind fun v37 => (aOff v37 0).bind fun v38 => (aLd1 h v38).bind fun v39 => (aNil v39).bind fun v40 => (aOff v40 1).bind fun v41 => (aLd1 h v41).bind fun v42 => (aNil v42).bind fun v43 => (aOff v43 2).bind fun v44 => (aLd1 h v44).bind fun v45 => (aIdx v45 (.int .i64 n12) 1).bind fun v46 => (aLd1 h v46).bind fun v47 => (asB v47).bind fun b48 => bif b48 then (aNil x0).bind fun v49 => (aOff v49 7).bind fun v50 => (aLd1 h v50).bind fun v51 => (aMget h v51 (.int .i64 n12) (.int .i64 0) false).bind fun v52 => (asI .i64 v52).bind fun n53 => (C 182 [x0, .int .i64 9, .int .i64 n53] h).bind fun r54 => (asI .i64 r54.1).bind fun n55 => some (.tuple (List.toArray []), r54.2) else (aNil x0).bind fun v56 => (aOff v56 7).bind fun v57 => (aLd1 h v57).bind fun v58 => (aMget h v58 (.int .i64 n12) (.int .i64 0) false).bind fun v59 => (asI .i64 v59).bind fun n60 => (C 182 [x0, .int .i64 8, .int .i64 n60] h).bind fun r61 => (asI .i64 r61.1).bind fun n62 => some (.tuple (List.toArray []), r61.2) := by kernel_rfl
theorem c218 (d : Nat) (args : List Value) (h : AHeap) : call Tp Ms (d + 1) 218 args h = evFn hk0 Tp (call Tp Ms d) M218 d Try.f218 args h := by kernel_rfl
end
noncomputable section
variable (hk : Hk (Value × AHeap)) (C : ACall) (N : Nat)
theorem e219 (x0 x1 : Value) (h : AHeap) : evFn hk Tp C M219 N Try.f219 [x0, x1] h =
  (aCells x1).bind fun c1 => aNew h 73 c1 fun p2 h3 => (C 217 [x0] h3).bind fun r4 => (asI .i64 r4.1).bind fun n5 => (aOff p2 3).bind fun v6 => (aLd1 r4.2 v6).bind fun v7 => (aIdx v7 (.int .i64 0) 1).bind fun v8 => (aLd1 r4.2 v8).bind fun v9 => (asI .i64 v9).bind fun n10 => (C 183 [x0, .int .i64 n10] r4.2).bind fun r11 => (C 182 [x0, .int .i64 19, .int .i64 0] r11.2).bind fun r12 => (asI .i64 r12.1).bind fun n13 => (aOff p2 3).bind fun v14 => (aLd1 r12.2 v14).bind fun v15 => (aIdx v15 (.int .i64 1) 1).bind fun v16 => (aLd1 r12.2 v16).bind fun v17 => (asI .i64 v17).bind fun n18 => (C 183 [x0, .int .i64 n18] r12.2).bind fun r19 => (aOff p2 0).bind fun v20 => (aLd1 r19.2 v20).bind fun v21 => (asI .i64 v21).bind fun n22 => bif n22 == 18 then (C 182 [x0, .int .i64 18, .int .i64 n5] r19.2).bind fun r23 => (asI .i64 r23.1).bind fun n24 => (aNil x0).bind fun v25 => (aOff v25 3).bind fun v26 => (aOff v26 3).bind fun v27 => (aLd1 r23.2 v27).bind fun v28 => (C 217 [x0] r23.2).bind fun r29 => (asI .i64 r29.1).bind fun n30 => ((aLd1 r29.2 v27).bind fun v31 => some (vbeq v31 v28)).bind fun b32 => bif b32 then (aIdx v28 (.int .i64 n13) 2).bind fun v33 => (aOff v33 1).bind fun v34 => (aSt r29.2 v34 (.int .i64 n30) 1).bind fun h35 => some (.tuple (List.toArray []), h35) else none else (aOff p2 3).bind fun v36 => (aLd1 r19.2 v36).bind fun v37 => (aLen v37).bind fun v38 => (asI .i64 v38).bind fun n39 => bif n39 == 2 then (aNil x0).bind fun v40 => (aOff v40 3).bind fun v41 => (aOff v41 3).bind fun v42 => (aLd1 r19.2 v42).bind fun v43 => (C 217 [x0] r19.2).bind fun r44 => (asI .i64 r44.1).bind fun n45 => ((aLd1 r44.2 v42).bind fun v46 => some (vbeq v46 v43)).bind fun b47 => bif b47 then (aIdx v43 (.int .i64 n13) 2).bind fun v48 => (aOff v48 1).bind fun v49 => (aSt r44.2 v49 (.int .i64 n45) 1).bind fun h50 => some (.tuple (List.toArray []), h50) else none else (C 182 [x0, .int .i64 18, .int .i64 0] r19.2).bind fun r51 => (asI .i64 r51.1).bind fun n52 => (aNil x0).bind fun v53 => (aOff v53 3).bind fun v54 => (aOff v54 3).bind fun v55 => (aLd1 r51.2 v55).bind fun v56 => (C 217 [x0] r51.2).bind fun r57 => (asI .i64 r57.1).bind fun n58 => ((aLd1 r57.2 v55).bind fun v59 => some (vbeq v59 v56)).bind fun b60 => bif b60 then (aIdx v56 (.int .i64 n13) 2).bind fun v61 => (aOff v61 1).bind fun v62 => (aSt r57.2 v62 (.int .i64 n58) 1).bind fun h63 => (aOff p2 3).bind fun v64 => (aLd1 h63 v64).bind fun v65 => (aIdx v65 (.int .i64 2) 1).bind fun v66 => (aLd1 h63 v66).bind fun v67 => (asI .i64 v67).bind fun n68 => (C 183 [x0, .int .i64 n68] h63).bind fun r69 => (aNil x0).bind fun v70 => (aOff v70 3).bind fun v71 => (aOff v71 3).bind fun v72 => (aLd1 r69.2 v72).bind fun v73 => (C 217 [x0] r69.2).bind fun r74 => (asI .i64 r74.1).bind fun n75 => ((aLd1 r74.2 v72).bind fun v76 => some (vbeq v76 v73)).bind fun b77 => bif b77 then (aIdx v73 (.int .i64 n52) 2).bind fun v78 => (aOff v78 1).bind fun v79 => (aSt r74.2 v79 (.int .i64 n75) 1).bind fun h80 => some (.tuple (List.toArray []), h80) else none else none := by kernel_rfl
theorem c219 (d : Nat) (args : List Value) (h : AHeap) : call Tp Ms (d + 1) 219 args h = evFn hk0 Tp (call Tp Ms d) M219 d Try.f219 args h := by kernel_rfl
theorem e229 (x0 : ByteArray) (h : AHeap) : evFn hk Tp C M229 N Try.f229 [.string x0] h =
  (C 236 [] h).bind fun r1 => (C 120 [r1.1, .string x0] r1.2).bind fun r2 => (asI .i64 r2.1).bind fun n3 => some (.int .i64 (IntKind.i64.wrap (1 + n3)), r2.2) := by kernel_rfl
theorem c229 (d : Nat) (args : List Value) (h : AHeap) : call Tp Ms (d + 1) 229 args h = evFn hk0 Tp (call Tp Ms d) M229 d Try.f229 args h := by kernel_rfl
def F230_0 : Nx (Value × AHeap) := evSt hk Tp C M230 N Try.f230 [1, 1, 1, 1] []
def s230_0 (x0 : Value) (x1 : Int) (x6 : Value) (h : AHeap) := hk 8 (⟨85, [(0, x0), (1, .int .i64 x1), (6, x6)]⟩) h (F230_0 hk C N)
theorem e230 (x0 : Value) (x1 : Int) (h : AHeap) : evFn hk Tp C M230 N Try.f230 [x0, .int .i64 x1] h =
  (aNil x0).bind fun v1 => (aOff v1 8).bind fun v2 => (aLd1 h v2).bind fun v3 => (C 237 [v3, .int .i64 x1] h).bind fun r4 => (asI .i64 r4.1).bind fun n5 => bif decide (n5 ≥ 0) then some (.int .i64 n5, r4.2) else (aNil x0).bind fun v6 => (aOff v6 0).bind fun v7 => (aLd1 r4.2 v7).bind fun v8 => (aNil v8).bind fun v9 => (aOff v9 1).bind fun v10 => (aLd1 r4.2 v10).bind fun v11 => (aNil v11).bind fun v12 => (aOff v12 3).bind fun v13 => (aLd1 r4.2 v13).bind fun v14 => (aIdx v14 (.int .i64 x1) 1).bind fun v15 => (aLd1 r4.2 v15).bind fun v16 => (asI .i64 v16).bind fun n17 => (aNil x0).bind fun v18 => (aOff v18 1).bind fun v19 => (aLd1 r4.2 v19).bind fun v20 => (aNil v20).bind fun v21 => (aOff v21 2).bind fun v22 => (aLd1 r4.2 v22).bind fun v23 => (asI .i64 v23).bind fun n24 => aNew r4.2 219 [.bool false, .int .i64 0] fun p25 h26 => ((aLd1 h26 v7).bind fun v27 => some (vbeq v27 v8)).bind fun b28 => bif b28 then ((aLd1 h26 v10).bind fun v29 => some (vbeq v29 v11)).bind fun b30 => bif b30 then ((aLd1 h26 v13).bind fun v31 => some (vbeq v31 v14)).bind fun b32 => bif b32 then ((aLd1 h26 v15).bind fun v33 => (asI .i64 v33).bind fun n34 => some (vbeq (.int .i64 n34) (.int .i64 n17))).bind fun b35 => bif b35 then ((aLd1 h26 v19).bind fun v36 => some (vbeq v36 v20)).bind fun b37 => bif b37 then ((aLd1 h26 v22).bind fun v38 => (asI .i64 v38).bind fun n39 => some (vbeq (.int .i64 n39) (.int .i64 n24))).bind fun b40 => bif b40 then (aSt h26 p25 (.agg (List.toArray [.bool (n17 == n24), .int .i64 0])) 2).bind fun h41 => (aOff p25 0).bind fun v42 => (aLd1 h41 v42).bind fun v43 => (asB v43).bind fun b44 => bif b44 then (aNil x0).bind fun v45 => (aOff v45 1).bind fun v46 => (aLd1 h41 v46).bind fun v47 => (aNil v47).bind fun v48 => (aOff v48 7).bind fun v49 => (aLd1 h41 v49).bind fun v50 => (aMget h41 v50 (.int .i64 x1) (.int .i64 0) false).bind fun v51 => (asI .i64 v51).bind fun n52 => (aOff p25 1).bind fun v53 => (aSt h41 v53 (.int .i64 n52) 1).bind fun h54 => s230_0 hk C N x0 x1 p25 h54 else (aNil x0).bind fun v55 => (aOff v55 1).bind fun v56 => (aLd1 h41 v56).bind fun v57 => (C 230 [v57, .int .i64 x1] h41).bind fun r58 => (asI .i64 r58.1).bind fun n59 => (aOff p25 1).bind fun v60 => (aSt r58.2 v60 (.int .i64 n59) 1).bind fun h61 => s230_0 hk C N x0 x1 p25 h61 else none else none else none else none else none else none := by kernel_rfl
theorem s230_0_j (x0 : Value) (x1 : Int) (x6 : Value) (h : AHeap) : s230_0 hk0 C N x0 x1 x6 h = F230_0 hk0 C N (⟨85, [(0, x0), (1, .int .i64 x1), (6, x6)]⟩) h := by delta s230_0; exact hk0_app _ _ _ _
theorem s230_0_eq (x0 : Value) (x1 : Int) (x6 : Value) (h : AHeap) : F230_0 hk C N (⟨85, [(0, x0), (1, .int .i64 x1), (6, x6)]⟩) h =
  (aNil x0).bind fun v62 => (aOff v62 8).bind fun v63 => (aLd1 h v63).bind fun v64 => aNewS h 3 [.int .i64 x1] 1 fun p65 h66 => (aApp h66 3 1 8 v64 p65).bind fun r67 => (aNil x0).bind fun v68 => (aOff v68 8).bind fun v69 => (aSt r67.2 v69 r67.1 1).bind fun h70 => (aNil x0).bind fun v71 => (aOff v71 3).bind fun v72 => (aOff v72 2).bind fun v73 => (aLd1 h70 v73).bind fun v74 => (aLdN h70 x6 2).bind fun v75 => (aFill [.bool false, .int .i64 0] [(0, 2, v75)]).bind fun c76 => aNewS h70 219 c76 1 fun p77 h78 => ((aLd1 h78 v73).bind fun v79 => some (vbeq v79 v74)).bind fun b80 => bif b80 then (aApp h78 219 2 16 v74 p77).bind fun r81 => (aNil x0).bind fun v82 => (aOff v82 3).bind fun v83 => (aOff v83 2).bind fun v84 => (aSt r81.2 v84 r81.1 1).bind fun h85 => (aNil x0).bind fun v86 => (aOff v86 8).bind fun v87 => (aLd1 h85 v87).bind fun v88 => (aLen v88).bind fun v89 => (asI .i64 v89).bind fun n90 => some (.int .i64 (IntKind.i64.wrap (n90 - 1)), h85) else none := by kernel_rfl
theorem c230 (d : Nat) (args : List Value) (h : AHeap) : call Tp Ms (d + 1) 230 args h = evFn hk0 Tp (call Tp Ms d) M230 d Try.f230 args h := by kernel_rfl
theorem e236 (h : AHeap) : evFn hk Tp C M236 N Try.f236 [] h =
  aNewS h 9 [.string (⟨#[112, 114, 105, 110, 116]⟩), .string (⟨#[116, 111, 115, 116, 114]⟩), .string (⟨#[116, 121, 112, 101]⟩), .string (⟨#[110, 101, 120, 116]⟩), .string (⟨#[112, 99, 97, 108, 108]⟩), .string (⟨#[101, 114, 114, 111, 114]⟩), .string (⟨#[102, 97, 105, 108, 101, 100]⟩), .string (⟨#[99, 111]⟩), .string (⟨#[114, 101, 115, 117, 109, 101]⟩), .string (⟨#[121, 105, 101, 108, 100]⟩), .string (⟨#[115, 116, 97, 116, 101]⟩)] 11 fun p1 h2 => some (p1, h2) := by kernel_rfl
theorem c236 (d : Nat) (args : List Value) (h : AHeap) : call Tp Ms (d + 1) 236 args h = evFn hk0 Tp (call Tp Ms d) M236 d Try.f236 args h := by kernel_rfl
def F237_0 (n1 : Nat) : Nx (Value × AHeap) := evSt hk Tp C M237 N Try.f237 [1, 0, 1, 2, 6] [n1]
def s237_0 (n1 : Nat) (x0 : Value) (x1 x7 x8 : Int) (h : AHeap) := F237_0 hk C N n1 (⟨19, [(0, x0), (1, .int .i64 x1), (7, .int .i64 x7), (8, .int .i64 x8)]⟩) h
theorem e237 (x0 : Value) (x1 : Int) (h : AHeap) : evFn hk Tp C M237 N Try.f237 [x0, .int .i64 x1] h =
  (aLen x0).bind fun v1 => (asI .i64 v1).bind fun n2 => s237_0 hk C N N x0 x1 n2 0 h := by kernel_rfl
theorem s237_0_eq (n1 : Nat) (x0 : Value) (x1 x7 x8 : Int) (h : AHeap) : s237_0 hk C N (n1 + 1) x0 x1 x7 x8 h =
  bif decide (x8 < x7) then (aIdx x0 (.int .i64 x8) 1).bind fun v3 => (aLd1 h v3).bind fun v4 => (asI .i64 v4).bind fun n5 => bif x1 == n5 then some (.int .i64 x8, h) else s237_0 hk C N n1 x0 x1 x7 (IntKind.i64.wrap (x8 + 1)) h else some (.int .i64 (-1), h) := by kernel_rfl
theorem c237 (d : Nat) (args : List Value) (h : AHeap) : call Tp Ms (d + 1) 237 args h = evFn hk0 Tp (call Tp Ms d) M237 d Try.f237 args h := by kernel_rfl
end
theorem ext_AH {b : Nat} {h g : AHeap} (E : AM.Ext b h g) : AH.Ext b h g := ⟨E.size, E.obj, E.ep, E.tip⟩
structure KdH (b : Nat) (h0 : AHeap) (kv : Value) (ks : List Int) : Prop where
 len : aLen kv = some (.int .i64 (ks.length : Int))
 cell : isCell kv = true ∧ ∀ f a c, kv ≠ .func f a c
 vb : vbeq kv kv = true
 at' : ∀ (j : Nat) (k : Int), ks[j]? = some k → ∃ p, aIdx kv (.int .i64 (j : Int)) 1 = some p ∧ ∀ g, AM.Ext b h0 g → aLd1 g p = some (.int .i64 k)
structure TrH (b : Nat) (h0 : AHeap) (nv : Value) (T : List Kn) : Prop where
 len : aLen nv = some (.int .i64 (T.length : Int))
 cell : isCell nv = true ∧ ∀ f a c, nv ≠ .func f a c
 vb : vbeq nv nv = true
 at' : ∀ (i : Nat) (n : Kn), T[i]? = some n → ∃ (q : Nat) (kv : Value), aIdx nv (.int .i64 (i : Int)) 4 = some (ptr q (i * 4)) ∧ KdH b h0 kv n.ks ∧
  ∀ g, AM.Ext b h0 g → aLdN g (ptr q (i * 4)) 4 = some (knVal n kv) ∧ aLd1 g (ptr q (i * 4)) = some (.int .i64 n.k) ∧ aLd1 g (ptr q (i * 4 + 1)) = some (.string n.t) ∧ aLd1 g (ptr q (i * 4 + 2)) = some (.int .i64 n.i) ∧ aLd1 g (ptr q (i * 4 + 3)) = some kv
theorem ISl.kdH {b : Nat} {h0 : AHeap} {kv : Value} {ks : List Int} (x : ISl b h0 kv ks) : KdH b h0 kv ks := ⟨x.len, x.cell, x.vbeq, fun j k hk => by
 obtain ⟨hj, rfl⟩ := List.getElem?_eq_some_iff.1 hk
 rcases x with ⟨rfl, rfl⟩ | ⟨a, n, rfl, rfl⟩ | ⟨i, o, rfl, h2, h3, h4, h5⟩
 ·simp at hj
 ·simp at hj
 ·refine ⟨ptr i j, by simp [aIdx, slc, hj], fun g E => ?_⟩
  have r : AH.Row g i (ints ks) := ⟨o, (ext_AH E).at? h5 h2, h4⟩
  exact r.ld1 (by simp [ints, hj])⟩
theorem KSl.trH {b : Nat} {h0 : AHeap} {nv : Value} {T : List Kn} (x : KSl b h0 nv T) : TrH b h0 nv T := ⟨x.len, x.cell, x.vbeq, fun i n hn => by
 obtain ⟨hj, rfl⟩ := List.getElem?_eq_some_iff.1 hn
 obtain ⟨q, kv, a, is, f⟩ := x.at hj
 exact ⟨q, kv, a, is.kdH, fun g E => f g (ext_AH E)⟩⟩
structure FRw where
 pr : Int
 pu : AM.SR
 cd : AM.SR
 nm : AM.SR
 nd : AM.SR
 up : AM.SR
 ow : AM.SR
 uc : List Value
 cc : List Value
def FRw.cells (r : FRw) (F : CF) : List Value := [.int .i64 r.pr, .int .i64 0, r.pu.val F.up.length, r.cd.val F.ln, r.nm.val F.nd.length, r.nd.val F.nd.length, r.up.val F.up.length, .slice none 0 0, r.ow.val F.own.length]
def FRw.rows (T : List Kn) (r : FRw) (F : CF) : List AM.ORow :=
 [r.pu.row 219 r.uc, r.cd.row 206 r.cc, r.up.row 3 (ints F.up), r.ow.row 3 (ints F.own)]
def RowP (P : List AM.ORow) (r : AM.SR) (e : TypeId) (cs : List Value) : Prop := (r.lv = true → r.row e cs ∈ P) ∧ (r.lv = false → cs = [])
def FsP (T : List Kn) (P : List AM.ORow) : List FRw → List CF → Prop
 | r :: rs, F :: Fs => RowP P r.nm 9 (strs (F.nd.map (tx T))) ∧ RowP P r.nd 3 (ints F.nd) ∧ FsP T P rs Fs
 | _, _ => True
theorem RowP.mono {P P' : List AM.ORow} {r : AM.SR} {e : TypeId} {cs : List Value} (x : RowP P r e cs) (h : P ⊆ P') : RowP P' r e cs := ⟨fun l => h (x.1 l), x.2⟩
theorem FsP.mono {T : List Kn} {P P' : List AM.ORow} (h : P ⊆ P') : ∀ {rs : List FRw} {Fs : List CF}, FsP T P rs Fs → FsP T P' rs Fs
 | [], [], _ => trivial
 | [], _ :: _, _ => trivial
 | _ :: _, [], _ => trivial
 | _ :: _, _ :: _, ⟨a, b, c⟩ => ⟨a.mono h, b.mono h, FsP.mono h c⟩
section
variable {P O : List AM.ORow} {r : AM.SR} {e : TypeId} {cs : List Value} {k j : Nat} {v : Value} {b : Nat} {h : AHeap} {M : List AM.MRow}
theorem memRow (y : AM.Cx b h [] O M) {q : AM.ORow} (hm : q ∈ O) (hl : q.lv = true) : AM.Row h q.i q.cs := ((y.ow q hm).1 hl).1.row
theorem RowP.len (x : RowP P r e cs) (hk : cs.length = k) : aLen (r.val k) = some (.int .i64 (k : Int)) := by
 unfold AM.SR.val
 cases hl : r.lv with
 | true => rfl
 | false =>
  have := x.2 hl
  subst this
  have : k = 0 := hk.symm
  subst this
  rfl
theorem RowP.ix (x : RowP P r e cs) (hk : cs.length = k) (hj : j < k) : aIdx (r.val k) (.int .i64 (j : Int)) 1 = some (ptr r.i j) := by
 cases hl : r.lv with
 | true =>
  rw [AM.SR.live hl]
  have h1 : (0 : Int) ≤ (j : Int) ∧ (j : Int) < (k : Int) := by omega
  simp only [aIdx, slc]
  rw [if_pos h1, Int.toNat_natCast, Nat.zero_add, Nat.mul_one]
 | false =>
  have := x.2 hl
  subst this
  simp at hk
  omega
theorem RowP.ld (x : RowP P r e cs) (y : AM.Cx b h [] O M) (hP : P ⊆ O) (hv : cs[j]? = some v) : aLd1 h (ptr r.i j) = some v := by
 cases hl : r.lv with
 | true => exact (memRow y (hP (x.1 hl)) hl).ld1 hv
 | false =>
  have := x.2 hl
  subst this
  cases hv
theorem RowP.src (x : RowP P r e cs) (y : AM.Cx b h [] O M) (hP : P ⊆ O) (hk : cs.length = k) : aSrc h 1 (r.val k) = some (k, cs) := by
 unfold AM.SR.val
 cases hl : r.lv with
 | true =>
  have := (memRow y (hP (x.1 hl)) hl).src (off := 0) (n := k) (esz := 1) (by show 0 + k * 1 ≤ cs.length; omega)
  rw [List.drop_zero, List.take_of_length_le (by show cs.length ≤ k * 1; omega)] at this
  exact this
 | false =>
  have := x.2 hl
  subst this
  have : k = 0 := hk.symm
  subst this
  rfl
end
def fsC : List FRw → List CF → List Value
 | r :: rs, F :: Fs => fsC rs Fs ++ r.cells F
 | _, _ => []
def fsR (T : List Kn) : List FRw → List CF → List AM.ORow
 | r :: rs, F :: Fs => r.rows T F ++ fsR T rs Fs
 | _, _ => []
def FsOk : List FRw → List CF → Prop
 | [], [] => True
 | r :: rs, F :: Fs => r.uc.length = F.up.length * 2 ∧ r.cc.length = F.ln * 2 ∧ FsOk rs Fs
 | _, _ => False
theorem FsOk.len : ∀ {rs : List FRw} {Fs : List CF}, FsOk rs Fs → (fsC rs Fs).length = Fs.length * 9
 | [], [], _ => rfl
 | [], _ :: _, h => h.elim
 | _ :: _, [], h => h.elim
 | r :: rs, F :: Fs, ⟨_, _, h⟩ => by
  show (fsC rs Fs ++ r.cells F).length = (Fs.length + 1) * 9
  rw [List.length_append, h.len]
  show _ + 9 = _
  omega
structure Cn where
 b : Nat
 h0 : AHeap
 T : List Kn
 nv : Value
 top : Int
 G : Nat
 on : Nat
 bx : AM.SR
structure Cn.Ok (c : Cn) : Prop where
 tr : TrH c.b c.h0 c.nv c.T
 S : Shp c.T
 len : c.T.length ≤ 3000
 num : ∀ (i : Nat) (n : Kn), c.T[i]? = some n → n.k = 6 → numS c.T (i : Int) < c.on
 pos : 0 < c.on
structure WS where
 n : Nat
 fr : AM.SR
 ou : AM.SR
 tx : AM.SR
 rs : List FRw
 jk : List Value
 oc : List Value
 nd : Int
def gC (c : Cn) (W : WS) (s : SG) : List Value := [c.nv, .int .i64 c.top, W.fr.val W.n, c.bx.val s.bx.length, W.ou.val c.on, W.tx.val s.ts.length, .int .i64 s.cd, .int .i64 W.nd]
structure Sp (c : Cn) (P Q : List AM.ORow) (W : WS) (s : SG) (h : AHeap) : Prop where
 y : AM.Cx c.b h [] (⟨c.G, c.G, 167, true, gC c W s⟩ :: W.fr.row 195 (fsC W.rs s.fs ++ W.jk) :: c.bx.row 4 (bls s.bx) :: W.ou.row 173 W.oc :: W.tx.row 9 (strs s.ts) :: (fsR c.T W.rs s.fs ++ Q)) []
 E : AM.Ext c.b c.h0 h
 k : FsOk W.rs s.fs
 o : W.oc.length = c.on * 4
 n : s.fs.length ≤ W.n ∧ W.n * 9 ≤ s.fs.length * 9 + W.jk.length
 p : FsP c.T P W.rs s.fs
 q : P ⊆ Q
def SpM (c : Cn) (Q : List AM.ORow) (s : SG) (h : AHeap) : Prop := ∃ (W : WS) (P : List AM.ORow), W.n = s.fs.length ∧ Q ⊆ P ∧ Sp c P P W s h
theorem ag {o : Option Value} {v : Value} (e : o = some v) (hv : vbeq v v = true) : (o.bind fun x => some (vbeq x v)) = some true := by rw [e]; exact congrArg some hv
theorem agI' {o : Option Value} {k : IntKind} {x : Int} (e : o = some (.int k x)) : (o.bind fun v => (asI k v).bind fun n => some (vbeq (.int k n) (.int k x))) = some true := by
 rw [e]
 simp [asI, vbeq, vbeq1]
theorem agS' {o : Option Value} {t : ByteArray} (e : o = some (.string t)) : (o.bind fun v => (asS v).bind fun n => some (vbeq (.string n) (.string t))) = some true := by
 rw [e]
 show some (vbeq (.string t) (.string t)) = _
 rw [vbeq_str]
theorem wp (n : Nat) (h : n ≤ 100000000) : IntKind.i64.wrap (((n + 1 : Nat) : Int) - 1) = (n : Int) := by
 rw [wr (by omega) (by omega)]; omega
theorem wq {x : Int} (h0 : -1000 ≤ x) (h : x ≤ 100000000) : IntKind.i64.wrap x = x := wr (by omega) (by omega)
theorem spl {A B J : List Value} {k : Nat} {v : Value} (hk : k < B.length) : splice (A ++ B ++ J) (A.length + k) [v] = A ++ B.set k v ++ J := by
 unfold splice
 have h1 : (A ++ B ++ J).take (A.length + k) = A ++ B.take k := by
  rw [List.append_assoc, List.take_append, List.take_of_length_le (by omega), List.take_append, Nat.add_sub_cancel_left, show k - B.length = 0 by omega]
  simp
 have h2 : (A ++ B ++ J).drop (A.length + k + [v].length) = B.drop (k + 1) ++ J := by
  rw [List.append_assoc, List.drop_append, List.drop_eq_nil_of_le (by simp; omega), List.nil_append, List.drop_append]
  have e1 : A.length + k + [v].length - A.length = k + 1 := by simp; omega
  rw [e1, show k + 1 - B.length = 0 by omega]
  simp
 rw [h1, h2, List.set_eq_take_append_cons_drop, if_pos hk]
 simp
section
variable {c : Cn} {P Q : List AM.ORow} {W : WS} {s : SG} {h : AHeap} {F : CF} {R : List CF} {r : FRw} {rs : List FRw}
theorem Sp.ixF (q : Sp c P Q W s h) (e : s.fs = F :: R) : aIdx (W.fr.val W.n) (.int .i64 (R.length : Int)) 9 = some (ptr W.fr.i (R.length * 9)) ∧ W.fr.lv = true := by
 have hl := q.k.len
 have hn := q.n
 have h1 : s.fs.length = R.length + 1 := by rw [e]; rfl
 refine q.y.ix 1 (r := W.fr) rfl ?_ (by decide) (by omega)
 rw [List.length_append, hl]
 exact hn.2
theorem fsC_get (k : FsOk (r :: rs) (F :: R)) {J : List Value} {m : Nat} (hm : m < 9) : (fsC (r :: rs) (F :: R) ++ J)[R.length * 9 + m]? = (r.cells F)[m]? := by
 have hl := k.2.2.len
 show (fsC rs R ++ r.cells F ++ J)[R.length * 9 + m]? = _
 rw [List.append_assoc, List.getElem?_append_right (by omega), hl, Nat.add_sub_cancel_left, List.getElem?_append_left (by show m < 9; exact hm)]
theorem Sp.len (q : Sp c P Q W s h) : aLen (W.fr.val W.n) = some (.int .i64 (W.n : Int)) := by
 have hl := q.k.len
 refine q.y.len 1 (r := W.fr) (esz := 9) rfl ?_ (by decide)
 rw [List.length_append, hl]
 exact q.n.2
theorem Sp.drop (q : Sp c P Q W s h) (e : s.fs = F :: R) (er : W.rs = r :: rs) : Sp c P (r.rows c.T F ++ Q) { W with rs := rs, jk := r.cells F ++ W.jk } { s with fs := R } h := by
 have y := q.y
 rw [e, er] at y
 have k := q.k
 rw [e, er] at k
 have n := q.n
 rw [e] at n
 have p := q.p
 rw [e, er] at p
 refine ⟨?_, q.E, k.2.2, q.o, ?_, p.2.2, fun x hx => List.mem_append_right _ (q.q hx)⟩
 ·have e1 : fsC (r :: rs) (F :: R) ++ W.jk = fsC rs R ++ (r.cells F ++ W.jk) := by
   show fsC rs R ++ r.cells F ++ W.jk = _
   rw [List.append_assoc]
  rw [e1] at y
  refine y.perm ?_
  refine List.Perm.cons _ (List.Perm.cons _ (List.Perm.cons _ (List.Perm.cons _ (List.Perm.cons _ ?_))))
  show List.Perm (r.rows c.T F ++ fsR c.T rs R ++ Q) (fsR c.T rs R ++ (r.rows c.T F ++ Q))
  rw [← List.append_assoc]
  exact List.Perm.append_right _ List.perm_append_comm
 ·have h1 : (r.cells F ++ W.jk).length = W.jk.length + 9 := by
   rw [List.length_append]
   show 9 + _ = _
   omega
  simp only [List.length_cons] at n
  show R.length ≤ W.n ∧ W.n * 9 ≤ R.length * 9 + (r.cells F ++ W.jk).length
  omega
theorem Sp.undrop {J : List Value} (q : Sp c P (r.rows c.T F ++ Q) W s h) (ej : W.jk = r.cells F ++ J) (hn : s.fs.length + 1 ≤ W.n) (hk : r.uc.length = F.up.length * 2 ∧ r.cc.length = F.ln * 2) (hp : RowP P r.nm 9 (strs (F.nd.map (tx c.T))) ∧ RowP P r.nd 3 (ints F.nd)) (hq : P ⊆ Q) : Sp c P Q { W with rs := r :: W.rs, jk := J } { s with fs := F :: s.fs } h := by
 have y := q.y
 have n := q.n
 rw [ej] at y n
 refine ⟨?_, q.E, ⟨hk.1, hk.2, q.k⟩, q.o, ?_, ⟨hp.1, hp.2, q.p⟩, hq⟩
 ·have e1 : fsC (r :: W.rs) (F :: s.fs) ++ J = fsC W.rs s.fs ++ (r.cells F ++ J) := by
   show fsC W.rs s.fs ++ r.cells F ++ J = _
   rw [List.append_assoc]
  show AM.Cx c.b h [] (⟨c.G, c.G, 167, true, gC c W s⟩ :: W.fr.row 195 (fsC (r :: W.rs) (F :: s.fs) ++ J) :: c.bx.row 4 (bls s.bx) :: W.ou.row 173 W.oc :: W.tx.row 9 (strs s.ts) :: (r.rows c.T F ++ fsR c.T W.rs s.fs ++ Q)) []
  rw [e1]
  refine y.perm ?_
  refine List.Perm.cons _ (List.Perm.cons _ (List.Perm.cons _ (List.Perm.cons _ (List.Perm.cons _ ?_))))
  rw [← List.append_assoc]
  exact List.Perm.append_right _ List.perm_append_comm
 ·have h1 : (r.cells F ++ J).length = J.length + 9 := by
   rw [List.length_append]
   show 9 + _ = _
   omega
  rw [h1] at n
  show (F :: s.fs).length ≤ W.n ∧ W.n * 9 ≤ (F :: s.fs).length * 9 + J.length
  rw [List.length_cons]
  omega
theorem Sp.ins {row : AM.ORow} {P Q0 : List AM.ORow} (q : Sp c P Q0 W s h) (hq : P ⊆ Q) {g : AHeap} (E : AM.Ext c.b h g) (y : AM.Cx c.b g [] (row :: ⟨c.G, c.G, 167, true, gC c W s⟩ :: W.fr.row 195 (fsC W.rs s.fs ++ W.jk) :: c.bx.row 4 (bls s.bx) :: W.ou.row 173 W.oc :: W.tx.row 9 (strs s.ts) :: (fsR c.T W.rs s.fs ++ Q)) []) : Sp c P (row :: Q) W s g := by
 refine ⟨y.perm ?_, q.E.trans E, q.k, q.o, q.n, q.p, fun x hx => List.mem_cons_of_mem _ (hq hx)⟩
 have p : List.Perm (row :: (fsR c.T W.rs s.fs ++ Q)) (fsR c.T W.rs s.fs ++ row :: Q) := List.perm_middle.symm
 exact (List.perm_middle (l₁ := [⟨c.G, c.G, 167, true, gC c W s⟩, W.fr.row 195 (fsC W.rs s.fs ++ W.jk), c.bx.row 4 (bls s.bx), W.ou.row 173 W.oc, W.tx.row 9 (strs s.ts)])).symm.trans
  (List.Perm.cons _ (List.Perm.cons _ (List.Perm.cons _ (List.Perm.cons _ (List.Perm.cons _ p)))))
theorem Sp.sub (q : Sp c P Q W s h) : P ⊆ (⟨c.G, c.G, 167, true, gC c W s⟩ :: W.fr.row 195 (fsC W.rs s.fs ++ W.jk) :: c.bx.row 4 (bls s.bx) :: W.ou.row 173 W.oc :: W.tx.row 9 (strs s.ts) :: (fsR c.T W.rs s.fs ++ Q)) :=
 fun x hx => List.mem_cons_of_mem _ (List.mem_cons_of_mem _ (List.mem_cons_of_mem _ (List.mem_cons_of_mem _ (List.mem_cons_of_mem _ (List.mem_append_right _ (q.q hx))))))
theorem Sp.grow {P' : List AM.ORow} (q : Sp c P Q W s h) (h1 : P ⊆ P') (h2 : P' ⊆ Q) : Sp c P' Q W s h := ⟨q.y, q.E, q.k, q.o, q.n, q.p.mono h1, h2⟩
theorem SpM.new (q : SpM c Q s h) (t : TypeId) (cs : List Value) : SpM c (⟨h.size, h.size, t, true, cs⟩ :: Q) s (h.new t cs) := by
 obtain ⟨W, P, hn, hq, q⟩ := q
 refine ⟨W, _ :: P, hn, List.cons_subset_cons _ hq, (q.ins q.q (q.y.nw t cs) (q.y.new t cs)).grow (List.subset_cons_self _ _) (fun _ h => h)⟩
theorem SpM.out {row : AM.ORow} (q : SpM c (row :: Q) s h) : SpM c Q s h := by
 obtain ⟨W, P, hn, hq, q⟩ := q
 exact ⟨W, P, hn, fun x hx => hq (List.mem_cons_of_mem _ hx), q⟩
theorem SpM.row (q : SpM c Q s h) {row : AM.ORow} (hm : row ∈ Q) (hl : row.lv = true) : AM.Row h row.i row.cs := by
 obtain ⟨W, P, hn, hq, q⟩ := q
 exact memRow q.y (List.mem_cons_of_mem _ (List.mem_cons_of_mem _ (List.mem_cons_of_mem _ (List.mem_cons_of_mem _ (List.mem_cons_of_mem _ (List.mem_append_right _ (hq hm))))))) hl
end
open Go.AM (Rs)
def hdLn (s : SG) : Nat := match s.fs with | [] => 0 | F :: _ => F.ln
section
variable {c : Cn} {Q : List AM.ORow} {s : SG} {h : AHeap}
theorem u180 {e : Nat} (q : SpM c Q s h) (x1 x2 : Int) : Rs (fun v g => v = unitV ∧ SpM c Q (s.fail x1) g) (call Tp Ms (e + 1) 180 [ptr c.G 0, .int .i64 x1, .int .i64 x2] h) := by
 obtain ⟨W, P, hn, hq, q⟩ := q
 have y := q.y
 rw [c180, e180]
 refine Rs.b rfl (Rs.b rfl (Rs.b (y.ldO 0 6 rfl rfl) (Rs.b rfl ?_)))
 unfold SG.fail
 by_cases hc : s.cd = 0
 ·rw [if_pos hc]
  obtain ⟨g, c1, E1, y1, _⟩ := y.st 0 (off := 6) (m := 1) (vs := [.int .i64 x1]) (v := .int .i64 x1) rfl rfl rfl (by show 7 ≤ 8; decide)
  obtain ⟨g2, c2, E2, y2, _⟩ := y1.st 0 (off := 7) (m := 1) (vs := [.int .i64 x2]) (v := .int .i64 x2) rfl rfl rfl (by show 8 ≤ 8; decide)
  refine Rs.ct (by rw [hc]; rfl) (Rs.b rfl (Rs.b rfl (Rs.b c1 (Rs.b rfl (Rs.b rfl (Rs.b c2 ?_))))))
  exact Rs.fin ⟨rfl, { W with nd := x2 }, P, hn, hq, ⟨y2, (q.E.trans E1).trans E2, q.k, q.o, q.n, q.p, q.q⟩⟩
 ·rw [if_neg hc]
  exact Rs.cf (by simp [hc]) (Rs.fin ⟨rfl, W, P, hn, hq, q⟩)
theorem u208 {e : Nat} (q : SpM c Q s h) (hfs : s.fs ≠ []) (hb : Bs 10000000 s) : Rs (fun v g => v = .int .i64 (hdLn s : Int) ∧ g = h) (call Tp Ms (e + 1) 208 [ptr c.G 0] h) := by
 obtain ⟨⟨n, fr, ou, tx, rs, jk, oc, nd⟩, P, hn, hq, q⟩ := q
 obtain ⟨fs, sbx, ts, cd⟩ := s
 cases fs with
 | nil => exact absurd rfl hfs
 | cons F R =>
 cases rs with
 | nil => exact q.k.elim
 | cons r rs =>
 dsimp only at hn
 subst hn
 have y := q.y
 have hR : R.length ≤ 100000000 := by have := hb.n; simp only [List.length_cons] at this; omega
 have ix := q.ixF rfl
 rw [c208, e208]
 refine Rs.b rfl (Rs.b rfl (Rs.b (y.ldO 0 2 rfl rfl) (Rs.b rfl (Rs.b rfl (Rs.b (y.ldO 0 2 rfl rfl) (Rs.b q.len (Rs.b rfl ?_)))))))
 rw [List.length_cons, wp _ hR]
 refine Rs.b ix.1 (Rs.b rfl (Rs.b rfl (Rs.b (y.ldS 1 (r := fr) (k := R.length * 9 + 3) rfl ((fsC_get q.k (by decide)).trans rfl)) (Rs.b (y.len 6 (r := r.cd) (esz := 2) rfl (by have := q.k.2.1; show F.ln * 2 ≤ r.cc.length; omega) (by decide)) (Rs.b rfl (Rs.fin ⟨rfl, rfl⟩))))))
end
open Go.AM (Rs)
theorem srCells (r : AM.SR) (n : Nat) : aCells (r.val n) = some [r.val n] := by
 unfold AM.SR.val; split <;> rfl
section
variable {b : Nat} {g : AHeap} {O : List AM.ORow} {M : List AM.MRow} {fi frt : Nat} {r : FRw} {rs : List FRw} {F : CF} {R : List CF} {jk : List Value}
theorem srcN (y : AM.Cx b g [] O M) (n : Nat) {i rt k esz : Nat} {t : TypeId} {cs : List Value} (e : O[n]? = some ⟨i, rt, t, true, cs⟩) (hk : k * esz = cs.length) : aSrc g esz (slc i 0 k) = some (k, cs) := by
 have := (y.row n e rfl).src (off := 0) (n := k) (esz := esz) (by show 0 + k * esz ≤ cs.length; omega)
 rw [List.drop_zero, hk] at this
 rw [this]
 simp
theorem stF (y : AM.Cx b g [] O M) (n : Nat) (e : O[n]? = some ⟨fi, frt, 195, true, fsC (r :: rs) (F :: R) ++ jk⟩) (k : FsOk (r :: rs) (F :: R)) {m : Nat} (hm : m < 9) {v : Value} (hv : aCells v = some [v]) :
  ∃ g', aSt g (ptr fi (R.length * 9 + m)) v 1 = some g' ∧ AM.Ext b g g' ∧ AM.Cx b g' [] (O.set n ⟨fi, frt, 195, true, fsC rs R ++ (r.cells F).set m v ++ jk⟩) M := by
 have hl := k.2.2.len
 have hc : (fsC (r :: rs) (F :: R) ++ jk).length = R.length * 9 + 9 + jk.length := by
  rw [List.length_append, k.len, List.length_cons]; omega
 obtain ⟨g', c1, E, y1, _⟩ := y.st n (off := R.length * 9 + m) (m := 1) (vs := [v]) (v := v) e hv rfl (by omega)
 refine ⟨g', c1, E, ?_⟩
 have es : splice (fsC (r :: rs) (F :: R) ++ jk) (R.length * 9 + m) [v] = fsC rs R ++ (r.cells F).set m v ++ jk := by
  rw [← hl]
  exact spl (A := fsC rs R) (B := r.cells F) (J := jk) (v := v) hm
 rw [es] at y1
 exact y1
end
section
variable {c : Cn} {Q : List AM.ORow} {s : SG} {h : AHeap}
theorem u178 {e : Nat} (q : SpM c Q s h) (hfs : s.fs ≠ []) (hb : Bs 10000000 s) (x1 x2 : Int) : Rs (fun v g => v = .int .i64 (hdLn s : Int) ∧ SpM c Q s.emit g) (call Tp Ms (e + 1) 178 [ptr c.G 0, .int .i64 x1, .int .i64 x2] h) := by
 obtain ⟨⟨n, ⟨fi, frt, flv⟩, ou, tx, rs, jk, oc, nd⟩, P, hn, hq, q⟩ := q
 obtain ⟨fs, sbx, ts, cd⟩ := s
 cases fs with
 | nil => exact absurd rfl hfs
 | cons F R =>
 cases rs with
 | nil => exact q.k.elim
 | cons r rs =>
 dsimp only at hn
 subst hn
 have hR : R.length ≤ 100000000 := by have := hb.n; simp only [List.length_cons] at this; omega
 have hln : F.ln ≤ 10000000 := (hb.f F (by simp)).ln
 have ix := q.ixF rfl
 have len := q.len
 have k := q.k
 have y := q.y
 dsimp only at ix len y k
 obtain ⟨ix, hlv⟩ := ix
 subst hlv
 have hcc : r.cc.length = F.ln * 2 := k.2.1
 rw [c178, e178]
 refine Rs.b rfl (Rs.b rfl (Rs.b (y.ldO 0 2 rfl rfl) (Rs.b len (Rs.b rfl (Rs.b rfl (Rs.b rfl (Rs.b (y.ldO 0 2 rfl rfl) (Rs.b rfl (Rs.b rfl (Rs.b (y.ldO 0 2 rfl rfl) ?_))))))))))
 rw [List.length_cons, wp _ hR]
 refine Rs.b ix (Rs.b rfl (Rs.b rfl (Rs.b (y.ldS 1 (r := ⟨fi, frt, true⟩) (k := R.length * 9 + 3) rfl ((fsC_get k (by decide)).trans rfl)) (Rs.b (r := [.int .i64 x1, .int .i64 x2]) rfl (Rs.ns y fun p g1 E1 y1 => ?_)))))
 refine Rs.b (ag (y1.ldO 1 2 rfl rfl) (AM.SR.vb _ _)) (Rs.ct rfl (Rs.b (ag (y1.ldO 1 2 rfl rfl) (AM.SR.vb _ _)) (Rs.ct rfl (Rs.b (ag (y1.ldS 2 (r := ⟨fi, frt, true⟩) (k := R.length * 9 + 3) rfl ((fsC_get k (by decide)).trans rfl)) (AM.SR.vb _ _)) (Rs.ct rfl ?_)))))
 obtain ⟨cd', g2, a2, hl2, E2, y2⟩ := y1.apS 7 (r := r.cd) (n' := F.ln) (m := 1) (esz := 2) (bytes := 16) (t := 206) rfl (srcN y1 0 (k := 1) (esz := 2) rfl rfl) (by decide) (by decide) (by rw [hcc]; exact Nat.le_refl _) (by show _ ≤ 140737488355328; omega) (by show _ ≤ 140737488355328; omega)
 rw [List.take_of_length_le (by omega)] at y2
 refine Rs.b a2 (Rs.b (ag (y2.ldO 1 2 rfl rfl) (AM.SR.vb _ _)) (Rs.ct rfl (Rs.b ix (Rs.b rfl (Rs.b rfl ?_)))))
 obtain ⟨g3, a3, E3, y3⟩ := stF y2 2 (r := r) (F := F) rfl k (m := 3) (by decide) (srCells cd' (F.ln + 1))
 have k3 : FsOk ({ r with cd := cd', cc := r.cc ++ [.int .i64 x1, .int .i64 x2] } :: rs) ({ F with ln := F.ln + 1 } :: R) := ⟨k.1, by show (r.cc ++ _).length = _; rw [List.length_append, hcc]; show _ + 2 = (F.ln + 1) * 2; omega, k.2.2⟩
 have y4 : AM.Cx c.b g3 [] (⟨c.G, c.G, 167, true, gC c ⟨R.length + 1, ⟨fi, frt, true⟩, ou, tx, { r with cd := cd', cc := r.cc ++ [.int .i64 x1, .int .i64 x2] } :: rs, jk, oc, nd⟩ ⟨{ F with ln := F.ln + 1 } :: R, sbx, ts, cd⟩⟩ :: AM.SR.row ⟨fi, frt, true⟩ 195 (fsC ({ r with cd := cd', cc := r.cc ++ [.int .i64 x1, .int .i64 x2] } :: rs) ({ F with ln := F.ln + 1 } :: R) ++ jk) :: c.bx.row 4 (bls sbx) :: ou.row 173 oc :: tx.row 9 (strs ts) :: (fsR c.T ({ r with cd := cd', cc := r.cc ++ [.int .i64 x1, .int .i64 x2] } :: rs) ({ F with ln := F.ln + 1 } :: R) ++ P)) [] := y3.pick (List.sublist_cons_self _ _)
 have l3 : aLen (cd'.val (F.ln + 1)) = some (.int .i64 ((F.ln + 1 : Nat) : Int)) := by rw [AM.SR.live hl2]; rfl
 refine Rs.b a3 (Rs.b rfl (Rs.b rfl (Rs.b (y4.ldO 0 2 rfl rfl) (Rs.b ix (Rs.b rfl (Rs.b rfl (Rs.b (y4.ldS 1 (r := ⟨fi, frt, true⟩) (k := R.length * 9 + 3) rfl ((fsC_get k3 (by decide)).trans rfl)) (Rs.b l3 (Rs.b rfl ?_)))))))))
 rw [wp _ (by omega)]
 exact Rs.fin ⟨rfl, ⟨R.length + 1, ⟨fi, frt, true⟩, ou, tx, _ :: rs, jk, oc, nd⟩, P, rfl, hq, ⟨y4, ((q.E.trans E1).trans E2).trans E3, k3, q.o, q.n, q.p, q.q⟩⟩
end
open Go.AM (Rs)
section
variable {c : Cn} {Q : List AM.ORow} {s : SG} {h g : AHeap} {W : WS}
theorem Sp.ext {P : List AM.ORow} (q : Sp c P Q W s h) (E : AM.Ext h.size h g) : Sp c P Q W s g := ⟨q.y.ext E, q.E.trans (E.mono q.y.bh), q.k, q.o, q.n, q.p, q.q⟩
theorem SpM.ext (q : SpM c Q s h) (E : AM.Ext h.size h g) : SpM c Q s g := let ⟨W, P, hn, hq, q⟩ := q; ⟨W, P, hn, hq, q.ext E⟩
theorem kd_of {b : Nat} {O : List AM.ORow} {M : List AM.MRow} (y : AM.Cx b h [] O M) (n : Nat) {r : AM.SR} {xs : List Int} (e : O[n]? = some (r.row 3 (ints xs))) : KdH h.size h (r.val xs.length) xs := by
 have hl : (ints xs).length = xs.length := by simp [ints]
 have l := y.len n (k := xs.length) (esz := 1) e (by omega) (by decide)
 refine ⟨l, ⟨r.cell _, ?_⟩, r.vb _, fun j k hk => ?_⟩
 ·unfold AM.SR.val
  split <;> exact fun _ _ _ h => by cases h
 ·obtain ⟨hj, rfl⟩ := List.getElem?_eq_some_iff.1 hk
  obtain ⟨ix, hv⟩ := y.ix n (k := xs.length) (esz := 1) e (by omega) (by decide) hj
  rw [Nat.mul_one] at ix
  refine ⟨ptr r.i j, ix, fun g E => ?_⟩
  have rw' := y.row n e hv
  have hlt : r.i < h.size := by
   have o := (y.ow _ (List.mem_of_getElem? e)).1 hv
   exact o.1.lt.2
  exact (rw'.ext E hlt).ld1 (by show (ints xs)[j]? = _; simp [ints, hj])
theorem KdH.self {kv : Value} {ks : List Int} (x : KdH h.size h kv ks) {j : Nat} {k : Int} (hk : ks[j]? = some k) {g : AHeap} (E : AM.Ext h.size h g) : ∃ p, aIdx kv (.int .i64 (j : Int)) 1 = some p ∧ aLd1 g p = some (.int .i64 k) := let ⟨p, a, f⟩ := x.at' j k hk; ⟨p, a, f g E⟩
theorem u210 {e : Nat} (q : SpM c Q s h) (hfs : s.fs ≠ []) (hb : Bs 10000000 s) {a : Nat} (ha : a < hdLn s) : Rs (fun v g => v = unitV ∧ SpM c Q s g) (call Tp Ms (e + 2) 210 [ptr c.G 0, .int .i64 (a : Int)] h) := by
 have q0 := q
 obtain ⟨⟨n, fr, ou, tx, rs, jk, oc, nd⟩, P, hn, hq, q⟩ := q
 obtain ⟨fs, sbx, ts, cd⟩ := s
 cases fs with
 | nil => exact absurd rfl hfs
 | cons F R =>
 cases rs with
 | nil => exact q.k.elim
 | cons r rs =>
 obtain ⟨pr, pu, ⟨ci, crt, clv⟩, nm, rnd, up, ow, uc, cc⟩ := r
 dsimp only at hn
 subst hn
 have hR : R.length ≤ 100000000 := by have := hb.n; simp only [List.length_cons] at this; omega
 have ix := (q.ixF rfl).1
 have len := q.len
 have k := q.k
 have y := q.y
 dsimp only at ix len y k
 have hcc : cc.length = F.ln * 2 := k.2.1
 have hv := (y.ix 6 (r := ⟨ci, crt, clv⟩) (e := 206) (cs := cc) (k := F.ln) (esz := 2) (j := a) rfl (by omega) (by decide) ha)
 obtain ⟨hv, hlv⟩ := hv
 dsimp only at hlv
 subst hlv
 rw [c210, e210]
 refine Rs.b rfl (Rs.b rfl (Rs.b (y.ldO 0 2 rfl rfl) (Rs.b rfl (Rs.b rfl (Rs.b (y.ldO 0 2 rfl rfl) (Rs.b len (Rs.b rfl ?_)))))))
 rw [List.length_cons, wp _ hR]
 have ld3 := y.ldS 1 (r := fr) (k := R.length * 9 + 3) rfl ((fsC_get k (by decide)).trans rfl)
 refine Rs.b ix (Rs.b rfl (Rs.b rfl (Rs.b ld3 (Rs.c (u208 q0 hfs hb) fun v g hg => ?_))))
 obtain ⟨rfl, rfl⟩ := hg
 refine Rs.b rfl (Rs.b (ag (y.ldO 0 2 rfl rfl) (AM.SR.vb _ _)) (Rs.ct rfl (Rs.b (ag (y.ldO 0 2 rfl rfl) (AM.SR.vb _ _)) (Rs.ct rfl (Rs.b (ag ld3 (AM.SR.vb _ _)) (Rs.ct rfl (Rs.b hv (Rs.b rfl ?_))))))))
 obtain ⟨g2, a2, E2, y2, _⟩ := y.st 6 (off := a * 2 + 1) (m := 1) (vs := [.int .i64 (hdLn ⟨F :: R, sbx, ts, cd⟩ : Int)]) (v := .int .i64 (hdLn ⟨F :: R, sbx, ts, cd⟩ : Int)) rfl rfl rfl (by show _ ≤ cc.length; have : a < F.ln := ha; omega)
 refine Rs.b a2 (Rs.fin ⟨rfl, ⟨R.length + 1, fr, ou, tx, ⟨pr, pu, ⟨ci, crt, true⟩, nm, rnd, up, ow, uc, splice cc (a * 2 + 1) [.int .i64 (hdLn ⟨F :: R, sbx, ts, cd⟩ : Int)]⟩ :: rs, jk, oc, nd⟩, P, rfl, hq, ⟨y2, q.E.trans E2, ⟨k.1, ?_, k.2.2⟩, q.o, q.n, q.p, q.q⟩⟩)
 show (splice cc (a * 2 + 1) [_]).length = F.ln * 2
 have : a < F.ln := ha
 unfold splice
 simp
 omega
theorem l211 {C : ACall} {N p : Nat} {x1 : Int} {ov : Value} {own : List Int} (hk : KdH g.size g ov own) (hl : aLd1 g (ptr p 8) = some ov) (ho : own.length ≤ 10000000) :
  ∀ (k j m : Nat), own.length - j = k → j ≤ own.length → k < m → Rs (fun v g' => ∃ z : Int, v = .int .i64 z ∧ g' = g ∧ (0 ≤ z ↔ x1 ∈ own.drop j)) (s211_0 hk0 C N m x1 (ptr p 0) (j : Int) g) := by
 intro k
 induction k with
 | zero =>
  intro j m hk' hj hm
  obtain ⟨m, rfl⟩ : ∃ q, m = q + 1 := ⟨m - 1, by omega⟩
  rw [s211_0_eq]
  refine Rs.b rfl (Rs.b hl (Rs.b hk.len (Rs.b rfl (Rs.cf (decide_eq_false (by omega)) (Rs.fin ⟨-1, rfl, rfl, ?_⟩)))))
  rw [List.drop_eq_nil_of_le (by omega)]
  simp
 | succ k ih =>
  intro j m hk' hj hm
  obtain ⟨m, rfl⟩ : ∃ q, m = q + 1 := ⟨m - 1, by omega⟩
  have hlt : j < own.length := by omega
  obtain ⟨p', a1, a2⟩ := hk.self (List.getElem?_eq_getElem hlt) (AM.Ext.refl _ _)
  rw [s211_0_eq]
  refine Rs.b rfl (Rs.b hl (Rs.b hk.len (Rs.b rfl (Rs.ct (decide_eq_true (by omega)) (Rs.b rfl (Rs.b hl (Rs.b a1 (Rs.b a2 (Rs.b rfl ?_)))))))))
  rw [List.drop_eq_getElem_cons hlt]
  by_cases c : own[j] = x1
  ·refine Rs.ct (by rw [c]; exact beq_self_eq_true _) (Rs.fin ⟨j, rfl, rfl, ?_⟩)
   simp [c]
  ·refine Rs.cf (by simp [c]) ?_
   rw [wq (by omega) (by omega), show ((j : Int) + 1) = ((j + 1 : Nat) : Int) by omega]
   refine (ih (j + 1) m (by omega) (by omega) (by omega)).mono fun v g' ⟨z, e1, e2, e3⟩ => ⟨z, e1, e2, ?_⟩
   rw [e3, List.mem_cons]
   exact ⟨.inr, fun h => h.resolve_left fun h => c h.symm⟩
theorem u211 {e : Nat} {x0 : Value} {cs : List Value} {x1 : Int} {ov : Value} {own : List Int} (hc : aCells x0 = some cs) (h8 : cs[8]? = some ov) (hk : KdH h.size h ov own) (ho : own.length ≤ 10000000) (he : own.length < e) :
  Rs (fun v g => ∃ z : Int, v = .int .i64 z ∧ AM.Ext h.size h g ∧ (0 ≤ z ↔ x1 ∈ own)) (call Tp Ms (e + 1) 211 [x0, .int .i64 x1] h) := by
 rw [c211, e211]
 refine Rs.b hc ?_
 have E1 := AM.Ext.new (Nat.le_refl h.size) 195 cs
 have r1 : AM.Row (h.new 195 cs) h.size cs := ⟨_, at?_new_same h 195 cs, rfl⟩
 show Rs _ (s211_0 hk0 (call Tp Ms e) e e x1 (ptr h.size 0) 0 (h.new 195 cs))
 generalize h.new 195 cs = g1 at E1 r1 ⊢
 have hk1 : KdH g1.size g1 ov own := ⟨hk.len, hk.cell, hk.vb, fun j k hj => by
  obtain ⟨p, a, f⟩ := hk.at' j k hj
  exact ⟨p, a, fun g E => f g (E1.trans (E.mono E1.size))⟩⟩
 have := l211 (C := call Tp Ms e) (N := e) (x1 := x1) hk1 (r1.ld1 h8) ho own.length 0 e (by omega) (by omega) (by omega)
 exact this.mono fun v g ⟨z, a, b, d⟩ => ⟨z, a, by rw [b]; exact E1, by rw [d, List.drop_zero]⟩
end
open Go.AM (Rs)
section
variable {c : Cn} {P Q : List AM.ORow} {s : SG} {h g : AHeap} {W : WS}
theorem Sp.front {row : AM.ORow} (q : Sp c P (row :: Q) W s h) : AM.Cx c.b h [] (row :: ⟨c.G, c.G, 167, true, gC c W s⟩ :: W.fr.row 195 (fsC W.rs s.fs ++ W.jk) :: c.bx.row 4 (bls s.bx) :: W.ou.row 173 W.oc :: W.tx.row 9 (strs s.ts) :: (fsR c.T W.rs s.fs ++ Q)) [] := by
 refine q.y.perm (List.Perm.symm ?_)
 have p : List.Perm (row :: (fsR c.T W.rs s.fs ++ Q)) (fsR c.T W.rs s.fs ++ row :: Q) := List.perm_middle.symm
 exact (List.perm_middle (l₁ := [⟨c.G, c.G, 167, true, gC c W s⟩, W.fr.row 195 (fsC W.rs s.fs ++ W.jk), c.bx.row 4 (bls s.bx), W.ou.row 173 W.oc, W.tx.row 9 (strs s.ts)])).symm.trans
  (List.Perm.cons _ (List.Perm.cons _ (List.Perm.cons _ (List.Perm.cons _ (List.Perm.cons _ p)))))
theorem Sp.stQ {i rt off m : Nat} {t : TypeId} {cs vs : List Value} {v : Value} (q : Sp c P (⟨i, rt, t, true, cs⟩ :: Q) W s h) (hP : P ⊆ Q) (hv : aCells v = some vs) (hl : vs.length = m) (hn : off + m ≤ cs.length) :
  ∃ g, aSt h (ptr i off) v m = some g ∧ AM.Ext c.b h g ∧ Sp c P (⟨i, rt, t, true, splice cs off vs⟩ :: Q) W s g := by
 obtain ⟨g, c1, E, y, _⟩ := q.front.st 0 (off := off) (m := m) (vs := vs) (v := v) rfl hv hl hn
 exact ⟨g, c1, E, q.ins hP E y⟩
theorem l225 {e m0 : Nat} {t : BA} (hb : Bs 10000000 s) (q : SpM c Q s h) : ∀ (k j m : Nat), s.ts.length - j = k → j ≤ s.ts.length → k < m → (∀ u ∈ s.ts.take j, ¬ (u.toList == t.toList) = true) →
  Rs (fun v g => ∃ k : Nat, v = .int .i64 (k : Int) ∧ AM.Ext c.b c.h0 g ∧ (((s.ts.any fun u => u.toList == t.toList) = true ∧ k = (s.ts.findIdx fun u => u.toList == t.toList) ∧ SpM c Q s g) ∨ ((s.ts.any fun u => u.toList == t.toList) = false ∧ k = s.ts.length ∧ SpM c Q { s with ts := s.ts ++ [t] } g)))
   (s225_0 hk0 (call Tp Ms e) m0 m (ptr c.G 0) t (j : Int) h) := by
 obtain ⟨⟨n, fr, ou, ⟨ti, trt, tlv⟩, rs, jk, oc, nd⟩, P', hn, hq, q⟩ := q
 obtain ⟨fs, sbx, ts, cd⟩ := s
 have y := q.y
 dsimp only at y
 have hts : ts.length ≤ 10000000 := hb.t
 have hl : (strs ts).length = ts.length := by simp [strs]
 have len := y.len 4 (r := ⟨ti, trt, tlv⟩) (e := 9) (cs := strs ts) (k := ts.length) (esz := 1) rfl (by omega) (by decide)
 intro k
 induction k with
 | zero =>
  intro j m hk hj hm hno
  obtain ⟨m, rfl⟩ : ∃ q, m = q + 1 := ⟨m - 1, by omega⟩
  dsimp only at hk hj hno ⊢
  have hja : j = ts.length := by omega
  subst hja
  rw [List.take_length] at hno
  have hany : (ts.any fun u => u.toList == t.toList) = false := by
   rw [Bool.eq_false_iff]
   intro h
   rw [List.any_eq_true] at h
   obtain ⟨u, hu, h2⟩ := h
   exact hno u hu h2
  rw [s225_0_eq]
  refine Rs.b rfl (Rs.b rfl (Rs.b (y.ldO 0 5 rfl rfl) (Rs.b len (Rs.b rfl (Rs.cf (decide_eq_false (by omega)) (Rs.b rfl (Rs.b rfl (Rs.b (y.ldO 0 5 rfl rfl) (Rs.ns y fun p g1 E1 y1 => ?_)))))))))
  obtain ⟨tx', g2, a2, hl2, E2, y2⟩ := y1.apS 5 (r := ⟨ti, trt, tlv⟩) (n' := ts.length) (m := 1) (esz := 1) (bytes := 16) (t := 9) rfl (srcN y1 0 (k := 1) (esz := 1) rfl rfl) (by decide) (by decide) (by rw [hl]; omega) (by show _ ≤ 140737488355328; omega) (by show _ ≤ 140737488355328; omega)
  rw [show (strs ts).take (ts.length * 1) = strs ts from List.take_of_length_le (by omega)] at y2
  refine Rs.b a2 (Rs.b rfl (Rs.b rfl ?_))
  obtain ⟨g3, a3, E3, y3, _⟩ := y2.st 1 (off := 5) (m := 1) (vs := [tx'.val (ts.length + 1)]) (v := tx'.val (ts.length + 1)) rfl (srCells _ _) rfl (by show 6 ≤ 8; decide)
  refine Rs.b a3 (Rs.b rfl (Rs.b rfl (Rs.b (y3.ldO 1 5 rfl rfl) (Rs.b (r := .int .i64 ((ts.length + 1 : Nat) : Int)) (by show aLen (tx'.val (ts.length + 1)) = _; rw [AM.SR.live hl2]; rfl) (Rs.b rfl ?_)))))
  rw [wp _ (by omega)]
  have E := ((q.E.trans E1).trans E2).trans E3
  refine Rs.fin ⟨ts.length, rfl, E, .inr ⟨hany, rfl, ⟨n, fr, ou, tx', rs, jk, oc, nd⟩, P', hn, hq, ⟨?_, E, q.k, q.o, q.n, q.p, q.q⟩⟩⟩
  have y4 := y3.pick (List.sublist_cons_self _ _)
  have e1 : strs (ts ++ [t]) = strs ts ++ [.string t] := by simp [strs]
  have e2 : (ts ++ [t]).length = ts.length + 1 := by simp
  show AM.Cx c.b g3 [] (⟨c.G, c.G, 167, true, gC c ⟨n, fr, ou, tx', rs, jk, oc, nd⟩ ⟨fs, sbx, ts ++ [t], cd⟩⟩ :: fr.row 195 (fsC rs fs ++ jk) :: c.bx.row 4 (bls sbx) :: ou.row 173 oc :: tx'.row 9 (strs (ts ++ [t])) :: (fsR c.T rs fs ++ P')) []
  rw [e1]
  unfold gC
  dsimp only
  rw [e2]
  exact y4
 | succ k ih =>
  intro j m hk hj hm hno
  obtain ⟨m, rfl⟩ : ∃ q, m = q + 1 := ⟨m - 1, by omega⟩
  dsimp only at hk hj hno ⊢
  have hlt : j < ts.length := by omega
  have ix := (y.ix 4 (r := ⟨ti, trt, tlv⟩) (e := 9) (cs := strs ts) (k := ts.length) (esz := 1) rfl (by omega) (by decide) hlt).1
  rw [Nat.mul_one] at ix
  have ld := y.ldS 4 (r := ⟨ti, trt, tlv⟩) (e := 9) (cs := strs ts) (k := j) (v := .string ts[j]) rfl (by simp [strs, hlt])
  rw [s225_0_eq]
  refine Rs.b rfl (Rs.b rfl (Rs.b (y.ldO 0 5 rfl rfl) (Rs.b len (Rs.b rfl (Rs.ct (decide_eq_true (by omega)) (Rs.b rfl (Rs.b rfl (Rs.b (y.ldO 0 5 rfl rfl) (Rs.b ix (Rs.b ld (Rs.b rfl ?_)))))))))))
  have hg : ts[j]? = some ts[j] := by simp [hlt]
  by_cases hc : (ts[j].toList == t.toList) = true
  ·refine Rs.ct hc (Rs.fin ⟨j, rfl, q.E, .inl ⟨?_, ?_, ⟨_, P', hn, hq, q⟩⟩⟩)
   ·rw [List.any_eq_true]
    exact ⟨ts[j], List.getElem_mem hlt, hc⟩
   ·symm
    rw [List.findIdx_eq hlt]
    refine ⟨hc, fun i hi => ?_⟩
    have hi2 : i < ts.length := by omega
    have hm : ts[i] ∈ ts.take j := by
     rw [List.mem_take_iff_getElem]
     exact ⟨i, by omega, rfl⟩
    exact Bool.eq_false_iff.2 (hno _ hm)
  ·refine Rs.cf (Bool.eq_false_iff.2 hc) ?_
   rw [wq (by omega) (by omega), show ((j : Int) + 1) = ((j + 1 : Nat) : Int) by omega]
   refine ih (j + 1) m (by dsimp only; omega) (by dsimp only; omega) (by omega) fun u hu => ?_
   rw [List.take_add_one, hg] at hu
   rcases List.mem_append.1 hu with h | h
   ·exact hno u h
   ·simp at h; subst h; exact hc
theorem u225 {e : Nat} {t : BA} (hb : Bs 10000000 s) (q : SpM c Q s h) (he : s.ts.length < e) :
  Rs (fun v g => ∃ k : Nat, v = .int .i64 (k : Int) ∧ (((s.ts.any fun u => u.toList == t.toList) = true ∧ k = (s.ts.findIdx fun u => u.toList == t.toList) ∧ SpM c Q s g) ∨ ((s.ts.any fun u => u.toList == t.toList) = false ∧ k = s.ts.length ∧ SpM c Q { s with ts := s.ts ++ [t] } g)))
   (call Tp Ms (e + 1) 225 [ptr c.G 0, .string t] h) := by
 rw [c225, e225]
 exact (l225 (e := e) (m0 := e) (t := t) hb q s.ts.length 0 e (by omega) (by omega) (by omega) (by simp)).mono fun v g ⟨k, a, _, b⟩ => ⟨k, a, b⟩
end
open Go.AM (Rs)
theorem seen_shift {T : List Kn} {t : BA} : ∀ (fs : List CF) (d : Nat), seenS T t fs (d + 1) = (seenS T t fs d).map fun p => (p.1, p.2 + 1)
 | [], _ => rfl
 | F :: R, d => by
  unfold seenS
  cases findL T t F.nd.reverse with
  | none => exact seen_shift R (d + 1)
  | some q => rfl
def seenV (T : List Kn) (t : BA) (fs : List CF) : Value := match seenS T t fs 0 with
 | none => .tuple (List.toArray [.int .i64 (-1), .int .i64 (-1)])
 | some (q, d) => .tuple (List.toArray [.int .i64 q, .int .i64 ((fs.length : Int) - 1 - (d : Int))])
section
variable {c : Cn} {P' Q : List AM.ORow} {s : SG} {h g : AHeap} {W : WS}
theorem l223_1 {C : ACall} {N m1 : Nat} {t : BA} {F : CF} {R : List CF} (q : Sp c P' Q W s h) (e : s.fs = F :: R) (hb : F.nd.length ≤ 10000000) (hR : R.length ≤ 10000000) {P : Value → AHeap → Prop}
  (k0 : findL c.T t F.nd.reverse = none → Rs P (s223_0 hk0 C N m1 (ptr c.G 0) t ((R.length : Int) - 1) h))
  (k1 : ∀ z, findL c.T t F.nd.reverse = some z → Rs P (some (.tuple (List.toArray [.int .i64 z, .int .i64 (R.length : Int)]), h))) :
  ∀ (k : Nat), k ≤ F.nd.length → ∀ m, k < m → findL c.T t F.nd.reverse = findL c.T t (F.nd.take k).reverse → Rs P (s223_1 hk0 C N m1 m (ptr c.G 0) t (R.length : Int) ((k : Int) - 1) h) := by
 obtain ⟨fs, sbx, ts, cd⟩ := s
 dsimp only at e
 subst e
 obtain ⟨n, fr, ou, tx', rs, jk, oc, nd⟩ := W
 cases rs with
 | nil => exact q.k.elim
 | cons r rs =>
 have ix := (q.ixF rfl).1
 have kf := q.k
 have y := q.y
 have pf := q.p
 dsimp only at ix kf y pf
 have hsub := q.sub
 have ld4 := y.ldS 1 (r := fr) (k := R.length * 9 + 4) rfl ((fsC_get kf (by decide)).trans rfl)
 have ld5 := y.ldS 1 (r := fr) (k := R.length * 9 + 5) rfl ((fsC_get kf (by decide)).trans rfl)
 have hl1 : (strs (F.nd.map (tx c.T))).length = F.nd.length := by simp [strs]
 have hl2 : (ints F.nd).length = F.nd.length := by simp [ints]
 intro k
 induction k with
 | zero =>
  intro _ m hm he
  obtain ⟨m, rfl⟩ : ∃ q, m = q + 1 := ⟨m - 1, by omega⟩
  rw [s223_1_eq]
  refine Rs.cf (by decide) ?_
  rw [wq (by omega) (by omega)]
  exact k0 he
 | succ k ih =>
  intro hk m hm he
  obtain ⟨m, rfl⟩ : ∃ q, m = q + 1 := ⟨m - 1, by omega⟩
  have hlt : k < F.nd.length := by omega
  rw [show (((k + 1 : Nat) : Int) - 1) = (k : Int) by omega]
  have ix1 := pf.1.ix hl1 hlt
  have ix2 := pf.2.1.ix hl2 hlt
  have ld6 := pf.1.ld (j := k) (v := .string (tx c.T F.nd[k])) y hsub (by simp [strs, hlt])
  have ld7 := pf.2.1.ld (j := k) (v := .int .i64 F.nd[k]) y hsub (by simp [ints, hlt])
  have hrev : (F.nd.take (k + 1)).reverse = F.nd[k] :: (F.nd.take k).reverse := by
   rw [List.take_add_one, List.getElem?_eq_getElem hlt]
   simp
  rw [hrev] at he
  rw [s223_1_eq]
  refine Rs.ct (decide_eq_true (by omega)) (Rs.b rfl (Rs.b rfl (Rs.b (y.ldO 0 2 rfl rfl) (Rs.b ix (Rs.b rfl (Rs.b ld4 (Rs.b ix1 (Rs.b ld6 (Rs.b rfl ?_)))))))))
  by_cases hc : ((tx c.T F.nd[k]).toList == t.toList) = true
  ·have hf : findL c.T t (F.nd[k] :: (F.nd.take k).reverse) = some F.nd[k] :=
     List.find?_cons_of_pos (p := fun q => (tx c.T q).toList == t.toList) hc
   refine Rs.ct hc (Rs.b rfl (Rs.b rfl (Rs.b (y.ldO 0 2 rfl rfl) (Rs.b ix (Rs.b rfl (Rs.b ld5 (Rs.b ix2 (Rs.b ld7 (Rs.b rfl ?_)))))))))
   exact k1 _ (he.trans hf)
  ·have hf : findL c.T t (F.nd[k] :: (F.nd.take k).reverse) = findL c.T t (F.nd.take k).reverse :=
    List.find?_cons_of_neg (p := fun q => (tx c.T q).toList == t.toList) hc
   refine Rs.cf (Bool.eq_false_iff.2 hc) ?_
   rw [wq (by omega) (by omega)]
   exact ih (by omega) m (by omega) (he.trans hf)
theorem l223_0 {C : ACall} {N : Nat} {t : BA} : ∀ (Fs : List CF) (Q : List AM.ORow) (W : WS) (s : SG) (m : Nat), Sp c P' Q W s h → s.fs = Fs → Fs.length < m → Fs.length ≤ 10000000 → (∀ F ∈ Fs, F.nd.length ≤ 10000000 ∧ F.nd.length < N) →
  Rs (fun v g => g = h ∧ v = seenV c.T t Fs) (s223_0 hk0 C N m (ptr c.G 0) t ((Fs.length : Int) - 1) h)
 | [], Q, W, s, m, q, e, hm, _, _ => by
  obtain ⟨m, rfl⟩ : ∃ q, m = q + 1 := ⟨m - 1, by omega⟩
  rw [s223_0_eq]
  exact Rs.cf (by decide) (Rs.fin ⟨rfl, rfl⟩)
 | F :: R, Q, W, s, m, q, e, hm, hR, hN => by
  obtain ⟨m, rfl⟩ : ∃ q, m = q + 1 := ⟨m - 1, by omega⟩
  have q0 := q
  obtain ⟨fs, sbx, ts, cd⟩ := s
  dsimp only at e
  subst e
  obtain ⟨n, fr, ou, tx', rs, jk, oc, nd⟩ := W
  cases rs with
  | nil => exact q.k.elim
  | cons r rs =>
  have ix := (q.ixF rfl).1
  have kf := q.k
  have y := q.y
  dsimp only at ix kf y
  simp only [List.length_cons] at hm hR
  have hF := hN F (by simp)
  have ld4 := y.ldS 1 (r := fr) (k := R.length * 9 + 4) rfl ((fsC_get kf (by decide)).trans rfl)
  have hl1 : (strs (F.nd.map (tx c.T))).length = F.nd.length := by simp [strs]
  have len := q.p.1.len hl1
  rw [List.length_cons, show (((R.length + 1 : Nat) : Int) - 1) = (R.length : Int) by omega, s223_0_eq]
  refine Rs.ct (decide_eq_true (by omega)) (Rs.b rfl (Rs.b rfl (Rs.b (y.ldO 0 2 rfl rfl) (Rs.b ix (Rs.b rfl (Rs.b ld4 (Rs.b len (Rs.b rfl ?_))))))))
  rw [wq (by omega) (by omega)]
  refine l223_1 q0 rfl hF.1 (by omega) (fun hf => ?_) (fun z hf => Rs.fin ⟨rfl, ?_⟩) F.nd.length (Nat.le_refl _) N hF.2 (by rw [List.take_length])
  ·have ih := l223_0 (C := C) (N := N) (t := t) R _ _ _ m (q0.drop rfl rfl) rfl (by omega) (by omega) (fun F' h' => hN F' (by simp [h']))
   refine ih.mono fun v g ⟨e1, e2⟩ => ⟨e1, ?_⟩
   rw [e2]
   unfold seenV
   have hs : seenS c.T t (F :: R) 0 = (seenS c.T t R 0).map fun p => (p.1, p.2 + 1) := by
    rw [← seen_shift]
    show (match findL c.T t F.nd.reverse with | some q => some (q, 0) | none => seenS c.T t R (0 + 1)) = _
    rw [hf]
   rw [hs]
   cases seenS c.T t R 0 with
   | none => rfl
   | some p =>
    obtain ⟨z, d⟩ := p
    show Value.tuple (List.toArray [.int .i64 z, .int .i64 ((R.length : Int) - 1 - (d : Int))]) = Value.tuple (List.toArray [.int .i64 z, .int .i64 (((F :: R).length : Int) - 1 - ((d + 1 : Nat) : Int))])
    rw [List.length_cons, show ((R.length : Int) - 1 - (d : Int)) = (((R.length + 1 : Nat) : Int) - 1 - ((d + 1 : Nat) : Int)) by omega]
  ·unfold seenV
   have hs : seenS c.T t (F :: R) 0 = some (z, 0) := by
    show (match findL c.T t F.nd.reverse with | some q => some (q, 0) | none => seenS c.T t R (0 + 1)) = _
    rw [hf]
   rw [hs]
   dsimp only
   rw [List.length_cons, show (((R.length + 1 : Nat) : Int) - 1 - ((0 : Nat) : Int)) = (R.length : Int) by omega]
theorem u223 {e : Nat} {t : BA} (q : SpM c Q s h) (hb : Bs 10000000 s) (he : ∀ F ∈ s.fs, F.nd.length < e) (he2 : s.fs.length < e) : Rs (fun v g => g = h ∧ v = seenV c.T t s.fs) (call Tp Ms (e + 1) 223 [ptr c.G 0, .string t] h) := by
 obtain ⟨W, P, hn, hq, q⟩ := q
 have hN := hb.n
 rw [c223, e223]
 refine Rs.b rfl (Rs.b rfl (Rs.b (q.y.ldO 0 2 rfl rfl) (Rs.b q.len (Rs.b rfl ?_))))
 rw [hn, wq (by omega) (by omega)]
 exact l223_0 s.fs P W s e q rfl he2 hN fun F hF => ⟨(hb.f F hF).nd, he F hF⟩
end
open Go.AM (Rs)
section
variable {c : Cn} {P' Q : List AM.ORow} {s : SG} {h g : AHeap} {W : WS}
theorem Sp.mk' {row : AM.ORow} (y : AM.Cx c.b g [] (row :: ⟨c.G, c.G, 167, true, gC c W s⟩ :: W.fr.row 195 (fsC W.rs s.fs ++ W.jk) :: c.bx.row 4 (bls s.bx) :: W.ou.row 173 W.oc :: W.tx.row 9 (strs s.ts) :: (fsR c.T W.rs s.fs ++ Q)) []) (E : AM.Ext c.b c.h0 g) (k : FsOk W.rs s.fs) (o : W.oc.length = c.on * 4) (n : s.fs.length ≤ W.n ∧ W.n * 9 ≤ s.fs.length * 9 + W.jk.length) (hp : FsP c.T P' W.rs s.fs) (hq : P' ⊆ Q) : Sp c P' (row :: Q) W s g := by
 refine ⟨y.perm ?_, E, k, o, n, hp, fun x hx => List.mem_cons_of_mem _ (hq hx)⟩
 have p : List.Perm (row :: (fsR c.T W.rs s.fs ++ Q)) (fsR c.T W.rs s.fs ++ row :: Q) := List.perm_middle.symm
 exact (List.perm_middle (l₁ := [⟨c.G, c.G, 167, true, gC c W s⟩, W.fr.row 195 (fsC W.rs s.fs ++ W.jk), c.bx.row 4 (bls s.bx), W.ou.row 173 W.oc, W.tx.row 9 (strs s.ts)])).symm.trans
  (List.Perm.cons _ (List.Perm.cons _ (List.Perm.cons _ (List.Perm.cons _ (List.Perm.cons _ p)))))
theorem Sp.out {row : AM.ORow} (q : Sp c P' (row :: Q) W s h) (hq : P' ⊆ Q) : Sp c P' Q W s h := by
 refine ⟨q.y.pick ?_, q.E, q.k, q.o, q.n, q.p, hq⟩
 refine List.Sublist.cons_cons _ (List.Sublist.cons_cons _ (List.Sublist.cons_cons _ (List.Sublist.cons_cons _ (List.Sublist.cons_cons _ ?_))))
 exact List.Sublist.append_left (List.sublist_cons_self _ _) _
theorem frCells (r : FRw) (F : CF) : aCells (.agg (List.toArray (r.cells F))) = some (r.cells F) := by
 have e : (List.all (List.toArray (r.cells F)).toList isCell) = true := by
  show (true && (true && (isCell (r.pu.val F.up.length) && (isCell (r.cd.val F.ln) && (isCell (r.nm.val F.nd.length) && (isCell (r.nd.val F.nd.length) && (isCell (r.up.val F.up.length) && (true && (isCell (r.ow.val F.own.length) && true))))))))) = true
  simp [AM.SR.cell]
 show (if (List.all (List.toArray (r.cells F)).toList isCell) = true then some (List.toArray (r.cells F)).toList else none) = _
 rw [if_pos e]
theorem Sp.ldN {F : CF} {R : List CF} {r : FRw} {rs : List FRw} (q : Sp c P' Q W s h) (e : s.fs = F :: R) (er : W.rs = r :: rs) : aLdN h (ptr W.fr.i (R.length * 9)) 9 = some (.agg (List.toArray (r.cells F))) := by
 have y := q.y
 have k := q.k
 have hl := q.k.len
 rw [e, er] at y k hl
 have row := y.row 1 rfl (q.ixF e).2
 have h1 : (fsC rs R).length = R.length * 9 := k.2.2.len
 have h2 : (r.cells F).length = 9 := rfl
 have := row.ldN (off := R.length * 9) (n := 9) (by
  show R.length * 9 + 9 ≤ (fsC (r :: rs) (F :: R) ++ W.jk).length
  rw [List.length_append, hl, List.length_cons]; omega)
 refine this.trans ?_
 have e3 : ((fsC (r :: rs) (F :: R) ++ W.jk).drop (R.length * 9)).take 9 = r.cells F := by
  show ((fsC rs R ++ r.cells F ++ W.jk).drop (R.length * 9)).take 9 = _
  rw [List.append_assoc, ← h1, List.drop_left, ← h2, List.take_left]
 show some (Value.agg (((fsC (r :: rs) (F :: R) ++ W.jk).drop (R.length * 9)).take 9).toArray) = _
 rw [e3]
theorem l224_1 {C : ACall} {N p : Nat} {x2 z : Int} {bb : Bool} {F : CF} {R : List CF} (q : Sp c P' (⟨p, p, 219, true, [.bool bb, .int .i64 z]⟩ :: Q) W s h) (hq : P' ⊆ Q) (e : s.fs = F :: R) (hu : F.up.length ≤ 10000000) (hR : R.length ≤ 10000000) :
  Rs (fun v g => ∃ k : Int, v = .int .i64 k ∧ ∃ W', W'.n = W.n ∧ W'.jk = W.jk ∧ Sp c P' Q W' { s with fs := { F with up := F.up ++ [x2] } :: R } g) (s224_1 hk0 C N (ptr c.G 0) (R.length : Int) x2 (ptr p 0) h) := by
 obtain ⟨fs, sbx, ts, cd⟩ := s
 dsimp only at e
 subst e
 obtain ⟨n, ⟨fi, frt, flv⟩, ou, tx', rs, jk, oc, nd⟩ := W
 cases rs with
 | nil => exact q.k.elim
 | cons r rs =>
 obtain ⟨pr, pu, rcd, nm, rnd, up, ow, uc, cc⟩ := r
 have ix := q.ixF rfl
 have k := q.k
 have y := q.front
 dsimp only at ix k y
 obtain ⟨ix, hlv⟩ := ix
 subst hlv
 have huc : uc.length = F.up.length * 2 := k.1
 have hup : (ints F.up).length = F.up.length := by simp [ints]
 rw [s224_1_j, s224_1_eq]
 have ld6 := y.ldS 2 (r := ⟨fi, frt, true⟩) (k := R.length * 9 + 6) rfl ((fsC_get k (by decide)).trans rfl)
 refine Rs.b rfl (Rs.b rfl (Rs.b (y.ldO 1 2 rfl rfl) (Rs.b rfl (Rs.b rfl (Rs.b (y.ldO 1 2 rfl rfl) (Rs.b ix (Rs.b rfl (Rs.b ld6 (Rs.ns y fun p1 g1 E1 y1 => ?_)))))))))
 refine Rs.b (ag (y1.ldO 2 2 rfl rfl) (AM.SR.vb _ _)) (Rs.ct rfl (Rs.b (ag (y1.ldO 2 2 rfl rfl) (AM.SR.vb _ _)) (Rs.ct rfl (Rs.b (ag (y1.ldS 3 (r := ⟨fi, frt, true⟩) (k := R.length * 9 + 6) rfl ((fsC_get k (by decide)).trans rfl)) (AM.SR.vb _ _)) (Rs.ct rfl ?_)))))
 obtain ⟨up', g2, a2, hl2, E2, y2⟩ := y1.apS 9 (r := up) (n' := F.up.length) (m := 1) (esz := 1) (bytes := 8) (t := 3) rfl (srcN y1 0 (k := 1) (esz := 1) rfl rfl) (by decide) (by decide) (by rw [hup]; omega) (by show _ ≤ 140737488355328; omega) (by show _ ≤ 140737488355328; omega)
 rw [show (ints F.up).take (F.up.length * 1) = ints F.up from List.take_of_length_le (by omega)] at y2
 refine Rs.b a2 (Rs.b (ag (y2.ldO 2 2 rfl rfl) (AM.SR.vb _ _)) (Rs.ct rfl (Rs.b ix (Rs.b rfl ?_))))
 obtain ⟨g3, a3, E3, y3⟩ := stF y2 3 (r := ⟨pr, pu, rcd, nm, rnd, up, ow, uc, cc⟩) (F := F) rfl k (m := 6) (by decide) (srCells up' (F.up.length + 1))
 have y4 := y3.pick (List.sublist_cons_self _ _)
 have ea : fsC rs R ++ (FRw.cells ⟨pr, pu, rcd, nm, rnd, up, ow, uc, cc⟩ F).set 6 (up'.val (F.up.length + 1)) ++ jk = fsC rs R ++ [.int .i64 pr, .int .i64 0, pu.val F.up.length, rcd.val F.ln, nm.val F.nd.length, rnd.val F.nd.length, up'.val (F.up.length + 1), .slice none 0 0, ow.val F.own.length] ++ jk := rfl
 have hl := k.2.2.len
 have get : ∀ (m : Nat) (v : Value), m < 9 → [Value.int .i64 pr, .int .i64 0, pu.val F.up.length, rcd.val F.ln, nm.val F.nd.length, rnd.val F.nd.length, up'.val (F.up.length + 1), .slice none 0 0, ow.val F.own.length][m]? = some v → (fsC rs R ++ (FRw.cells ⟨pr, pu, rcd, nm, rnd, up, ow, uc, cc⟩ F).set 6 (up'.val (F.up.length + 1)) ++ jk)[R.length * 9 + m]? = some v := fun m v hm hv => by
  rw [ea, List.append_assoc, List.getElem?_append_right (by omega), hl, Nat.add_sub_cancel_left, List.getElem?_append_left (by show m < 9; exact hm)]
  exact hv
 have ld2 := y4.ldS 2 (r := ⟨fi, frt, true⟩) (k := R.length * 9 + 2) rfl (get 2 _ (by decide) rfl)
 refine Rs.b a3 (Rs.b rfl (Rs.b rfl (Rs.b (y4.ldO 1 2 rfl rfl) (Rs.b rfl (Rs.b rfl (Rs.b (y4.ldO 1 2 rfl rfl) (Rs.b ix (Rs.b rfl (Rs.b rfl (Rs.b ld2 (Rs.b (y4.ldON 0 rfl rfl) (Rs.b (r := [.bool bb, .int .i64 z]) rfl (Rs.ns y4 fun p5 g5 E5 y5 => ?_)))))))))))))
 refine Rs.b (ag (y5.ldO 2 2 rfl rfl) (AM.SR.vb _ _)) (Rs.ct rfl (Rs.b (ag (y5.ldO 2 2 rfl rfl) (AM.SR.vb _ _)) (Rs.ct rfl (Rs.b (ag (y5.ldS 3 (r := ⟨fi, frt, true⟩) (k := R.length * 9 + 2) rfl (get 2 _ (by decide) rfl)) (AM.SR.vb _ _)) (Rs.ct rfl ?_)))))
 obtain ⟨pu', g6, a6, hl6, E6, y6⟩ := y5.apS 7 (r := pu) (n' := F.up.length) (m := 1) (esz := 2) (bytes := 16) (t := 219) rfl (srcN y5 0 (k := 1) (esz := 2) rfl rfl) (by decide) (by decide) (by rw [huc]; exact Nat.le_refl _) (by show _ ≤ 140737488355328; omega) (by show _ ≤ 140737488355328; omega)
 rw [show uc.take (F.up.length * 2) = uc from List.take_of_length_le (by omega)] at y6
 refine Rs.b a6 (Rs.b (ag (y6.ldO 2 2 rfl rfl) (AM.SR.vb _ _)) (Rs.ct rfl (Rs.b ix (Rs.b rfl (Rs.b rfl ?_)))))
 obtain ⟨g7, a7, E7, y7, _⟩ := y6.st 3 (off := R.length * 9 + 2) (m := 1) (vs := [pu'.val (F.up.length + 1)]) (v := pu'.val (F.up.length + 1)) rfl (srCells _ _) rfl (by
  show _ ≤ (fsC rs R ++ (FRw.cells ⟨pr, pu, rcd, nm, rnd, up, ow, uc, cc⟩ F).set 6 (up'.val (F.up.length + 1)) ++ jk).length
  rw [List.length_append, List.length_append, hl, List.length_set]
  show _ ≤ R.length * 9 + 9 + jk.length
  omega)
 have eb' : splice (fsC rs R ++ (FRw.cells ⟨pr, pu, rcd, nm, rnd, up, ow, uc, cc⟩ F).set 6 (up'.val (F.up.length + 1)) ++ jk) (R.length * 9 + 2) [pu'.val (F.up.length + 1)] = fsC rs R ++ [.int .i64 pr, .int .i64 0, pu'.val (F.up.length + 1), rcd.val F.ln, nm.val F.nd.length, rnd.val F.nd.length, up'.val (F.up.length + 1), .slice none 0 0, ow.val F.own.length] ++ jk := by
  rw [ea, ← hl]
  exact spl (A := fsC rs R) (J := jk) (k := 2) (by show 2 < 9; decide)
 rw [eb'] at y7
 have y8 := y7.pick (List.sublist_cons_self _ _)
 have hlen : (F.up ++ [x2]).length = F.up.length + 1 := by simp
 have eI : ints (F.up ++ [x2]) = ints F.up ++ [.int .i64 x2] := by simp [ints]
 have E := (((((q.E.trans E1).trans E2).trans E3).trans E5).trans E6).trans E7
 have k8 : FsOk (⟨pr, pu', rcd, nm, rnd, up', ow, uc ++ [.bool bb, .int .i64 z], cc⟩ :: rs) ({ F with up := F.up ++ [x2] } :: R) := ⟨by show (uc ++ _).length = (F.up ++ [x2]).length * 2; rw [List.length_append, hlen, huc]; show _ + 2 = _; omega, k.2.1, k.2.2⟩
 have q8 : Sp c P' (⟨p, p, 219, true, [.bool bb, .int .i64 z]⟩ :: Q) ⟨n, ⟨fi, frt, true⟩, ou, tx', ⟨pr, pu', rcd, nm, rnd, up', ow, uc ++ [.bool bb, .int .i64 z], cc⟩ :: rs, jk, oc, nd⟩ ⟨{ F with up := F.up ++ [x2] } :: R, sbx, ts, cd⟩ g7 := by
  refine Sp.mk' ?_ E k8 q.o q.n q.p hq
  show AM.Cx c.b g7 [] (⟨p, p, 219, true, [.bool bb, .int .i64 z]⟩ :: ⟨c.G, c.G, 167, true, gC c ⟨n, ⟨fi, frt, true⟩, ou, tx', ⟨pr, pu', rcd, nm, rnd, up', ow, uc ++ [.bool bb, .int .i64 z], cc⟩ :: rs, jk, oc, nd⟩ ⟨{ F with up := F.up ++ [x2] } :: R, sbx, ts, cd⟩⟩ :: AM.SR.row ⟨fi, frt, true⟩ 195 (fsC rs R ++ [.int .i64 pr, .int .i64 0, pu'.val (F.up ++ [x2]).length, rcd.val F.ln, nm.val F.nd.length, rnd.val F.nd.length, up'.val (F.up ++ [x2]).length, .slice none 0 0, ow.val F.own.length] ++ jk) :: c.bx.row 4 (bls sbx) :: ou.row 173 oc :: tx'.row 9 (strs ts) :: ([pu'.row 219 (uc ++ [.bool bb, .int .i64 z]), rcd.row 206 cc, up'.row 3 (ints (F.up ++ [x2])), ow.row 3 (ints F.own)] ++ fsR c.T rs R ++ Q)) []
  rw [hlen, eI]
  exact y8
 have l9 : aLen (up'.val (F.up.length + 1)) = some (.int .i64 ((F.up.length + 1 : Nat) : Int)) := by rw [AM.SR.live hl2]; rfl
 have y9 := q8.front
 have ld9 := y9.ldS 2 (r := ⟨fi, frt, true⟩) (k := R.length * 9 + 6) rfl ((fsC_get k8 (by decide)).trans rfl)
 rw [hlen] at ld9
 refine Rs.b a7 (Rs.b rfl (Rs.b rfl (Rs.b (y9.ldO 1 2 rfl rfl) (Rs.b ix (Rs.b rfl (Rs.b ld9 (Rs.b l9 (Rs.b rfl ?_))))))))
 exact Rs.fin ⟨_, rfl, ⟨n, ⟨fi, frt, true⟩, ou, tx', ⟨pr, pu', rcd, nm, rnd, up', ow, uc ++ [.bool bb, .int .i64 z], cc⟩ :: rs, jk, oc, nd⟩, rfl, rfl, q8.out hq⟩
theorem l224_0 {C : ACall} {N : Nat} {x2 : Int} {F : CF} {R : List CF} (q : Sp c P' Q W s h) (e : s.fs = F :: R) (hu : F.up.length ≤ 10000000) {P : Value → AHeap → Prop}
  (kin : x2 ∈ F.up → ∀ j : Int, Rs P (some (.int .i64 j, h))) (kout : x2 ∉ F.up → ∀ m, Rs P (s224_0 hk0 C N (m + 1) (ptr c.G 0) (R.length : Int) x2 (F.up.length : Int) h)) :
  ∀ (k j m : Nat), F.up.length - j = k → j ≤ F.up.length → k < m → (x2 ∉ F.up.take j) → Rs P (s224_0 hk0 C N m (ptr c.G 0) (R.length : Int) x2 (j : Int) h) := by
 obtain ⟨fs, sbx, ts, cd⟩ := s
 dsimp only at e
 subst e
 obtain ⟨n, fr, ou, tx', rs, jk, oc, nd⟩ := W
 cases rs with
 | nil => exact q.k.elim
 | cons r rs =>
 have ix := (q.ixF rfl).1
 have kf := q.k
 have y := q.y
 dsimp only at ix kf y
 have ld6 := y.ldS 1 (r := fr) (k := R.length * 9 + 6) rfl ((fsC_get kf (by decide)).trans rfl)
 have hl2 : (ints F.up).length = F.up.length := by simp [ints]
 have len := y.len 7 (r := r.up) (e := 3) (cs := ints F.up) (k := F.up.length) (esz := 1) rfl (by omega) (by decide)
 intro k
 induction k with
 | zero =>
  intro j m hk hj hm hno
  obtain ⟨m, rfl⟩ : ∃ q, m = q + 1 := ⟨m - 1, by omega⟩
  have hja : j = F.up.length := by omega
  subst hja
  rw [List.take_length] at hno
  exact kout hno m
 | succ k ih =>
  intro j m hk hj hm hno
  obtain ⟨m, rfl⟩ : ∃ q, m = q + 1 := ⟨m - 1, by omega⟩
  have hlt : j < F.up.length := by omega
  have ix2 := (y.ix 7 (r := r.up) (e := 3) (cs := ints F.up) (k := F.up.length) (esz := 1) rfl (by omega) (by decide) hlt).1
  rw [Nat.mul_one] at ix2
  have ld7 := y.ldS 7 (r := r.up) (e := 3) (cs := ints F.up) (k := j) (v := .int .i64 F.up[j]) rfl (by simp [ints, hlt])
  rw [s224_0_eq]
  refine Rs.b rfl (Rs.b rfl (Rs.b (y.ldO 0 2 rfl rfl) (Rs.b ix (Rs.b rfl (Rs.b ld6 (Rs.b len (Rs.b rfl (Rs.ct (decide_eq_true (by omega)) (Rs.b rfl (Rs.b rfl (Rs.b (y.ldO 0 2 rfl rfl) (Rs.b ix (Rs.b rfl (Rs.b ld6 (Rs.b ix2 (Rs.b ld7 (Rs.b rfl ?_)))))))))))))))))
  by_cases hc : F.up[j] = x2
  ·refine Rs.ct (by rw [hc]; exact beq_self_eq_true _) (kin ?_ _)
   rw [← hc]; exact List.getElem_mem hlt
  ·refine Rs.cf (by simp [hc]) ?_
   rw [wq (by omega) (by omega), show ((j : Int) + 1) = ((j + 1 : Nat) : Int) by omega]
   refine ih (j + 1) m (by omega) (by omega) (by omega) ?_
   rw [List.take_add_one, List.getElem?_eq_getElem hlt, List.mem_append]
   rintro (h | h)
   ·exact hno h
   ·simp at h; exact hc h.symm
end
open Go.AM (Rs)
section
variable {c : Cn}
theorem upS_in {q : Int} {F O : CF} {R : List CF} (h1 : q ∉ F.up) (h2 : q ∈ O.own) : upS q (F :: O :: R) = { F with up := F.up ++ [q] } :: O :: R := by
 rw [upS, if_neg h1, if_pos h2]
theorem upS_out {q : Int} {F O : CF} {R : List CF} (h1 : q ∉ F.up) (h2 : q ∉ O.own) : upS q (F :: O :: R) = { F with up := F.up ++ [q] } :: upS q (O :: R) := by
 rw [upS, if_neg h1, if_neg h2]
theorem l224 {x2 : Int} {L : Nat} (hL : L ≤ 10000000) : ∀ (R : List CF) (F : CF) (P' Q : List AM.ORow) (W : WS) (s : SG) (h : AHeap) (e : Nat), s.fs = F :: R → Sp c P' Q W s h → (∃ O ∈ R, x2 ∈ O.own) → (∀ F' ∈ F :: R, F'.up.length < L ∧ F'.own.length < L) → R.length ≤ L → L + R.length ≤ e →
  Rs (fun v g => ∃ k : Int, v = .int .i64 k ∧ ∃ W', W'.n = W.n ∧ W'.jk = W.jk ∧ Sp c P' Q W' { s with fs := upS x2 s.fs } g) (call Tp Ms (e + 1) 224 [ptr c.G 0, .int .i64 (R.length : Int), .int .i64 x2] h)
 | [], F, P', Q, W, s, h, e, _, _, ⟨O, hO, _⟩, _, _, _ => by cases hO
 | O :: R, F, P', Q, W, s, h, e, es, q, hex, hb, hR, he => by
  simp only [List.length_cons] at hR he
  obtain ⟨e, rfl⟩ : ∃ q, e = q + 1 := ⟨e - 1, by omega⟩
  have hF := hb F (by simp)
  have hO := hb O (by simp)
  obtain ⟨r, ro, rs, er⟩ : ∃ r ro rs, W.rs = r :: ro :: rs := by
   have k := q.k
   rw [es] at k
   match hrs : W.rs, k with
   | [], k => exact k.elim
   | [_], k => exact k.2.2.elim
   | r :: ro :: rs, _ => exact ⟨r, ro, rs, rfl⟩
  have hk : r.uc.length = F.up.length * 2 ∧ r.cc.length = F.ln * 2 := by
   have k := q.k
   rw [es, er] at k
   exact ⟨k.1, k.2.1⟩
  have hpp : RowP P' r.nm 9 (strs (F.nd.map (tx c.T))) ∧ RowP P' r.nd 3 (ints F.nd) := by
   have p := q.p
   rw [es, er] at p
   exact ⟨p.1, p.2.1⟩
  have hsl : s.fs.length = R.length + 2 := by rw [es]; rfl
  rw [c224, e224]
  refine l224_0 q es (by omega) (fun hin j => ?_) (fun hno m => ?_) F.up.length 0 (e + 1) (by omega) (by omega) (by omega) (by simp)
  ·refine Rs.fin ⟨j, rfl, W, rfl, rfl, ?_⟩
   have : upS x2 s.fs = s.fs := by rw [es, upS, if_pos hin]
   rw [this]; exact q
  ·have q1 := q.drop es er
   have ix := (q.ixF es).1
   have len9 : aLen (r.up.val F.up.length) = some (.int .i64 (F.up.length : Int)) := by
    have y := q.y
    rw [es, er] at y
    exact y.len 7 (r := r.up) (e := 3) (cs := ints F.up) (k := F.up.length) (esz := 1) rfl (by simp [ints]) (by decide)
   have ld6 : aLd1 h (ptr W.fr.i ((O :: R).length * 9 + 6)) = some (r.up.val F.up.length) := by
    have y := q.y
    have k := q.k
    rw [es, er] at y k
    exact y.ldS 1 (r := W.fr) rfl ((fsC_get k (by decide)).trans rfl)
   have ix1 := (q1.ixF (F := O) (R := R) rfl).1
   have ldN1 := q1.ldN (F := O) (R := R) rfl rfl
   dsimp only at ix1 ldN1
   have ld2 := q.y.ldO 0 2 rfl (v := W.fr.val W.n) rfl
   rw [s224_0_eq]
   refine Rs.b rfl (Rs.b rfl (Rs.b ld2 (Rs.b ix (Rs.b rfl (Rs.b ld6 (Rs.b len9 (Rs.b rfl (Rs.cf (decide_eq_false (by omega)) (Rs.b rfl (Rs.b rfl (Rs.b ld2 ?_)))))))))))
   rw [List.length_cons, wp _ (by omega)]
   refine Rs.b ix1 (Rs.b ldN1 (Rs.c (u211 (e := e) (ov := ro.ow.val O.own.length) (frCells ro O) rfl (kd_of q1.y 8 rfl) (by omega) (by omega)) fun v g1 hv => ?_))
   obtain ⟨z, rfl, E1, hz⟩ := hv
   have q2 := q.ext E1
   refine Rs.b rfl (Rs.n q2.y fun p g2 E2 y2 => ?_)
   have q3 := q2.ins q2.q E2 y2
   obtain ⟨g4, a4, E4, q4⟩ := q3.stQ q.q (off := 0) (m := 2) (vs := [.bool true, .int .i64 z]) (v := .agg (List.toArray [.bool true, .int .i64 z])) rfl rfl (by decide)
   refine Rs.b a4 (Rs.b rfl (Rs.b (q4.front.ldO 0 1 rfl rfl) (Rs.b rfl (Rs.i (fun hneg => ?_) (fun hpos => ?_)))))
   ·have hnO : x2 ∉ O.own := fun h => by have := hz.2 h; omega
    have hex' : ∃ O' ∈ R, x2 ∈ O'.own := by
     obtain ⟨O', h1, h2⟩ := hex
     rcases List.mem_cons.1 h1 with h | h
     ·subst h; exact absurd h2 hnO
     ·exact ⟨O', h, h2⟩
    obtain ⟨g5, a5, E5, q5⟩ := q4.stQ q.q (off := 0) (m := 1) (vs := [.bool false]) (v := .bool false) rfl rfl (by show 1 ≤ 2; decide)
    have q6 := q5.drop es er
    have ih := l224 hL R O _ _ _ _ g5 e rfl q6 hex' (fun F' h' => hb F' (by simp only [List.mem_cons] at h' ⊢; exact .inr h')) (by omega) (by omega)
    refine Rs.b rfl (Rs.b a5 (Rs.c ih fun v g6 hv => ?_))
    obtain ⟨k, rfl, W', hn', hj', q7⟩ := hv
    have hn2 : W'.n = W.n := hn'
    have q8 := q7.undrop (F := F) (J := W.jk) hj' (by show (upS x2 (O :: R)).length + 1 ≤ W'.n; rw [up_len, hn2]; have := q.n.1; rw [hsl] at this; exact this) hk hpp (fun x hx => List.mem_cons_of_mem _ (q.q hx))
    obtain ⟨g9, a9, E9, q9⟩ := q8.stQ q.q (off := 1) (m := 1) (vs := [.int .i64 k]) (v := .int .i64 k) rfl rfl (by show 2 ≤ 2; decide)
    refine Rs.b rfl (Rs.b rfl (Rs.b a9 ?_))
    have hl2 : (upS x2 (O :: R)).length = R.length + 1 := by rw [up_len]; rfl
    have fin := l224_1 (C := call Tp Ms (e + 1)) (N := e + 1) (x2 := x2) (bb := false) (z := k) (F := F) (R := upS x2 (O :: R)) q9 q.q rfl (by omega) (by rw [hl2]; omega)
    rw [hl2] at fin
    refine fin.mono fun v g ⟨k', e1, W2, e2, e3, q10⟩ => ⟨k', e1, W2, e2.trans hn2, e3, ?_⟩
    rw [es, upS_out hno hnO]
    exact q10
   ·have hO' : x2 ∈ O.own := hz.1 (by omega)
    have fin := l224_1 (C := call Tp Ms (e + 1)) (N := e + 1) (x2 := x2) (bb := true) (z := z) (F := F) (R := O :: R) q4 q.q es (by omega) (by rw [List.length_cons]; omega)
    rw [List.length_cons] at fin
    refine fin.mono fun v g ⟨k', e1, W2, e2, e3, q10⟩ => ⟨k', e1, W2, e2, e3, ?_⟩
    rw [es, upS_in hno hO']
    exact q10
end
end Go.Proofs.Ytadmoackacickaa
