import Derived.Test.YtnjnggejbpkgoaaGreatXAE
import Derived.KernelRfl
import Derived.Test.YtnjnggejbpkgoaaGreatProg
import Derived.Test.YtnjnggejbpkgoaaGreatXAO
import Derived.Test.YtnjnggejbpkgoaaGreatXAJ
set_option linter.unusedSimpArgs false
set_option linter.unusedVariables false
namespace Go.Proofs.YtnjnggejbpkgoaaGreat
open Go Go.AH
noncomputable section
variable (hk : Hk (Value × AHeap)) (C : ACall) (N : Nat)
def F3_0 : Nx (Value × AHeap) := evSt hk Tp C M3 N Tryz.f3 [1, 1, 1, 1, 1, 1, 1, 0, 1] []
def s3_0 (x1 x4 : Value) (x5 : Int) (x6 x7 : Value) (x8 : Int) (x40 : Bool) (h : AHeap) := hk 100009 (⟨96, [(1, x1), (4, x4), (5, .int .i64 x5), (6, x6), (7, x7), (8, .int .i64 x8), (40, .bool x40)]⟩) h (F3_0 hk C N)
def F3_1 : Nx (Value × AHeap) := evSt hk Tp C M3 N Tryz.f3 [1, 1, 1, 1, 1, 1, 1, 1] []
def s3_1 (x1 x4 : Value) (x5 : Int) (x6 x7 : Value) (x8 : Int) (h : AHeap) := hk 10 (⟨96, [(1, x1), (4, x4), (5, .int .i64 x5), (6, x6), (7, x7), (8, .int .i64 x8)]⟩) h (F3_1 hk C N)
def F3_2 : Nx (Value × AHeap) := evSt hk Tp C M3 N Tryz.f3 [1, 1, 1, 1, 1, 1, 1, 1, 1, 1, 1, 0, 1] []
def s3_2 (x1 x4 : Value) (x5 : Int) (x7 : Value) (x61 : Bool) (h : AHeap) := hk 100015 (⟨96, [(1, x1), (4, x4), (5, .int .i64 x5), (7, x7), (61, .bool x61)]⟩) h (F3_2 hk C N)
def F3_3 : Nx (Value × AHeap) := evSt hk Tp C M3 N Tryz.f3 [1, 1, 1, 1, 1, 1, 1, 1, 1, 1, 1, 1] []
def s3_3 (x1 x4 : Value) (x5 : Int) (x7 : Value) (h : AHeap) := hk 16 (⟨96, [(1, x1), (4, x4), (5, .int .i64 x5), (7, x7)]⟩) h (F3_3 hk C N)
def F3_4 : Nx (Value × AHeap) := evSt hk Tp C M3 N Tryz.f3 [1, 1, 1, 1, 1, 1, 1, 1, 1, 1, 1, 1, 1, 1, 1, 1, 1, 1, 1, 0, 1] []
def s3_4 (x7 : Value) (x10 : Int) (x87 : Bool) (h : AHeap) := hk 100026 (⟨96, [(7, x7), (10, .int .i64 x10), (87, .bool x87)]⟩) h (F3_4 hk C N)
def F3_5 : Nx (Value × AHeap) := evSt hk Tp C M3 N Tryz.f3 [1, 1, 1, 1, 1, 1, 1, 1, 1, 1, 1, 1, 1, 1, 1, 1, 1, 1, 1, 1] []
def s3_5 (x7 : Value) (x10 : Int) (h : AHeap) := hk 27 (⟨96, [(7, x7), (10, .int .i64 x10)]⟩) h (F3_5 hk C N)
theorem e3 (x0 : Value) (h : AHeap) : evFn hk Tp C M3 N Tryz.f3 [x0] h =
  (aCells x0).bind fun c1 => aNew h 25 c1 fun p2 h3 => (aLdN h3 p2 10).bind fun v4 => (C 4 [v4, .int .i64 1048576] h3).bind fun r5 => (asI .i64 r5.1).bind fun n6 => bif decide (n6 < 0) then some (.bool true, r5.2) else (aLdN r5.2 p2 10).bind fun v7 => (C 6 [v7] r5.2).bind fun r8 => (C 5 [r8.1] r8.2).bind fun r9 => (aExt r9.1 0).bind fun v10 => (aExt r9.1 1).bind fun v11 => (asI .i64 v11).bind fun n12 => aNew r9.2 29 [.slice none 0 0, .int .i64 0, .int .i64 0, .int .i64 0, .bool false, .int .i64 0, .int .i64 0, .int .i64 0, .int .i64 0, .slice none 0 0] fun p13 h14 => (aSt h14 p13 v10 10).bind fun h15 => (aLdN h15 p2 10).bind fun v16 => (C 6 [v16] h15).bind fun r17 => aNew r17.2 29 [.slice none 0 0, .int .i64 0, .int .i64 0, .int .i64 0, .bool false, .int .i64 0, .int .i64 0, .int .i64 0, .int .i64 0, .slice none 0 0] fun p18 h19 => (aSt h19 p18 r17.1 10).bind fun h20 => (aLdN h20 p18 10).bind fun v21 => (C 7 [v21] h20).bind fun r22 => (aExt r22.1 0).bind fun v23 => (aExt r22.1 1).bind fun v24 => (asI .i64 v24).bind fun n25 => aNew r22.2 29 [.slice none 0 0, .int .i64 0, .int .i64 0, .int .i64 0, .bool false, .int .i64 0, .int .i64 0, .int .i64 0, .int .i64 0, .slice none 0 0] fun p26 h27 => (aSt h27 p26 v23 10).bind fun h28 => (aLdN h28 p26 10).bind fun v29 => (aLdN h28 p13 10).bind fun v30 => (C 8 [v29, v30] h28).bind fun r31 => (asB r31.1).bind fun b32 => bif !b32 then s3_0 hk C N p2 p13 n12 p18 p26 n25 true r31.2 else s3_0 hk C N p2 p13 n12 p18 p26 n25 (n25 != n12) r31.2 := by kernel_rfl
theorem s3_0_j (x1 x4 : Value) (x5 : Int) (x6 x7 : Value) (x8 : Int) (x40 : Bool) (h : AHeap) : s3_0 hk0 C N x1 x4 x5 x6 x7 x8 x40 h = F3_0 hk0 C N (⟨96, [(1, x1), (4, x4), (5, .int .i64 x5), (6, x6), (7, x7), (8, .int .i64 x8), (40, .bool x40)]⟩) h := by delta s3_0; exact hk0_app _ _ _ _
theorem s3_0_eq (x1 x4 : Value) (x5 : Int) (x6 x7 : Value) (x8 : Int) (x40 : Bool) (h : AHeap) : F3_0 hk C N (⟨96, [(1, x1), (4, x4), (5, .int .i64 x5), (6, x6), (7, x7), (8, .int .i64 x8), (40, .bool x40)]⟩) h =
  bif x40 then some (.bool false, h) else s3_1 hk C N x1 x4 x5 x6 x7 x8 h := by kernel_rfl
theorem s3_1_j (x1 x4 : Value) (x5 : Int) (x6 x7 : Value) (x8 : Int) (h : AHeap) : s3_1 hk0 C N x1 x4 x5 x6 x7 x8 h = F3_1 hk0 C N (⟨96, [(1, x1), (4, x4), (5, .int .i64 x5), (6, x6), (7, x7), (8, .int .i64 x8)]⟩) h := by delta s3_1; exact hk0_app _ _ _ _
theorem s3_1_eq (x1 x4 : Value) (x5 : Int) (x6 x7 : Value) (x8 : Int) (h : AHeap) : F3_1 hk C N (⟨96, [(1, x1), (4, x4), (5, .int .i64 x5), (6, x6), (7, x7), (8, .int .i64 x8)]⟩) h =
  (aLdN h x6 10).bind fun v33 => (aLdN h x1 10).bind fun v34 => (C 6 [v34] h).bind fun r35 => ((aLdN r35.2 x6 10).bind fun v36 => some (vbeq v36 v33)).bind fun b37 => bif b37 then (C 8 [v33, r35.1] r35.2).bind fun r38 => (asB r38.1).bind fun b39 => bif !b39 then some (.bool false, r38.2) else (aLdN r38.2 x6 10).bind fun v40 => (C 9 [v40, .int .i64 1] r38.2).bind fun r41 => (asI .i64 r41.1).bind fun n42 => bif decide (n42 < 0) then s3_2 hk C N x1 x4 x5 x7 true r41.2 else (aLdN r41.2 x7 10).bind fun v43 => (aLdN r41.2 x4 10).bind fun v44 => (C 8 [v43, v44] r41.2).bind fun r45 => (asB r45.1).bind fun b46 => bif !b46 then s3_2 hk C N x1 x4 x5 x7 true r45.2 else s3_2 hk C N x1 x4 x5 x7 (x8 != x5) r45.2 else none := by kernel_rfl
theorem s3_2_j (x1 x4 : Value) (x5 : Int) (x7 : Value) (x61 : Bool) (h : AHeap) : s3_2 hk0 C N x1 x4 x5 x7 x61 h = F3_2 hk0 C N (⟨96, [(1, x1), (4, x4), (5, .int .i64 x5), (7, x7), (61, .bool x61)]⟩) h := by delta s3_2; exact hk0_app _ _ _ _
theorem s3_2_eq (x1 x4 : Value) (x5 : Int) (x7 : Value) (x61 : Bool) (h : AHeap) : F3_2 hk C N (⟨96, [(1, x1), (4, x4), (5, .int .i64 x5), (7, x7), (61, .bool x61)]⟩) h =
  bif x61 then some (.bool false, h) else s3_3 hk C N x1 x4 x5 x7 h := by kernel_rfl
theorem s3_3_j (x1 x4 : Value) (x5 : Int) (x7 : Value) (h : AHeap) : s3_3 hk0 C N x1 x4 x5 x7 h = F3_3 hk0 C N (⟨96, [(1, x1), (4, x4), (5, .int .i64 x5), (7, x7)]⟩) h := by delta s3_3; exact hk0_app _ _ _ _
theorem s3_3_eq (x1 x4 : Value) (x5 : Int) (x7 : Value) (h : AHeap) : F3_3 hk C N (⟨96, [(1, x1), (4, x4), (5, .int .i64 x5), (7, x7)]⟩) h =
  (aLdN h x7 10).bind fun v47 => (C 9 [v47, .int .i64 1] h).bind fun r48 => (asI .i64 r48.1).bind fun n49 => (aLdN r48.2 x7 10).bind fun v50 => (C 10 [v50, .int .i64 1] r48.2).bind fun r51 => (asI .i64 r51.1).bind fun n52 => bif decide (n52 < 0) then some (.bool false, r51.2) else bif n52 != n49 then some (.bool false, r51.2) else (aLdN r51.2 x1 10).bind fun v53 => (C 6 [v53] r51.2).bind fun r54 => (C 7 [r54.1] r54.2).bind fun r55 => (aExt r55.1 0).bind fun v56 => (aExt r55.1 1).bind fun v57 => (asI .i64 v57).bind fun n58 => aNew r55.2 29 [.slice none 0 0, .int .i64 0, .int .i64 0, .int .i64 0, .bool false, .int .i64 0, .int .i64 0, .int .i64 0, .int .i64 0, .slice none 0 0] fun p59 h60 => (aSt h60 p59 v56 10).bind fun h61 => (aLdN h61 p59 10).bind fun v62 => (aLdN h61 x4 10).bind fun v63 => (C 8 [v62, v63] h61).bind fun r64 => (asB r64.1).bind fun b65 => bif !b65 then s3_4 hk C N x7 n49 true r64.2 else s3_4 hk C N x7 n49 (n58 != x5) r64.2 := by kernel_rfl
theorem s3_4_j (x7 : Value) (x10 : Int) (x87 : Bool) (h : AHeap) : s3_4 hk0 C N x7 x10 x87 h = F3_4 hk0 C N (⟨96, [(7, x7), (10, .int .i64 x10), (87, .bool x87)]⟩) h := by delta s3_4; exact hk0_app _ _ _ _
theorem s3_4_eq (x7 : Value) (x10 : Int) (x87 : Bool) (h : AHeap) : F3_4 hk C N (⟨96, [(7, x7), (10, .int .i64 x10), (87, .bool x87)]⟩) h =
  bif x87 then some (.bool false, h) else s3_5 hk C N x7 x10 h := by kernel_rfl
theorem s3_5_j (x7 : Value) (x10 : Int) (h : AHeap) : s3_5 hk0 C N x7 x10 h = F3_5 hk0 C N (⟨96, [(7, x7), (10, .int .i64 x10)]⟩) h := by delta s3_5; exact hk0_app _ _ _ _
theorem s3_5_eq (x7 : Value) (x10 : Int) (h : AHeap) : F3_5 hk C N (⟨96, [(7, x7), (10, .int .i64 x10)]⟩) h =
  (aLdN h x7 10).bind fun v66 => (C 10 [v66, .int .i64 1] h).bind fun r67 => (asI .i64 r67.1).bind fun n68 => bif decide (n68 < 0) then some (.bool false, r67.2) else bif n68 != x10 then some (.bool false, r67.2) else some (.bool true, r67.2) := by kernel_rfl
theorem c3 (d : Nat) (args : List Value) (h : AHeap) : call Tp Ms (d + 1) 3 args h = evFn hk0 Tp (call Tp Ms d) M3 d Tryz.f3 args h := by kernel_rfl
def F5_0 (n1 : Nat) : Nx (Value × AHeap) := evSt hk Tp C M5 N Tryz.f5 [1, 1, 1, 1, 0, 1, 2, 6] [n1]
def s5_0 (n1 : Nat) (x2 x4 : Value) (x5 x6 : Int) (h : AHeap) := F5_0 hk C N n1 (⟨115, [(2, x2), (4, x4), (5, .int .i64 x5), (6, .int .i64 x6)]⟩) h
def F5_1 (n1 : Nat) : Nx (Value × AHeap) := evSt hk Tp C M5 N Tryz.f5 [1, 1, 1, 1, 1, 0, 1, 2, 6] [n1]
def s5_1 (n1 : Nat) (x2 x4 : Value) (x5 x7 : Int) (h : AHeap) := F5_1 hk C N n1 (⟨115, [(2, x2), (4, x4), (5, .int .i64 x5), (7, .int .i64 x7)]⟩) h
def F5_2 (n1 n2 : Nat) : Nx (Value × AHeap) := evSt hk Tp C M5 N Tryz.f5 [1, 1, 1, 1, 1, 0, 1, 2, 3, 1, 0, 2, 1, 1, 1, 2, 6] [n1, n2]
def s5_2 (n1 n2 : Nat) (x2 x4 : Value) (x5 x7 : Int) (x9 : Value) (x10 : Int) (h : AHeap) := F5_2 hk C N n1 n2 (⟨115, [(2, x2), (4, x4), (5, .int .i64 x5), (7, .int .i64 x7), (9, x9), (10, .int .i64 x10)]⟩) h
theorem e5 (x0 : Value) (h : AHeap) : evFn hk Tp C M5 N Tryz.f5 [x0] h =
  (aCells x0).bind fun c1 => aNew h 29 c1 fun p2 h3 => aNew h3 29 [.slice none 0 0, .int .i64 0, .int .i64 0, .int .i64 0, .bool false, .int .i64 0, .int .i64 0, .int .i64 0, .int .i64 0, .slice none 0 0] fun p4 h5 => (aLdN h5 p2 10).bind fun v6 => (C 13 [v6] h5).bind fun r7 => (asB r7.1).bind fun b8 => bif !b8 then (aLdN r7.2 p2 10).bind fun v9 => (C 14 [v9] r7.2).bind fun r10 => (aSt r10.2 p4 r10.1 10).bind fun h11 => (aLdN h11 p4 10).bind fun v12 => bif List.all [v12, .int .i64 0] isS2 then some (.tuple (List.toArray [v12, .int .i64 0]), h11) else none else (aLdN r7.2 p2 10).bind fun v13 => (C 14 [v13] r7.2).bind fun r14 => (C 15 [r14.1] r14.2).bind fun r15 => aNew r15.2 29 [.slice none 0 0, .int .i64 0, .int .i64 0, .int .i64 0, .bool false, .int .i64 0, .int .i64 0, .int .i64 0, .int .i64 0, .slice none 0 0] fun p16 h17 => (aSt h17 p16 r15.1 10).bind fun h18 => (aLdN h18 p16 10).bind fun v19 => (C 16 [v19] h18).bind fun r20 => (asI .i64 r20.1).bind fun n21 => s5_0 hk C N N p4 p16 n21 0 r20.2 := by kernel_rfl
theorem s5_0_eq (n1 : Nat) (x2 x4 : Value) (x5 x6 : Int) (h : AHeap) : s5_0 hk C N (n1 + 1) x2 x4 x5 x6 h =
  (aOff x4 9).bind fun v22 => (aLd1 h v22).bind fun v23 => (aLen v23).bind fun v24 => (asI .i64 v24).bind fun n25 => bif decide (x6 < n25) then (aOff x4 9).bind fun v26 => (aLd1 h v26).bind fun v27 => (aIdx v27 (.int .i64 x6) 2).bind fun v28 => (aOff v28 0).bind fun v29 => (aLd1 h v29).bind fun v30 => (asI .i64 v30).bind fun n31 => bif n31 == 3 then (aOff x4 9).bind fun v32 => (aLd1 h v32).bind fun v33 => (aLdN h x4 10).bind fun v34 => (aOff x4 9).bind fun v35 => (aLd1 h v35).bind fun v36 => (aIdx v36 (.int .i64 x6) 2).bind fun v37 => (aOff v37 1).bind fun v38 => (aLd1 h v38).bind fun v39 => (asI .i64 v39).bind fun n40 => (C 17 [v34, .int .i64 n40] h).bind fun r41 => (asI .i64 r41.1).bind fun n42 => ((aLd1 r41.2 v32).bind fun v43 => some (vbeq v43 v33)).bind fun b44 => bif b44 then (aIdx v33 (.int .i64 x6) 2).bind fun v45 => (aOff v45 1).bind fun v46 => (aSt r41.2 v46 (.int .i64 n42) 1).bind fun h47 => s5_0 hk C N n1 x2 x4 x5 (IntKind.i64.wrap (x6 + 1)) h47 else none else s5_0 hk C N n1 x2 x4 x5 (IntKind.i64.wrap (x6 + 1)) h else (aLdN h x4 10).bind fun v48 => (aOff x4 2).bind fun v49 => (aLd1 h v49).bind fun v50 => (asI .i64 v50).bind fun n51 => (C 18 [v48, .int .i64 n51] h).bind fun r52 => (asI .i64 r52.1).bind fun n53 => s5_1 hk C N N x2 x4 x5 n53 r52.2 := by kernel_rfl
theorem s5_1_eq (n1 : Nat) (x2 x4 : Value) (x5 x7 : Int) (h : AHeap) : s5_1 hk C N (n1 + 1) x2 x4 x5 x7 h =
  (aOff x4 3).bind fun v54 => (aLd1 h v54).bind fun v55 => (asI .i64 v55).bind fun n56 => bif decide (x7 < n56) then (aLdN h x4 10).bind fun v57 => (C 19 [v57, .int .i64 x7] h).bind fun r58 => aNew r58.2 44 [.int .i64 0, .int .i64 0, .int .i64 0] fun p59 h60 => (aSt h60 p59 r58.1 3).bind fun h61 => (aOff p59 0).bind fun v62 => (aLd1 h61 v62).bind fun v63 => (asI .i64 v63).bind fun n64 => (aOff p59 1).bind fun v65 => (aLd1 h61 v65).bind fun v66 => (asI .i64 v66).bind fun n67 => (C 20 [.int .i64 n64, .int .i64 n67] h61).bind fun r68 => s5_2 hk C N n1 N x2 x4 x5 x7 r68.1 0 r68.2 else (aLdN h x4 10).bind fun v69 => (C 15 [v69] h).bind fun r70 => (aSt r70.2 x4 r70.1 10).bind fun h71 => (aLdN h71 x4 10).bind fun v72 => (aLdN h71 x4 10).bind fun v73 => (C 16 [v73] h71).bind fun r74 => (asI .i64 r74.1).bind fun n75 => ((aLdN r74.2 x4 10).bind fun v76 => some (vbeq v76 v72)).bind fun b77 => bif b77 then (aSt r74.2 x2 v72 10).bind fun h78 => (aLdN h78 x2 10).bind fun v79 => bif List.all [v79, .int .i64 (IntKind.i64.wrap (x5 - n75))] isS2 then some (.tuple (List.toArray [v79, .int .i64 (IntKind.i64.wrap (x5 - n75))]), h78) else none else none := by kernel_rfl
theorem s5_2_eq (n1 n2 : Nat) (x2 x4 : Value) (x5 x7 : Int) (x9 : Value) (x10 : Int) (h : AHeap) : s5_2 hk C N n1 (n2 + 1) x2 x4 x5 x7 x9 x10 h =
  (aLen x9).bind fun v80 => (asI .i64 v80).bind fun n81 => bif decide (x10 < n81) then (aOff x4 0).bind fun v82 => (aLd1 h v82).bind fun v83 => (aIdx x9 (.int .i64 x10) 1).bind fun v84 => (aLd1 h v84).bind fun v85 => (asI .i64 v85).bind fun n86 => aNew h 42 [.int .i64 0, .int .i64 0] fun p87 h88 => (C 21 [v83, .int .i64 (IntKind.i64.wrap (x7 + n86))] h88).bind fun r89 => (aExt r89.1 0).bind fun v90 => (aExt r89.1 1).bind fun v91 => (asB v91).bind fun b92 => (aSt r89.2 p87 v90 2).bind fun h93 => (aOff p87 0).bind fun v94 => (aLd1 h93 v94).bind fun v95 => (asI .i64 v95).bind fun n96 => bif n96 == 3 then (aLdN h93 x4 10).bind fun v97 => (aOff p87 1).bind fun v98 => (aLd1 h93 v98).bind fun v99 => (asI .i64 v99).bind fun n100 => (C 17 [v97, .int .i64 n100] h93).bind fun r101 => (asI .i64 r101.1).bind fun n102 => (aOff p87 1).bind fun v103 => (aSt r101.2 v103 (.int .i64 n102) 1).bind fun h104 => (aLdN h104 x4 10).bind fun v105 => (aIdx x9 (.int .i64 x10) 1).bind fun v106 => (aLd1 h104 v106).bind fun v107 => (asI .i64 v107).bind fun n108 => (aLdN h104 p87 2).bind fun v109 => (C 22 [v105, .int .i64 (IntKind.i64.wrap (x7 + n108)), v109] h104).bind fun r110 => (aSt r110.2 x4 r110.1 10).bind fun h111 => s5_2 hk C N n1 n2 x2 x4 x5 x7 x9 (IntKind.i64.wrap (x10 + 1)) h111 else s5_2 hk C N n1 n2 x2 x4 x5 x7 x9 (IntKind.i64.wrap (x10 + 1)) h93 else (aLdN h x4 10).bind fun v112 => (C 19 [v112, .int .i64 x7] h).bind fun r113 => (aPart r113.1 1 1 false).bind fun v114 => (asI .i64 v114).bind fun n115 => s5_1 hk C N n1 x2 x4 x5 (IntKind.i64.wrap ((IntKind.i64.wrap (x7 + n115)) + 1)) r113.2 := by kernel_rfl
theorem c5 (d : Nat) (args : List Value) (h : AHeap) : call Tp Ms (d + 1) 5 args h = evFn hk0 Tp (call Tp Ms d) M5 d Tryz.f5 args h := by kernel_rfl
def F7_0 (n1 : Nat) : Nx (Value × AHeap) := evSt hk Tp C M7 N Tryz.f7 [1, 1, 1, 1, 1, 0, 1, 2, 6] [n1]
def s7_0 (n1 : Nat) (x2 x4 x5 x28 : Value) (x29 x30 : Int) (h : AHeap) := F7_0 hk C N n1 (⟨105, [(2, x2), (4, x4), (5, x5), (28, x28), (29, .int .i64 x29), (30, .int .i64 x30)]⟩) h
def F7_1 (n1 : Nat) : Nx (Value × AHeap) := evSt hk Tp C M7 N Tryz.f7 [1, 1, 1, 1, 1, 1, 1, 0, 1, 2, 6] [n1]
def s7_1 (n1 : Nat) (x2 x4 x11 x54 : Value) (x55 x56 : Int) (h : AHeap) := F7_1 hk C N n1 (⟨105, [(2, x2), (4, x4), (11, x11), (54, x54), (55, .int .i64 x55), (56, .int .i64 x56)]⟩) h
def F7_2 (n1 : Nat) : Nx (Value × AHeap) := evSt hk Tp C M7 N Tryz.f7 [1, 1, 1, 1, 1, 1, 1, 1, 0, 1, 2, 6] [n1]
def s7_2 (n1 : Nat) (x2 x4 x11 x69 : Value) (x70 x71 : Int) (h : AHeap) := F7_2 hk C N n1 (⟨105, [(2, x2), (4, x4), (11, x11), (69, x69), (70, .int .i64 x70), (71, .int .i64 x71)]⟩) h
def F7_3 (n1 n2 : Nat) : Nx (Value × AHeap) := evSt hk Tp C M7 N Tryz.f7 [1, 1, 1, 1, 1, 1, 1, 1, 0, 1, 2, 3, 1, 1, 0, 2, 1, 1, 1, 2, 6] [n1, n2]
def s7_3 (n1 n2 : Nat) (x2 x4 x11 : Value) (x15 : Int) (x69 : Value) (x70 x71 : Int) (x81 : Value) (x82 x83 : Int) (h : AHeap) := F7_3 hk C N n1 n2 (⟨105, [(2, x2), (4, x4), (11, x11), (15, .int .i64 x15), (69, x69), (70, .int .i64 x70), (71, .int .i64 x71), (81, x81), (82, .int .i64 x82), (83, .int .i64 x83)]⟩) h
theorem e7 (x0 : Value) (h : AHeap) : evFn hk Tp C M7 N Tryz.f7 [x0] h =
  (aCells x0).bind fun c1 => aNew h 29 c1 fun p2 h3 => aNew h3 29 [.slice none 0 0, .int .i64 0, .int .i64 0, .int .i64 0, .bool false, .int .i64 0, .int .i64 0, .int .i64 0, .int .i64 0, .slice none 0 0] fun p4 h5 => (aLdN h5 p2 10).bind fun v6 => (C 25 [v6] h5).bind fun r7 => aNew r7.2 29 [.slice none 0 0, .int .i64 0, .int .i64 0, .int .i64 0, .bool false, .int .i64 0, .int .i64 0, .int .i64 0, .int .i64 0, .slice none 0 0] fun p8 h9 => (aSt h9 p8 r7.1 10).bind fun h10 => (aLdN h10 p2 10).bind fun v11 => (C 26 [v11] h10).bind fun r12 => (asB r12.1).bind fun b13 => bif !b13 then (aLdN r12.2 p8 10).bind fun v14 => (aSt r12.2 p4 v14 10).bind fun h15 => (aLdN h15 p4 10).bind fun v16 => bif List.all [v16, .int .i64 0] isS2 then some (.tuple (List.toArray [v16, .int .i64 0]), h15) else none else (C 27 [p8] r12.2).bind fun r17 => aNewM r17.2 fun p18 h19 => aNew h19 53 [.map none] fun p20 h21 => (aSt h21 p20 p18 1).bind fun h22 => (C 28 [p8] h22).bind fun r23 => (aLen r23.1).bind fun v24 => (asI .i64 v24).bind fun n25 => s7_0 hk C N N p4 p8 p20 r23.1 n25 0 r23.2 := by kernel_rfl
theorem s7_0_eq (n1 : Nat) (x2 x4 x5 x28 : Value) (x29 x30 : Int) (h : AHeap) : s7_0 hk C N (n1 + 1) x2 x4 x5 x28 x29 x30 h =
  bif decide (x30 < x29) then (aIdx x28 (.int .i64 x30) 1).bind fun v26 => (aLd1 h v26).bind fun v27 => (asI .i64 v27).bind fun n28 => (C 29 [x4, .int .i64 n28] h).bind fun r29 => (aPart r29.1 0 1 false).bind fun v30 => (asI .i64 v30).bind fun n31 => bif n31 == 1 then (C 30 [x4, .int .i64 n28] r29.2).bind fun r32 => (asS r32.1).bind fun t33 => (aLd1 r32.2 x5).bind fun v34 => (aMget r32.2 v34 (.string t33) (.int .i64 0) true).bind fun v35 => (aExt v35 0).bind fun v36 => (asI .i64 v36).bind fun n37 => (aExt v35 1).bind fun v38 => (asB v38).bind fun b39 => bif !b39 then (aLd1 r32.2 x5).bind fun v40 => (aMset r32.2 v40 (.string t33) (.int .i64 n28)).bind fun h41 => s7_0 hk C N n1 x2 x4 x5 x28 x29 (IntKind.i64.wrap (x30 + 1)) h41 else s7_0 hk C N n1 x2 x4 x5 x28 x29 (IntKind.i64.wrap (x30 + 1)) r32.2 else s7_0 hk C N n1 x2 x4 x5 x28 x29 (IntKind.i64.wrap (x30 + 1)) r29.2 else (aFn 31 [] [x5, x4]).bind fun v42 => (aOff x4 9).bind fun v43 => (aLd1 h v43).bind fun v44 => (aLen v44).bind fun v45 => (asI .i64 v45).bind fun n46 => s7_1 hk C N N x2 x4 v42 v44 n46 0 h := by kernel_rfl
theorem s7_1_eq (n1 : Nat) (x2 x4 x11 x54 : Value) (x55 x56 : Int) (h : AHeap) : s7_1 hk C N (n1 + 1) x2 x4 x11 x54 x55 x56 h =
  bif decide (x56 < x55) then (aIdx x54 (.int .i64 x56) 2).bind fun v47 => (aLdN h v47 2).bind fun v48 => aNew h 42 [.int .i64 0, .int .i64 0] fun p49 h50 => (aSt h50 p49 v48 2).bind fun h51 => (aOff x4 9).bind fun v52 => (aLd1 h51 v52).bind fun v53 => (aLdN h51 p49 2).bind fun v54 => (aCallV C x11 [v54] h51).bind fun r55 => ((aLd1 r55.2 v52).bind fun v56 => some (vbeq v56 v53)).bind fun b57 => bif b57 then (aIdx v53 (.int .i64 x56) 2).bind fun v58 => (aSt r55.2 v58 r55.1 2).bind fun h59 => s7_1 hk C N n1 x2 x4 x11 x54 x55 (IntKind.i64.wrap (x56 + 1)) h59 else none else (C 28 [x4] h).bind fun r60 => (aLen r60.1).bind fun v61 => (asI .i64 v61).bind fun n62 => s7_2 hk C N N x2 x4 x11 r60.1 n62 0 r60.2 := by kernel_rfl
theorem s7_2_eq (n1 : Nat) (x2 x4 x11 x69 : Value) (x70 x71 : Int) (h : AHeap) : s7_2 hk C N (n1 + 1) x2 x4 x11 x69 x70 x71 h =
  bif decide (x71 < x70) then (aIdx x69 (.int .i64 x71) 1).bind fun v63 => (aLd1 h v63).bind fun v64 => (asI .i64 v64).bind fun n65 => (C 29 [x4, .int .i64 n65] h).bind fun r66 => aNew r66.2 44 [.int .i64 0, .int .i64 0, .int .i64 0] fun p67 h68 => (aSt h68 p67 r66.1 3).bind fun h69 => (aOff p67 0).bind fun v70 => (aLd1 h69 v70).bind fun v71 => (asI .i64 v71).bind fun n72 => (aOff p67 1).bind fun v73 => (aLd1 h69 v73).bind fun v74 => (asI .i64 v74).bind fun n75 => (C 32 [.int .i64 n72, .int .i64 n75] h69).bind fun r76 => (aLen r76.1).bind fun v77 => (asI .i64 v77).bind fun n78 => s7_3 hk C N n1 N x2 x4 x11 n65 x69 x70 x71 r76.1 n78 0 r76.2 else (C 35 [x4] h).bind fun r79 => (asI .i64 r79.1).bind fun n80 => (C 27 [x4] r79.2).bind fun r81 => (aLdN r81.2 x4 10).bind fun v82 => (C 35 [x4] r81.2).bind fun r83 => (asI .i64 r83.1).bind fun n84 => ((aLdN r83.2 x4 10).bind fun v85 => some (vbeq v85 v82)).bind fun b86 => bif b86 then (aSt r83.2 x2 v82 10).bind fun h87 => (aLdN h87 x2 10).bind fun v88 => bif List.all [v88, .int .i64 (IntKind.i64.wrap (n80 - n84))] isS2 then some (.tuple (List.toArray [v88, .int .i64 (IntKind.i64.wrap (n80 - n84))]), h87) else none else none := by kernel_rfl
theorem s7_3_eq (n1 n2 : Nat) (x2 x4 x11 : Value) (x15 : Int) (x69 : Value) (x70 x71 : Int) (x81 : Value) (x82 x83 : Int) (h : AHeap) : s7_3 hk C N n1 (n2 + 1) x2 x4 x11 x15 x69 x70 x71 x81 x82 x83 h =
  bif decide (x83 < x82) then (aIdx x81 (.int .i64 x83) 1).bind fun v89 => (aLd1 h v89).bind fun v90 => (asI .i64 v90).bind fun n91 => (C 34 [x4, .int .i64 (IntKind.i64.wrap (x15 + n91))] h).bind fun r92 => (aCallV C x11 [r92.1] r92.2).bind fun r93 => (C 33 [x4, .int .i64 (IntKind.i64.wrap (x15 + n91)), r93.1] r93.2).bind fun r94 => s7_3 hk C N n1 n2 x2 x4 x11 x15 x69 x70 x71 x81 x82 (IntKind.i64.wrap (x83 + 1)) r94.2 else s7_2 hk C N n1 x2 x4 x11 x69 x70 (IntKind.i64.wrap (x71 + 1)) h := by kernel_rfl
theorem c7 (d : Nat) (args : List Value) (h : AHeap) : call Tp Ms (d + 1) 7 args h = evFn hk0 Tp (call Tp Ms d) M7 d Tryz.f7 args h := by kernel_rfl
theorem e10 (x0 : Value) (x1 : Int) (h : AHeap) : evFn hk Tp C M10 N Tryz.f10 [x0, .int .i64 x1] h =
  (aCells x0).bind fun c1 => aNew h 29 c1 fun p2 h3 => (aOff p2 0).bind fun v4 => (aLd1 h3 v4).bind fun v5 => (C 40 [v5, .int .i64 x1] h3).bind fun r6 => (asI .i64 r6.1).bind fun n7 => bif decide (n7 < 0) then some (.int .i64 (-1), r6.2) else (aOff p2 9).bind fun v8 => (aLd1 r6.2 v8).bind fun v9 => (C 41 [v9, .int .i64 n7] r6.2).bind fun r10 => (asI .i64 r10.1).bind fun n11 => bif decide (n11 < 0) then some (.int .i64 (-1), r10.2) else some (.int .i64 n11, r10.2) := by kernel_rfl
theorem c10 (d : Nat) (args : List Value) (h : AHeap) : call Tp Ms (d + 1) 10 args h = evFn hk0 Tp (call Tp Ms d) M10 d Tryz.f10 args h := by kernel_rfl
theorem e14 (x0 : Value) (h : AHeap) : evFn hk Tp C M14 N Tryz.f14 [x0] h =
  (aCells x0).bind fun c1 => aNew h 29 c1 fun p2 h3 => aNew h3 29 [.slice none 0 0, .int .i64 0, .int .i64 0, .int .i64 0, .bool false, .int .i64 0, .int .i64 0, .int .i64 0, .int .i64 0, .slice none 0 0] fun p4 h5 => (aOff p2 0).bind fun v6 => (aLd1 h5 v6).bind fun v7 => (C 49 [v7] h5).bind fun r8 => (aOff p2 0).bind fun v9 => (aSt r8.2 v9 r8.1 1).bind fun h10 => aNewS h10 42 [] 0 fun p11 h12 => (aOff p2 9).bind fun v13 => (aLd1 h12 v13).bind fun v14 => (aApp h12 42 2 16 p11 v14).bind fun r15 => (aOff p2 9).bind fun v16 => (aSt r15.2 v16 r15.1 1).bind fun h17 => (aLdN h17 p2 10).bind fun v18 => (aSt h17 p4 v18 10).bind fun h19 => (aLdN h19 p4 10).bind fun v20 => some (v20, h19) := by kernel_rfl
theorem c14 (d : Nat) (args : List Value) (h : AHeap) : call Tp Ms (d + 1) 14 args h = evFn hk0 Tp (call Tp Ms d) M14 d Tryz.f14 args h := by kernel_rfl
theorem e15 (x0 : Value) (h : AHeap) : evFn hk Tp C M15 N Tryz.f15 [x0] h =
  (aCells x0).bind fun c1 => aNew h 29 c1 fun p2 h3 => aNew h3 29 [.slice none 0 0, .int .i64 0, .int .i64 0, .int .i64 0, .bool false, .int .i64 0, .int .i64 0, .int .i64 0, .int .i64 0, .slice none 0 0] fun p4 h5 => (aLdN h5 p2 10).bind fun v6 => (C 50 [v6] h5).bind fun r7 => (aExt r7.1 0).bind fun v8 => (aExt r7.1 1).bind fun v9 => (asI .i64 v9).bind fun n10 => (aSt r7.2 p2 v8 10).bind fun h11 => (aLdN h11 p2 10).bind fun v12 => (C 51 [v12] h11).bind fun r13 => (aSt r13.2 p2 r13.1 10).bind fun h14 => (aLdN h14 p2 10).bind fun v15 => (C 50 [v15] h14).bind fun r16 => (aExt r16.1 0).bind fun v17 => (aExt r16.1 1).bind fun v18 => (asI .i64 v18).bind fun n19 => (aSt r16.2 p2 v17 10).bind fun h20 => (aLdN h20 p2 10).bind fun v21 => (aSt h20 p4 v21 10).bind fun h22 => (aLdN h22 p4 10).bind fun v23 => some (v23, h22) := by kernel_rfl
theorem c15 (d : Nat) (args : List Value) (h : AHeap) : call Tp Ms (d + 1) 15 args h = evFn hk0 Tp (call Tp Ms d) M15 d Tryz.f15 args h := by kernel_rfl
def F16_0 (n1 : Nat) : Nx (Value × AHeap) := evSt hk Tp C M16 N Tryz.f16 [1, 1, 0, 1, 2, 6] [n1]
def s16_0 (n1 : Nat) (x1 : Value) (x3 x4 : Int) (h : AHeap) := F16_0 hk C N n1 (⟨28, [(1, x1), (3, .int .i64 x3), (4, .int .i64 x4)]⟩) h
def F16_1 (n1 : Nat) : Nx (Value × AHeap) := evSt hk Tp C M16 N Tryz.f16 [1, 1, 0, 1, 2, 3, 1, 1] [n1]
def s16_1 (n1 : Nat) (x1 : Value) (x3 x4 : Int) (h : AHeap) := hk 4 (⟨28, [(1, x1), (3, .int .i64 x3), (4, .int .i64 x4)]⟩) h (F16_1 hk C N n1)
theorem e16 (x0 : Value) (h : AHeap) : evFn hk Tp C M16 N Tryz.f16 [x0] h =
  (aCells x0).bind fun c1 => aNew h 29 c1 fun p2 h3 => (aLdN h3 p2 10).bind fun v4 => (aOff p2 2).bind fun v5 => (aLd1 h3 v5).bind fun v6 => (asI .i64 v6).bind fun n7 => (C 18 [v4, .int .i64 n7] h3).bind fun r8 => (asI .i64 r8.1).bind fun n9 => s16_0 hk C N N p2 0 n9 r8.2 := by kernel_rfl
theorem s16_0_eq (n1 : Nat) (x1 : Value) (x3 x4 : Int) (h : AHeap) : s16_0 hk C N (n1 + 1) x1 x3 x4 h =
  (aOff x1 3).bind fun v10 => (aLd1 h v10).bind fun v11 => (asI .i64 v11).bind fun n12 => bif decide (x4 < n12) then (aLdN h x1 10).bind fun v13 => (C 19 [v13, .int .i64 x4] h).bind fun r14 => (aPart r14.1 0 1 false).bind fun v15 => (asI .i64 v15).bind fun n16 => bif n16 == 1 then s16_1 hk C N n1 x1 (IntKind.i64.wrap (x3 + 1)) x4 r14.2 else s16_1 hk C N n1 x1 x3 x4 r14.2 else some (.int .i64 x3, h) := by kernel_rfl
theorem s16_1_j (n1 : Nat) (x1 : Value) (x3 x4 : Int) (h : AHeap) : s16_1 hk0 C N n1 x1 x3 x4 h = F16_1 hk0 C N n1 (⟨28, [(1, x1), (3, .int .i64 x3), (4, .int .i64 x4)]⟩) h := by delta s16_1; exact hk0_app _ _ _ _
theorem s16_1_eq (n1 : Nat) (x1 : Value) (x3 x4 : Int) (h : AHeap) : F16_1 hk C N n1 (⟨28, [(1, x1), (3, .int .i64 x3), (4, .int .i64 x4)]⟩) h =
  (aLdN h x1 10).bind fun v17 => (C 19 [v17, .int .i64 x4] h).bind fun r18 => (aPart r18.1 1 1 false).bind fun v19 => (asI .i64 v19).bind fun n20 => s16_0 hk C N n1 x1 x3 (IntKind.i64.wrap ((IntKind.i64.wrap (x4 + n20)) + 1)) r18.2 := by kernel_rfl
theorem c16 (d : Nat) (args : List Value) (h : AHeap) : call Tp Ms (d + 1) 16 args h = evFn hk0 Tp (call Tp Ms d) M16 d Tryz.f16 args h := by kernel_rfl
def F17_0 (n1 : Nat) : Nx (Value × AHeap) := evSt hk Tp C M17 N Tryz.f17 [1, 1, 0, 1, 2, 6] [n1]
def s17_0 (n1 : Nat) (x1 : Int) (x2 : Value) (x5 : ByteArray) (x6 : Int) (h : AHeap) := F17_0 hk C N n1 (⟨38, [(1, .int .i64 x1), (2, x2), (5, .string x5), (6, .int .i64 x6)]⟩) h
def F17_1 (n1 : Nat) : Nx (Value × AHeap) := evSt hk Tp C M17 N Tryz.f17 [1, 1, 0, 1, 2, 3, 1, 0, 2, 1] [n1]
def s17_1 (n1 : Nat) (x1 : Int) (x2 : Value) (x5 : ByteArray) (x6 : Int) (x35 : Bool) (h : AHeap) := hk 100006 (⟨38, [(1, .int .i64 x1), (2, x2), (5, .string x5), (6, .int .i64 x6), (35, .bool x35)]⟩) h (F17_1 hk C N n1)
def F17_2 (n1 : Nat) : Nx (Value × AHeap) := evSt hk Tp C M17 N Tryz.f17 [1, 1, 0, 1, 2, 3, 1, 1] [n1]
def s17_2 (n1 : Nat) (x1 : Int) (x2 : Value) (x5 : ByteArray) (x6 : Int) (h : AHeap) := hk 4 (⟨38, [(1, .int .i64 x1), (2, x2), (5, .string x5), (6, .int .i64 x6)]⟩) h (F17_2 hk C N n1)
theorem e17 (x0 : Value) (x1 : Int) (h : AHeap) : evFn hk Tp C M17 N Tryz.f17 [x0, .int .i64 x1] h =
  (aCells x0).bind fun c1 => aNew h 29 c1 fun p2 h3 => (aLdN h3 p2 10).bind fun v4 => (C 52 [v4, .int .i64 x1] h3).bind fun r5 => (asS r5.1).bind fun t6 => (aLdN r5.2 p2 10).bind fun v7 => (aOff p2 2).bind fun v8 => (aLd1 r5.2 v8).bind fun v9 => (asI .i64 v9).bind fun n10 => (C 18 [v7, .int .i64 n10] r5.2).bind fun r11 => (asI .i64 r11.1).bind fun n12 => s17_0 hk C N N x1 p2 t6 n12 r11.2 := by kernel_rfl
theorem s17_0_eq (n1 : Nat) (x1 : Int) (x2 : Value) (x5 : ByteArray) (x6 : Int) (h : AHeap) : s17_0 hk C N (n1 + 1) x1 x2 x5 x6 h =
  bif decide (x6 < x1) then (aLdN h x2 10).bind fun v13 => (C 19 [v13, .int .i64 x6] h).bind fun r14 => (aPart r14.1 0 1 false).bind fun v15 => (asI .i64 v15).bind fun n16 => bif n16 == 1 then (aLdN r14.2 x2 10).bind fun v17 => (C 52 [v17, .int .i64 x6] r14.2).bind fun r18 => (asS r18.1).bind fun t19 => s17_1 hk C N n1 x1 x2 x5 x6 (t19.toList == x5.toList) r18.2 else s17_1 hk C N n1 x1 x2 x5 x6 false r14.2 else some (.int .i64 x1, h) := by kernel_rfl
theorem s17_1_j (n1 : Nat) (x1 : Int) (x2 : Value) (x5 : ByteArray) (x6 : Int) (x35 : Bool) (h : AHeap) : s17_1 hk0 C N n1 x1 x2 x5 x6 x35 h = F17_1 hk0 C N n1 (⟨38, [(1, .int .i64 x1), (2, x2), (5, .string x5), (6, .int .i64 x6), (35, .bool x35)]⟩) h := by delta s17_1; exact hk0_app _ _ _ _
theorem s17_1_eq (n1 : Nat) (x1 : Int) (x2 : Value) (x5 : ByteArray) (x6 : Int) (x35 : Bool) (h : AHeap) : F17_1 hk C N n1 (⟨38, [(1, .int .i64 x1), (2, x2), (5, .string x5), (6, .int .i64 x6), (35, .bool x35)]⟩) h =
  bif x35 then some (.int .i64 x6, h) else s17_2 hk C N n1 x1 x2 x5 x6 h := by kernel_rfl
theorem s17_2_j (n1 : Nat) (x1 : Int) (x2 : Value) (x5 : ByteArray) (x6 : Int) (h : AHeap) : s17_2 hk0 C N n1 x1 x2 x5 x6 h = F17_2 hk0 C N n1 (⟨38, [(1, .int .i64 x1), (2, x2), (5, .string x5), (6, .int .i64 x6)]⟩) h := by delta s17_2; exact hk0_app _ _ _ _
theorem s17_2_eq (n1 : Nat) (x1 : Int) (x2 : Value) (x5 : ByteArray) (x6 : Int) (h : AHeap) : F17_2 hk C N n1 (⟨38, [(1, .int .i64 x1), (2, x2), (5, .string x5), (6, .int .i64 x6)]⟩) h =
  (aLdN h x2 10).bind fun v20 => (C 19 [v20, .int .i64 x6] h).bind fun r21 => (aPart r21.1 1 1 false).bind fun v22 => (asI .i64 v22).bind fun n23 => s17_0 hk C N n1 x1 x2 x5 (IntKind.i64.wrap ((IntKind.i64.wrap (x6 + n23)) + 1)) r21.2 := by kernel_rfl
theorem c17 (d : Nat) (args : List Value) (h : AHeap) : call Tp Ms (d + 1) 17 args h = evFn hk0 Tp (call Tp Ms d) M17 d Tryz.f17 args h := by kernel_rfl
theorem e22 (x0 : Value) (x1 : Int) (x2 : Value) (h : AHeap) : evFn hk Tp C M22 N Tryz.f22 [x0, .int .i64 x1, x2] h =
  (aCells x0).bind fun c1 => aNew h 29 c1 fun p2 h3 => (aCells x2).bind fun c4 => aNew h3 42 c4 fun p5 h6 => aNew h6 29 [.slice none 0 0, .int .i64 0, .int .i64 0, .int .i64 0, .bool false, .int .i64 0, .int .i64 0, .int .i64 0, .int .i64 0, .slice none 0 0] fun p7 h8 => (aOff p2 0).bind fun v9 => (aLd1 h8 v9).bind fun v10 => (aOff p5 0).bind fun v11 => (aLd1 h8 v11).bind fun v12 => (asI .i64 v12).bind fun n13 => (aIdx v10 (.int .i64 x1) 1).bind fun v14 => (aSt h8 v14 (.int .u64 (IntKind.u64.wrap n13)) 1).bind fun h15 => (aOff p2 0).bind fun v16 => (aLd1 h15 v16).bind fun v17 => (aOff p5 1).bind fun v18 => (aLd1 h15 v18).bind fun v19 => (asI .i64 v19).bind fun n20 => (aIdx v17 (.int .i64 (IntKind.i64.wrap (x1 + 1))) 1).bind fun v21 => (aSt h15 v21 (.int .u64 (IntKind.u64.wrap n20)) 1).bind fun h22 => (aLdN h22 p2 10).bind fun v23 => (aSt h22 p7 v23 10).bind fun h24 => (aLdN h24 p7 10).bind fun v25 => some (v25, h24) := by kernel_rfl
theorem c22 (d : Nat) (args : List Value) (h : AHeap) : call Tp Ms (d + 1) 22 args h = evFn hk0 Tp (call Tp Ms d) M22 d Tryz.f22 args h := by kernel_rfl
theorem e25 (x0 : Value) (h : AHeap) : evFn hk Tp C M25 N Tryz.f25 [x0] h =
  (aCells x0).bind fun c1 => aNew h 29 c1 fun p2 h3 => aNew h3 29 [.slice none 0 0, .int .i64 0, .int .i64 0, .int .i64 0, .bool false, .int .i64 0, .int .i64 0, .int .i64 0, .int .i64 0, .slice none 0 0] fun p4 h5 => (aOff p2 0).bind fun v6 => (aLd1 h5 v6).bind fun v7 => (C 56 [v7] h5).bind fun r8 => (aOff p2 0).bind fun v9 => (aSt r8.2 v9 r8.1 1).bind fun h10 => (aOff p2 9).bind fun v11 => (aLd1 h10 v11).bind fun v12 => (aApp h10 42 2 16 (.slice none 0 0) v12).bind fun r13 => (aOff p2 9).bind fun v14 => (aSt r13.2 v14 r13.1 1).bind fun h15 => (aLdN h15 p2 10).bind fun v16 => (aSt h15 p4 v16 10).bind fun h17 => (aLdN h17 p4 10).bind fun v18 => some (v18, h17) := by kernel_rfl
theorem c25 (d : Nat) (args : List Value) (h : AHeap) : call Tp Ms (d + 1) 25 args h = evFn hk0 Tp (call Tp Ms d) M25 d Tryz.f25 args h := by kernel_rfl
def F28_0 (n1 : Nat) : Nx (Value × AHeap) := evSt hk Tp C M28 N Tryz.f28 [1, 1, 0, 1, 2, 6] [n1]
def s28_0 (n1 : Nat) (x0 x3 : Value) (x4 : Int) (h : AHeap) := F28_0 hk C N n1 (⟨30, [(0, x0), (3, x3), (4, .int .i64 x4)]⟩) h
theorem e28 (x0 : Value) (h : AHeap) : evFn hk Tp C M28 N Tryz.f28 [x0] h =
  aNewS h 3 [] 0 fun p1 h2 => (aNil x0).bind fun v3 => (aOff v3 2).bind fun v4 => (aLd1 h2 v4).bind fun v5 => (asI .i64 v5).bind fun n6 => (C 58 [x0, .int .i64 n6] h2).bind fun r7 => (asI .i64 r7.1).bind fun n8 => s28_0 hk C N N x0 p1 n8 r7.2 := by kernel_rfl
theorem s28_0_eq (n1 : Nat) (x0 x3 : Value) (x4 : Int) (h : AHeap) : s28_0 hk C N (n1 + 1) x0 x3 x4 h =
  (aNil x0).bind fun v9 => (aOff v9 3).bind fun v10 => (aLd1 h v10).bind fun v11 => (asI .i64 v11).bind fun n12 => bif decide (x4 < n12) then aNewS h 3 [.int .i64 x4] 1 fun p13 h14 => (aApp h14 3 1 8 x3 p13).bind fun r15 => (C 29 [x0, .int .i64 x4] r15.2).bind fun r16 => (aPart r16.1 1 1 false).bind fun v17 => (asI .i64 v17).bind fun n18 => s28_0 hk C N n1 x0 r15.1 (IntKind.i64.wrap (x4 + (IntKind.i64.wrap (n18 + 1)))) r16.2 else some (x3, h) := by kernel_rfl
theorem c28 (d : Nat) (args : List Value) (h : AHeap) : call Tp Ms (d + 1) 28 args h = evFn hk0 Tp (call Tp Ms d) M28 d Tryz.f28 args h := by kernel_rfl
def F31_0 : Nx (Value × AHeap) := evSt hk Tp C M31 N Tryz.f31 [1, 1] []
def s31_0 (x3 x4 : Value) (h : AHeap) := hk 3 (⟨15, [(3, x3), (4, x4)]⟩) h (F31_0 hk C N)
theorem e31 (x0 x1 x2 : Value) (h : AHeap) : evFn hk Tp C M31 N Tryz.f31 [x0, x1, x2] h =
  (aCells x0).bind fun c1 => aNew h 42 c1 fun p2 h3 => aNew h3 42 [.int .i64 0, .int .i64 0] fun p4 h5 => (aOff p2 0).bind fun v6 => (aLd1 h5 v6).bind fun v7 => (asI .i64 v7).bind fun n8 => bif n8 == 3 then (aLd1 h5 x1).bind fun v9 => (aOff p2 1).bind fun v10 => (aLd1 h5 v10).bind fun v11 => (asI .i64 v11).bind fun n12 => (C 30 [x2, .int .i64 n12] h5).bind fun r13 => (asS r13.1).bind fun t14 => ((aLd1 r13.2 x1).bind fun v15 => some (vbeq v15 v9)).bind fun b16 => bif b16 then (aMget r13.2 v9 (.string t14) (.int .i64 0) false).bind fun v17 => (asI .i64 v17).bind fun n18 => (aOff p2 1).bind fun v19 => (aSt r13.2 v19 (.int .i64 n18) 1).bind fun h20 => s31_0 hk C N p2 p4 h20 else none else s31_0 hk C N p2 p4 h5 := by kernel_rfl
theorem s31_0_j (x3 x4 : Value) (h : AHeap) : s31_0 hk0 C N x3 x4 h = F31_0 hk0 C N (⟨15, [(3, x3), (4, x4)]⟩) h := by delta s31_0; exact hk0_app _ _ _ _
theorem s31_0_eq (x3 x4 : Value) (h : AHeap) : F31_0 hk C N (⟨15, [(3, x3), (4, x4)]⟩) h =
  (aLdN h x3 2).bind fun v21 => (aSt h x4 v21 2).bind fun h22 => (aLdN h22 x4 2).bind fun v23 => some (v23, h22) := by kernel_rfl
theorem c31 (d : Nat) (args : List Value) (h : AHeap) : call Tp Ms (d + 1) 31 args h = evFn hk0 Tp (call Tp Ms d) M31 d Tryz.f31 args h := by kernel_rfl
end
noncomputable section
variable (hk : Hk (Value × AHeap)) (C : ACall) (N : Nat)
theorem e33 (x0 : Value) (x1 : Int) (x2 : Value) (h : AHeap) : evFn hk Tp C M33 N Tryz.f33 [x0, .int .i64 x1, x2] h =
  (aCells x2).bind fun c1 => aNew h 42 c1 fun p2 h3 => (aNil x0).bind fun v4 => (aOff v4 0).bind fun v5 => (aLd1 h3 v5).bind fun v6 => (aOff p2 0).bind fun v7 => (aLd1 h3 v7).bind fun v8 => (asI .i64 v8).bind fun n9 => (aIdx v6 (.int .i64 x1) 1).bind fun v10 => (aSt h3 v10 (.int .u64 (IntKind.u64.wrap n9)) 1).bind fun h11 => (aNil x0).bind fun v12 => (aOff v12 0).bind fun v13 => (aLd1 h11 v13).bind fun v14 => (aOff p2 1).bind fun v15 => (aLd1 h11 v15).bind fun v16 => (asI .i64 v16).bind fun n17 => (aIdx v14 (.int .i64 (IntKind.i64.wrap (x1 + 1))) 1).bind fun v18 => (aSt h11 v18 (.int .u64 (IntKind.u64.wrap n17)) 1).bind fun h19 => some (.tuple (List.toArray []), h19) := by kernel_rfl
theorem c33 (d : Nat) (args : List Value) (h : AHeap) : call Tp Ms (d + 1) 33 args h = evFn hk0 Tp (call Tp Ms d) M33 d Tryz.f33 args h := by kernel_rfl
def F35_0 (n1 : Nat) : Nx (Value × AHeap) := evSt hk Tp C M35 N Tryz.f35 [1, 1, 0, 1, 2, 6] [n1]
def s35_0 (n1 : Nat) (x0 : Value) (x3 : Int) (x7 : Value) (x8 x9 : Int) (h : AHeap) := F35_0 hk C N n1 (⟨22, [(0, x0), (3, .int .i64 x3), (7, x7), (8, .int .i64 x8), (9, .int .i64 x9)]⟩) h
theorem e35 (x0 : Value) (h : AHeap) : evFn hk Tp C M35 N Tryz.f35 [x0] h =
  (C 28 [x0] h).bind fun r1 => (aLen r1.1).bind fun v2 => (asI .i64 v2).bind fun n3 => s35_0 hk C N N x0 0 r1.1 n3 0 r1.2 := by kernel_rfl
theorem s35_0_eq (n1 : Nat) (x0 : Value) (x3 : Int) (x7 : Value) (x8 x9 : Int) (h : AHeap) : s35_0 hk C N (n1 + 1) x0 x3 x7 x8 x9 h =
  bif decide (x9 < x8) then (aIdx x7 (.int .i64 x9) 1).bind fun v4 => (aLd1 h v4).bind fun v5 => (asI .i64 v5).bind fun n6 => (C 29 [x0, .int .i64 n6] h).bind fun r7 => (aPart r7.1 0 1 false).bind fun v8 => (asI .i64 v8).bind fun n9 => bif n9 == 1 then s35_0 hk C N n1 x0 (IntKind.i64.wrap (x3 + 1)) x7 x8 (IntKind.i64.wrap (x9 + 1)) r7.2 else s35_0 hk C N n1 x0 x3 x7 x8 (IntKind.i64.wrap (x9 + 1)) r7.2 else some (.int .i64 x3, h) := by kernel_rfl
theorem c35 (d : Nat) (args : List Value) (h : AHeap) : call Tp Ms (d + 1) 35 args h = evFn hk0 Tp (call Tp Ms d) M35 d Tryz.f35 args h := by kernel_rfl
def F40_0 (n1 : Nat) : Nx (Value × AHeap) := evSt hk Tp C M40 N Tryz.f40 [1, 0, 1, 2, 6] [n1]
def s40_0 (n1 : Nat) (x0 : Value) (x1 x5 : Int) (h : AHeap) := F40_0 hk C N n1 (⟨22, [(0, x0), (1, .int .i64 x1), (5, .int .i64 x5)]⟩) h
theorem e40 (x0 : Value) (x1 : Int) (h : AHeap) : evFn hk Tp C M40 N Tryz.f40 [x0, .int .i64 x1] h =
  s40_0 hk C N N x0 x1 0 h := by kernel_rfl
theorem s40_0_eq (n1 : Nat) (x0 : Value) (x1 x5 : Int) (h : AHeap) : s40_0 hk C N (n1 + 1) x0 x1 x5 h =
  (aLen x0).bind fun v1 => (asI .i64 v1).bind fun n2 => bif decide (x5 < n2) then (aIdx x0 (.int .i64 x5) 1).bind fun v3 => (aLd1 h v3).bind fun v4 => (asI .u64 v4).bind fun n5 => bif n5 != (IntKind.u64.wrap x1) then some (.int .i64 (-1), h) else s40_0 hk C N n1 x0 (IntKind.i64.wrap (x1 + 1)) (IntKind.i64.wrap (x5 + 1)) h else some (.int .i64 x1, h) := by kernel_rfl
theorem c40 (d : Nat) (args : List Value) (h : AHeap) : call Tp Ms (d + 1) 40 args h = evFn hk0 Tp (call Tp Ms d) M40 d Tryz.f40 args h := by kernel_rfl
def F41_0 (n1 : Nat) : Nx (Value × AHeap) := evSt hk Tp C M41 N Tryz.f41 [1, 0, 1, 2, 6] [n1]
def s41_0 (n1 : Nat) (x0 : Value) (x1 x5 : Int) (h : AHeap) := F41_0 hk C N n1 (⟨31, [(0, x0), (1, .int .i64 x1), (5, .int .i64 x5)]⟩) h
theorem e41 (x0 : Value) (x1 : Int) (h : AHeap) : evFn hk Tp C M41 N Tryz.f41 [x0, .int .i64 x1] h =
  s41_0 hk C N N x0 x1 0 h := by kernel_rfl
theorem s41_0_eq (n1 : Nat) (x0 : Value) (x1 x5 : Int) (h : AHeap) : s41_0 hk C N (n1 + 1) x0 x1 x5 h =
  (aLen x0).bind fun v1 => (asI .i64 v1).bind fun n2 => bif decide (x5 < n2) then (aIdx x0 (.int .i64 x5) 2).bind fun v3 => (aOff v3 0).bind fun v4 => (aLd1 h v4).bind fun v5 => (asI .i64 v5).bind fun n6 => bif n6 != x1 then some (.int .i64 (-1), h) else (aIdx x0 (.int .i64 x5) 2).bind fun v7 => (aOff v7 1).bind fun v8 => (aLd1 h v8).bind fun v9 => (asI .i64 v9).bind fun n10 => bif n10 != (IntKind.i64.wrap (x1 + 1)) then some (.int .i64 (-1), h) else s41_0 hk C N n1 x0 (IntKind.i64.wrap ((IntKind.i64.wrap (x1 + 1)) + 1)) (IntKind.i64.wrap (x5 + 1)) h else some (.int .i64 x1, h) := by kernel_rfl
theorem c41 (d : Nat) (args : List Value) (h : AHeap) : call Tp Ms (d + 1) 41 args h = evFn hk0 Tp (call Tp Ms d) M41 d Tryz.f41 args h := by kernel_rfl
theorem e49 (x0 : Value) (h : AHeap) : evFn hk Tp C M49 N Tryz.f49 [x0] h =
  aNewS h 74 [] 0 fun p1 h2 => (aApp h2 74 1 8 p1 x0).bind fun r3 => some (r3.1, r3.2) := by kernel_rfl
theorem c49 (d : Nat) (args : List Value) (h : AHeap) : call Tp Ms (d + 1) 49 args h = evFn hk0 Tp (call Tp Ms d) M49 d Tryz.f49 args h := by kernel_rfl
theorem e50 (x0 : Value) (h : AHeap) : evFn hk Tp C M50 N Tryz.f50 [x0] h =
  (aCells x0).bind fun c1 => aNew h 29 c1 fun p2 h3 => aNew h3 29 [.slice none 0 0, .int .i64 0, .int .i64 0, .int .i64 0, .bool false, .int .i64 0, .int .i64 0, .int .i64 0, .int .i64 0, .slice none 0 0] fun p4 h5 => (aLdN h5 p2 10).bind fun v6 => (C 81 [v6] h5).bind fun r7 => (C 80 [r7.1, .int .i64 8000] r7.2).bind fun r8 => (aExt r8.1 0).bind fun v9 => (aExt r8.1 1).bind fun v10 => (asI .i64 v10).bind fun n11 => (aSt r8.2 p4 v9 10).bind fun h12 => (aLdN h12 p4 10).bind fun v13 => bif List.all [v13, .int .i64 n11] isS2 then some (.tuple (List.toArray [v13, .int .i64 n11]), h12) else none := by kernel_rfl
theorem c50 (d : Nat) (args : List Value) (h : AHeap) : call Tp Ms (d + 1) 50 args h = evFn hk0 Tp (call Tp Ms d) M50 d Tryz.f50 args h := by kernel_rfl
def F51_0 (n1 : Nat) : Nx (Value × AHeap) := evSt hk Tp C M51 N Tryz.f51 [1, 1, 1, 1, 1, 1, 1, 0, 1, 2, 6] [n1]
def s51_0 (n1 : Nat) (x1 x2 : Value) (x3 : Int) (h : AHeap) := F51_0 hk C N n1 (⟨48, [(1, x1), (2, x2), (3, .int .i64 x3)]⟩) h
theorem e51 (x0 : Value) (h : AHeap) : evFn hk Tp C M51 N Tryz.f51 [x0] h =
  (aCells x0).bind fun c1 => aNew h 29 c1 fun p2 h3 => aNew h3 29 [.slice none 0 0, .int .i64 0, .int .i64 0, .int .i64 0, .bool false, .int .i64 0, .int .i64 0, .int .i64 0, .int .i64 0, .slice none 0 0] fun p4 h5 => (aOff p2 3).bind fun v6 => (aLd1 h5 v6).bind fun v7 => (asI .i64 v7).bind fun n8 => (aOff p2 6).bind fun v9 => (aSt h5 v9 (.int .i64 n8) 1).bind fun h10 => (aOff p2 2).bind fun v11 => (aLd1 h10 v11).bind fun v12 => (asI .i64 v12).bind fun n13 => (aOff p2 2).bind fun v14 => (aSt h10 v14 (.int .i64 (IntKind.i64.wrap (1 - n13))) 1).bind fun h15 => (aLdN h15 p2 10).bind fun v16 => (aOff p2 2).bind fun v17 => (aLd1 h15 v17).bind fun v18 => (asI .i64 v18).bind fun n19 => (C 18 [v16, .int .i64 n19] h15).bind fun r20 => (asI .i64 r20.1).bind fun n21 => (aOff p2 3).bind fun v22 => (aSt r20.2 v22 (.int .i64 n21) 1).bind fun h23 => (aOff p2 3).bind fun v24 => (aLd1 h23 v24).bind fun v25 => (asI .i64 v25).bind fun n26 => (aOff p2 5).bind fun v27 => (aSt h23 v27 (.int .i64 n26) 1).bind fun h28 => (aOff p2 7).bind fun v29 => (aSt h28 v29 (.int .i64 0) 1).bind fun h30 => (aOff p2 4).bind fun v31 => (aSt h30 v31 (.bool true) 1).bind fun h32 => s51_0 hk C N N p2 p4 0 h32 := by kernel_rfl
theorem s51_0_eq (n1 : Nat) (x1 x2 : Value) (x3 : Int) (h : AHeap) : s51_0 hk C N (n1 + 1) x1 x2 x3 h =
  (aOff x1 9).bind fun v33 => (aLd1 h v33).bind fun v34 => (aLen v34).bind fun v35 => (asI .i64 v35).bind fun n36 => bif decide (x3 < n36) then (aLdN h x1 10).bind fun v37 => (aOff x1 9).bind fun v38 => (aLd1 h v38).bind fun v39 => (aIdx v39 (.int .i64 x3) 2).bind fun v40 => (aLdN h v40 2).bind fun v41 => aNew h 29 [.slice none 0 0, .int .i64 0, .int .i64 0, .int .i64 0, .bool false, .int .i64 0, .int .i64 0, .int .i64 0, .int .i64 0, .slice none 0 0] fun p42 h43 => aNew h43 42 [.int .i64 0, .int .i64 0] fun p44 h45 => (C 82 [v37, v41] h45).bind fun r46 => (aExt r46.1 0).bind fun v47 => (aExt r46.1 1).bind fun v48 => (aSt r46.2 p42 v47 10).bind fun h49 => (aSt h49 p44 v48 2).bind fun h50 => (aLdN h50 p42 10).bind fun v51 => (aSt h50 x1 v51 10).bind fun h52 => (aOff x1 9).bind fun v53 => (aLd1 h52 v53).bind fun v54 => (aLdN h52 p44 2).bind fun v55 => (aIdx v54 (.int .i64 x3) 2).bind fun v56 => (aSt h52 v56 v55 2).bind fun h57 => s51_0 hk C N n1 x1 x2 (IntKind.i64.wrap (x3 + 1)) h57 else (aLdN h x1 10).bind fun v58 => (C 81 [v58] h).bind fun r59 => (aSt r59.2 x2 r59.1 10).bind fun h60 => (aLdN h60 x2 10).bind fun v61 => some (v61, h60) := by kernel_rfl
theorem c51 (d : Nat) (args : List Value) (h : AHeap) : call Tp Ms (d + 1) 51 args h = evFn hk0 Tp (call Tp Ms d) M51 d Tryz.f51 args h := by kernel_rfl
theorem e56 (x0 : Value) (h : AHeap) : evFn hk Tp C M56 N Tryz.f56 [x0] h =
  (aApp h 74 1 8 (.slice none 0 0) x0).bind fun r1 => some (r1.1, r1.2) := by kernel_rfl
theorem c56 (d : Nat) (args : List Value) (h : AHeap) : call Tp Ms (d + 1) 56 args h = evFn hk0 Tp (call Tp Ms d) M56 d Tryz.f56 args h := by kernel_rfl
theorem e64 (x0 : Value) (h : AHeap) : evFn hk Tp C M64 N Tryz.f64 [x0] h =
  (aNil x0).bind fun v1 => (aOff v1 0).bind fun v2 => (aLd1 h v2).bind fun v3 => (aLen v3).bind fun v4 => (asI .i64 v4).bind fun n5 => (C 91 [x0, .int .i64 n5] h).bind fun r6 => (asI .i64 r6.1).bind fun n7 => some (.int .i64 n7, r6.2) := by kernel_rfl
theorem c64 (d : Nat) (args : List Value) (h : AHeap) : call Tp Ms (d + 1) 64 args h = evFn hk0 Tp (call Tp Ms d) M64 d Tryz.f64 args h := by kernel_rfl
def F65_0 (n1 : Nat) : Nx (Value × AHeap) := evSt hk Tp C M65 N Tryz.f65 [1, 1, 1, 1, 1, 1, 0, 1, 2, 6] [n1]
def s65_0 (n1 : Nat) (x0 x44 : Value) (x45 x46 : Int) (h : AHeap) := F65_0 hk C N n1 (⟨63, [(0, x0), (44, x44), (45, .int .i64 x45), (46, .int .i64 x46)]⟩) h
theorem e65 (x0 : Value) (h : AHeap) : evFn hk Tp C M65 N Tryz.f65 [x0] h =
  (aNil x0).bind fun v1 => (aOff v1 3).bind fun v2 => (aLd1 h v2).bind fun v3 => (asI .i64 v3).bind fun n4 => (aNil x0).bind fun v5 => (aOff v5 6).bind fun v6 => (aSt h v6 (.int .i64 n4) 1).bind fun h7 => (aNil x0).bind fun v8 => (aOff v8 2).bind fun v9 => (aLd1 h7 v9).bind fun v10 => (asI .i64 v10).bind fun n11 => (aNil x0).bind fun v12 => (aOff v12 2).bind fun v13 => (aSt h7 v13 (.int .i64 (IntKind.i64.wrap (1 - n11))) 1).bind fun h14 => (aNil x0).bind fun v15 => (aOff v15 2).bind fun v16 => (aLd1 h14 v16).bind fun v17 => (asI .i64 v17).bind fun n18 => (C 58 [x0, .int .i64 n18] h14).bind fun r19 => (asI .i64 r19.1).bind fun n20 => (aNil x0).bind fun v21 => (aOff v21 3).bind fun v22 => (aSt r19.2 v22 (.int .i64 n20) 1).bind fun h23 => (aNil x0).bind fun v24 => (aOff v24 3).bind fun v25 => (aLd1 h23 v25).bind fun v26 => (asI .i64 v26).bind fun n27 => (aNil x0).bind fun v28 => (aOff v28 5).bind fun v29 => (aSt h23 v29 (.int .i64 n27) 1).bind fun h30 => (aNil x0).bind fun v31 => (aOff v31 7).bind fun v32 => (aSt h30 v32 (.int .i64 0) 1).bind fun h33 => (aNil x0).bind fun v34 => (aOff v34 4).bind fun v35 => (aSt h33 v35 (.bool true) 1).bind fun h36 => (aNil x0).bind fun v37 => (aOff v37 9).bind fun v38 => (aLd1 h36 v38).bind fun v39 => (aLen v39).bind fun v40 => (asI .i64 v40).bind fun n41 => s65_0 hk C N N x0 v39 n41 0 h36 := by kernel_rfl
theorem s65_0_eq (n1 : Nat) (x0 x44 : Value) (x45 x46 : Int) (h : AHeap) : s65_0 hk C N (n1 + 1) x0 x44 x45 x46 h =
  bif decide (x46 < x45) then (aIdx x44 (.int .i64 x46) 2).bind fun v42 => (aLdN h v42 2).bind fun v43 => aNew h 42 [.int .i64 0, .int .i64 0] fun p44 h45 => (aSt h45 p44 v43 2).bind fun h46 => (aNil x0).bind fun v47 => (aOff v47 9).bind fun v48 => (aLd1 h46 v48).bind fun v49 => (aLdN h46 p44 2).bind fun v50 => (C 92 [x0, v50] h46).bind fun r51 => ((aLd1 r51.2 v48).bind fun v52 => some (vbeq v52 v49)).bind fun b53 => bif b53 then (aIdx v49 (.int .i64 x46) 2).bind fun v54 => (aSt r51.2 v54 r51.1 2).bind fun h55 => s65_0 hk C N n1 x0 x44 x45 (IntKind.i64.wrap (x46 + 1)) h55 else none else (C 93 [x0] h).bind fun r56 => some (.tuple (List.toArray []), r56.2) := by kernel_rfl
theorem c65 (d : Nat) (args : List Value) (h : AHeap) : call Tp Ms (d + 1) 65 args h = evFn hk0 Tp (call Tp Ms d) M65 d Tryz.f65 args h := by kernel_rfl
def F80_0 (n1 : Nat) : Nx (Value × AHeap) := evSt hk Tp C M80 N Tryz.f80 [1, 1, 0, 2, 6] [n1]
def s80_0 (n1 : Nat) (x1 : Int) (x2 x4 : Value) (x6 : Int) (h : AHeap) := F80_0 hk C N n1 (⟨83, [(1, .int .i64 x1), (2, x2), (4, x4), (6, .int .i64 x6)]⟩) h
def F80_1 (n1 : Nat) : Nx (Value × AHeap) := evSt hk Tp C M80 N Tryz.f80 [1, 1, 0, 2, 3, 1] [n1]
def s80_1 (n1 : Nat) (x1 : Int) (x2 x4 : Value) (x6 : Int) (h : AHeap) := hk 3 (⟨83, [(1, .int .i64 x1), (2, x2), (4, x4), (6, .int .i64 x6)]⟩) h (F80_1 hk C N n1)
def F80_2 (n1 n2 : Nat) : Nx (Value × AHeap) := evSt hk Tp C M80 N Tryz.f80 [1, 1, 0, 2, 3, 1, 2, 1, 1, 0, 1, 2, 6] [n1, n2]
def s80_2 (n1 n2 : Nat) (x1 : Int) (x2 x4 : Value) (x6 : Int) (x7 x8 : Value) (x9 : Int) (h : AHeap) := F80_2 hk C N n1 n2 (⟨83, [(1, .int .i64 x1), (2, x2), (4, x4), (6, .int .i64 x6), (7, x7), (8, x8), (9, .int .i64 x9)]⟩) h
theorem e80 (x0 : Value) (x1 : Int) (h : AHeap) : evFn hk Tp C M80 N Tryz.f80 [x0, .int .i64 x1] h =
  (aCells x0).bind fun c1 => aNew h 29 c1 fun p2 h3 => aNew h3 29 [.slice none 0 0, .int .i64 0, .int .i64 0, .int .i64 0, .bool false, .int .i64 0, .int .i64 0, .int .i64 0, .int .i64 0, .slice none 0 0] fun p4 h5 => s80_0 hk C N N x1 p2 p4 0 h5 := by kernel_rfl
theorem s80_0_eq (n1 : Nat) (x1 : Int) (x2 x4 : Value) (x6 : Int) (h : AHeap) : s80_0 hk C N (n1 + 1) x1 x2 x4 x6 h =
  (aOff x2 4).bind fun v6 => (aLd1 h v6).bind fun v7 => (asB v7).bind fun b8 => bif b8 then bif decide (x6 < x1) then s80_1 hk C N n1 x1 x2 x4 x6 h else (aLdN h x2 10).bind fun v9 => (aSt h x4 v9 10).bind fun h10 => (aLdN h10 x4 10).bind fun v11 => bif List.all [v11, .int .i64 x6] isS2 then some (.tuple (List.toArray [v11, .int .i64 x6]), h10) else none else (aLdN h x2 10).bind fun v12 => (aSt h x4 v12 10).bind fun h13 => (aLdN h13 x4 10).bind fun v14 => bif List.all [v14, .int .i64 x6] isS2 then some (.tuple (List.toArray [v14, .int .i64 x6]), h13) else none := by kernel_rfl
theorem s80_1_j (n1 : Nat) (x1 : Int) (x2 x4 : Value) (x6 : Int) (h : AHeap) : s80_1 hk0 C N n1 x1 x2 x4 x6 h = F80_1 hk0 C N n1 (⟨83, [(1, .int .i64 x1), (2, x2), (4, x4), (6, .int .i64 x6)]⟩) h := by delta s80_1; exact hk0_app _ _ _ _
theorem s80_1_eq (n1 : Nat) (x1 : Int) (x2 x4 : Value) (x6 : Int) (h : AHeap) : F80_1 hk C N n1 (⟨83, [(1, .int .i64 x1), (2, x2), (4, x4), (6, .int .i64 x6)]⟩) h =
  (aLdN h x2 10).bind fun v15 => (aOff x2 5).bind fun v16 => (aLd1 h v16).bind fun v17 => (asI .i64 v17).bind fun n18 => (C 19 [v15, .int .i64 n18] h).bind fun r19 => aNew r19.2 44 [.int .i64 0, .int .i64 0, .int .i64 0] fun p20 h21 => (aSt h21 p20 r19.1 3).bind fun h22 => (aOff p20 0).bind fun v23 => (aLd1 h22 v23).bind fun v24 => (asI .i64 v24).bind fun n25 => (aOff p20 1).bind fun v26 => (aLd1 h22 v26).bind fun v27 => (asI .i64 v27).bind fun n28 => (C 20 [.int .i64 n25, .int .i64 n28] h22).bind fun r29 => s80_2 hk C N n1 N x1 x2 x4 x6 p20 r29.1 0 r29.2 := by kernel_rfl
theorem s80_2_eq (n1 n2 : Nat) (x1 : Int) (x2 x4 : Value) (x6 : Int) (x7 x8 : Value) (x9 : Int) (h : AHeap) : s80_2 hk C N n1 (n2 + 1) x1 x2 x4 x6 x7 x8 x9 h =
  (aLen x8).bind fun v30 => (asI .i64 v30).bind fun n31 => bif decide (x9 < n31) then (aOff x2 0).bind fun v32 => (aLd1 h v32).bind fun v33 => (aOff x2 5).bind fun v34 => (aLd1 h v34).bind fun v35 => (asI .i64 v35).bind fun n36 => (aIdx x8 (.int .i64 x9) 1).bind fun v37 => (aLd1 h v37).bind fun v38 => (asI .i64 v38).bind fun n39 => aNew h 42 [.int .i64 0, .int .i64 0] fun p40 h41 => (C 21 [v33, .int .i64 (IntKind.i64.wrap (n36 + n39))] h41).bind fun r42 => (aExt r42.1 0).bind fun v43 => (aExt r42.1 1).bind fun v44 => (asB v44).bind fun b45 => (aSt r42.2 p40 v43 2).bind fun h46 => (aLdN h46 x2 10).bind fun v47 => (aLdN h46 p40 2).bind fun v48 => (C 82 [v47, v48] h46).bind fun r49 => (aExt r49.1 0).bind fun v50 => (aExt r49.1 1).bind fun v51 => aNew r49.2 29 [.slice none 0 0, .int .i64 0, .int .i64 0, .int .i64 0, .bool false, .int .i64 0, .int .i64 0, .int .i64 0, .int .i64 0, .slice none 0 0] fun p52 h53 => aNew h53 42 [.int .i64 0, .int .i64 0] fun p54 h55 => (aSt h55 p52 v50 10).bind fun h56 => (aSt h56 p54 v51 2).bind fun h57 => (aLdN h57 p52 10).bind fun v58 => (aSt h57 x2 v58 10).bind fun h59 => (aOff x2 0).bind fun v60 => (aLd1 h59 v60).bind fun v61 => (aOff x2 5).bind fun v62 => (aLd1 h59 v62).bind fun v63 => (asI .i64 v63).bind fun n64 => (aIdx x8 (.int .i64 x9) 1).bind fun v65 => (aLd1 h59 v65).bind fun v66 => (asI .i64 v66).bind fun n67 => (aOff p54 1).bind fun v68 => (aLd1 h59 v68).bind fun v69 => (asI .i64 v69).bind fun n70 => (aIdx v61 (.int .i64 (IntKind.i64.wrap ((IntKind.i64.wrap (n64 + n67)) + 1))) 1).bind fun v71 => (aSt h59 v71 (.int .u64 (IntKind.u64.wrap n70)) 1).bind fun h72 => s80_2 hk C N n1 n2 x1 x2 x4 x6 x7 x8 (IntKind.i64.wrap (x9 + 1)) h72 else (aOff x2 5).bind fun v73 => (aLd1 h v73).bind fun v74 => (asI .i64 v74).bind fun n75 => (aOff x7 1).bind fun v76 => (aLd1 h v76).bind fun v77 => (asI .i64 v77).bind fun n78 => (aOff x2 5).bind fun v79 => (aSt h v79 (.int .i64 (IntKind.i64.wrap ((IntKind.i64.wrap (n75 + n78)) + 1))) 1).bind fun h80 => (aLdN h80 x2 10).bind fun v81 => (C 81 [v81] h80).bind fun r82 => (aSt r82.2 x2 r82.1 10).bind fun h83 => s80_0 hk C N n1 x1 x2 x4 (IntKind.i64.wrap (x6 + 1)) h83 := by kernel_rfl
theorem c80 (d : Nat) (args : List Value) (h : AHeap) : call Tp Ms (d + 1) 80 args h = evFn hk0 Tp (call Tp Ms d) M80 d Tryz.f80 args h := by kernel_rfl
def F81_0 : Nx (Value × AHeap) := evSt hk Tp C M81 N Tryz.f81 [1, 0, 1] []
def s81_0 (x1 x2 : Value) (x11 : Bool) (h : AHeap) := hk 100002 (⟨17, [(1, x1), (2, x2), (11, .bool x11)]⟩) h (F81_0 hk C N)
def F81_1 : Nx (Value × AHeap) := evSt hk Tp C M81 N Tryz.f81 [1, 1] []
def s81_1 (x1 x2 : Value) (h : AHeap) := hk 6 (⟨17, [(1, x1), (2, x2)]⟩) h (F81_1 hk C N)
theorem e81 (x0 : Value) (h : AHeap) : evFn hk Tp C M81 N Tryz.f81 [x0] h =
  (aCells x0).bind fun c1 => aNew h 29 c1 fun p2 h3 => aNew h3 29 [.slice none 0 0, .int .i64 0, .int .i64 0, .int .i64 0, .bool false, .int .i64 0, .int .i64 0, .int .i64 0, .int .i64 0, .slice none 0 0] fun p4 h5 => (aOff p2 4).bind fun v6 => (aLd1 h5 v6).bind fun v7 => (asB v7).bind fun b8 => bif b8 then (aOff p2 5).bind fun v9 => (aLd1 h5 v9).bind fun v10 => (asI .i64 v10).bind fun n11 => (aOff p2 3).bind fun v12 => (aLd1 h5 v12).bind fun v13 => (asI .i64 v13).bind fun n14 => s81_0 hk C N p2 p4 (n11 == n14) h5 else s81_0 hk C N p2 p4 false h5 := by kernel_rfl
theorem s81_0_j (x1 x2 : Value) (x11 : Bool) (h : AHeap) : s81_0 hk0 C N x1 x2 x11 h = F81_0 hk0 C N (⟨17, [(1, x1), (2, x2), (11, .bool x11)]⟩) h := by delta s81_0; exact hk0_app _ _ _ _
theorem s81_0_eq (x1 x2 : Value) (x11 : Bool) (h : AHeap) : F81_0 hk C N (⟨17, [(1, x1), (2, x2), (11, .bool x11)]⟩) h =
  bif x11 then (aOff x1 4).bind fun v15 => (aSt h v15 (.bool false) 1).bind fun h16 => (aOff x1 5).bind fun v17 => (aSt h16 v17 (.int .i64 0) 1).bind fun h18 => (aOff x1 6).bind fun v19 => (aSt h18 v19 (.int .i64 0) 1).bind fun h20 => (aOff x1 7).bind fun v21 => (aSt h20 v21 (.int .i64 0) 1).bind fun h22 => s81_1 hk C N x1 x2 h22 else s81_1 hk C N x1 x2 h := by kernel_rfl
theorem s81_1_j (x1 x2 : Value) (h : AHeap) : s81_1 hk0 C N x1 x2 h = F81_1 hk0 C N (⟨17, [(1, x1), (2, x2)]⟩) h := by delta s81_1; exact hk0_app _ _ _ _
theorem s81_1_eq (x1 x2 : Value) (h : AHeap) : F81_1 hk C N (⟨17, [(1, x1), (2, x2)]⟩) h =
  (aLdN h x1 10).bind fun v23 => (aSt h x2 v23 10).bind fun h24 => (aLdN h24 x2 10).bind fun v25 => some (v25, h24) := by kernel_rfl
theorem c81 (d : Nat) (args : List Value) (h : AHeap) : call Tp Ms (d + 1) 81 args h = evFn hk0 Tp (call Tp Ms d) M81 d Tryz.f81 args h := by kernel_rfl
end
open Go Go.AH Go.AM
theorem wr0 {k : Nat} (h : k < 4611686018427387904) : IntKind.i64.wrap ((k : Int) + 1) = ((k + 1 : Nat) : Int) := by
 rw [wr (by omega) (by omega)]; rfl
def RArO (h : AHeap) : Ar → Value → AHeap → Prop := fun a v g => ∃ wv rv iw rw lw ir rr, v = arV wv rv a ∧ ArH g wv rv a ∧ LV wv iw lw a.ws.length ∧ rv = slc ir 0 a.rs.length ∧ Cx h.size g [] (⟨iw, rw, 74, lw, a.ws.map (Value.int .u64)⟩ :: ⟨ir, rr, 42, true, vcells a.rs⟩ :: []) []
theorem t8o {D : Nat} {h : AHeap} (hD : 2000002 ≤ D) {wv rv : Value} {a : Ar} (H : ArH h wv rv a) : SmR h (RArO h) (m8 a) (call Tp Ms D 6 [arV wv rv a] h) := by
 obtain ⟨D, rfl⟩ : ∃ d, D = d + 1 := ⟨D - 1, by omega⟩
 rw [c6, e6]
 unfold m8
 have y0 := Cx.start0 h
 have E0 := Ext.refl h.size h
 refine Sm.b H.cells ?_
 refine Sm.n y0 fun p1 g1 X1 y1 => ?_
 have E1 := E0.trans (X1.mono E0.size)
 refine Sm.n y1 fun p2 g2 X2 y2 => ?_
 have E2 := E1.trans (X2.mono E1.size)
 refine Sm.n y2 fun p3 g3 X3 y3 => ?_
 have E3 := E2.trans (X3.mono E2.size)
 refine Sm.b rfl ?_
 refine Sm.b (y3.ldO 2 0 rfl rfl) ?_
 refine Sm.cr (t31 (by omega) (H.w.ext E3)) fun r4 v4 g4 e1004 X4 R4 => ?_
 obtain ⟨i4, q4, b4, h4, o4, z4⟩ := R4
 have y4 := y3.add X4 o4 z4
 have E4 := E3.trans (X4.mono E3.size)
 refine Sm.b rfl ?_
 refine Sm.sts y4 1 [v4, .int .i64 0, .int .i64 0, .int .i64 0, .bool false, .int .i64 0, .int .i64 0, .int .i64 0, .int .i64 0, .slice none 0 0] rfl (LV.cells h4) rfl (by simp) rfl fun g5 X5 y5 => ?_
 have E5 := E4.trans X5
 refine Sm.b rfl ?_
 refine Sm.b (y5.ldO 3 1 rfl rfl) ?_
 refine Sm.b rfl ?_
 refine Sm.b rfl ?_
 refine Sm.sts y5 1 [v4, .int .i64 a.semi, .int .i64 0, .int .i64 0, .bool false, .int .i64 0, .int .i64 0, .int .i64 0, .int .i64 0, .slice none 0 0] rfl rfl rfl (by simp) rfl fun g6 X6 y6 => ?_
 have E6 := E5.trans X6
 refine Sm.b rfl ?_
 refine Sm.b (y6.ldO 3 2 rfl rfl) ?_
 refine Sm.b rfl ?_
 refine Sm.b rfl ?_
 refine Sm.sts y6 1 [v4, .int .i64 a.semi, .int .i64 a.to, .int .i64 0, .bool false, .int .i64 0, .int .i64 0, .int .i64 0, .int .i64 0, .slice none 0 0] rfl rfl rfl (by simp) rfl fun g7 X7 y7 => ?_
 have E7 := E6.trans X7
 refine Sm.b rfl ?_
 refine Sm.b (y7.ldO 3 3 rfl rfl) ?_
 refine Sm.b rfl ?_
 refine Sm.b rfl ?_
 refine Sm.sts y7 1 [v4, .int .i64 a.semi, .int .i64 a.to, .int .i64 a.top, .bool false, .int .i64 0, .int .i64 0, .int .i64 0, .int .i64 0, .slice none 0 0] rfl rfl rfl (by simp) rfl fun g8 X8 y8 => ?_
 have E8 := E7.trans X8
 refine Sm.b rfl ?_
 refine Sm.b (y8.ldO 3 4 rfl rfl) ?_
 refine Sm.b rfl ?_
 refine Sm.b rfl ?_
 refine Sm.sts y8 1 [v4, .int .i64 a.semi, .int .i64 a.to, .int .i64 a.top, .bool a.cyc, .int .i64 0, .int .i64 0, .int .i64 0, .int .i64 0, .slice none 0 0] rfl rfl rfl (by simp) rfl fun g9 X9 y9 => ?_
 have E9 := E8.trans X9
 refine Sm.b rfl ?_
 refine Sm.b (y9.ldO 3 5 rfl rfl) ?_
 refine Sm.b rfl ?_
 refine Sm.b rfl ?_
 refine Sm.sts y9 1 [v4, .int .i64 a.semi, .int .i64 a.to, .int .i64 a.top, .bool a.cyc, .int .i64 a.scan, .int .i64 0, .int .i64 0, .int .i64 0, .slice none 0 0] rfl rfl rfl (by simp) rfl fun g10 X10 y10 => ?_
 have E10 := E9.trans X10
 refine Sm.b rfl ?_
 refine Sm.b (y10.ldO 3 6 rfl rfl) ?_
 refine Sm.b rfl ?_
 refine Sm.b rfl ?_
 refine Sm.sts y10 1 [v4, .int .i64 a.semi, .int .i64 a.to, .int .i64 a.top, .bool a.cyc, .int .i64 a.scan, .int .i64 a.old, .int .i64 0, .int .i64 0, .slice none 0 0] rfl rfl rfl (by simp) rfl fun g11 X11 y11 => ?_
 have E11 := E10.trans X11
 refine Sm.b rfl ?_
 refine Sm.b (y11.ldO 3 7 rfl rfl) ?_
 refine Sm.b rfl ?_
 refine Sm.b rfl ?_
 refine Sm.sts y11 1 [v4, .int .i64 a.semi, .int .i64 a.to, .int .i64 a.top, .bool a.cyc, .int .i64 a.scan, .int .i64 a.old, .int .i64 a.cop, .int .i64 0, .slice none 0 0] rfl rfl rfl (by simp) rfl fun g12 X12 y12 => ?_
 have E12 := E11.trans X12
 refine Sm.b rfl ?_
 refine Sm.b (y12.ldO 3 8 rfl rfl) ?_
 refine Sm.b rfl ?_
 refine Sm.b rfl ?_
 refine Sm.sts y12 1 [v4, .int .i64 a.semi, .int .i64 a.to, .int .i64 a.top, .bool a.cyc, .int .i64 a.scan, .int .i64 a.old, .int .i64 a.cop, .int .i64 a.ser, .slice none 0 0] rfl rfl rfl (by simp) rfl fun g13 X13 y13 => ?_
 have E13 := E12.trans X13
 refine Sm.b rfl ?_
 refine Sm.b (y13.ldO 3 9 rfl rfl) ?_
 refine Sm.cr (t32 (by omega) (H.r.ext E13)) fun r14 v14 g14 e9 X14 R14 => ?_
 obtain ⟨i14, q14, rfl, o14, z14⟩ := R14
 have y14 := y13.add (lv := true) X14 (fun _ => ⟨o14, z14⟩) (fun h => by cases h)
 have E14 := E13.trans (X14.mono E13.size)
 refine Sm.b rfl ?_
 refine Sm.sts y14 2 [v4, .int .i64 a.semi, .int .i64 a.to, .int .i64 a.top, .bool a.cyc, .int .i64 a.scan, .int .i64 a.old, .int .i64 a.cop, .int .i64 a.ser, slc i14 0 r14.length] rfl rfl rfl (by simp) rfl fun g15 X15 y15 => ?_
 have E15 := E14.trans X15
 refine Sm.b (y15.ldON 2 rfl rfl) ?_
 refine Sm.sts y15 3 [v4, .int .i64 a.semi, .int .i64 a.to, .int .i64 a.top, .bool a.cyc, .int .i64 a.scan, .int .i64 a.old, .int .i64 a.cop, .int .i64 a.ser, slc i14 0 r14.length] rfl (arCells_ok (a := ⟨r4, a.semi, a.to, a.top, a.cyc, a.scan, a.old, a.cop, a.ser, r14⟩) h4.isc rfl) rfl (by simp) rfl fun g16 X16 y16 => ?_
 have E16 := E15.trans X16
 refine Sm.b (y16.ldON 3 rfl rfl) ?_
 exact Sm.fin E16 ⟨_, _, i4, q4, b4, i14, q14, rfl, ⟨y16.slE 1 rfl h4, y16.slI 1 r4 rfl h4, y16.slV 0 r14 rfl⟩, h4, rfl, ((y16.front 1 rfl).pick (O' := _ :: _ :: []) (.cons_cons _ (.cons_cons _ (List.nil_sublist _)))).pickM (List.nil_sublist _)⟩
theorem Cx.join {b : Nat} {g g' : AHeap} {F : List FRow} {O O2 : List ORow} {M : List MRow} (y : Cx b g F O M) (E : Ext g.size g g') (z : Cx g.size g' [] O2 []) : Cx b g' F (O2 ++ O) M := by
 have y' := y.ext E
 refine ⟨y'.bh, y'.fr, fun q hq => ?_, List.pairwise_append.2 ⟨z.nd, y'.nd, fun p hp q hq l1 l2 => ?_⟩, y'.ms, y'.md⟩
 ·rcases List.mem_append.1 hq with h | h
  ·have := z.ow q h
   exact ⟨fun l => ⟨(this.1 l).1, Nat.le_trans y.bh (this.1 l).2⟩, this.2⟩
  ·exact y'.ow q h
 ·have h1 := ((z.ow p hp).1 l1).2
  have h2 := ((y.ow q hq).1 l2).1.lt
  omega
theorem RO.cx {α : Type} {h g : AHeap} {c : α → Value} {e : TypeId} {l : List α} {v : Value} (x : RO h c e l v g) (E : Ext h.size h g) : ∃ i rt lv, LV v i lv l.length ∧ Cx h.size g [] (⟨i, rt, e, lv, l.map c⟩ :: []) [] := by
 obtain ⟨i, rt, lv, hv, o, z⟩ := x
 exact ⟨i, rt, lv, hv, (Cx.start0 h).add E o z⟩
def RMk (h : AHeap) (F : List FRow) (i rt : Nat) (e : TypeId) (lv : Bool) (n : Nat) (Q : List ORow) (M : List MRow) : Int → Value → AHeap → Prop := fun r v g => v = .int .i64 r ∧ ∃ cs, cs.length = n ∧ Cx h.size g F (⟨i, rt, e, lv, cs⟩ :: Q) M
theorem tS40_0 {D N : Nat} {h : AHeap} {F : List FRow} {Q : List ORow} {M : List MRow} {i rt : Nat} {lv : Bool} {n : Nat} {wv : Value} (hv : LV wv i lv n) (hn : n ≤ 2000000) :
  ∀ (f j : Nat) (k : Nat) (cs : List Value) (g : AHeap) (_ : n - j < f) (_ : j ≤ n) (_ : k + (n - j) ≤ 1000000000) (_ : cs.length = n) (_ : Ext h.size h g) (_ : Cx h.size g F (⟨i, rt, 74, lv, cs⟩ :: Q) M),
   SmR h (RMk h F i rt 74 lv n Q M) (some ((k + (n - j) : Nat) : Int)) (s38_0 hk0 (call Tp Ms D) N f wv (k : Int) (j : Int) g)
 | 0, _, _, _, _, h, _, _, _, _, _ => absurd h (Nat.not_lt_zero _)
 | f + 1, j, k, cs, g, hf, hj, hk, hc, E0, y0 => by
  rw [s38_0_eq]
  refine Sm.b hv.len ?_
  refine Sm.b rfl ?_
  by_cases c : j < n
  ·refine Sm.ct (decide_eq_true (by omega)) ?_
   rcases hv with ⟨hl, rfl⟩ | ⟨_, _, hz⟩
   ·subst hl
    refine Sm.b (show aIdx (slc i 0 n) (.int .i64 (j : Int)) 1 = some (ptr i j) by simp [aIdx, slc, c]) ?_
    refine Sm.st y0 0 (vs := [.int .u64 (IntKind.u64.wrap (k : Int))]) rfl rfl rfl (by omega) fun g1 X1 y1 => ?_
    have E1 := E0.trans X1
    rw [wr0 (by omega), wr0 (by omega), show k + (n - j) = (k + 1) + (n - (j + 1)) by omega]
    exact tS40_0 (.inl ⟨rfl, rfl⟩) hn f (j + 1) (k + 1) _ g1 (by omega) c (by omega) (by simp [splice]; omega) E1 y1
   ·omega
  ·refine Sm.cf (decide_eq_false (by omega)) ?_
   rw [show k + (n - j) = k by omega]
   exact Sm.fin E0 ⟨rfl, cs, hc, y0⟩
theorem t40 {D : Nat} {h : AHeap} (hD : 2000002 ≤ D) {F : List FRow} {Q : List ORow} {M : List MRow} {i rt : Nat} {lv : Bool} {n : Nat} {wv : Value} (hv : LV wv i lv n) (hn : n ≤ 2000000) (k : Nat) (hk : k + n ≤ 1000000000) (cs : List Value) (hc : cs.length = n) (g : AHeap) (E0 : Ext h.size h g) (y0 : Cx h.size g F (⟨i, rt, 74, lv, cs⟩ :: Q) M) :
  SmR h (RMk h F i rt 74 lv n Q M) (some ((k + n : Nat) : Int)) (call Tp Ms D 38 [wv, .int .i64 (k : Int)] g) := by
 obtain ⟨D, rfl⟩ : ∃ d, D = d + 1 := ⟨D - 1, by omega⟩
 rw [c38, e38]
 exact tS40_0 hv hn D 0 k cs g (by omega) (Nat.zero_le _) (by omega) hc E0 y0
theorem tS41_0 {D N : Nat} {h : AHeap} {F : List FRow} {Q : List ORow} {M : List MRow} {i rt : Nat} {lv : Bool} {n : Nat} {wv : Value} (hv : LV wv i lv n) (hn : n ≤ 2000000) :
  ∀ (f j : Nat) (k : Nat) (cs : List Value) (g : AHeap) (_ : n - j < f) (_ : j ≤ n) (_ : k + 2 * (n - j) ≤ 1000000000) (_ : cs.length = 2 * n) (_ : Ext h.size h g) (_ : Cx h.size g F (⟨i, rt, 42, lv, cs⟩ :: Q) M),
   SmR h (RMk h F i rt 42 lv (2 * n) Q M) (some ((k + 2 * (n - j) : Nat) : Int)) (s39_0 hk0 (call Tp Ms D) N f wv (k : Int) (j : Int) g)
 | 0, _, _, _, _, h, _, _, _, _, _ => absurd h (Nat.not_lt_zero _)
 | f + 1, j, k, cs, g, hf, hj, hk, hc, E0, y0 => by
  rw [s39_0_eq]
  refine Sm.b hv.len ?_
  refine Sm.b rfl ?_
  by_cases c : j < n
  ·refine Sm.ct (decide_eq_true (by omega)) ?_
   rcases hv with ⟨hl, rfl⟩ | ⟨_, _, hz⟩
   ·subst hl
    have ix : aIdx (slc i 0 n) (.int .i64 (j : Int)) 2 = some (ptr i (j * 2)) := by simp [aIdx, slc, c]
    refine Sm.b ix ?_
    refine Sm.b rfl ?_
    refine Sm.st y0 0 (off := j * 2 + 0) (vs := [.int .i64 (k : Int)]) rfl rfl rfl (by omega) fun g1 X1 y1 => ?_
    have E1 := E0.trans X1
    refine Sm.b ix ?_
    refine Sm.b rfl ?_
    rw [wr0 (by omega), wr0 (by omega), wr0 (by omega)]
    refine Sm.st y1 0 (off := j * 2 + 1) (vs := [.int .i64 ((k + 1 : Nat) : Int)]) rfl rfl rfl (by simp [splice]; omega) fun g2 X2 y2 => ?_
    have E2 := E1.trans X2
    rw [show k + 2 * (n - j) = (k + 1 + 1) + 2 * (n - (j + 1)) by omega]
    exact tS41_0 (.inl ⟨rfl, rfl⟩) hn f (j + 1) (k + 1 + 1) _ g2 (by omega) c (by omega) (by simp [splice]; omega) E2 y2
   ·omega
  ·refine Sm.cf (decide_eq_false (by omega)) ?_
   rw [show k + 2 * (n - j) = k by omega]
   exact Sm.fin E0 ⟨rfl, cs, hc, y0⟩
theorem t41 {D : Nat} {h : AHeap} (hD : 2000002 ≤ D) {F : List FRow} {Q : List ORow} {M : List MRow} {i rt : Nat} {lv : Bool} {n : Nat} {wv : Value} (hv : LV wv i lv n) (hn : n ≤ 2000000) (k : Nat) (hk : k + 2 * n ≤ 1000000000) (cs : List Value) (hc : cs.length = 2 * n) (g : AHeap) (E0 : Ext h.size h g) (y0 : Cx h.size g F (⟨i, rt, 42, lv, cs⟩ :: Q) M) :
  SmR h (RMk h F i rt 42 lv (2 * n) Q M) (some ((k + 2 * n : Nat) : Int)) (call Tp Ms D 39 [wv, .int .i64 (k : Int)] g) := by
 obtain ⟨D, rfl⟩ : ∃ d, D = d + 1 := ⟨D - 1, by omega⟩
 rw [c39, e39]
 exact tS41_0 hv hn D 0 k cs g (by omega) (Nat.zero_le _) (by omega) hc E0 y0
theorem t14 {D : Nat} {h : AHeap} (hD : 2000003 ≤ D) {F : List FRow} {Q : List ORow} {M : List MRow} {iw rw ir rr : Nat} {lw : Bool} {wv : Value} {a : Ar} (hw : LV wv iw lw a.ws.length) (h1 : a.ws.length ≤ 2000000) (h2 : a.rs.length ≤ 2000000) (g : AHeap) (E0 : Ext h.size h g)
  (y0 : Cx h.size g F (⟨iw, rw, 74, lw, a.ws.map (Value.int .u64)⟩ :: ⟨ir, rr, 42, true, vcells a.rs⟩ :: Q) M) :
  SmR h (fun (r : Int) v g => v = .int .i64 r ∧ Cx h.size g F Q M) (some ((1 + a.ws.length + 2 * a.rs.length : Nat) : Int)) (call Tp Ms D 9 [arV wv (slc ir 0 a.rs.length) a, .int .i64 1] g) := by
 obtain ⟨D, rfl⟩ : ∃ d, D = d + 1 := ⟨D - 1, by omega⟩
 rw [c9, e9]
 refine Sm.b (arCells_ok hw.isc rfl) ?_
 refine Sm.n y0 fun p1 g1 X1 y1 => ?_
 have E1 := E0.trans (X1.mono E0.size)
 refine Sm.b rfl ?_
 refine Sm.b (y1.ldO 0 0 rfl rfl) ?_
 refine Sm.cv rfl (t40 (by omega) hw h1 1 (by omega) _ (by simp) g1 E1 (y1.front 1 rfl)) fun v2 g2 E2 R2 => ?_
 obtain ⟨rfl, cs2, hc2, y2⟩ := R2
 refine Sm.b rfl ?_
 refine Sm.b rfl ?_
 refine Sm.b (y2.ldO 1 9 rfl rfl) ?_
 refine Sm.cv rfl (t41 (by omega) (LV.mk ir a.rs.length) h2 (1 + a.ws.length) (by omega) _ (by rw [vcells_len]; omega) g2 E2 (y2.front 2 rfl)) fun v3 g3 E3 R3 => ?_
 obtain ⟨rfl, cs3, hc3, y3⟩ := R3
 refine Sm.b rfl ?_
 exact Sm.fin E3 ⟨rfl, y3.pick (.cons _ (.cons _ (.cons _ (List.Sublist.refl _))))⟩
noncomputable section
variable (hk : Hk (Value × AHeap)) (C : ACall) (N : Nat)
def F82_0 : Nx (Value × AHeap) := evSt hk Tp C M82 N Tryz.f82 [1, 0, 1] []
def s82_0 (x2 x3 x4 x5 : Value) (x22 : Bool) (h : AHeap) := hk 100002 (⟨86, [(2, x2), (3, x3), (4, x4), (5, x5), (22, .bool x22)]⟩) h (F82_0 hk C N)
def F82_1 : Nx (Value × AHeap) := evSt hk Tp C M82 N Tryz.f82 [1, 1] []
def s82_1 (x2 x3 x4 x5 : Value) (h : AHeap) := hk 3 (⟨86, [(2, x2), (3, x3), (4, x4), (5, x5)]⟩) h (F82_1 hk C N)
def F82_2 (n1 : Nat) : Nx (Value × AHeap) := evSt hk Tp C M82 N Tryz.f82 [1, 1, 1, 0, 1, 4, 1, 1, 0, 1, 2, 6] [n1]
def s82_2 (n1 : Nat) (x2 x3 x4 x5 : Value) (x6 x8 x9 : Int) (h : AHeap) := F82_2 hk C N n1 (⟨86, [(2, x2), (3, x3), (4, x4), (5, x5), (6, .int .i64 x6), (8, .int .i64 x8), (9, .int .i64 x9)]⟩) h
def F82_3 : Nx (Value × AHeap) := evSt hk Tp C M82 N Tryz.f82 [1, 1, 1, 1] []
def s82_3 (x2 x3 x4 x5 : Value) (x6 : Int) (h : AHeap) := hk 14 (⟨86, [(2, x2), (3, x3), (4, x4), (5, x5), (6, .int .i64 x6)]⟩) h (F82_3 hk C N)
theorem e82 (x0 x1 : Value) (h : AHeap) : evFn hk Tp C M82 N Tryz.f82 [x0, x1] h =
  (aCells x0).bind fun c1 => aNew h 29 c1 fun p2 h3 => (aCells x1).bind fun c4 => aNew h3 42 c4 fun p5 h6 => aNew h6 29 [.slice none 0 0, .int .i64 0, .int .i64 0, .int .i64 0, .bool false, .int .i64 0, .int .i64 0, .int .i64 0, .int .i64 0, .slice none 0 0] fun p7 h8 => aNew h8 42 [.int .i64 0, .int .i64 0] fun p9 h10 => (aLdN h10 p5 2).bind fun v11 => (C 78 [v11] h10).bind fun r12 => (asB r12.1).bind fun b13 => bif !b13 then s82_0 hk C N p2 p5 p7 p9 true r12.2 else (aOff p5 1).bind fun v14 => (aLd1 r12.2 v14).bind fun v15 => (asI .i64 v15).bind fun n16 => (aOff p2 1).bind fun v17 => (aLd1 r12.2 v17).bind fun v18 => (asI .i64 v18).bind fun n19 => (aBin .quo (.int .i64 n16) (.int .i64 n19)).bind fun v20 => (asI .i64 v20).bind fun n21 => (aOff p2 2).bind fun v22 => (aLd1 r12.2 v22).bind fun v23 => (asI .i64 v23).bind fun n24 => s82_0 hk C N p2 p5 p7 p9 (n21 == n24) r12.2 := by kernel_rfl
theorem s82_0_j (x2 x3 x4 x5 : Value) (x22 : Bool) (h : AHeap) : s82_0 hk0 C N x2 x3 x4 x5 x22 h = F82_0 hk0 C N (⟨86, [(2, x2), (3, x3), (4, x4), (5, x5), (22, .bool x22)]⟩) h := by delta s82_0; exact hk0_app _ _ _ _
theorem s82_0_eq (x2 x3 x4 x5 : Value) (x22 : Bool) (h : AHeap) : F82_0 hk C N (⟨86, [(2, x2), (3, x3), (4, x4), (5, x5), (22, .bool x22)]⟩) h =
  bif x22 then (aLdN h x2 10).bind fun v25 => (aLdN h x3 2).bind fun v26 => (aSt h x4 v25 10).bind fun h27 => ((aLdN h27 x3 2).bind fun v28 => some (vbeq v28 v26)).bind fun b29 => bif b29 then (aSt h27 x5 v26 2).bind fun h30 => (aLdN h30 x4 10).bind fun v31 => (aLdN h30 x5 2).bind fun v32 => bif List.all [v31, v32] isS2 then some (.tuple (List.toArray [v31, v32]), h30) else none else none else s82_1 hk C N x2 x3 x4 x5 h := by kernel_rfl
theorem s82_1_j (x2 x3 x4 x5 : Value) (h : AHeap) : s82_1 hk0 C N x2 x3 x4 x5 h = F82_1 hk0 C N (⟨86, [(2, x2), (3, x3), (4, x4), (5, x5)]⟩) h := by delta s82_1; exact hk0_app _ _ _ _
theorem s82_1_eq (x2 x3 x4 x5 : Value) (h : AHeap) : F82_1 hk C N (⟨86, [(2, x2), (3, x3), (4, x4), (5, x5)]⟩) h =
  (aOff x2 0).bind fun v33 => (aLd1 h v33).bind fun v34 => (aOff x3 1).bind fun v35 => (aLd1 h v35).bind fun v36 => (asI .i64 v36).bind fun n37 => (aIdx v34 (.int .i64 n37) 1).bind fun v38 => (aLd1 h v38).bind fun v39 => (asI .u64 v39).bind fun n40 => (C 70 [.int .u64 n40] h).bind fun r41 => (aExt r41.1 0).bind fun v42 => (asI .i64 v42).bind fun n43 => (aExt r41.1 1).bind fun v44 => (asB v44).bind fun b45 => bif !b45 then (aLdN r41.2 x2 10).bind fun v46 => (aOff x3 1).bind fun v47 => (aLd1 r41.2 v47).bind fun v48 => (asI .i64 v48).bind fun n49 => (C 19 [v46, .int .i64 n49] r41.2).bind fun r50 => (aPart r50.1 1 1 false).bind fun v51 => (asI .i64 v51).bind fun n52 => (aOff x2 3).bind fun v53 => (aLd1 r50.2 v53).bind fun v54 => (asI .i64 v54).bind fun n55 => s82_2 hk C N N x2 x3 x4 x5 n55 (IntKind.i64.wrap (n52 + 1)) 0 r50.2 else s82_3 hk C N x2 x3 x4 x5 n43 r41.2 := by kernel_rfl
theorem s82_2_eq (n1 : Nat) (x2 x3 x4 x5 : Value) (x6 x8 x9 : Int) (h : AHeap) : s82_2 hk C N (n1 + 1) x2 x3 x4 x5 x6 x8 x9 h =
  bif decide (x9 < x8) then (aOff x2 0).bind fun v56 => (aLd1 h v56).bind fun v57 => (aOff x2 0).bind fun v58 => (aLd1 h v58).bind fun v59 => (aOff x3 1).bind fun v60 => (aLd1 h v60).bind fun v61 => (asI .i64 v61).bind fun n62 => (aIdx v59 (.int .i64 (IntKind.i64.wrap (n62 + x9))) 1).bind fun v63 => (aLd1 h v63).bind fun v64 => (asI .u64 v64).bind fun n65 => (aIdx v57 (.int .i64 (IntKind.i64.wrap (x6 + x9))) 1).bind fun v66 => (aSt h v66 (.int .u64 n65) 1).bind fun h67 => s82_2 hk C N n1 x2 x3 x4 x5 x6 x8 (IntKind.i64.wrap (x9 + 1)) h67 else (aOff x2 0).bind fun v68 => (aLd1 h v68).bind fun v69 => (aOff x3 1).bind fun v70 => (aLd1 h v70).bind fun v71 => (asI .i64 v71).bind fun n72 => (aIdx v69 (.int .i64 n72) 1).bind fun v73 => (aSt h v73 (.int .u64 (IntKind.u64.wrap (BitVec.ofInt IntKind.u64.bits 9223372036854775808 ||| BitVec.ofInt IntKind.u64.bits (IntKind.u64.wrap x6)).toNat)) 1).bind fun h74 => (aOff x2 3).bind fun v75 => (aLd1 h74 v75).bind fun v76 => (asI .i64 v76).bind fun n77 => (aOff x2 3).bind fun v78 => (aSt h74 v78 (.int .i64 (IntKind.i64.wrap (n77 + x8))) 1).bind fun h79 => (aOff x2 7).bind fun v80 => (aLd1 h79 v80).bind fun v81 => (asI .i64 v81).bind fun n82 => (aOff x2 7).bind fun v83 => (aSt h79 v83 (.int .i64 (IntKind.i64.wrap (n82 + x8))) 1).bind fun h84 => s82_3 hk C N x2 x3 x4 x5 x6 h84 := by kernel_rfl
theorem s82_3_j (x2 x3 x4 x5 : Value) (x6 : Int) (h : AHeap) : s82_3 hk0 C N x2 x3 x4 x5 x6 h = F82_3 hk0 C N (⟨86, [(2, x2), (3, x3), (4, x4), (5, x5), (6, .int .i64 x6)]⟩) h := by delta s82_3; exact hk0_app _ _ _ _
theorem s82_3_eq (x2 x3 x4 x5 : Value) (x6 : Int) (h : AHeap) : F82_3 hk C N (⟨86, [(2, x2), (3, x3), (4, x4), (5, x5), (6, .int .i64 x6)]⟩) h =
  (aOff x3 1).bind fun v85 => (aSt h v85 (.int .i64 x6) 1).bind fun h86 => (aLdN h86 x2 10).bind fun v87 => (aLdN h86 x3 2).bind fun v88 => (aSt h86 x4 v87 10).bind fun h89 => ((aLdN h89 x3 2).bind fun v90 => some (vbeq v90 v88)).bind fun b91 => bif b91 then (aSt h89 x5 v88 2).bind fun h92 => (aLdN h92 x4 10).bind fun v93 => (aLdN h92 x5 2).bind fun v94 => bif List.all [v93, v94] isS2 then some (.tuple (List.toArray [v93, v94]), h92) else none else none := by kernel_rfl
theorem c82 (d : Nat) (args : List Value) (h : AHeap) : call Tp Ms (d + 1) 82 args h = evFn hk0 Tp (call Tp Ms d) M82 d Tryz.f82 args h := by kernel_rfl
def F91_0 (n1 : Nat) : Nx (Value × AHeap) := evSt hk Tp C M91 N Tryz.f91 [1, 1, 1, 1, 0, 2, 6] [n1]
def s91_0 (n1 : Nat) (x0 : Value) (x1 x5 : Int) (h : AHeap) := F91_0 hk C N n1 (⟨73, [(0, x0), (1, .int .i64 x1), (5, .int .i64 x5)]⟩) h
def F91_1 (n1 : Nat) : Nx (Value × AHeap) := evSt hk Tp C M91 N Tryz.f91 [1, 1, 1, 1, 0, 2, 3, 1] [n1]
def s91_1 (n1 : Nat) (x0 : Value) (x1 x5 : Int) (h : AHeap) := hk 6 (⟨73, [(0, x0), (1, .int .i64 x1), (5, .int .i64 x5)]⟩) h (F91_1 hk C N n1)
def F91_2 (n1 n2 : Nat) : Nx (Value × AHeap) := evSt hk Tp C M91 N Tryz.f91 [1, 1, 1, 1, 0, 2, 3, 1, 2, 1, 0, 1, 2, 6] [n1, n2]
def s91_2 (n1 n2 : Nat) (x0 : Value) (x1 x5 : Int) (x6 x32 : Value) (x33 x34 : Int) (h : AHeap) := F91_2 hk C N n1 n2 (⟨73, [(0, x0), (1, .int .i64 x1), (5, .int .i64 x5), (6, x6), (32, x32), (33, .int .i64 x33), (34, .int .i64 x34)]⟩) h
theorem e91 (x0 : Value) (x1 : Int) (h : AHeap) : evFn hk Tp C M91 N Tryz.f91 [x0, .int .i64 x1] h =
  bif decide (x1 < 1) then some (.int .i64 0, h) else (C 93 [x0] h).bind fun r1 => s91_0 hk C N N x0 x1 0 r1.2 := by kernel_rfl
theorem s91_0_eq (n1 : Nat) (x0 : Value) (x1 x5 : Int) (h : AHeap) : s91_0 hk C N (n1 + 1) x0 x1 x5 h =
  (aNil x0).bind fun v2 => (aOff v2 4).bind fun v3 => (aLd1 h v3).bind fun v4 => (asB v4).bind fun b5 => bif b5 then bif decide (x5 < x1) then s91_1 hk C N n1 x0 x1 x5 h else some (.int .i64 x5, h) else some (.int .i64 x5, h) := by kernel_rfl
theorem s91_1_j (n1 : Nat) (x0 : Value) (x1 x5 : Int) (h : AHeap) : s91_1 hk0 C N n1 x0 x1 x5 h = F91_1 hk0 C N n1 (⟨73, [(0, x0), (1, .int .i64 x1), (5, .int .i64 x5)]⟩) h := by delta s91_1; exact hk0_app _ _ _ _
theorem s91_1_eq (n1 : Nat) (x0 : Value) (x1 x5 : Int) (h : AHeap) : F91_1 hk C N n1 (⟨73, [(0, x0), (1, .int .i64 x1), (5, .int .i64 x5)]⟩) h =
  (aNil x0).bind fun v6 => (aOff v6 5).bind fun v7 => (aLd1 h v7).bind fun v8 => (asI .i64 v8).bind fun n9 => (C 29 [x0, .int .i64 n9] h).bind fun r10 => aNew r10.2 44 [.int .i64 0, .int .i64 0, .int .i64 0] fun p11 h12 => (aSt h12 p11 r10.1 3).bind fun h13 => (aOff p11 0).bind fun v14 => (aLd1 h13 v14).bind fun v15 => (asI .i64 v15).bind fun n16 => (aOff p11 1).bind fun v17 => (aLd1 h13 v17).bind fun v18 => (asI .i64 v18).bind fun n19 => (C 32 [.int .i64 n16, .int .i64 n19] h13).bind fun r20 => (aLen r20.1).bind fun v21 => (asI .i64 v21).bind fun n22 => s91_2 hk C N n1 N x0 x1 x5 p11 r20.1 n22 0 r20.2 := by kernel_rfl
theorem s91_2_eq (n1 n2 : Nat) (x0 : Value) (x1 x5 : Int) (x6 x32 : Value) (x33 x34 : Int) (h : AHeap) : s91_2 hk C N n1 (n2 + 1) x0 x1 x5 x6 x32 x33 x34 h =
  bif decide (x34 < x33) then (aIdx x32 (.int .i64 x34) 1).bind fun v23 => (aLd1 h v23).bind fun v24 => (asI .i64 v24).bind fun n25 => (aNil x0).bind fun v26 => (aOff v26 5).bind fun v27 => (aLd1 h v27).bind fun v28 => (asI .i64 v28).bind fun n29 => (aNil x0).bind fun v30 => (aOff v30 5).bind fun v31 => (aLd1 h v31).bind fun v32 => (asI .i64 v32).bind fun n33 => (C 34 [x0, .int .i64 (IntKind.i64.wrap (n33 + n25))] h).bind fun r34 => ((aLd1 r34.2 v27).bind fun v35 => (asI .i64 v35).bind fun n36 => some (vbeq (.int .i64 n36) (.int .i64 n29))).bind fun b37 => bif b37 then (C 92 [x0, r34.1] r34.2).bind fun r38 => ((aLd1 r38.2 v27).bind fun v39 => (asI .i64 v39).bind fun n40 => some (vbeq (.int .i64 n40) (.int .i64 n29))).bind fun b41 => bif b41 then (C 33 [x0, .int .i64 (IntKind.i64.wrap (n29 + n25)), r38.1] r38.2).bind fun r42 => s91_2 hk C N n1 n2 x0 x1 x5 x6 x32 x33 (IntKind.i64.wrap (x34 + 1)) r42.2 else none else none else (aNil x0).bind fun v43 => (aOff v43 5).bind fun v44 => (aLd1 h v44).bind fun v45 => (asI .i64 v45).bind fun n46 => (aOff x6 1).bind fun v47 => (aLd1 h v47).bind fun v48 => (asI .i64 v48).bind fun n49 => (aNil x0).bind fun v50 => (aOff v50 5).bind fun v51 => (aSt h v51 (.int .i64 (IntKind.i64.wrap ((IntKind.i64.wrap (n46 + n49)) + 1))) 1).bind fun h52 => (C 93 [x0] h52).bind fun r53 => s91_0 hk C N n1 x0 x1 (IntKind.i64.wrap (x5 + 1)) r53.2 := by kernel_rfl
theorem c91 (d : Nat) (args : List Value) (h : AHeap) : call Tp Ms (d + 1) 91 args h = evFn hk0 Tp (call Tp Ms d) M91 d Tryz.f91 args h := by kernel_rfl
def F92_0 : Nx (Value × AHeap) := evSt hk Tp C M92 N Tryz.f92 [1, 0, 1] []
def s92_0 (x0 x3 x4 : Value) (x24 : Bool) (h : AHeap) := hk 100002 (⟨112, [(0, x0), (3, x3), (4, x4), (24, .bool x24)]⟩) h (F92_0 hk C N)
def F92_1 : Nx (Value × AHeap) := evSt hk Tp C M92 N Tryz.f92 [1, 1] []
def s92_1 (x0 x3 x4 : Value) (h : AHeap) := hk 3 (⟨112, [(0, x0), (3, x3), (4, x4)]⟩) h (F92_1 hk C N)
theorem e92 (x0 x1 : Value) (h : AHeap) : evFn hk Tp C M92 N Tryz.f92 [x0, x1] h =
  (aCells x1).bind fun c1 => aNew h 42 c1 fun p2 h3 => aNew h3 42 [.int .i64 0, .int .i64 0] fun p4 h5 => (aNil x0).bind fun v6 => (aOff v6 4).bind fun v7 => (aLd1 h5 v7).bind fun v8 => (asB v8).bind fun b9 => bif !b9 then s92_0 hk C N x0 p2 p4 true h5 else (aLdN h5 p2 2).bind fun v10 => (C 104 [v10] h5).bind fun r11 => (asB r11.1).bind fun b12 => bif !b12 then s92_0 hk C N x0 p2 p4 true r11.2 else (aOff p2 1).bind fun v13 => (aLd1 r11.2 v13).bind fun v14 => (asI .i64 v14).bind fun n15 => (C 105 [x0, .int .i64 n15] r11.2).bind fun r16 => (asB r16.1).bind fun b17 => s92_0 hk C N x0 p2 p4 (!b17) r16.2 := by kernel_rfl
theorem s92_0_j (x0 x3 x4 : Value) (x24 : Bool) (h : AHeap) : s92_0 hk0 C N x0 x3 x4 x24 h = F92_0 hk0 C N (⟨112, [(0, x0), (3, x3), (4, x4), (24, .bool x24)]⟩) h := by delta s92_0; exact hk0_app _ _ _ _
theorem s92_0_eq (x0 x3 x4 : Value) (x24 : Bool) (h : AHeap) : F92_0 hk C N (⟨112, [(0, x0), (3, x3), (4, x4), (24, .bool x24)]⟩) h =
  bif x24 then (aLdN h x3 2).bind fun v18 => (aSt h x4 v18 2).bind fun h19 => (aLdN h19 x4 2).bind fun v20 => some (v20, h19) else s92_1 hk C N x0 x3 x4 h := by kernel_rfl
theorem s92_1_j (x0 x3 x4 : Value) (h : AHeap) : s92_1 hk0 C N x0 x3 x4 h = F92_1 hk0 C N (⟨112, [(0, x0), (3, x3), (4, x4)]⟩) h := by delta s92_1; exact hk0_app _ _ _ _
theorem s92_1_eq (x0 x3 x4 : Value) (h : AHeap) : F92_1 hk C N (⟨112, [(0, x0), (3, x3), (4, x4)]⟩) h =
  (aNil x0).bind fun v21 => (aOff v21 0).bind fun v22 => (aLd1 h v22).bind fun v23 => (aOff x3 1).bind fun v24 => (aLd1 h v24).bind fun v25 => (asI .i64 v25).bind fun n26 => (aIdx v23 (.int .i64 n26) 1).bind fun v27 => (aLd1 h v27).bind fun v28 => (asI .u64 v28).bind fun n29 => (C 84 [.int .u64 n29] h).bind fun r30 => (aExt r30.1 0).bind fun v31 => (asI .i64 v31).bind fun n32 => (aExt r30.1 1).bind fun v33 => (asB v33).bind fun b34 => bif b34 then (aOff x3 1).bind fun v35 => (aSt r30.2 v35 (.int .i64 n32) 1).bind fun h36 => (aLdN h36 x3 2).bind fun v37 => (aSt h36 x4 v37 2).bind fun h38 => (aLdN h38 x4 2).bind fun v39 => some (v39, h38) else (aOff x3 1).bind fun v40 => (aLd1 r30.2 v40).bind fun v41 => (asI .i64 v41).bind fun n42 => (C 29 [x0, .int .i64 n42] r30.2).bind fun r43 => (aPart r43.1 1 1 false).bind fun v44 => (asI .i64 v44).bind fun n45 => (aNil x0).bind fun v46 => (aOff v46 0).bind fun v47 => (aLd1 r43.2 v47).bind fun v48 => (aNil x0).bind fun v49 => (aOff v49 3).bind fun v50 => (aLd1 r43.2 v50).bind fun v51 => (asI .i64 v51).bind fun n52 => (aNil x0).bind fun v53 => (aOff v53 3).bind fun v54 => (aLd1 r43.2 v54).bind fun v55 => (asI .i64 v55).bind fun n56 => (aSub r43.2 74 v48 (some (.int .i64 n52)) (some (.int .i64 (IntKind.i64.wrap (n56 + (IntKind.i64.wrap (n45 + 1)))))) 1).bind fun v57 => (aNil x0).bind fun v58 => (aOff v58 0).bind fun v59 => (aLd1 r43.2 v59).bind fun v60 => (aOff x3 1).bind fun v61 => (aLd1 r43.2 v61).bind fun v62 => (asI .i64 v62).bind fun n63 => (aOff x3 1).bind fun v64 => (aLd1 r43.2 v64).bind fun v65 => (asI .i64 v65).bind fun n66 => (aSub r43.2 74 v60 (some (.int .i64 n63)) (some (.int .i64 (IntKind.i64.wrap (n66 + (IntKind.i64.wrap (n45 + 1)))))) 1).bind fun v67 => (aCopy r43.2 1 v57 v67).bind fun r68 => (asI .i64 r68.1).bind fun n69 => (aNil x0).bind fun v70 => (aOff v70 0).bind fun v71 => (aLd1 r68.2 v71).bind fun v72 => (aOff x3 1).bind fun v73 => (aLd1 r68.2 v73).bind fun v74 => (asI .i64 v74).bind fun n75 => (aNil x0).bind fun v76 => (aOff v76 3).bind fun v77 => (aLd1 r68.2 v77).bind fun v78 => (asI .i64 v78).bind fun n79 => (aIdx v72 (.int .i64 n75) 1).bind fun v80 => (aSt r68.2 v80 (.int .u64 (IntKind.u64.wrap (BitVec.ofInt IntKind.u64.bits 9223372036854775808 ||| BitVec.ofInt IntKind.u64.bits (IntKind.u64.wrap n79)).toNat)) 1).bind fun h81 => (aNil x0).bind fun v82 => (aOff v82 3).bind fun v83 => (aLd1 h81 v83).bind fun v84 => (asI .i64 v84).bind fun n85 => (aOff x3 1).bind fun v86 => (aSt h81 v86 (.int .i64 n85) 1).bind fun h87 => (aNil x0).bind fun v88 => (aOff v88 3).bind fun v89 => (aLd1 h87 v89).bind fun v90 => (asI .i64 v90).bind fun n91 => (aNil x0).bind fun v92 => (aOff v92 3).bind fun v93 => (aSt h87 v93 (.int .i64 (IntKind.i64.wrap (n91 + (IntKind.i64.wrap (n45 + 1))))) 1).bind fun h94 => (aNil x0).bind fun v95 => (aOff v95 7).bind fun v96 => (aLd1 h94 v96).bind fun v97 => (asI .i64 v97).bind fun n98 => (aNil x0).bind fun v99 => (aOff v99 7).bind fun v100 => (aSt h94 v100 (.int .i64 (IntKind.i64.wrap (n98 + (IntKind.i64.wrap (n45 + 1))))) 1).bind fun h101 => (aLdN h101 x3 2).bind fun v102 => (aSt h101 x4 v102 2).bind fun h103 => (aLdN h103 x4 2).bind fun v104 => some (v104, h103) := by kernel_rfl
theorem c92 (d : Nat) (args : List Value) (h : AHeap) : call Tp Ms (d + 1) 92 args h = evFn hk0 Tp (call Tp Ms d) M92 d Tryz.f92 args h := by kernel_rfl
def F93_0 : Nx (Value × AHeap) := evSt hk Tp C M93 N Tryz.f93 [1] []
def s93_0 (x0 : Value) (x16 : Bool) (h : AHeap) := hk 100001 (⟨29, [(0, x0), (16, .bool x16)]⟩) h (F93_0 hk C N)
theorem e93 (x0 : Value) (h : AHeap) : evFn hk Tp C M93 N Tryz.f93 [x0] h =
  (aNil x0).bind fun v1 => (aOff v1 4).bind fun v2 => (aLd1 h v2).bind fun v3 => (asB v3).bind fun b4 => bif b4 then (aNil x0).bind fun v5 => (aOff v5 5).bind fun v6 => (aLd1 h v6).bind fun v7 => (asI .i64 v7).bind fun n8 => (aNil x0).bind fun v9 => (aOff v9 3).bind fun v10 => (aLd1 h v10).bind fun v11 => (asI .i64 v11).bind fun n12 => s93_0 hk C N x0 (n8 == n12) h else s93_0 hk C N x0 false h := by kernel_rfl
theorem s93_0_j (x0 : Value) (x16 : Bool) (h : AHeap) : s93_0 hk0 C N x0 x16 h = F93_0 hk0 C N (⟨29, [(0, x0), (16, .bool x16)]⟩) h := by delta s93_0; exact hk0_app _ _ _ _
theorem s93_0_eq (x0 : Value) (x16 : Bool) (h : AHeap) : F93_0 hk C N (⟨29, [(0, x0), (16, .bool x16)]⟩) h =
  bif x16 then (aNil x0).bind fun v13 => (aOff v13 4).bind fun v14 => (aSt h v14 (.bool false) 1).bind fun h15 => (aNil x0).bind fun v16 => (aOff v16 5).bind fun v17 => (aSt h15 v17 (.int .i64 0) 1).bind fun h18 => (aNil x0).bind fun v19 => (aOff v19 6).bind fun v20 => (aSt h18 v20 (.int .i64 0) 1).bind fun h21 => (aNil x0).bind fun v22 => (aOff v22 7).bind fun v23 => (aSt h21 v23 (.int .i64 0) 1).bind fun h24 => some (.tuple (List.toArray []), h24) else some (.tuple (List.toArray []), h) := by kernel_rfl
theorem c93 (d : Nat) (args : List Value) (h : AHeap) : call Tp Ms (d + 1) 93 args h = evFn hk0 Tp (call Tp Ms d) M93 d Tryz.f93 args h := by kernel_rfl
end
open Go Go.AH Go.AM
def WRow (iw rw : Nat) (lw : Bool) (a : Ar) : ORow := ⟨iw, rw, 74, lw, a.ws.map (Value.int .u64)⟩
def RRow (ir rr : Nat) (lr : Bool) (a : Ar) : ORow := ⟨ir, rr, 42, lr, vcells a.rs⟩
theorem Cx.slV' {b : Nat} {h : AHeap} {F : List FRow} {O : List ORow} {M : List MRow} (y : Cx b h F O M) (n : Nat) {i rt : Nat} {t : TypeId} {lv : Bool} (l : List Vl) {v : Value} (e : O[n]? = some ⟨i, rt, t, lv, vcells l⟩) (hv : LV v i lv l.length) : SlV h v l := by
 have o := y.ow _ (List.mem_of_getElem? e)
 rcases hv with ⟨hl, rfl⟩ | ⟨_, rfl, hz⟩
 ·exact .inr (.inr ⟨i, rfl, (o.1 hl).1.row, (o.1 hl).1.lt.2⟩)
 ·exact .inl ⟨rfl, List.length_eq_zero_iff.1 hz⟩
theorem Cx.arH {b : Nat} {h : AHeap} {F : List FRow} {O : List ORow} {M : List MRow} (y : Cx b h F O M) (n m : Nat) {iw rw ir rr : Nat} {lw lr : Bool} {a : Ar} {wv rv : Value} (e1 : O[n]? = some (WRow iw rw lw a)) (e2 : O[m]? = some (RRow ir rr lr a)) (hw : LV wv iw lw a.ws.length) (hr : LV rv ir lr a.rs.length) : ArH h wv rv a :=
 ⟨y.slE n e1 hw, y.slI n a.ws e1 hw, Cx.slV' y m a.rs e2 hr⟩
theorem LV.up {v : Value} {i n : Nat} {l : Bool} (h : LV v i l n) (hn : 0 < n) : l = true ∧ v = slc i 0 n := by
 rcases h with h | h
 ·exact h
 ·omega
theorem orW {q : Int} (h0 : 0 ≤ q) (h1 : q < 9223372036854775808) : IntKind.u64.wrap (BitVec.ofInt IntKind.u64.bits 9223372036854775808 ||| BitVec.ofInt IntKind.u64.bits (IntKind.u64.wrap q)).toNat = 9223372036854775808 + q := by
 obtain ⟨n, rfl⟩ : ∃ n : Nat, q = (n : Int) := ⟨q.toNat, by omega⟩
 rw [wu (x := (n : Int)) (by omega) (by omega)]
 have hb : IntKind.u64.bits = 64 := rfl
 rw [hb]
 have e1 : BitVec.ofInt 64 (n : Int) = BitVec.ofNat 64 n := by simp
 have e2 : BitVec.ofInt 64 9223372036854775808 = BitVec.ofNat 64 9223372036854775808 := rfl
 have hn : n < 2 ^ 63 := by omega
 have e3 : (BitVec.ofInt 64 9223372036854775808 ||| BitVec.ofInt 64 (n : Int)).toNat = 9223372036854775808 + n := by
  rw [e1, e2, BitVec.toNat_or, BitVec.toNat_ofNat, BitVec.toNat_ofNat, Nat.mod_eq_of_lt (by decide : 9223372036854775808 < 2 ^ 64), Nat.mod_eq_of_lt (by omega : n < 2 ^ 64)]
  have := Nat.two_pow_add_eq_or_of_lt hn 1
  rw [show (2 : Nat) ^ 63 * 1 = 9223372036854775808 from rfl] at this
  exact this.symm
 rw [e3, wu (by omega) (by omega)]
 omega
theorem hd_exw {a : Ar} (W : wok a) {p : Int} (h0 : 0 ≤ p) (h1 : p < a.ws.length) : ∃ w, rd a.ws p = some w ∧ m90 w = some (hd a p) ∧ m103 w = some (hd a p) ∧ m91 w = some (fw a p) ∧ m102 w = some (fw a p) := hd_ex W.ari h0 h1
theorem m55_w {a : Ar} (W : wok a) {p : Int} (h0 : 0 ≤ p) (h1 : p < a.ws.length) : m55 a p = some (hd a p).1 := m55_hd W.ari h0 h1
theorem m72_w {a : Ar} (W : wok a) {p : Int} (h0 : 0 ≤ p) (h1 : p < a.ws.length) : m72 a p = some (hd a p).1 := m72_hd W.ari h0 h1
theorem map_set {W : List Int} {i : Nat} {x : Int} (h : i < W.length) : splice (W.map (Value.int .u64)) i [.int .u64 x] = (W.set i x).map (Value.int .u64) := by
 unfold splice
 rw [List.map_set, List.set_eq_take_append_cons_drop, if_pos (by simp; omega)]; simp
theorem cpW_step {W : List Int} {q p j : Nat} (hp : p + j < W.length) (hq : q + j < W.length) {x : Int} (hx : W[p + j]? = some x) : (cpW W q p j).set (q + j) x = cpW W q p (j + 1) := by
 refine List.ext_getElem? fun i => ?_
 have hl := cpW_len (W := W) (q := q) (p := p) (n := j) (by omega) (by omega)
 by_cases c : i = q + j
 ·subst c
  rw [List.getElem?_set_self (by omega), cpW_in (by omega) (by omega) (by omega), hx]
 ·rw [List.getElem?_set_ne (by omega)]
  by_cases c1 : i < q ∨ q + j + 1 ≤ i
  ·rw [cpW_out (by omega) (by omega) (by omega), cpW_out (by omega) (by omega) (by omega)]
  ·obtain ⟨k, rfl⟩ : ∃ k, i = q + k := ⟨i - q, by omega⟩
   rw [cpW_in (by omega) (by omega) (by omega), cpW_in (by omega) (by omega) (by omega)]
theorem cpW_src {W : List Int} {q p n j : Nat} (hp : p + n ≤ W.length) (hq : q + n ≤ W.length) (hj : j < n) (hap : q + n ≤ p ∨ p + n ≤ q) (k : Nat) (hk : k ≤ n) : (cpW W q p k)[p + j]? = W[p + j]? := cpW_out (by omega) (by omega) (by omega)
theorem cpW_0 (W : List Int) (q p : Nat) : cpW W q p 0 = W := by
 unfold cpW
 rw [List.take_zero, List.nil_append, Nat.add_zero, List.take_append_drop]
open Go Go.AH Go.AM
def RAV (h : AHeap) (wv rv : Value) (iw rw : Nat) (lw : Bool) (ir rr : Nat) (lr : Bool) (n : Nat) (rs : List Vl) (F : List FRow) (Q : List ORow) (M : List MRow) : Ar × Vl → Value → AHeap → Prop :=
 fun r v g => v = .tuple (List.toArray [arV wv rv r.1, r.2.v]) ∧ r.1.ws.length = n ∧ r.1.rs = rs ∧ Cx h.size g F (WRow iw rw lw r.1 :: RRow ir rr lr r.1 :: Q) M
theorem S2ar {wv rv : Value} {iw n ir m : Nat} {lw lr : Bool} (hw : LV wv iw lw n) (hr : LV rv ir lr m) (a : Ar) (v : Vl) : List.all [arV wv rv a, v.v] isS2 = true := by
 rcases hw with ⟨_, rfl⟩ | ⟨_, rfl, _⟩ <;> rcases hr with ⟨_, rfl⟩ | ⟨_, rfl, _⟩ <;> rfl
theorem LV.cell {v : Value} {i n : Nat} {l : Bool} (h : LV v i l n) : isCell v = true := h.isc
theorem arC {wv rv : Value} {iw n ir m : Nat} {lw lr : Bool} (hw : LV wv iw lw n) (hr : LV rv ir lr m) (a : Ar) : aCells (arV wv rv a) = some (arCells wv rv a) := arCells_ok hw.isc hr.isc
section
variable {D N : Nat} {h : AHeap} {F : List FRow} {Q : List ORow} {M : List MRow} {iw rw ir rr : Nat} {lw lr : Bool} {wv rv : Value}
theorem u82_3 {b : Ar} {v : Vl} {q : Int} (hw : LV wv iw lw b.ws.length) (hr : LV rv ir lr b.rs.length) {p2 p5 p7 p9 : Nat} {c7 c9 : List Value} (h7 : c7.length = 10) (h9 : c9.length = 2) (g : AHeap) (E0 : Ext h.size h g)
  (y0 : Cx h.size g F (⟨p9, p9, 42, true, c9⟩ :: ⟨p7, p7, 29, true, c7⟩ :: ⟨p5, p5, 42, true, [.int .i64 v.t, .int .i64 v.n]⟩ :: ⟨p2, p2, 29, true, arCells wv rv b⟩ :: WRow iw rw lw b :: RRow ir rr lr b :: Q) M) :
  SmR h (RAV h wv rv iw rw lw ir rr lr b.ws.length b.rs F Q M) (some (b, ⟨v.t, q⟩)) (s82_3 hk0 (call Tp Ms D) N (ptr p2 0) (ptr p5 0) (ptr p7 0) (ptr p9 0) q g) := by
 rw [s82_3_j, s82_3_eq]
 refine Sm.b rfl ?_
 refine Sm.sts y0 2 [.int .i64 v.t, .int .i64 q] rfl rfl rfl (by simp) rfl fun g1 X1 y1 => ?_
 have E1 := E0.trans X1
 refine Sm.b (y1.ldON 3 rfl rfl) ?_
 refine Sm.b (y1.ldON 2 rfl rfl) ?_
 refine Sm.sts y1 1 (arCells wv rv b) rfl (arC hw hr b) rfl (by rw [h7]; simp [arCells]) (by unfold splice; simp [h7, arCells]) fun g2 X2 y2 => ?_
 have E2 := E1.trans X2
 refine Sm.b (agA (y2.ldON 2 rfl rfl) (vbVl ⟨v.t, q⟩)) ?_
 refine Sm.ct rfl ?_
 refine Sm.sts y2 0 [.int .i64 v.t, .int .i64 q] rfl rfl rfl (by rw [h9]; simp) (by unfold splice; simp [h9]) fun g3 X3 y3 => ?_
 have E3 := E2.trans X3
 refine Sm.b (y3.ldON 1 rfl rfl) ?_
 refine Sm.b (y3.ldON 0 rfl rfl) ?_
 refine Sm.ct (S2ar hw hr b ⟨v.t, q⟩) ?_
 exact Sm.fin E3 ⟨rfl, rfl, rfl, y3.pick (.cons _ (.cons _ (.cons _ (.cons _ (List.Sublist.refl _)))))⟩
theorem u82_2 {a : Ar} {v : Vl} (W : wok a) (hl : (a.ws.length : Int) ≤ 8000) (G : Gc a v.n) (hn : 1 ≤ v.n) (hr : LV rv ir lr a.rs.length) {p2 p5 p7 p9 : Nat} {c7 c9 : List Value} (h7 : c7.length = 10) (h9 : c9.length = 2) :
  ∀ (f j : Nat) (g : AHeap), ((hd a v.n).1.s + 1).toNat - j < f → j ≤ ((hd a v.n).1.s + 1).toNat → Ext h.size h g →
   Cx h.size g F (⟨p9, p9, 42, true, c9⟩ :: ⟨p7, p7, 29, true, c7⟩ :: ⟨p5, p5, 42, true, [.int .i64 v.t, .int .i64 v.n]⟩ :: ⟨p2, p2, 29, true, arCells (slc iw 0 a.ws.length) rv a⟩ :: ⟨iw, rw, 74, true, (cpW a.ws a.top.toNat v.n.toNat j).map (Value.int .u64)⟩ :: RRow ir rr lr a :: Q) M →
   SmR h (RAV h (slc iw 0 a.ws.length) rv iw rw true ir rr lr a.ws.length a.rs F Q M) (some (cpA a v.n, ⟨v.t, a.top⟩)) (s82_2 hk0 (call Tp Ms D) N f (ptr p2 0) (ptr p5 0) (ptr p7 0) (ptr p9 0) a.top ((hd a v.n).1.s + 1) (j : Int) g)
 | 0, _, _, h, _, _, _ => absurd h (Nat.not_lt_zero _)
 | f + 1, j, g, hf, hj, E0, y0 => by
  obtain ⟨ok, x1, x2, x3, x4, x5⟩ := G
  have s := hok_s (hd_hok ok)
  have cl : ∀ k, k ≤ ((hd a v.n).1.s + 1).toNat → (cpW a.ws a.top.toNat v.n.toNat k).length = a.ws.length := fun k hk => cpW_len (by omega) (by omega)
  rw [s82_2_eq]
  by_cases c : j < ((hd a v.n).1.s + 1).toNat
  ·refine Sm.ct (decide_eq_true (by omega)) ?_
   refine Sm.b rfl ?_
   refine Sm.b (y0.ldO 3 0 rfl rfl) ?_
   refine Sm.b rfl ?_
   refine Sm.b (y0.ldO 3 0 rfl rfl) ?_
   refine Sm.b rfl ?_
   refine Sm.b (y0.ldO 2 1 rfl rfl) ?_
   refine Sm.b rfl ?_
   have hx : v.n.toNat + j < a.ws.length := by omega
   have er : rd (cpW a.ws a.top.toNat v.n.toNat j) (IntKind.i64.wrap (v.n + (j : Int))) = some a.ws[v.n.toNat + j] := by
    rw [wr (by omega) (by omega)]
    unfold rd
    rw [if_pos (by omega), show (v.n + (j : Int)).toNat = v.n.toNat + j by omega, cpW_src (n := ((hd a v.n).1.s + 1).toNat) (by omega) (by omega) c (by omega) j hj, List.getElem?_eq_getElem hx]
   obtain ⟨a1, a2⟩ := y0.atS 4 (Value.int .u64) _ rfl (.inl ⟨rfl, by rw [cl j hj]⟩ : LV (slc iw 0 a.ws.length) iw true _) er
   refine Sm.b a1 ?_
   refine Sm.b a2 ?_
   refine Sm.b rfl ?_
   have hq : a.top.toNat + j < a.ws.length := by omega
   refine Sm.b (show aIdx (slc iw 0 a.ws.length) (.int .i64 (IntKind.i64.wrap (a.top + (j : Int)))) 1 = some (ptr iw (a.top.toNat + j)) by
    rw [wr (by omega) (by omega)]
    simp only [aIdx, slc]
    rw [if_pos (by omega), show (a.top + (j : Int)).toNat = a.top.toNat + j by omega]; simp) ?_
   refine Sm.sts y0 4 ((cpW a.ws a.top.toNat v.n.toNat (j + 1)).map (Value.int .u64)) (vs := [.int .u64 a.ws[v.n.toNat + j]]) rfl rfl rfl (by simp [cl j hj]; omega) (by
    rw [map_set (by rw [cl j hj]; exact hq), cpW_step hx hq (List.getElem?_eq_getElem hx)]) fun g1 X1 y1 => ?_
   have E1 := E0.trans X1
   rw [wr0 (by omega)]
   exact u82_2 W hl ⟨ok, x1, x2, x3, x4, x5⟩ hn hr h7 h9 f (j + 1) g1 (by omega) c E1 y1
  ·have ej : j = ((hd a v.n).1.s + 1).toNat := by omega
   refine Sm.cf (decide_eq_false (by omega)) ?_
   refine Sm.b rfl ?_
   refine Sm.b (y0.ldO 3 0 rfl rfl) ?_
   refine Sm.b rfl ?_
   refine Sm.b (y0.ldO 2 1 rfl rfl) ?_
   refine Sm.b rfl ?_
   have hx : v.n.toNat < a.ws.length := by omega
   refine Sm.b (show aIdx (slc iw 0 a.ws.length) (.int .i64 v.n) 1 = some (ptr iw v.n.toNat) by
    simp only [aIdx, slc]
    rw [if_pos (by omega)]; simp) ?_
   rw [orW (by omega) (by omega)]
   refine Sm.sts y0 4 ((cpA a v.n).ws.map (Value.int .u64)) (vs := [.int .u64 (9223372036854775808 + a.top)]) rfl rfl rfl (by simp [cl j hj]; omega) (by
    rw [map_set (by rw [cl j hj]; exact hx), ej]; rfl) fun g1 X1 y1 => ?_
   have E1 := E0.trans X1
   refine Sm.b rfl ?_
   refine Sm.b (y1.ldO 3 3 rfl rfl) ?_
   refine Sm.b rfl ?_
   refine Sm.b rfl ?_
   rw [wr (x := a.top + ((hd a v.n).1.s + 1)) (by omega) (by omega)]
   refine Sm.sts y1 3 (arCells (slc iw 0 a.ws.length) rv { a with top := a.top + ((hd a v.n).1.s + 1) }) (vs := [.int .i64 (a.top + ((hd a v.n).1.s + 1))]) rfl rfl rfl (by simp [arCells]) rfl fun g2 X2 y2 => ?_
   have E2 := E1.trans X2
   refine Sm.b rfl ?_
   refine Sm.b (y2.ldO 3 7 rfl rfl) ?_
   refine Sm.b rfl ?_
   refine Sm.b rfl ?_
   show SmR h _ _ ((aSt g2 (ptr p2 7) (.int .i64 (IntKind.i64.wrap (a.cop + ((hd a v.n).1.s + 1)))) 1).bind _)
   rw [wr (x := a.cop + ((hd a v.n).1.s + 1)) (by omega) (by omega)]
   refine Sm.sts y2 3 (arCells (slc iw 0 a.ws.length) rv (cpA a v.n)) (vs := [.int .i64 (a.cop + ((hd a v.n).1.s + 1))]) rfl rfl rfl (by simp [arCells]) rfl fun g3 X3 y3 => ?_
   have E3 := E2.trans X3
   have el : (cpA a v.n).ws.length = a.ws.length := cpA_len s.1 (by omega) (by omega) (by omega) (by omega)
   have := u82_3 (D := D) (N := N) (h := h) (F := F) (Q := Q) (M := M) (rw := rw) (b := cpA a v.n) (v := v) (q := a.top) (.inl ⟨rfl, by rw [el]⟩ : LV (slc iw 0 a.ws.length) iw true (cpA a v.n).ws.length) hr h7 h9 g3 E3 y3
   rw [el] at this
   exact this
end
open Go Go.AH Go.AM
theorem fw_b {q : Int × Bool} (h : q.2 = true) : q = (q.1, true) := by cases q; cases h; rfl
theorem quoS {n s : Int} (hn : 0 ≤ n ∧ n ≤ 8000) (hs : 0 < s) : aBin .quo (.int .i64 n) (.int .i64 s) = some (.int .i64 (n / s)) := by
 refine quo_ok ?_
 unfold quoM
 rw [if_neg (by omega), Int.tdiv_eq_ediv_of_nonneg hn.1]
 have h1 : 0 ≤ n / s := Int.ediv_nonneg hn.1 (by omega)
 have h2 : n / s ≤ n := Int.ediv_le_self _ hn.1
 rw [wr (by omega) (by omega)]
section
variable {D N : Nat} {h : AHeap} {F : List FRow} {Q : List ORow} {M : List MRow} {iw rw ir rr : Nat} {lw lr : Bool} {wv rv : Value}
theorem u82_back {a : Ar} {v : Vl} (hw : LV wv iw lw a.ws.length) (hr : LV rv ir lr a.rs.length) {p2 p5 p7 p9 : Nat} {c7 c9 : List Value} (h7 : c7.length = 10) (h9 : c9.length = 2) (g : AHeap) (E0 : Ext h.size h g)
  (y0 : Cx h.size g F (⟨p9, p9, 42, true, c9⟩ :: ⟨p7, p7, 29, true, c7⟩ :: ⟨p5, p5, 42, true, [.int .i64 v.t, .int .i64 v.n]⟩ :: ⟨p2, p2, 29, true, arCells wv rv a⟩ :: WRow iw rw lw a :: RRow ir rr lr a :: Q) M) :
  SmR h (RAV h wv rv iw rw lw ir rr lr a.ws.length a.rs F Q M) (some (a, v)) (s82_0 hk0 (call Tp Ms D) N (ptr p2 0) (ptr p5 0) (ptr p7 0) (ptr p9 0) true g) := by
 rw [s82_0_j, s82_0_eq]
 refine Sm.ct rfl ?_
 refine Sm.b (y0.ldON 3 rfl rfl) ?_
 refine Sm.b (y0.ldON 2 rfl rfl) ?_
 refine Sm.sts y0 1 (arCells wv rv a) rfl (arC hw hr a) rfl (by rw [h7]; simp [arCells]) (by unfold splice; simp [h7, arCells]) fun g2 X2 y2 => ?_
 have E2 := E0.trans X2
 refine Sm.b (agA (y2.ldON 2 rfl rfl) (vbVl v)) ?_
 refine Sm.ct rfl ?_
 refine Sm.sts y2 0 [.int .i64 v.t, .int .i64 v.n] rfl rfl rfl (by rw [h9]; simp) (by unfold splice; simp [h9]) fun g3 X3 y3 => ?_
 have E3 := E2.trans X3
 refine Sm.b (y3.ldON 1 rfl rfl) ?_
 refine Sm.b (y3.ldON 0 rfl rfl) ?_
 refine Sm.ct (S2ar hw hr a v) ?_
 exact Sm.fin E3 ⟨rfl, rfl, rfl, y3.pick (.cons _ (.cons _ (.cons _ (.cons _ (List.Sublist.refl _)))))⟩
theorem u82 (hD : 20000 ≤ D) {a : Ar} (hw : LV wv iw lw a.ws.length) (hr : LV rv ir lr a.rs.length) (v : Vl) (g0 : AHeap) (E0 : Ext h.size h g0) (y0 : Cx h.size g0 F (WRow iw rw lw a :: RRow ir rr lr a :: Q) M) :
  SmR h (RAV h wv rv iw rw lw ir rr lr a.ws.length a.rs F Q M) (fwdP a v) (call Tp Ms D 82 [arV wv rv a, v.v] g0) := by
 obtain ⟨D, rfl⟩ : ∃ d, D = d + 1 := ⟨D - 1, by omega⟩
 rw [c82, e82]
 refine Sm.b (arC hw hr a) ?_
 refine Sm.n y0 fun p2 g1 X1 y1 => ?_
 have E1 := E0.trans (X1.mono E0.size)
 refine Sm.b rfl ?_
 refine Sm.n y1 fun p5 g2 X2 y2 => ?_
 have E2 := E1.trans (X2.mono E1.size)
 refine Sm.n y2 fun p7 g3 X3 y3 => ?_
 have E3 := E2.trans (X3.mono E2.size)
 refine Sm.n y3 fun p9 g4 X4 y4 => ?_
 have E4 := E3.trans (X4.mono E3.size)
 refine Sm.b (y4.ldON 2 rfl rfl) ?_
 unfold fwdP
 refine Sm.cv (m100_eq v) (t100 (by omega) v) fun v5 g5 X5 R5 => ?_
 obtain rfl : v5 = .bool (kindOf v.t != 0) := R5
 have y5 := y4.ext X5
 have E5 := E4.trans (X5.mono E4.size)
 refine Sm.b rfl ?_
 by_cases hk : kindOf v.t = 0
 ·rw [if_pos hk]
  refine Sm.ct (by rw [hk]; rfl) ?_
  exact u82_back hw hr rfl rfl g5 E5 y5
 ·rw [if_neg hk]
  refine Sm.cf (by rw [bne_iff_ne.2 hk]; rfl) ?_
  by_cases G : Gd a v.n
  case neg => rw [if_pos G]; exact Sm.none
  rw [if_neg (fun x => x G)]
  obtain ⟨W, hcyc, hs, hlen, hto, hn, _⟩ := G
  refine Sm.b rfl ?_
  refine Sm.b (y5.ldO 2 1 rfl rfl) ?_
  refine Sm.b rfl ?_
  refine Sm.b rfl ?_
  refine Sm.b (y5.ldO 3 1 rfl rfl) ?_
  refine Sm.b rfl ?_
  refine Sm.b (quoS (by omega) (by omega)) ?_
  refine Sm.b rfl ?_
  refine Sm.b rfl ?_
  refine Sm.b (y5.ldO 3 2 rfl rfl) ?_
  refine Sm.b rfl ?_
  by_cases hd1 : v.n / a.semi = a.to
  ·rw [if_pos hd1, beq_iff_eq.2 hd1]
   exact u82_back hw hr rfl rfl g5 E5 y5
  ·rw [if_neg hd1, beq_eq_false_iff_ne.2 hd1, s82_0_j, s82_0_eq]
   refine Sm.cf rfl ?_
   rw [s82_1_j, s82_1_eq]
   obtain ⟨hlw, hwv⟩ := LV.up hw (by omega)
   subst hlw hwv
   refine Sm.b rfl ?_
   refine Sm.b (y5.ldO 3 0 rfl rfl) ?_
   refine Sm.b rfl ?_
   refine Sm.b (y5.ldO 2 1 rfl rfl) ?_
   refine Sm.b rfl ?_
   obtain ⟨w, ew, _, _, e91, _⟩ := hd_exw W (p := v.n) (by omega) (by omega)
   obtain ⟨a1, a2⟩ := y5.atS 4 (Value.int .u64) a.ws rfl (LV.mk iw _) ew
   refine Sm.b a1 ?_
   refine Sm.b a2 ?_
   refine Sm.b rfl ?_
   refine Sm.cv e91 (t91 (by omega) w) fun v6 g6 X6 R6 => ?_
   obtain rfl : v6 = eIB (fw a v.n) := R6
   have y6 := y5.ext X6
   have E6 := E5.trans (X6.mono E5.size)
   refine Sm.b rfl ?_
   refine Sm.b rfl ?_
   refine Sm.b rfl ?_
   refine Sm.b rfl ?_
   by_cases hf : (fw a v.n).2 = true
   ·rw [if_pos hf]
    refine Sm.cf (by rw [hf]; rfl) ?_
    exact u82_3 (b := a) (v := v) (q := (fw a v.n).1) hw hr rfl rfl g6 E6 y6
   ·rw [if_neg hf]
    refine Sm.ct (by rw [Bool.not_eq_true] at hf; rw [hf]; rfl) ?_
    by_cases Gc' : Gc a v.n
    case neg => rw [if_pos Gc']; exact Sm.none
    rw [if_neg (fun x => x Gc')]
    refine Sm.b (y6.ldON 3 rfl rfl) ?_
    refine Sm.b rfl ?_
    refine Sm.b (y6.ldO 2 1 rfl rfl) ?_
    refine Sm.b rfl ?_
    have H6 : ArH g6 (slc iw 0 a.ws.length) rv a := Cx.arH y6 4 5 rfl rfl (LV.mk iw _) hr
    refine Sm.cv (m55_w W (by omega) (by omega)) (t55 (by omega) H6 v.n) fun v7 g7 X7 R7 => ?_
    obtain rfl : v7 = (hd a v.n).1.v := R7
    have y7 := y6.ext X7
    have E7 := E6.trans (X7.mono E6.size)
    have s := hok_s (hd_hok Gc'.1)
    refine Sm.b rfl ?_
    refine Sm.b rfl ?_
    refine Sm.b rfl ?_
    refine Sm.b (y7.ldO 3 3 rfl rfl) ?_
    refine Sm.b rfl ?_
    rw [wr (x := (hd a v.n).1.s + 1) (by omega) (by omega)]
    refine u82_2 (c7 := [.slice none 0 0, .int .i64 0, .int .i64 0, .int .i64 0, .bool false, .int .i64 0, .int .i64 0, .int .i64 0, .int .i64 0, .slice none 0 0]) (c9 := [.int .i64 0, .int .i64 0]) W (by omega) Gc' hn.1 hr rfl rfl D 0 g7 (by omega) (Nat.zero_le _) E7 ?_
    rw [cpW_0]
    exact y7
end
end Go.Proofs.YtnjnggejbpkgoaaGreat
