import Derived.Test.YtajpnemfppaafaaGreatXAD
import Derived.KernelRfl
import Derived.Test.YtajpnemfppaafaaGreatProg
import Derived.Test.YtajpnemfppaafaaGreatXAG
import Derived.Test.YtajpnemfppaafaaGreatXAI
set_option linter.unusedSimpArgs false
set_option linter.unusedVariables false
namespace Go.Proofs.YtajpnemfppaafaaGreat
open Go Go.AH
noncomputable section
variable (hk : Hk (Value × AHeap)) (C : ACall) (N : Nat)
def F4_0 : Nx (Value × AHeap) := evSt hk Tp C M4 N Tryz.f4 [1, 1, 1, 1, 1, 1, 0, 1] []
def s4_0 (x3 : ByteArray) (x7 : Value) (x57 : Bool) (h : AHeap) := hk 100009 (⟨105, [(3, .string x3), (7, x7), (57, .bool x57)]⟩) h (F4_0 hk C N)
def F4_1 : Nx (Value × AHeap) := evSt hk Tp C M4 N Tryz.f4 [1, 1, 1, 1, 1, 1, 1] []
def s4_1 (x3 : ByteArray) (x7 : Value) (h : AHeap) := hk 10 (⟨105, [(3, .string x3), (7, x7)]⟩) h (F4_1 hk C N)
theorem e4 (x0 : Value) (h : AHeap) : evFn hk Tp C M4 N Tryz.f4 [x0] h =
  (C 19 [x0] h).bind fun r1 => (asB r1.1).bind fun b2 => bif b2 then some (.bool true, r1.2) else (C 20 [x0] r1.2).bind fun r3 => (asS r3.1).bind fun t4 => (C 21 [.string t4] r3.2).bind fun r5 => (aExt r5.1 0).bind fun v6 => (aExt r5.1 1).bind fun v7 => (asI .i64 v7).bind fun n8 => (aExt r5.1 2).bind fun v9 => (asI .i64 v9).bind fun n10 => aNew r5.2 41 [.slice none 0 0, .int .i64 0] fun p11 h12 => (aSt h12 p11 v6 2).bind fun h13 => (C 22 [.string t4] h13).bind fun r14 => (aExt r14.1 0).bind fun v15 => (aExt r14.1 1).bind fun v16 => (asI .i64 v16).bind fun n17 => (aExt r14.1 2).bind fun v18 => (asI .i64 v18).bind fun n19 => aNew r14.2 41 [.slice none 0 0, .int .i64 0] fun p20 h21 => (aSt h21 p20 v15 2).bind fun h22 => bif n17 != 0 then bif n8 == n17 then bif n10 == n19 then (aOff p11 0).bind fun v23 => (aLd1 h22 v23).bind fun v24 => (aLen v24).bind fun v25 => (asI .i64 v25).bind fun n26 => some (.bool (n26 == 0), h22) else some (.bool false, h22) else some (.bool false, h22) else bif n8 != 0 then s4_0 hk C N t4 p20 true h22 else (aLdN h22 p11 2).bind fun v27 => (C 23 [v27] h22).bind fun r28 => (asB r28.1).bind fun b29 => bif !b29 then s4_0 hk C N t4 p20 true r28.2 else (aLdN r28.2 p11 2).bind fun v30 => (aLdN r28.2 p20 2).bind fun v31 => (C 24 [v30, v31] r28.2).bind fun r32 => (asB r32.1).bind fun b33 => s4_0 hk C N t4 p20 (!b33) r32.2 := by kernel_rfl
theorem s4_0_j (x3 : ByteArray) (x7 : Value) (x57 : Bool) (h : AHeap) : s4_0 hk0 C N x3 x7 x57 h = F4_0 hk0 C N (⟨105, [(3, .string x3), (7, x7), (57, .bool x57)]⟩) h := by delta s4_0; exact hk0_app _ _ _ _
theorem s4_0_eq (x3 : ByteArray) (x7 : Value) (x57 : Bool) (h : AHeap) : F4_0 hk C N (⟨105, [(3, .string x3), (7, x7), (57, .bool x57)]⟩) h =
  bif x57 then some (.bool false, h) else s4_1 hk C N x3 x7 h := by kernel_rfl
theorem s4_1_j (x3 : ByteArray) (x7 : Value) (h : AHeap) : s4_1 hk0 C N x3 x7 h = F4_1 hk0 C N (⟨105, [(3, .string x3), (7, x7)]⟩) h := by delta s4_1; exact hk0_app _ _ _ _
theorem s4_1_eq (x3 : ByteArray) (x7 : Value) (h : AHeap) : F4_1 hk C N (⟨105, [(3, .string x3), (7, x7)]⟩) h =
  bif decide ((IntKind.i64.wrap ((IntKind.i64.wrap (2 * (ByteArray.size x3 : Int))) + 1)) > 3000) then some (.bool true, h) else (aBin .add (.string x3) (.string (⟨#[10]⟩))).bind fun v34 => (asS v34).bind fun t35 => (aBin .add (.string t35) (.string x3)).bind fun v36 => (asS v36).bind fun t37 => (C 21 [.string t37] h).bind fun r38 => (aExt r38.1 0).bind fun v39 => (aExt r38.1 1).bind fun v40 => (asI .i64 v40).bind fun n41 => (aExt r38.1 2).bind fun v42 => (asI .i64 v42).bind fun n43 => aNew r38.2 41 [.slice none 0 0, .int .i64 0] fun p44 h45 => (aSt h45 p44 v39 2).bind fun h46 => bif n41 == 0 then (aOff p44 0).bind fun v47 => (aLd1 h46 v47).bind fun v48 => (aLen v48).bind fun v49 => (asI .i64 v49).bind fun n50 => (aOff x7 0).bind fun v51 => (aLd1 h46 v51).bind fun v52 => (aLen v52).bind fun v53 => (asI .i64 v53).bind fun n54 => bif n50 == (IntKind.i64.wrap ((IntKind.i64.wrap (2 * n54)) - 1)) then (aOff p44 0).bind fun v55 => (aLd1 h46 v55).bind fun v56 => (aOff p44 1).bind fun v57 => (aLd1 h46 v57).bind fun v58 => (asI .i64 v58).bind fun n59 => (aIdx v56 (.int .i64 n59) 4).bind fun v60 => (aOff v60 3).bind fun v61 => (aLd1 h46 v61).bind fun v62 => (aLen v62).bind fun v63 => (asI .i64 v63).bind fun n64 => (aOff x7 0).bind fun v65 => (aLd1 h46 v65).bind fun v66 => (aOff x7 1).bind fun v67 => (aLd1 h46 v67).bind fun v68 => (asI .i64 v68).bind fun n69 => (aIdx v66 (.int .i64 n69) 4).bind fun v70 => (aOff v70 3).bind fun v71 => (aLd1 h46 v71).bind fun v72 => (aLen v72).bind fun v73 => (asI .i64 v73).bind fun n74 => some (.bool (n64 == (IntKind.i64.wrap (2 * n74))), h46) else some (.bool false, h46) else some (.bool false, h46) := by kernel_rfl
theorem c4 (d : Nat) (args : List Value) (h : AHeap) : call Tp Ms (d + 1) 4 args h = evFn hk0 Tp (call Tp Ms d) M4 d Tryz.f4 args h := by kernel_rfl
theorem e20 (x0 : Value) (h : AHeap) : evFn hk Tp C M20 N Tryz.f20 [x0] h =
  (C 98 [x0] h).bind fun r1 => (C 99 [r1.1, x0] r1.2).bind fun r2 => (asS r2.1).bind fun t3 => some (.string t3, r2.2) := by kernel_rfl
theorem c20 (d : Nat) (args : List Value) (h : AHeap) : call Tp Ms (d + 1) 20 args h = evFn hk0 Tp (call Tp Ms d) M20 d Tryz.f20 args h := by kernel_rfl
def F24_0 : Nx (Value × AHeap) := evSt hk Tp C M24 N Tryz.f24 [1, 0, 1] []
def s24_0 (x2 x3 : Value) (x22 : Bool) (h : AHeap) := hk 100002 (⟨86, [(2, x2), (3, x3), (22, .bool x22)]⟩) h (F24_0 hk C N)
def F24_1 : Nx (Value × AHeap) := evSt hk Tp C M24 N Tryz.f24 [1, 1] []
def s24_1 (x2 x3 : Value) (h : AHeap) := hk 3 (⟨86, [(2, x2), (3, x3)]⟩) h (F24_1 hk C N)
def F24_2 (n1 : Nat) : Nx (Value × AHeap) := evSt hk Tp C M24 N Tryz.f24 [1, 1, 0, 1, 2, 6] [n1]
def s24_2 (n1 : Nat) (x2 x3 : Value) (x5 : Int) (h : AHeap) := F24_2 hk C N n1 (⟨86, [(2, x2), (3, x3), (5, .int .i64 x5)]⟩) h
def F24_3 (n1 : Nat) : Nx (Value × AHeap) := evSt hk Tp C M24 N Tryz.f24 [1, 1, 0, 1, 2, 3, 1, 0, 2, 1, 0, 1] [n1]
def s24_3 (n1 : Nat) (x2 x3 : Value) (x5 : Int) (x6 x7 : Value) (x67 : Bool) (h : AHeap) := hk 100008 (⟨86, [(2, x2), (3, x3), (5, .int .i64 x5), (6, x6), (7, x7), (67, .bool x67)]⟩) h (F24_3 hk C N n1)
def F24_4 (n1 : Nat) : Nx (Value × AHeap) := evSt hk Tp C M24 N Tryz.f24 [1, 1, 0, 1, 2, 3, 1, 0, 2, 1, 1] [n1]
def s24_4 (n1 : Nat) (x2 x3 : Value) (x5 : Int) (x6 x7 : Value) (h : AHeap) := hk 9 (⟨86, [(2, x2), (3, x3), (5, .int .i64 x5), (6, x6), (7, x7)]⟩) h (F24_4 hk C N n1)
def F24_5 (n1 n2 : Nat) : Nx (Value × AHeap) := evSt hk Tp C M24 N Tryz.f24 [1, 1, 0, 1, 2, 3, 1, 0, 2, 1, 1, 1, 2, 6] [n1, n2]
def s24_5 (n1 n2 : Nat) (x2 x3 : Value) (x5 : Int) (x6 x7 : Value) (x8 : Int) (h : AHeap) := F24_5 hk C N n1 n2 (⟨86, [(2, x2), (3, x3), (5, .int .i64 x5), (6, x6), (7, x7), (8, .int .i64 x8)]⟩) h
theorem e24 (x0 x1 : Value) (h : AHeap) : evFn hk Tp C M24 N Tryz.f24 [x0, x1] h =
  (aCells x0).bind fun c1 => aNew h 41 c1 fun p2 h3 => (aCells x1).bind fun c4 => aNew h3 41 c4 fun p5 h6 => (aOff p2 0).bind fun v7 => (aLd1 h6 v7).bind fun v8 => (aLen v8).bind fun v9 => (asI .i64 v9).bind fun n10 => (aOff p5 0).bind fun v11 => (aLd1 h6 v11).bind fun v12 => (aLen v12).bind fun v13 => (asI .i64 v13).bind fun n14 => bif n10 != n14 then s24_0 hk C N p2 p5 true h6 else (aOff p2 1).bind fun v15 => (aLd1 h6 v15).bind fun v16 => (asI .i64 v16).bind fun n17 => (aOff p5 1).bind fun v18 => (aLd1 h6 v18).bind fun v19 => (asI .i64 v19).bind fun n20 => s24_0 hk C N p2 p5 (n17 != n20) h6 := by kernel_rfl
theorem s24_0_j (x2 x3 : Value) (x22 : Bool) (h : AHeap) : s24_0 hk0 C N x2 x3 x22 h = F24_0 hk0 C N (⟨86, [(2, x2), (3, x3), (22, .bool x22)]⟩) h := by delta s24_0; exact hk0_app _ _ _ _
theorem s24_0_eq (x2 x3 : Value) (x22 : Bool) (h : AHeap) : F24_0 hk C N (⟨86, [(2, x2), (3, x3), (22, .bool x22)]⟩) h =
  bif x22 then some (.bool false, h) else s24_1 hk C N x2 x3 h := by kernel_rfl
theorem s24_1_j (x2 x3 : Value) (h : AHeap) : s24_1 hk0 C N x2 x3 h = F24_1 hk0 C N (⟨86, [(2, x2), (3, x3)]⟩) h := by delta s24_1; exact hk0_app _ _ _ _
theorem s24_1_eq (x2 x3 : Value) (h : AHeap) : F24_1 hk C N (⟨86, [(2, x2), (3, x3)]⟩) h =
  s24_2 hk C N N x2 x3 0 h := by kernel_rfl
theorem s24_2_eq (n1 : Nat) (x2 x3 : Value) (x5 : Int) (h : AHeap) : s24_2 hk C N (n1 + 1) x2 x3 x5 h =
  (aOff x2 0).bind fun v21 => (aLd1 h v21).bind fun v22 => (aLen v22).bind fun v23 => (asI .i64 v23).bind fun n24 => bif decide (x5 < n24) then (aOff x2 0).bind fun v25 => (aLd1 h v25).bind fun v26 => (aIdx v26 (.int .i64 x5) 4).bind fun v27 => (aLdN h v27 4).bind fun v28 => (aOff x3 0).bind fun v29 => (aLd1 h v29).bind fun v30 => (aIdx v30 (.int .i64 x5) 4).bind fun v31 => (aLdN h v31 4).bind fun v32 => aNew h 48 [.int .i64 0, .string ⟨#[]⟩, .int .i64 0, .slice none 0 0] fun p33 h34 => aNew h34 48 [.int .i64 0, .string ⟨#[]⟩, .int .i64 0, .slice none 0 0] fun p35 h36 => (aSt h36 p33 v28 4).bind fun h37 => ((aLd1 h37 v29).bind fun v38 => some (vbeq v38 v30)).bind fun b39 => bif b39 then ((aLdN h37 v31 4).bind fun v40 => some (vbeq v40 v32)).bind fun b41 => bif b41 then (aSt h37 p35 v32 4).bind fun h42 => (aOff p33 0).bind fun v43 => (aLd1 h42 v43).bind fun v44 => (asI .i64 v44).bind fun n45 => (aOff p35 0).bind fun v46 => (aLd1 h42 v46).bind fun v47 => (asI .i64 v47).bind fun n48 => bif n45 != n48 then s24_3 hk C N n1 x2 x3 x5 p33 p35 true h42 else (aOff p33 1).bind fun v49 => (aLd1 h42 v49).bind fun v50 => (asS v50).bind fun t51 => (aOff p35 1).bind fun v52 => (aLd1 h42 v52).bind fun v53 => (asS v53).bind fun t54 => bif !(t51.toList == t54.toList) then s24_3 hk C N n1 x2 x3 x5 p33 p35 true h42 else (aOff p33 2).bind fun v55 => (aLd1 h42 v55).bind fun v56 => (asI .i64 v56).bind fun n57 => (aOff p35 2).bind fun v58 => (aLd1 h42 v58).bind fun v59 => (asI .i64 v59).bind fun n60 => bif n57 != n60 then s24_3 hk C N n1 x2 x3 x5 p33 p35 true h42 else (aOff p33 3).bind fun v61 => (aLd1 h42 v61).bind fun v62 => (aLen v62).bind fun v63 => (asI .i64 v63).bind fun n64 => (aOff p35 3).bind fun v65 => (aLd1 h42 v65).bind fun v66 => (aLen v66).bind fun v67 => (asI .i64 v67).bind fun n68 => s24_3 hk C N n1 x2 x3 x5 p33 p35 (n64 != n68) h42 else none else none else some (.bool true, h) := by kernel_rfl
theorem s24_3_j (n1 : Nat) (x2 x3 : Value) (x5 : Int) (x6 x7 : Value) (x67 : Bool) (h : AHeap) : s24_3 hk0 C N n1 x2 x3 x5 x6 x7 x67 h = F24_3 hk0 C N n1 (⟨86, [(2, x2), (3, x3), (5, .int .i64 x5), (6, x6), (7, x7), (67, .bool x67)]⟩) h := by delta s24_3; exact hk0_app _ _ _ _
theorem s24_3_eq (n1 : Nat) (x2 x3 : Value) (x5 : Int) (x6 x7 : Value) (x67 : Bool) (h : AHeap) : F24_3 hk C N n1 (⟨86, [(2, x2), (3, x3), (5, .int .i64 x5), (6, x6), (7, x7), (67, .bool x67)]⟩) h =
  bif x67 then some (.bool false, h) else s24_4 hk C N n1 x2 x3 x5 x6 x7 h := by kernel_rfl
theorem s24_4_j (n1 : Nat) (x2 x3 : Value) (x5 : Int) (x6 x7 : Value) (h : AHeap) : s24_4 hk0 C N n1 x2 x3 x5 x6 x7 h = F24_4 hk0 C N n1 (⟨86, [(2, x2), (3, x3), (5, .int .i64 x5), (6, x6), (7, x7)]⟩) h := by delta s24_4; exact hk0_app _ _ _ _
theorem s24_4_eq (n1 : Nat) (x2 x3 : Value) (x5 : Int) (x6 x7 : Value) (h : AHeap) : F24_4 hk C N n1 (⟨86, [(2, x2), (3, x3), (5, .int .i64 x5), (6, x6), (7, x7)]⟩) h =
  s24_5 hk C N n1 N x2 x3 x5 x6 x7 0 h := by kernel_rfl
theorem s24_5_eq (n1 n2 : Nat) (x2 x3 : Value) (x5 : Int) (x6 x7 : Value) (x8 : Int) (h : AHeap) : s24_5 hk C N n1 (n2 + 1) x2 x3 x5 x6 x7 x8 h =
  (aOff x6 3).bind fun v69 => (aLd1 h v69).bind fun v70 => (aLen v70).bind fun v71 => (asI .i64 v71).bind fun n72 => bif decide (x8 < n72) then (aOff x6 3).bind fun v73 => (aLd1 h v73).bind fun v74 => (aIdx v74 (.int .i64 x8) 1).bind fun v75 => (aLd1 h v75).bind fun v76 => (asI .i64 v76).bind fun n77 => (aOff x7 3).bind fun v78 => (aLd1 h v78).bind fun v79 => (aIdx v79 (.int .i64 x8) 1).bind fun v80 => (aLd1 h v80).bind fun v81 => (asI .i64 v81).bind fun n82 => bif n77 != n82 then some (.bool false, h) else s24_5 hk C N n1 n2 x2 x3 x5 x6 x7 (IntKind.i64.wrap (x8 + 1)) h else s24_2 hk C N n1 x2 x3 (IntKind.i64.wrap (x5 + 1)) h := by kernel_rfl
theorem c24 (d : Nat) (args : List Value) (h : AHeap) : call Tp Ms (d + 1) 24 args h = evFn hk0 Tp (call Tp Ms d) M24 d Tryz.f24 args h := by kernel_rfl
end
noncomputable section
variable (hk : Hk (Value × AHeap)) (C : ACall) (N : Nat)
theorem e382 (x0 : Value) (h : AHeap) : evFn hk Tp C M382 N Tryz.f382 [x0] h =
  (C 405 [x0] h).bind fun r1 => (asI .i64 r1.1).bind fun n2 => aNewS r1.2 9 [.string (⟨#[61, 61]⟩), .string (⟨#[126, 61]⟩), .string (⟨#[60]⟩), .string (⟨#[60, 61]⟩)] 4 fun p3 h4 => (C 406 [x0, p3] h4).bind fun r5 => (asI .i64 r5.1).bind fun n6 => bif n6 == 0 then some (.int .i64 n2, r5.2) else (aNil x0).bind fun v7 => (aOff v7 1).bind fun v8 => (aLd1 r5.2 v8).bind fun v9 => (asI .i64 v9).bind fun n10 => (aNil x0).bind fun v11 => (aOff v11 1).bind fun v12 => (aSt r5.2 v12 (.int .i64 (IntKind.i64.wrap (n10 + 1))) 1).bind fun h13 => (C 405 [x0] h13).bind fun r14 => (asI .i64 r14.1).bind fun n15 => aNewS r14.2 3 [.int .i64 n2, .int .i64 n15] 2 fun p16 h17 => (C 102 [x0, .int .i64 10, .string ⟨#[]⟩, .int .i64 n6, p16] h17).bind fun r18 => (asI .i64 r18.1).bind fun n19 => some (.int .i64 n19, r18.2) := by kernel_rfl
theorem c382 (d : Nat) (args : List Value) (h : AHeap) : call Tp Ms (d + 1) 382 args h = evFn hk0 Tp (call Tp Ms d) M382 d Tryz.f382 args h := by kernel_rfl
theorem e405 (x0 : Value) (h : AHeap) : evFn hk Tp C M405 N Tryz.f405 [x0] h =
  (aFn 416 [x0] []).bind fun v1 => aNewS h 9 [.string (⟨#[46, 46]⟩)] 1 fun p2 h3 => (C 415 [x0, v1, p2] h3).bind fun r4 => (asI .i64 r4.1).bind fun n5 => some (.int .i64 n5, r4.2) := by kernel_rfl
theorem c405 (d : Nat) (args : List Value) (h : AHeap) : call Tp Ms (d + 1) 405 args h = evFn hk0 Tp (call Tp Ms d) M405 d Tryz.f405 args h := by kernel_rfl
def F406_0 (n1 : Nat) : Nx (Value × AHeap) := evSt hk Tp C M406 N Tryz.f406 [1, 0, 1, 2, 6] [n1]
def s406_0 (n1 : Nat) (x0 x7 : Value) (x8 x9 : Int) (h : AHeap) := F406_0 hk C N n1 (⟨21, [(0, x0), (7, x7), (8, .int .i64 x8), (9, .int .i64 x9)]⟩) h
theorem e406 (x0 x1 : Value) (h : AHeap) : evFn hk Tp C M406 N Tryz.f406 [x0, x1] h =
  (aLen x1).bind fun v1 => (asI .i64 v1).bind fun n2 => s406_0 hk C N N x0 x1 n2 0 h := by kernel_rfl
theorem s406_0_eq (n1 : Nat) (x0 x7 : Value) (x8 x9 : Int) (h : AHeap) : s406_0 hk C N (n1 + 1) x0 x7 x8 x9 h =
  bif decide (x9 < x8) then (aIdx x7 (.int .i64 x9) 1).bind fun v3 => (aLd1 h v3).bind fun v4 => (asS v4).bind fun t5 => (C 280 [x0, .string t5] h).bind fun r6 => (asB r6.1).bind fun b7 => bif b7 then (C 341 [] r6.2).bind fun r8 => (C 128 [r8.1, .string t5] r8.2).bind fun r9 => (asI .i64 r9.1).bind fun n10 => some (.int .i64 (IntKind.i64.wrap (1 + n10)), r9.2) else s406_0 hk C N n1 x0 x7 x8 (IntKind.i64.wrap (x9 + 1)) r6.2 else some (.int .i64 0, h) := by kernel_rfl
theorem c406 (d : Nat) (args : List Value) (h : AHeap) : call Tp Ms (d + 1) 406 args h = evFn hk0 Tp (call Tp Ms d) M406 d Tryz.f406 args h := by kernel_rfl
def F415_0 (n1 : Nat) : Nx (Value × AHeap) := evSt hk Tp C M415 N Tryz.f415 [1, 1, 2, 6] [n1]
def s415_0 (n1 : Nat) (x0 x1 x2 : Value) (x7 : Int) (h : AHeap) := F415_0 hk C N n1 (⟨33, [(0, x0), (1, x1), (2, x2), (7, .int .i64 x7)]⟩) h
theorem e415 (x0 x1 x2 : Value) (h : AHeap) : evFn hk Tp C M415 N Tryz.f415 [x0, x1, x2] h =
  (aCallV C x1 [] h).bind fun r1 => (asI .i64 r1.1).bind fun n2 => s415_0 hk C N N x0 x1 x2 n2 r1.2 := by kernel_rfl
theorem s415_0_eq (n1 : Nat) (x0 x1 x2 : Value) (x7 : Int) (h : AHeap) : s415_0 hk C N (n1 + 1) x0 x1 x2 x7 h =
  (C 406 [x0, x2] h).bind fun r3 => (asI .i64 r3.1).bind fun n4 => bif n4 == 0 then some (.int .i64 x7, r3.2) else (aNil x0).bind fun v5 => (aOff v5 1).bind fun v6 => (aLd1 r3.2 v6).bind fun v7 => (asI .i64 v7).bind fun n8 => (aNil x0).bind fun v9 => (aOff v9 1).bind fun v10 => (aSt r3.2 v10 (.int .i64 (IntKind.i64.wrap (n8 + 1))) 1).bind fun h11 => (aCallV C x1 [] h11).bind fun r12 => (asI .i64 r12.1).bind fun n13 => aNewS r12.2 3 [.int .i64 x7, .int .i64 n13] 2 fun p14 h15 => (C 102 [x0, .int .i64 10, .string ⟨#[]⟩, .int .i64 n4, p14] h15).bind fun r16 => (asI .i64 r16.1).bind fun n17 => s415_0 hk C N n1 x0 x1 x2 n17 r16.2 := by kernel_rfl
theorem c415 (d : Nat) (args : List Value) (h : AHeap) : call Tp Ms (d + 1) 415 args h = evFn hk0 Tp (call Tp Ms d) M415 d Tryz.f415 args h := by kernel_rfl
theorem e416 (x0 : Value) (h : AHeap) : evFn hk Tp C M416 N Tryz.f416 [x0] h =
  (aFn 421 [x0] []).bind fun v1 => aNewS h 9 [.string (⟨#[43]⟩), .string (⟨#[45]⟩)] 2 fun p2 h3 => (C 415 [x0, v1, p2] h3).bind fun r4 => (asI .i64 r4.1).bind fun n5 => some (.int .i64 n5, r4.2) := by kernel_rfl
theorem c416 (d : Nat) (args : List Value) (h : AHeap) : call Tp Ms (d + 1) 416 args h = evFn hk0 Tp (call Tp Ms d) M416 d Tryz.f416 args h := by kernel_rfl
theorem e421 (x0 : Value) (h : AHeap) : evFn hk Tp C M421 N Tryz.f421 [x0] h =
  (aFn 424 [x0] []).bind fun v1 => aNewS h 9 [.string (⟨#[42]⟩), .string (⟨#[47]⟩), .string (⟨#[37]⟩)] 3 fun p2 h3 => (C 415 [x0, v1, p2] h3).bind fun r4 => (asI .i64 r4.1).bind fun n5 => some (.int .i64 n5, r4.2) := by kernel_rfl
theorem c421 (d : Nat) (args : List Value) (h : AHeap) : call Tp Ms (d + 1) 421 args h = evFn hk0 Tp (call Tp Ms d) M421 d Tryz.f421 args h := by kernel_rfl
def F424_0 : Nx (Value × AHeap) := evSt hk Tp C M424 N Tryz.f424 [1, 1, 1] []
def s424_0 (x0 : Value) (x3 : Int) (h : AHeap) := hk 9 (⟨39, [(0, x0), (3, .int .i64 x3)]⟩) h (F424_0 hk C N)
theorem e424 (x0 : Value) (h : AHeap) : evFn hk Tp C M424 N Tryz.f424 [x0] h =
  (C 280 [x0, .string (⟨#[45]⟩)] h).bind fun r1 => (asB r1.1).bind fun b2 => bif b2 then s424_0 hk C N x0 1 r1.2 else (C 280 [x0, .string (⟨#[110, 111, 116]⟩)] r1.2).bind fun r3 => (asB r3.1).bind fun b4 => bif b4 then s424_0 hk C N x0 2 r3.2 else (C 280 [x0, .string (⟨#[35]⟩)] r3.2).bind fun r5 => (asB r5.1).bind fun b6 => bif b6 then s424_0 hk C N x0 3 r5.2 else (C 425 [x0] r5.2).bind fun r7 => (asI .i64 r7.1).bind fun n8 => some (.int .i64 n8, r7.2) := by kernel_rfl
theorem s424_0_j (x0 : Value) (x3 : Int) (h : AHeap) : s424_0 hk0 C N x0 x3 h = F424_0 hk0 C N (⟨39, [(0, x0), (3, .int .i64 x3)]⟩) h := by delta s424_0; exact hk0_app _ _ _ _
theorem s424_0_eq (x0 : Value) (x3 : Int) (h : AHeap) : F424_0 hk C N (⟨39, [(0, x0), (3, .int .i64 x3)]⟩) h =
  (C 283 [x0] h).bind fun r9 => (aNil x0).bind fun v10 => (aOff v10 1).bind fun v11 => (aLd1 r9.2 v11).bind fun v12 => (asI .i64 v12).bind fun n13 => (aNil x0).bind fun v14 => (aOff v14 1).bind fun v15 => (aSt r9.2 v15 (.int .i64 (IntKind.i64.wrap (n13 + 1))) 1).bind fun h16 => (C 424 [x0] h16).bind fun r17 => (asI .i64 r17.1).bind fun n18 => (aNil x0).bind fun v19 => (aOff v19 3).bind fun v20 => (aLd1 r17.2 v20).bind fun v21 => (asI .i64 v21).bind fun n22 => (aNil x0).bind fun v23 => (aOff v23 3).bind fun v24 => (aSt r17.2 v24 (.int .i64 (IntKind.i64.wrap (n22 - 1))) 1).bind fun h25 => aNewS h25 3 [.int .i64 n18] 1 fun p26 h27 => (C 102 [x0, .int .i64 11, .string ⟨#[]⟩, .int .i64 x3, p26] h27).bind fun r28 => (asI .i64 r28.1).bind fun n29 => some (.int .i64 n29, r28.2) := by kernel_rfl
theorem c424 (d : Nat) (args : List Value) (h : AHeap) : call Tp Ms (d + 1) 424 args h = evFn hk0 Tp (call Tp Ms d) M424 d Tryz.f424 args h := by kernel_rfl
def F425_0 (n1 : Nat) : Nx (Value × AHeap) := evSt hk Tp C M425 N Tryz.f425 [1, 1, 2, 6] [n1]
def s425_0 (n1 : Nat) (x0 : Value) (x3 : Int) (h : AHeap) := F425_0 hk C N n1 (⟨47, [(0, x0), (3, .int .i64 x3)]⟩) h
theorem e425 (x0 : Value) (h : AHeap) : evFn hk Tp C M425 N Tryz.f425 [x0] h =
  (C 426 [x0] h).bind fun r1 => (asI .i64 r1.1).bind fun n2 => s425_0 hk C N N x0 n2 r1.2 := by kernel_rfl
theorem s425_0_eq (n1 : Nat) (x0 : Value) (x3 : Int) (h : AHeap) : s425_0 hk C N (n1 + 1) x0 x3 h =
  (C 194 [x0, .string (⟨#[91]⟩)] h).bind fun r3 => (asB r3.1).bind fun b4 => bif b4 then (C 197 [x0] r3.2).bind fun r5 => (asI .i64 r5.1).bind fun n6 => (C 196 [x0, .string (⟨#[93]⟩)] r5.2).bind fun r7 => aNewS r7.2 3 [.int .i64 x3, .int .i64 n6] 2 fun p8 h9 => (C 102 [x0, .int .i64 8, .string ⟨#[]⟩, .int .i64 0, p8] h9).bind fun r10 => (asI .i64 r10.1).bind fun n11 => s425_0 hk C N n1 x0 n11 r10.2 else (C 194 [x0, .string (⟨#[46]⟩)] r3.2).bind fun r12 => (asB r12.1).bind fun b13 => bif b13 then (C 195 [x0] r12.2).bind fun r14 => (asS r14.1).bind fun t15 => (C 102 [x0, .int .i64 4, .string t15, .int .i64 0, (.slice none 0 0)] r14.2).bind fun r16 => (asI .i64 r16.1).bind fun n17 => aNewS r16.2 3 [.int .i64 x3, .int .i64 n17] 2 fun p18 h19 => (C 102 [x0, .int .i64 8, .string ⟨#[]⟩, .int .i64 0, p18] h19).bind fun r20 => (asI .i64 r20.1).bind fun n21 => s425_0 hk C N n1 x0 n21 r20.2 else (C 280 [x0, .string (⟨#[40]⟩)] r12.2).bind fun r22 => (asB r22.1).bind fun b23 => bif b23 then aNewS r22.2 3 [.int .i64 x3] 1 fun p24 h25 => (C 427 [x0] h25).bind fun r26 => (aApp r26.2 3 1 8 p24 r26.1).bind fun r27 => (C 102 [x0, .int .i64 9, .string ⟨#[]⟩, .int .i64 0, r27.1] r27.2).bind fun r28 => (asI .i64 r28.1).bind fun n29 => s425_0 hk C N n1 x0 n29 r28.2 else some (.int .i64 x3, r22.2) := by kernel_rfl
theorem c425 (d : Nat) (args : List Value) (h : AHeap) : call Tp Ms (d + 1) 425 args h = evFn hk0 Tp (call Tp Ms d) M425 d Tryz.f425 args h := by kernel_rfl
theorem e426 (x0 : Value) (h : AHeap) : evFn hk Tp C M426 N Tryz.f426 [x0] h =
  (C 281 [x0] h).bind fun r1 => aNew r1.2 233 [.int .i64 0, .int .i64 0, .string ⟨#[]⟩, .int .i64 0] fun p2 h3 => (aSt h3 p2 r1.1 4).bind fun h4 => (aOff p2 0).bind fun v5 => (aLd1 h4 v5).bind fun v6 => (asI .i64 v6).bind fun n7 => bif n7 == 3 then (aNil x0).bind fun v8 => (aOff v8 1).bind fun v9 => (aLd1 h4 v9).bind fun v10 => (asI .i64 v10).bind fun n11 => (aNil x0).bind fun v12 => (aOff v12 1).bind fun v13 => (aSt h4 v13 (.int .i64 (IntKind.i64.wrap (n11 + 1))) 1).bind fun h14 => (aOff p2 3).bind fun v15 => (aLd1 h14 v15).bind fun v16 => (asI .i64 v16).bind fun n17 => (C 102 [x0, .int .i64 3, .string ⟨#[]⟩, .int .i64 n17, (.slice none 0 0)] h14).bind fun r18 => (asI .i64 r18.1).bind fun n19 => some (.int .i64 n19, r18.2) else bif n7 == 4 then (aNil x0).bind fun v20 => (aOff v20 1).bind fun v21 => (aLd1 h4 v21).bind fun v22 => (asI .i64 v22).bind fun n23 => (aNil x0).bind fun v24 => (aOff v24 1).bind fun v25 => (aSt h4 v25 (.int .i64 (IntKind.i64.wrap (n23 + 1))) 1).bind fun h26 => (aOff p2 2).bind fun v27 => (aLd1 h26 v27).bind fun v28 => (asS v28).bind fun t29 => (C 102 [x0, .int .i64 4, .string t29, .int .i64 0, (.slice none 0 0)] h26).bind fun r30 => (asI .i64 r30.1).bind fun n31 => some (.int .i64 n31, r30.2) else bif n7 == 1 then (aNil x0).bind fun v32 => (aOff v32 1).bind fun v33 => (aLd1 h4 v33).bind fun v34 => (asI .i64 v34).bind fun n35 => (aNil x0).bind fun v36 => (aOff v36 1).bind fun v37 => (aSt h4 v37 (.int .i64 (IntKind.i64.wrap (n35 + 1))) 1).bind fun h38 => (aOff p2 2).bind fun v39 => (aLd1 h38 v39).bind fun v40 => (asS v40).bind fun t41 => (C 102 [x0, .int .i64 5, .string t41, .int .i64 0, (.slice none 0 0)] h38).bind fun r42 => (asI .i64 r42.1).bind fun n43 => some (.int .i64 n43, r42.2) else (C 194 [x0, .string (⟨#[110, 105, 108]⟩)] h4).bind fun r44 => (asB r44.1).bind fun b45 => bif b45 then (C 102 [x0, .int .i64 1, .string ⟨#[]⟩, .int .i64 0, (.slice none 0 0)] r44.2).bind fun r46 => (asI .i64 r46.1).bind fun n47 => some (.int .i64 n47, r46.2) else (C 194 [x0, .string (⟨#[116, 114, 117, 101]⟩)] r44.2).bind fun r48 => (asB r48.1).bind fun b49 => bif b49 then (C 102 [x0, .int .i64 2, .string ⟨#[]⟩, .int .i64 1, (.slice none 0 0)] r48.2).bind fun r50 => (asI .i64 r50.1).bind fun n51 => some (.int .i64 n51, r50.2) else (C 194 [x0, .string (⟨#[102, 97, 108, 115, 101]⟩)] r48.2).bind fun r52 => (asB r52.1).bind fun b53 => bif b53 then (C 102 [x0, .int .i64 2, .string ⟨#[]⟩, .int .i64 0, (.slice none 0 0)] r52.2).bind fun r54 => (asI .i64 r54.1).bind fun n55 => some (.int .i64 n55, r54.2) else (C 194 [x0, .string (⟨#[40]⟩)] r52.2).bind fun r56 => (asB r56.1).bind fun b57 => bif b57 then (C 197 [x0] r56.2).bind fun r58 => (asI .i64 r58.1).bind fun n59 => (C 196 [x0, .string (⟨#[41]⟩)] r58.2).bind fun r60 => some (.int .i64 n59, r60.2) else (C 194 [x0, .string (⟨#[102, 110]⟩)] r56.2).bind fun r61 => (asB r61.1).bind fun b62 => bif b62 then (C 428 [x0] r61.2).bind fun r63 => (asI .i64 r63.1).bind fun n64 => some (.int .i64 n64, r63.2) else (C 280 [x0, .string (⟨#[123]⟩)] r61.2).bind fun r65 => (asB r65.1).bind fun b66 => bif b66 then (C 429 [x0] r65.2).bind fun r67 => (asI .i64 r67.1).bind fun n68 => some (.int .i64 n68, r67.2) else (C 282 [x0, .int .i64 2] r65.2).bind fun r69 => some (.int .i64 0, r69.2) := by kernel_rfl
theorem c426 (d : Nat) (args : List Value) (h : AHeap) : call Tp Ms (d + 1) 426 args h = evFn hk0 Tp (call Tp Ms d) M426 d Tryz.f426 args h := by kernel_rfl
def F427_0 (n1 : Nat) : Nx (Value × AHeap) := evSt hk Tp C M427 N Tryz.f427 [1, 1, 1, 1, 2, 6] [n1]
def s427_0 (n1 : Nat) (x0 x3 : Value) (h : AHeap) := F427_0 hk C N n1 (⟨23, [(0, x0), (3, x3)]⟩) h
theorem e427 (x0 : Value) (h : AHeap) : evFn hk Tp C M427 N Tryz.f427 [x0] h =
  (C 196 [x0, .string (⟨#[40]⟩)] h).bind fun r1 => aNewS r1.2 3 [] 0 fun p2 h3 => (C 194 [x0, .string (⟨#[41]⟩)] h3).bind fun r4 => (asB r4.1).bind fun b5 => bif b5 then some (p2, r4.2) else s427_0 hk C N N x0 p2 r4.2 := by kernel_rfl
theorem s427_0_eq (n1 : Nat) (x0 x3 : Value) (h : AHeap) : s427_0 hk C N (n1 + 1) x0 x3 h =
  (C 197 [x0] h).bind fun r6 => (asI .i64 r6.1).bind fun n7 => aNewS r6.2 3 [.int .i64 n7] 1 fun p8 h9 => (aApp h9 3 1 8 x3 p8).bind fun r10 => (C 194 [x0, .string (⟨#[44]⟩)] r10.2).bind fun r11 => (asB r11.1).bind fun b12 => bif !b12 then (C 196 [x0, .string (⟨#[41]⟩)] r11.2).bind fun r13 => some (r10.1, r13.2) else s427_0 hk C N n1 x0 r10.1 r11.2 := by kernel_rfl
theorem c427 (d : Nat) (args : List Value) (h : AHeap) : call Tp Ms (d + 1) 427 args h = evFn hk0 Tp (call Tp Ms d) M427 d Tryz.f427 args h := by kernel_rfl
def F428_0 (n1 : Nat) : Nx (Value × AHeap) := evSt hk Tp C M428 N Tryz.f428 [1, 1, 1, 0, 1, 4, 2, 6] [n1]
def s428_0 (n1 : Nat) (x0 x3 : Value) (h : AHeap) := F428_0 hk C N n1 (⟨33, [(0, x0), (3, x3)]⟩) h
def F428_1 : Nx (Value × AHeap) := evSt hk Tp C M428 N Tryz.f428 [1, 1, 1, 1] []
def s428_1 (x0 x3 : Value) (h : AHeap) := hk 8 (⟨33, [(0, x0), (3, x3)]⟩) h (F428_1 hk C N)
theorem e428 (x0 : Value) (h : AHeap) : evFn hk Tp C M428 N Tryz.f428 [x0] h =
  (C 196 [x0, .string (⟨#[40]⟩)] h).bind fun r1 => aNewS r1.2 3 [] 0 fun p2 h3 => (C 194 [x0, .string (⟨#[41]⟩)] h3).bind fun r4 => (asB r4.1).bind fun b5 => bif !b5 then s428_0 hk C N N x0 p2 r4.2 else s428_1 hk C N x0 p2 r4.2 := by kernel_rfl
theorem s428_0_eq (n1 : Nat) (x0 x3 : Value) (h : AHeap) : s428_0 hk C N (n1 + 1) x0 x3 h =
  (C 195 [x0] h).bind fun r6 => (asS r6.1).bind fun t7 => (C 102 [x0, .int .i64 22, .string t7, .int .i64 0, (.slice none 0 0)] r6.2).bind fun r8 => (asI .i64 r8.1).bind fun n9 => aNewS r8.2 3 [.int .i64 n9] 1 fun p10 h11 => (aApp h11 3 1 8 x3 p10).bind fun r12 => (C 194 [x0, .string (⟨#[44]⟩)] r12.2).bind fun r13 => (asB r13.1).bind fun b14 => bif !b14 then (C 196 [x0, .string (⟨#[41]⟩)] r13.2).bind fun r15 => s428_1 hk C N x0 r12.1 r15.2 else s428_0 hk C N n1 x0 r12.1 r13.2 := by kernel_rfl
theorem s428_1_j (x0 x3 : Value) (h : AHeap) : s428_1 hk0 C N x0 x3 h = F428_1 hk0 C N (⟨33, [(0, x0), (3, x3)]⟩) h := by delta s428_1; exact hk0_app _ _ _ _
theorem s428_1_eq (x0 x3 : Value) (h : AHeap) : F428_1 hk C N (⟨33, [(0, x0), (3, x3)]⟩) h =
  (C 198 [x0] h).bind fun r16 => (asI .i64 r16.1).bind fun n17 => aNewS r16.2 3 [.int .i64 n17] 1 fun p18 h19 => (aApp h19 3 1 8 x3 p18).bind fun r20 => (C 102 [x0, .int .i64 6, .string ⟨#[]⟩, .int .i64 0, r20.1] r20.2).bind fun r21 => (asI .i64 r21.1).bind fun n22 => some (.int .i64 n22, r21.2) := by kernel_rfl
theorem c428 (d : Nat) (args : List Value) (h : AHeap) : call Tp Ms (d + 1) 428 args h = evFn hk0 Tp (call Tp Ms d) M428 d Tryz.f428 args h := by kernel_rfl
def F429_0 (n1 : Nat) : Nx (Value × AHeap) := evSt hk Tp C M429 N Tryz.f429 [1, 1, 1, 0, 1, 4, 2, 6] [n1]
def s429_0 (n1 : Nat) (x0 x3 : Value) (h : AHeap) := F429_0 hk C N n1 (⟨25, [(0, x0), (3, x3)]⟩) h
theorem e429 (x0 : Value) (h : AHeap) : evFn hk Tp C M429 N Tryz.f429 [x0] h =
  (C 196 [x0, .string (⟨#[123]⟩)] h).bind fun r1 => aNewS r1.2 3 [] 0 fun p2 h3 => (C 194 [x0, .string (⟨#[125]⟩)] h3).bind fun r4 => (asB r4.1).bind fun b5 => bif !b5 then s429_0 hk C N N x0 p2 r4.2 else (C 102 [x0, .int .i64 7, .string ⟨#[]⟩, .int .i64 0, p2] r4.2).bind fun r6 => (asI .i64 r6.1).bind fun n7 => some (.int .i64 n7, r6.2) := by kernel_rfl
theorem s429_0_eq (n1 : Nat) (x0 x3 : Value) (h : AHeap) : s429_0 hk C N (n1 + 1) x0 x3 h =
  (C 430 [x0] h).bind fun r8 => (asI .i64 r8.1).bind fun n9 => aNewS r8.2 3 [.int .i64 n9] 1 fun p10 h11 => (aApp h11 3 1 8 x3 p10).bind fun r12 => (C 194 [x0, .string (⟨#[44]⟩)] r12.2).bind fun r13 => (asB r13.1).bind fun b14 => bif !b14 then (C 196 [x0, .string (⟨#[125]⟩)] r13.2).bind fun r15 => (C 102 [x0, .int .i64 7, .string ⟨#[]⟩, .int .i64 0, r12.1] r15.2).bind fun r16 => (asI .i64 r16.1).bind fun n17 => some (.int .i64 n17, r16.2) else s429_0 hk C N n1 x0 r12.1 r13.2 := by kernel_rfl
theorem c429 (d : Nat) (args : List Value) (h : AHeap) : call Tp Ms (d + 1) 429 args h = evFn hk0 Tp (call Tp Ms d) M429 d Tryz.f429 args h := by kernel_rfl
end
structure PSt where
 at' : Nat
 nest : Int
 nodes : List Kn
 code : Int
 place : Int
structure PC where
 p : Nat
 tv : Value
 toks : List Tok
 en : Int
def TokH (h : AHeap) (v : Value) (ts : List Tok) : Prop := (v = .slice none 0 0 ∧ ts = []) ∨ ∃ i, v = slc i 0 ts.length ∧ RowE h i 233 (flat ts)
def KidH (h : AHeap) (kv : Value) (ks : List Int) : Prop := (kv = .slice none 0 0 ∧ ks = []) ∨ ∃ i rt, kv = slc i 0 ks.length ∧ OwnR h i rt 3 (ints ks)
def NodesH (h : AHeap) (nv : Value) (ns : List Kn) (rn : Option Nat) : Prop :=
 (nv = .slice none 0 0 ∧ ns = [] ∧ rn = none) ∨
 ∃ i root cells, nv = slc i 0 ns.length ∧ rn = some root ∧ OwnR h i root 48 cells ∧ ns.length * 4 ≤ cells.length ∧ ∀ (j : Nat) (n : Kn), ns[j]? = some n → ∃ kv, (cells.drop (j * 4)).take 4 = knCells n kv ∧ KidH h kv n.ks
def pcells (c : PC) (nv : Value) (st : PSt) : List Value := [c.tv, .int .i64 st.at', .int .i64 c.en, .int .i64 st.nest, nv, .int .i64 st.code, .int .i64 st.place]
def PH (c : PC) (h : AHeap) (st : PSt) (rn : Option Nat) : Prop := ∃ nv, OwnR h c.p c.p 124 (pcells c nv st) ∧ TokH h c.tv c.toks ∧ NodesH h nv st.nodes rn
def PK (rn : Option Nat) (h h' : AHeap) : Prop := h.size ≤ h'.size ∧ (∀ j o, h.at? j = some o → o.elem ≠ 124 → (o.elem = 48 → rn ≠ some o.root) → h'.at? j = some o) ∧ ∀ r, r < h.size → h'.tip 3 r = h.tip 3 r
def PRN (rn rn' : Option Nat) (h : AHeap) : Prop := rn' = rn ∨ ∃ r, rn' = some r ∧ h.size ≤ r
theorem PK.refl (rn : Option Nat) (h : AHeap) : PK rn h h := ⟨Nat.le_refl _, fun _ _ a _ _ => a, fun _ _ => rfl⟩
theorem PRN.refl (rn : Option Nat) (h : AHeap) : PRN rn rn h := .inl rfl
theorem PK.trans {rn rn1 : Option Nat} {h h1 h2 : AHeap} (x : PK rn h h1) (r : PRN rn rn1 h) (y : PK rn1 h1 h2) : PK rn h h2 :=
 ⟨Nat.le_trans x.1 y.1, fun j o a b c => y.2.1 j o (x.2.1 j o a b c) b (fun e => by
  rcases r with rfl | ⟨q, rfl, hq⟩
  ·exact c e
  ·have := at?_obj a
   intro hh
   have : q = o.root := by simpa using hh
   omega), fun q hq => (y.2.2 q (Nat.lt_of_lt_of_le hq x.1)).trans (x.2.2 q hq)⟩
theorem PRN.trans {rn rn1 rn2 : Option Nat} {h h1 : AHeap} (hs : h.size ≤ h1.size) (x : PRN rn rn1 h) (y : PRN rn1 rn2 h1) : PRN rn rn2 h := by
 rcases y with rfl | ⟨q, rfl, hq⟩
 ·exact x
 ·exact .inr ⟨q, rfl, Nat.le_trans hs hq⟩
theorem PK.ext {rn : Option Nat} {h h' : AHeap} (x : Ext h.size h h') : PK rn h h' := ⟨x.size, fun j o a _ _ => x.at? (at?_obj a).2.1 a, fun r hr => x.tip 3 r hr⟩
theorem RowE.pk {rn : Option Nat} {h h' : AHeap} {i : Nat} {e : TypeId} {cs : List Value} (x : RowE h i e cs) (k : PK rn h h') (h1 : e ≠ 124) (h2 : e ≠ 48) : RowE h' i e cs :=
 let ⟨o, a, b, c⟩ := x; ⟨o, k.2.1 i o a (by rw [b]; exact h1) (fun e' => absurd (b.symm.trans e') h2), b, c⟩
theorem OwnR.pk {rn : Option Nat} {h h' : AHeap} {i rt : Nat} {e : TypeId} {cs : List Value} (x : OwnR h i rt e cs) (k : PK rn h h') (h1 : e ≠ 124) (h2 : e ≠ 48) : OwnR h' i rt e cs :=
 let ⟨ep, a⟩ := x; ⟨ep, k.2.1 i _ a h1 (fun e' => absurd e' h2)⟩
theorem TokH.pk {rn : Option Nat} {h h' : AHeap} {v : Value} {ts : List Tok} (x : TokH h v ts) (k : PK rn h h') : TokH h' v ts := by
 rcases x with a | ⟨i, a, b⟩
 ·exact .inl a
 ·exact .inr ⟨i, a, b.pk k (by decide) (by decide)⟩
theorem KidH.pk {rn : Option Nat} {h h' : AHeap} {v : Value} {ks : List Int} (x : KidH h v ks) (k : PK rn h h') : KidH h' v ks := by
 rcases x with a | ⟨i, rt, a, b⟩
 ·exact .inl a
 ·exact .inr ⟨i, rt, a, b.pk k (by decide) (by decide)⟩
theorem KidH.cell {h : AHeap} {v : Value} {ks : List Int} (x : KidH h v ks) : isCell v = true := by
 rcases x with ⟨rfl, _⟩ | ⟨i, rt, rfl, _⟩ <;> rfl
theorem NodesH.cell {h : AHeap} {v : Value} {ns : List Kn} {rn : Option Nat} (x : NodesH h v ns rn) : isCell v = true := by
 rcases x with ⟨rfl, _⟩ | ⟨i, rt, cs, rfl, _⟩ <;> rfl
theorem KidH.ext {h h' : AHeap} {v : Value} {ks : List Int} (x : KidH h v ks) (e : Ext h.size h h') : KidH h' v ks := x.pk (PK.ext e (rn := none))
theorem NodesH.ext {h h' : AHeap} {v : Value} {ns : List Kn} {rn : Option Nat} (x : NodesH h v ns rn) (e : Ext h.size h h') : NodesH h' v ns rn := by
 rcases x with a | ⟨i, rt, cs, a, b, c, d, f⟩
 ·exact .inl a
 ·exact .inr ⟨i, rt, cs, a, b, c.ext e, d, fun j n hn => let ⟨kv, y, z⟩ := f j n hn; ⟨kv, y, z.ext e⟩⟩
theorem PH.ext {c : PC} {h h' : AHeap} {st : PSt} {rn : Option Nat} (x : PH c h st rn) (e : Ext h.size h h') : PH c h' st rn :=
 let ⟨nv, a, b, d⟩ := x; ⟨nv, a.ext e, b.pk (PK.ext e (rn := none)), d.ext e⟩
theorem stP {h : AHeap} {p i : Nat} {cells : List Value} (o : OwnR h p p 124 cells) (hi : i < cells.length) {v : Value} (hv : aCells v = some [v]) :
  ∃ h', aSt h (ptr p i) v 1 = some h' ∧ OwnR h' p p 124 (cells.set i v) ∧ h'.size = h.size ∧ (∀ j o, h.at? j = some o → o.elem ≠ 124 → h'.at? j = some o) ∧ (∀ r, h'.tip 3 r = h.tip 3 r) := by
 obtain ⟨ep, h1⟩ := o
 have hsp : splice cells i [v] = cells.set i v := by
  unfold splice
  rw [List.set_eq_take_append_cons_drop, if_pos hi]; simp
 refine ⟨h.put p ⟨p, ep, false, 124, cells⟩ (splice cells i [v]), by simp [aSt, ptr, h1, hv]; omega, ⟨h.ep 124 p + 1, ?_⟩, rfl, fun k o ho hk => at?_put_other ho (fun e => by subst e; rw [h1] at ho; cases ho; exact hk rfl) _ (fun hh => hk hh.1), fun r => by simp [AHeap.put]⟩
 rw [← hsp]; exact at?_put_same h1 _
theorem NodesH.keep {h h' : AHeap} {v : Value} {ns : List Kn} {rn : Option Nat} (x : NodesH h v ns rn) (k : ∀ j o, h.at? j = some o → o.elem ≠ 124 → h'.at? j = some o) : NodesH h' v ns rn := by
 rcases x with a | ⟨i, rt, cs, a, b, ⟨ep, c⟩, d, f⟩
 ·exact .inl a
 ·refine .inr ⟨i, rt, cs, a, b, ⟨ep, k i _ c (by show (48 : TypeId) ≠ 124; decide)⟩, d, fun j n hn => ?_⟩
  obtain ⟨kv, y, z⟩ := f j n hn
  refine ⟨kv, y, ?_⟩
  rcases z with z | ⟨i', rt', z1, ep', z2⟩
  ·exact .inl z
  ·exact .inr ⟨i', rt', z1, ep', k i' _ z2 (by show (3 : TypeId) ≠ 124; decide)⟩
theorem PH.st {c : PC} {h : AHeap} {st st' : PSt} {rn : Option Nat} (x : PH c h st rn) {i : Nat} (hi : i < 7) {v : Value} (hv : aCells v = some [v]) (hn : st'.nodes = st.nodes) (hc : ∀ nv, (pcells c nv st).set i v = pcells c nv st') :
  ∃ h', aSt h (ptr c.p i) v 1 = some h' ∧ PH c h' st' rn ∧ PK rn h h' ∧ h'.size = h.size ∧ (∀ j o, h.at? j = some o → o.elem ≠ 124 → h'.at? j = some o) := by
 obtain ⟨nv, a, b, d⟩ := x
 obtain ⟨h', t, o', s, k, tp⟩ := stP a (i := i) hi hv
 rw [hc] at o'
 have pk : PK rn h h' := ⟨by omega, fun j o hj h81 _ => k j o hj h81, fun r _ => tp r⟩
 exact ⟨h', t, ⟨nv, o', b.pk pk, by rw [hn]; exact d.keep k⟩, pk, s, k⟩
theorem PH.ld {c : PC} {h : AHeap} {st : PSt} {rn : Option Nat} (x : PH c h st rn) : ∃ nv, NodesH h nv st.nodes rn ∧ aLd1 h (ptr c.p 0) = some c.tv ∧ aLd1 h (ptr c.p 1) = some (.int .i64 st.at') ∧ aLd1 h (ptr c.p 2) = some (.int .i64 c.en) ∧ aLd1 h (ptr c.p 3) = some (.int .i64 st.nest) ∧ aLd1 h (ptr c.p 4) = some nv ∧ aLd1 h (ptr c.p 5) = some (.int .i64 st.code) ∧ aLd1 h (ptr c.p 6) = some (.int .i64 st.place) := by
 obtain ⟨nv, a, b, d⟩ := x
 have r := a.row
 exact ⟨nv, d, r.ld1 rfl, r.ld1 rfl, r.ld1 rfl, r.ld1 rfl, r.ld1 rfl, r.ld1 rfl, r.ld1 rfl⟩
theorem TokH.len {h : AHeap} {v : Value} {ts : List Tok} (x : TokH h v ts) : aLen v = some (.int .i64 ts.length) := by
 rcases x with ⟨rfl, rfl⟩ | ⟨i, rfl, _⟩ <;> rfl
theorem TokH.at {h : AHeap} {v : Value} {ts : List Tok} (x : TokH h v ts) {j : Nat} (hj : j < ts.length) : ∃ p, aIdx v (.int .i64 (j : Int)) 4 = some p ∧ aLdN h p 4 = some ts[j].val := by
 rcases x with ⟨rfl, rfl⟩ | ⟨i, rfl, hr⟩
 ·simp at hj
 ·refine ⟨ptr i (j * 4), by simp [aIdx, slc, hj], ?_⟩
  rw [hr.row.ldN (by rw [flat_len]; omega), flat_at ts j hj]; rfl
theorem nil_ptr (p : Nat) : aNil (ptr p 0) = some (ptr p 0) := rfl
def pk (c : PC) (st : PSt) : Tok := if st.code ≠ 0 then ⟨0, c.en, ⟨#[]⟩, 0⟩ else (c.toks[st.at']?).getD ⟨0, c.en, ⟨#[]⟩, 0⟩
theorem l155 {d : Nat} {c : PC} {h : AHeap} {st : PSt} {rn : Option Nat} (x : PH c h st rn) : ∃ h', call Tp Ms (d + 1) 281 [ptr c.p 0] h = some ((pk c st).val, h') ∧ Ext h.size h h' := by
 have e1 := Ext.new (Nat.le_refl h.size) 233 tok0.cells
 have o1 := TB.new h tok0
 have hz : ([Value.int .i64 0, .int .i64 0, .string ⟨#[]⟩, .int .i64 0] : List Value) = tok0.cells := rfl
 have x1 := x.ext e1
 rw [c281, e281]
 simp only [aNew, hz]
 generalize h.new 233 tok0.cells = h1 at e1 o1 x1 ⊢
 have x1' := x1
 obtain ⟨nv0, _, tk, _⟩ := x1'
 obtain ⟨nv, _, a0, a1, a2, a3, a4, a5, a6⟩ := x1.ld
 have fin : ∀ t : Tok, ∃ h', ((aSt h1 (ptr h.size 0) t.val 4).bind fun h2 => (aLdN h2 (ptr h.size 0) 4).bind fun v => some (v, h2)) = some (t.val, h') ∧ Ext h.size h h' := fun t => by
  obtain ⟨h2, t2, x2, q2⟩ := o1.stAll t
  refine ⟨h2, ?_, e1.trans x2⟩
  rw [t2, oBs, TB.ldAll q2.row, oBs]
 have gone : ∃ h', s281_0 hk0 (call Tp Ms d) d (ptr c.p 0) (ptr h.size 0) true h1 = some ((⟨0, c.en, ⟨#[]⟩, 0⟩ : Tok).val, h') ∧ Ext h.size h h' := by
  obtain ⟨h', z1, z2⟩ := fin ⟨0, c.en, ⟨#[]⟩, 0⟩
  refine ⟨h', ?_, z2⟩
  rw [s281_0_j, s281_0_eq, cond_true, nil_ptr, oBs]
  simp only [aOff_ptr, Nat.zero_add, oBs, a2, asI, if_true]
  exact z1
 simp only [nil_ptr, aOff_ptr, Nat.zero_add, oBs, a5, asI, if_true]
 unfold pk
 by_cases hcode : st.code = 0
 ·have : (st.code != 0) = false := by rw [hcode]; rfl
  rw [this, cond_false, if_neg (by simp [hcode])]
  simp only [a0, a1, oBs, tk.len, asI, if_true]
  by_cases hlt : st.at' < c.toks.length
  ·have hn : ¬ ((st.at' : Int) ≥ (c.toks.length : Int)) := by omega
   obtain ⟨pt, b1, b2⟩ := tk.at hlt
   obtain ⟨h', z1, z2⟩ := fin c.toks[st.at']
   refine ⟨h', ?_, z2⟩
   rw [decide_eq_false hn, s281_0_j, s281_0_eq, cond_false, s281_1_j, s281_1_eq, List.getElem?_eq_getElem hlt]
   simp only [nil_ptr, aOff_ptr, Nat.zero_add, oBs, a0, a1, asI, if_true, b1, b2, Option.getD_some]
   exact z1
  ·have hn : ((st.at' : Int) ≥ (c.toks.length : Int)) := by omega
   rw [decide_eq_true hn, List.getElem?_eq_none (by omega)]
   exact gone
 ·have : (st.code != 0) = true := by simp [hcode]
  rw [this, cond_true, if_pos hcode]
  exact gone
def Pp (c : PC) (h : AHeap) (rn : Option Nat) (r : Option (Value × AHeap)) (v : Value) (st' : PSt) : Prop := ∃ h' rn', r = some (v, h') ∧ PH c h' st' rn' ∧ PK rn h h' ∧ PRN rn rn' h
theorem Pp.of {c : PC} {h h1 : AHeap} {rn rn1 : Option Nat} {r : Option (Value × AHeap)} {v : Value} {st' : PSt} (k : PK rn h h1) (n : PRN rn rn1 h) (x : Pp c h1 rn1 r v st') : Pp c h rn r v st' :=
 let ⟨h', rn', a, b, d, e⟩ := x; ⟨h', rn', a, b, k.trans n d, PRN.trans k.1 n e⟩
theorem Pp.ext {c : PC} {h h1 : AHeap} {rn : Option Nat} {r : Option (Value × AHeap)} {v : Value} {st' : PSt} (k : Ext h.size h h1) (x : Pp c h1 rn r v st') : Pp c h rn r v st' := Pp.of (PK.ext k) (.inl rfl) x
def unit : Value := .tuple (List.toArray [])
def failP (c : PC) (st : PSt) (code : Int) : PSt := if st.code = 0 then { st with place := (pk c st).at', code := code } else st
theorem l156 {d : Nat} {c : PC} {h : AHeap} {st : PSt} {rn : Option Nat} (x : PH c h st rn) (code : Int) : Pp c h rn (call Tp Ms (d + 2) 282 [ptr c.p 0, .int .i64 code] h) unit (failP c st code) := by
 rw [c282, e282]
 obtain ⟨nv, _, a0, a1, a2, a3, a4, a5, a6⟩ := x.ld
 simp only [nil_ptr, aOff_ptr, Nat.zero_add, oBs, a5, asI, if_true]
 unfold failP
 by_cases hc : st.code = 0
 ·obtain ⟨h2, c2, x2⟩ := l155 (d := d) x
  have y2 := x.ext x2
  rw [hc, show ((0 : Int) == 0) = true from rfl, cond_true, c2, oBs, if_pos rfl]
  have hp : aPart (pk c st).val 1 1 false = some (.int .i64 (pk c st).at') := rfl
  obtain ⟨h3, t3, y3, k3, s3, _⟩ := PH.st (st' := { st with place := (pk c st).at' }) y2 (i := 6) (by omega) (v := .int .i64 (pk c st).at') rfl rfl (fun nv => rfl)
  obtain ⟨h4, t4, y4, k4, s4, _⟩ := PH.st (st' := { st with place := (pk c st).at', code := code }) y3 (i := 5) (by omega) (v := .int .i64 code) rfl rfl (fun nv => rfl)
  refine Pp.ext x2 ⟨h4, rn, ?_, y4, k3.trans (.inl rfl) k4, .inl rfl⟩
  simp only [hp, oBs, asI, if_true, nil_ptr, aOff_ptr, Nat.zero_add, t3, t4]
  rfl
 ·rw [beq_eq_false_iff_ne.2 hc, cond_false, if_neg hc]
  exact ⟨h, rn, rfl, x, PK.refl _ _, .inl rfl⟩
def isP (c : PC) (st : PSt) (t : ByteArray) : Bool := if (pk c st).k = 5 then (pk c st).text.toList == t.toList else if (pk c st).k = 2 then (pk c st).text.toList == t.toList else false
theorem tokRow (h : AHeap) (t : Tok) : ∃ h', aSt (h.new 233 [.int .i64 0, .int .i64 0, .string ⟨#[]⟩, .int .i64 0]) (ptr h.size 0) t.val 4 = some h' ∧ Ext h.size h h' ∧ RowE h' h.size 233 t.cells ∧ h'.size = h.size + 1 := by
 have o1 := TB.new h tok0
 obtain ⟨h', a, b, e, s⟩ := Own.stN (n := 4) (v := t.val) o1 t.aCells rfl rfl
 exact ⟨h', a, (Ext.new (Nat.le_refl h.size) 233 tok0.cells).trans b, Own.rowE e, s⟩
theorem l154 {d : Nat} {c : PC} {h : AHeap} {st : PSt} {rn : Option Nat} (x : PH c h st rn) (t : ByteArray) : ∃ h', call Tp Ms (d + 2) 280 [ptr c.p 0, .string t] h = some (.bool (isP c st t), h') ∧ Ext h.size h h' := by
 obtain ⟨h2, c2, x2⟩ := l155 (d := d) x
 obtain ⟨h3, t3, x3, r3, s3⟩ := tokRow h2 (pk c st)
 obtain ⟨b0, _, b2, _⟩ := ld_at r3.row
 refine ⟨h3, ?_, x2.trans (x3.mono x2.size)⟩
 rw [c280, e280, c2, oBs]
 simp only [aNew]
 rw [t3, oBs]
 simp only [aOff_ptr, Nat.zero_add, oBs, b0, b2, asI, asS, if_true]
 unfold isP
 by_cases h5 : (pk c st).k = 5
 ·rw [h5, show ((5 : Int) == 5) = true from rfl, cond_true, if_pos rfl]
 ·rw [beq_eq_false_iff_ne.2 h5, cond_false, if_neg h5]
  by_cases h6 : (pk c st).k = 2
  ·rw [h6, show ((2 : Int) == 2) = true from rfl, cond_true, if_pos rfl]
  ·rw [beq_eq_false_iff_ne.2 h6, cond_false, if_neg h6]
def adv (n : Nat) (st : PSt) : Option PSt := if st.at' + n ≤ 1000000 then some { st with at' := st.at' + n } else none
theorem stAdv {c : PC} {h : AHeap} {st st' : PSt} {rn : Option Nat} {n : Nat} (x : PH c h st rn) (ha : adv n st = some st') :
  ∃ h', aSt h (ptr c.p 1) (.int .i64 (IntKind.i64.wrap ((st.at' : Int) + n))) 1 = some h' ∧ PH c h' st' rn ∧ PK rn h h' ∧ (∀ j o, h.at? j = some o → o.elem ≠ 124 → h'.at? j = some o) := by
 unfold adv at ha
 by_cases hc : st.at' + n ≤ 1000000
 ·rw [if_pos hc] at ha; cases ha
  have w : IntKind.i64.wrap ((st.at' : Int) + n) = ((st.at' + n : Nat) : Int) := by rw [wr (by omega) (by omega)]; omega
  obtain ⟨h', a, b, k, _, f⟩ := PH.st (st' := { st with at' := st.at' + n }) x (i := 1) (by omega) (v := .int .i64 ((st.at' + n : Nat) : Int)) rfl rfl (fun nv => rfl)
  exact ⟨h', by rw [w]; exact a, b, k, f⟩
 ·rw [if_neg hc] at ha; cases ha
def takesP (c : PC) (t : ByteArray) (st : PSt) : Option (Bool × PSt) := if isP c st t = true then (adv 1 st).map (true, ·) else some (false, st)
theorem l107 {d : Nat} {c : PC} {h : AHeap} {st st' : PSt} {rn : Option Nat} {b : Bool} (x : PH c h st rn) {t : ByteArray} (hp : takesP c t st = some (b, st')) : Pp c h rn (call Tp Ms (d + 3) 194 [ptr c.p 0, .string t] h) (.bool b) st' := by
 obtain ⟨h2, c2, x2⟩ := l154 (d := d) x t
 have y2 := x.ext x2
 rw [c194, e194, c2, oBs]
 simp only [asB, oBs]
 unfold takesP at hp
 refine Pp.ext x2 ?_
 cases hi : isP c st t with
 | false =>
  rw [hi, if_neg (by simp)] at hp; cases hp
  rw [Bool.not_false, cond_true]
  exact ⟨h2, rn, rfl, y2, PK.refl _ _, .inl rfl⟩
 | true =>
  rw [hi, if_pos rfl, Option.map_eq_some_iff] at hp
  obtain ⟨s, hs, he⟩ := hp
  cases he
  obtain ⟨_, _, _, a1, _⟩ := y2.ld
  obtain ⟨h3, t3, y3, k3, _⟩ := stAdv y2 hs
  have t3' : aSt h2 (ptr c.p 1) (.int .i64 (IntKind.i64.wrap ((st.at' : Int) + 1))) 1 = some h3 := t3
  refine ⟨h3, rn, ?_, y3, k3, .inl rfl⟩
  rw [Bool.not_true, cond_false]
  simp only [nil_ptr, aOff_ptr, Nat.zero_add, oBs, a1, asI, if_true, t3']
def wantP (c : PC) (t : ByteArray) (st : PSt) : Option PSt := (takesP c t st).map fun r => if r.1 = true then r.2 else failP c r.2 2
theorem l109 {d : Nat} {c : PC} {h : AHeap} {st st' : PSt} {rn : Option Nat} (x : PH c h st rn) {t : ByteArray} (hp : wantP c t st = some st') : Pp c h rn (call Tp Ms (d + 4) 196 [ptr c.p 0, .string t] h) unit st' := by
 unfold wantP at hp
 rw [Option.map_eq_some_iff] at hp
 obtain ⟨⟨b, s1⟩, h1, h2⟩ := hp
 obtain ⟨h3, rn3, c1003, y3, k3, n3⟩ := l107 (d := d) x h1
 rw [c196, e196, c1003, oBs]
 simp only [asB, oBs]
 refine Pp.of k3 n3 ?_
 cases b with
 | true =>
  simp only [if_true] at h2
  subst h2
  rw [Bool.not_true, cond_false]
  exact ⟨h3, rn3, rfl, y3, PK.refl _ _, .inl rfl⟩
 | false =>
  simp only [Bool.false_eq_true, if_false] at h2
  subst h2
  obtain ⟨h4, rn4, c1004, y4, k4, n4⟩ := l156 (d := d + 1) y3 2
  have c1004' : call Tp Ms (d + 3) 282 [ptr c.p 0, .int .i64 2] h3 = some (unit, h4) := c1004
  refine ⟨h4, rn4, ?_, y4, k4, n4⟩
  rw [Bool.not_false, cond_true, c1004', oBs]
  rfl
def nameN (c : PC) (st : PSt) : Option (ByteArray × PSt) := if (pk c st).k ≠ 1 then some (⟨#[]⟩, failP c st 2) else (adv 1 st).map ((pk c st).text, ·)
theorem l108 {d : Nat} {c : PC} {h : AHeap} {st st' : PSt} {rn : Option Nat} {t : ByteArray} (x : PH c h st rn) (hp : nameN c st = some (t, st')) : Pp c h rn (call Tp Ms (d + 3) 195 [ptr c.p 0] h) (.string t) st' := by
 obtain ⟨h2, c2, x2⟩ := l155 (d := d + 1) x
 have c2' : call Tp Ms (d + 2) 281 [ptr c.p 0] h = _ := c2
 obtain ⟨h3, t3, x3, r3, s3⟩ := tokRow h2 (pk c st)
 have E := x2.trans (x3.mono x2.size)
 have y3 := x.ext E
 obtain ⟨b0, _, b2, _⟩ := ld_at r3.row
 rw [c195, e195, c2', oBs]
 simp only [aNew]
 rw [t3, oBs]
 simp only [aOff_ptr, Nat.zero_add, oBs, b0, asI, if_true]
 unfold nameN at hp
 refine Pp.ext E ?_
 by_cases h1 : (pk c st).k = 1
 ·rw [if_neg (by simp [h1]), Option.map_eq_some_iff] at hp
  obtain ⟨s, hs, he⟩ := hp
  cases he
  obtain ⟨_, _, _, a1, _⟩ := y3.ld
  obtain ⟨h4, t4, y4, k4, f4⟩ := stAdv y3 hs
  have t4' : aSt h3 (ptr c.p 1) (.int .i64 (IntKind.i64.wrap ((st.at' : Int) + 1))) 1 = some h4 := t4
  have r4 : RowE h4 h2.size 233 (pk c st).cells := r3.pk k4 (by decide) (by decide)
  obtain ⟨_, _, d2, _⟩ := ld_at r4.row
  refine ⟨h4, rn, ?_, y4, k4, .inl rfl⟩
  have : ((pk c st).k != 1) = false := by rw [h1]; rfl
  rw [this, cond_false]
  simp only [nil_ptr, aOff_ptr, Nat.zero_add, oBs, a1, asI, asS, if_true, t4', d2]
 ·rw [if_pos h1] at hp; cases hp
  obtain ⟨h4, rn4, c1004, y4, k4, n4⟩ := l156 (d := d) y3 2
  refine ⟨h4, rn4, ?_, y4, k4, n4⟩
  have : ((pk c st).k != 1) = true := by simp [h1]
  rw [this, cond_true, c1004, oBs]
def nestTo (n : Int) (st : PSt) : Option PSt := if -1000 ≤ st.nest + n ∧ st.nest + n ≤ 1000 then some { st with nest := st.nest + n } else none
theorem stNest {c : PC} {h : AHeap} {st st' : PSt} {rn : Option Nat} {n : Int} (x : PH c h st rn) (ha : nestTo n st = some st') :
  ∃ h', aSt h (ptr c.p 3) (.int .i64 (IntKind.i64.wrap (st.nest + n))) 1 = some h' ∧ PH c h' st' rn ∧ PK rn h h' ∧ (∀ j o, h.at? j = some o → o.elem ≠ 124 → h'.at? j = some o) := by
 unfold nestTo at ha
 by_cases hc : -1000 ≤ st.nest + n ∧ st.nest + n ≤ 1000
 ·rw [if_pos hc] at ha; cases ha
  have w : IntKind.i64.wrap (st.nest + n) = st.nest + n := wr (by omega) (by omega)
  obtain ⟨h', a, b, k, _, f⟩ := PH.st (st' := { st with nest := st.nest + n }) x (i := 3) (by omega) (v := .int .i64 (st.nest + n)) rfl rfl (fun nv => rfl)
  exact ⟨h', by rw [w]; exact a, b, k, f⟩
 ·rw [if_neg hc] at ha; cases ha
def openP (c : PC) (st : PSt) : Option PSt := nestTo 1 (if (pk c st).k ≠ 0 ∧ st.nest = 30 then failP c st 3 else st)
theorem l157 {d : Nat} {c : PC} {h : AHeap} {st st' : PSt} {rn : Option Nat} (x : PH c h st rn) (hp : openP c st = some st') : Pp c h rn (call Tp Ms (d + 3) 283 [ptr c.p 0] h) unit st' := by
 obtain ⟨h2, c2, x2⟩ := l155 (d := d + 1) x
 have c2' : call Tp Ms (d + 2) 281 [ptr c.p 0] h = _ := c2
 have y2 := x.ext x2
 obtain ⟨_, _, _, _, _, a3, _⟩ := y2.ld
 have hk : aPart (pk c st).val 0 1 false = some (.int .i64 (pk c st).k) := rfl
 have tail : ∀ (s : PSt) (h3 : AHeap) (rn3 : Option Nat), PH c h3 s rn3 → nestTo 1 s = some st' → Pp c h3 rn3 (s283_1 hk0 (call Tp Ms (d + 2)) (d + 2) (ptr c.p 0) h3) unit st' := fun s h3 rn3 y3 hs => by
  obtain ⟨_, _, _, _, _, b3, _⟩ := y3.ld
  obtain ⟨h4, t4, y4, k4, _⟩ := stNest y3 hs
  refine ⟨h4, rn3, ?_, y4, k4, .inl rfl⟩
  rw [s283_1_j, s283_1_eq]
  simp only [nil_ptr, aOff_ptr, Nat.zero_add, oBs, b3, asI, if_true, t4]
  rfl
 rw [c283, e283, c2', oBs]
 simp only [hk, oBs, asI, if_true, nil_ptr, aOff_ptr, Nat.zero_add, a3]
 unfold openP at hp
 refine Pp.ext x2 ?_
 by_cases h0 : (pk c st).k = 0
 ·rw [if_neg (by simp [h0])] at hp
  have : ((pk c st).k != 0) = false := by rw [h0]; rfl
  rw [this, cond_false, s283_0_j, s283_0_eq, cond_false]
  exact tail st h2 rn y2 hp
 ·have : ((pk c st).k != 0) = true := by simp [h0]
  rw [this, cond_true, s283_0_j, s283_0_eq]
  by_cases h30 : st.nest = 30
  ·rw [if_pos ⟨h0, h30⟩] at hp
   obtain ⟨h4, rn4, c1004, y4, k4, n4⟩ := l156 (d := d) y2 3
   rw [h30, show ((30 : Int) == 30) = true from rfl, cond_true, c1004, oBs]
   exact Pp.of k4 n4 (tail _ h4 rn4 y4 hp)
  ·rw [if_neg (fun hh => h30 hh.2)] at hp
   rw [beq_eq_false_iff_ne.2 h30, cond_false]
   exact tail st h2 rn y2 hp
theorem take_at {cs : List Value} {n j : Nat} (hn : n ≤ cs.length) (hj : j + 4 ≤ n) (l : List Value) : (((cs.take n) ++ l).drop j).take 4 = (cs.drop j).take 4 := by
 apply List.ext_getElem?
 intro k
 rw [List.getElem?_take, List.getElem?_take]
 by_cases hk : k < 4
 ·rw [if_pos hk, if_pos hk, List.getElem?_drop, List.getElem?_drop, List.getElem?_append_left (by simp; omega), List.getElem?_take, if_pos (by omega)]
 ·rw [if_neg hk, if_neg hk]
theorem take_new {cs l : List Value} {n : Nat} (hn : n ≤ cs.length) (hl : l.length = 4) : (((cs.take n) ++ l).drop n).take 4 = l := by
 have h1 : (cs.take n).length = n := by simp; omega
 rw [List.drop_append_of_le_length (by omega), List.drop_eq_nil_of_le (by omega), List.nil_append, ← hl, List.take_length]
theorem kn_cells {kv : Value} (h : isCell kv = true) (n : Kn) : aCells (knVal n kv) = some (knCells n kv) := by
 have e : (List.all (List.toArray (knCells n kv)).toList isCell) = true := by
  show (true && (true && (true && (isCell kv && true)))) = true
  rw [h]; rfl
 show (if (List.all (List.toArray (knCells n kv)).toList isCell) = true then some (List.toArray (knCells n kv)).toList else none) = _
 rw [if_pos e]
theorem nodesApp {h : AHeap} {nv kv : Value} {ns : List Kn} {rn : Option Nat} {n : Kn} (x : NodesH h nv ns rn) (k : KidH h kv n.ks) (hl : ns.length ≤ 1000000) :
  ∃ nv' h' rn', aApp (h.new 48 (knCells n kv)) 48 4 56 nv (slc h.size 0 1) = some (nv', h') ∧ NodesH h' nv' (ns ++ [n]) rn' ∧ PK rn h h' ∧ PRN rn rn' h ∧ (∀ j o, h.at? j = some o → o.elem ≠ 48 → h'.at? j = some o) ∧ aLen nv' = some (.int .i64 ((ns.length : Int) + 1)) := by
 have e := Ext.new (Nat.le_refl h.size) 48 (knCells n kv)
 have w := (Own.new (b := 0) (Nat.zero_le h.size) 48 (knCells n kv)).row
 have hS : (h.new 48 (knCells n kv)).size = h.size + 1 := rfl
 have hsrc : aSrc (h.new 48 (knCells n kv)) 4 (slc h.size 0 1) = some (1, knCells n kv) := w.src (n := 1) (esz := 4) (by show 0 + 1 * 4 ≤ 4; omega)
 have x1 := x.ext e
 have k1 := k.ext e
 have pk1 : PK rn h (h.new 48 (knCells n kv)) := PK.ext e
 have keep1 : ∀ j o, h.at? j = some o → (h.new 48 (knCells n kv)).at? j = some o := fun j o a => e.at? (at?_obj a).2.1 a
 generalize h.new 48 (knCells n kv) = h1 at e w hS hsrc x1 k1 pk1 keep1 ⊢
 rcases x1 with ⟨rfl, rfl, rfl⟩ | ⟨i, root, cells, rfl, rfl, ⟨ep, ha⟩, hlen, hx⟩
 ·have e2 := Ext.new (Nat.le_refl h1.size) 48 (knCells n kv)
  refine ⟨slc h1.size 0 1, h1.new 48 (knCells n kv), some h1.size, ?_, .inr ⟨h1.size, h1.size, knCells n kv, rfl, rfl, OwnR.new _ _ _, by show 1 * 4 ≤ 4; omega, fun j m hm => ?_⟩, pk1.trans (.inl rfl) (PK.ext e2), .inr ⟨h1.size, rfl, by omega⟩, fun j o a b => e2.at? (by have := (at?_obj a).2.1; omega) (keep1 j o a), rfl⟩
  ·simp [aApp, aAppG, hsrc, most]
  ·cases j with
   | zero =>
    have : m = n := by simpa using hm.symm
    subst this
    exact ⟨kv, rfl, k1.ext e2⟩
   | succ j => simp at hm
 ·have hap : aApp h1 48 4 56 (slc i 0 ns.length) (slc h.size 0 1) = some (slc h1.size 0 (ns.length + 1), h1.app ⟨root, ep, false, 48, cells⟩ (ns.length * 4) (cells.take (ns.length * 4) ++ knCells n kv)) := by
   have m1 : ns.length + 1 ≤ most := by show ns.length + 1 ≤ 140737488355328; omega
   have m2 : (ns.length + 1) * 56 ≤ most := by show (ns.length + 1) * 56 ≤ 140737488355328; omega
   have hsrc' : aSrc h1 4 (.slice (some ⟨h.size, 0, none⟩) 1 1) = some (1, knCells n kv) := hsrc
   simp [aApp, aAppG, slc, ha, hsrc', hlen, m1, m2]
  have old : ∀ j o, h1.at? j = some o → (o.elem ≠ 48 ∨ o.root ≠ root) → (h1.app ⟨root, ep, false, 48, cells⟩ (ns.length * 4) (cells.take (ns.length * 4) ++ knCells n kv)).at? j = some o :=
   fun j o a b => at?_app_old a _ (fun hh => b.elim (fun z => absurd hh.1 z) (fun z => absurd hh.2 z))
  have kid : ∀ (v : Value) (ks : List Int), KidH h1 v ks → KidH (h1.app ⟨root, ep, false, 48, cells⟩ (ns.length * 4) (cells.take (ns.length * 4) ++ knCells n kv)) v ks := fun v ks z => by
   rcases z with z | ⟨i', rt', z1, ep', z2⟩
   ·exact .inl z
   ·exact .inr ⟨i', rt', z1, ep', old i' _ z2 (.inl (by show (3 : TypeId) ≠ 48; decide))⟩
  refine ⟨_, _, some root, hap, .inr ⟨h1.size, root, _, by simp, rfl, ⟨_, at?_app_same ha _ _⟩, ?_, fun j m hm => ?_⟩, pk1.trans (.inl rfl) ⟨by show h1.size ≤ h1.size + 1; omega, fun j o a b c => old j o a (by
   by_cases h73 : o.elem = 48
   ·exact .inr (fun hr => c h73 (by rw [hr]))
   ·exact .inl h73), fun r _ => by simp [AHeap.app]⟩, .inl rfl, fun j o a b => old j o (keep1 j o a) (.inl b), by show some (Value.int .i64 ((ns.length + 1 : Nat) : Int)) = _; rw [Int.natCast_add]; rfl⟩
  ·rw [List.length_append, List.length_append, List.length_take]
   show (ns.length + 1) * 4 ≤ min (ns.length * 4) cells.length + 4
   omega
  ·by_cases hj : j < ns.length
   ·rw [List.getElem?_append_left hj] at hm
    obtain ⟨kv', y, z⟩ := hx j m hm
    exact ⟨kv', by rw [take_at (by omega) (by omega)]; exact y, kid _ _ z⟩
   ·have hjl : j < (ns ++ [n]).length := (List.getElem?_eq_some_iff.1 hm).1
    have hje : j = ns.length := by simp at hjl; omega
    subst hje
    rw [List.getElem?_append_right (by omega)] at hm
    simp at hm
    subst hm
    exact ⟨kv, take_new (by omega) rfl, kid _ _ k1⟩
def nodeP (k : Int) (t : ByteArray) (i : Int) (ks : List Int) (st : PSt) : Option (Int × PSt) := if st.nodes.length ≤ 1000000 then some ((st.nodes.length : Int), { st with nodes := st.nodes ++ [⟨k, t, i, ks⟩] }) else none
theorem fillK {kv : Value} (h : isCell kv = true) (k : Int) (t : ByteArray) (i : Int) (ks : List Int) : aFill [.int .i64 0, .string ⟨#[]⟩, .int .i64 0, .slice none 0 0] [(0, 1, .int .i64 k), (1, 1, .string t), (2, 1, .int .i64 i), (3, 1, kv)] = some (knCells ⟨k, t, i, ks⟩ kv) := by
 simp [aFill, aCells_int, aCells_str, aCells_one h, splice, knCells]
theorem l64 {d : Nat} {c : PC} {h : AHeap} {st st' : PSt} {rn : Option Nat} {k i r : Int} {t : ByteArray} {ks : List Int} {kv : Value} (x : PH c h st rn) (hk : KidH h kv ks) (hp : nodeP k t i ks st = some (r, st')) :
  Pp c h rn (call Tp Ms (d + 1) 102 [ptr c.p 0, .int .i64 k, .string t, .int .i64 i, kv] h) (.int .i64 r) st' := by
 unfold nodeP at hp
 by_cases hl : st.nodes.length ≤ 1000000
 ·rw [if_pos hl] at hp; cases hp
  obtain ⟨nv, o, tk, nd⟩ := x
  have a4 : aLd1 h (ptr c.p 4) = some nv := o.row.ld1 rfl
  obtain ⟨nv', h2, rn', ap, nd2, pk2, n2, f2, len2⟩ := nodesApp (n := ⟨k, t, i, ks⟩) nd hk hl
  have o2 : OwnR h2 c.p c.p 124 (pcells c nv st) := let ⟨ep, a⟩ := o; ⟨ep, f2 _ _ a (by show (124 : TypeId) ≠ 48; decide)⟩
  obtain ⟨h3, t3, o3, s3, f3, tp3⟩ := stP o2 (i := 4) (by show 4 < 7; omega) (v := nv') (aCells_one nd2.cell)
  have nd3 := nd2.keep f3
  have pk3 : PK rn' h2 h3 := ⟨by omega, fun j ob a b _ => f3 j ob a b, fun r _ => tp3 r⟩
  have b4 : aLd1 h3 (ptr c.p 4) = some nv' := o3.row.ld1 rfl
  refine ⟨h3, rn', ?_, ⟨nv', o3, (tk.pk pk2).pk pk3, nd3⟩, pk2.trans n2 pk3, n2⟩
  have w : IntKind.i64.wrap ((st.nodes.length : Int) + 1 - 1) = (st.nodes.length : Int) := by rw [wr (by omega) (by omega)]; omega
  have hz : aFill [.int .i64 0, .string ⟨#[]⟩, .int .i64 0, .slice none 0 0] [(0, 4, (.agg (List.toArray (knCells ⟨k, t, i, ks⟩ kv))))] = some (knCells ⟨k, t, i, ks⟩ kv) := by
   have := kn_cells (kv := kv) hk.cell ⟨k, t, i, ks⟩
   have this2 : aCells (.agg #[.int .i64 k, .string t, .int .i64 i, kv]) = some [.int .i64 k, .string t, .int .i64 i, kv] := this
   simp [aFill, this2, splice, knCells]
  rw [c102, e102]
  simp only [nil_ptr, aOff_ptr, Nat.zero_add, oBs, a4, fillK hk.cell k t i ks, hz, aNewS]
  rw [ap, oBs]
  simp only [t3, oBs, b4, len2, asI, if_true, w]
 ·rw [if_neg hl] at hp; cases hp
abbrev PM := PSt → Option (List Int × PSt)
abbrev PI := PSt → Option (Int × PSt)
def un (m : PM) : PI := fun st => (m st).bind fun r => match r.1 with | [a] => some (a, r.2) | _ => none
def ret (m : PI) : PM := fun st => (m st).map fun r => ([r.1], r.2)
abbrev E0 : ByteArray := ⟨#[]⟩
section
variable (c : PC)
def wholeP (sub : PI) : PI := fun st => (openP c st).bind fun s1 => (sub s1).bind fun a => (nestTo (-1) a.2).map fun s3 => (a.1, s3)
def binLoop (w : ByteArray) (k : Int) (sub : PI) : Nat → Int → PI
 | 0, _, _ => none
 | n + 1, a, st => (takesP c w st).bind fun r => if r.1 = true then (sub r.2).bind fun b => (nodeP k E0 0 [a, b.1] b.2).bind fun x => binLoop w k sub n x.1 x.2 else some (a, r.2)
def binP (w : ByteArray) (k : Int) (sub : PI) (n : Nat) : PI := fun st => (sub st).bind fun a => binLoop c w k sub n a.1 a.2
def opTexts : List ByteArray := [⟨#[43]⟩, ⟨#[45]⟩, ⟨#[42]⟩, ⟨#[47]⟩, ⟨#[37]⟩, ⟨#[46, 46]⟩, ⟨#[61, 61]⟩, ⟨#[126, 61]⟩, ⟨#[60]⟩, ⟨#[60, 61]⟩]
def ixGo (t : ByteArray) : List ByteArray → Int → Int
 | [], _ => -1
 | u :: us, i => if (t.toList == u.toList) = true then i else ixGo t us (i + 1)
def opOfP : List ByteArray → PSt → Int
 | [], _ => 0
 | t :: ts, st => if isP c st t = true then 1 + ixGo t opTexts 0 else opOfP ts st
def rowLoop (texts : List ByteArray) (sub : PI) : Nat → Int → PI
 | 0, _, _ => none
 | n + 1, a, st => if opOfP c texts st = 0 then some (a, st) else (adv 1 st).bind fun s1 => (sub s1).bind fun b => (nodeP 10 E0 (opOfP c texts st) [a, b.1] b.2).bind fun x => rowLoop texts sub n x.1 x.2
def rowP (texts : List ByteArray) (sub : PI) (n : Nat) : PI := fun st => (sub st).bind fun a => rowLoop c texts sub n a.1 a.2
def cmpTexts : List ByteArray := [⟨#[61, 61]⟩, ⟨#[126, 61]⟩, ⟨#[60]⟩, ⟨#[60, 61]⟩]
def compareP (sub : PI) : PI := fun st => (sub st).bind fun a => if opOfP c cmpTexts a.2 = 0 then some a else (adv 1 a.2).bind fun s1 => (sub s1).bind fun b => nodeP 10 E0 (opOfP c cmpTexts a.2) [a.1, b.1] b.2
def turnP (t : Int) (self : PI) : PI := fun st => (openP c st).bind fun s1 => (adv 1 s1).bind fun s2 => (self s2).bind fun e => (nestTo (-1) e.2).bind fun s4 => nodeP 11 E0 t [e.1] s4
def unaryP (self behind : PI) : PI := fun st => if isP c st ⟨#[45]⟩ = true then turnP c 1 self st else if isP c st ⟨#[110, 111, 116]⟩ = true then turnP c 2 self st else if isP c st ⟨#[35]⟩ = true then turnP c 3 self st else behind st
def argsLoop (whole : PI) : Nat → List Int → PM
 | 0, _, _ => none
 | n + 1, out, st => (whole st).bind fun e => (takesP c ⟨#[44]⟩ e.2).bind fun r => if r.1 = true then argsLoop whole n (out ++ [e.1]) r.2 else (wantP c ⟨#[41]⟩ r.2).map fun s => (out ++ [e.1], s)
def argsP (whole : PI) (n : Nat) : PM := fun st => (wantP c ⟨#[40]⟩ st).bind fun s1 => (takesP c ⟨#[41]⟩ s1).bind fun r => if r.1 = true then some ([], r.2) else argsLoop c whole n [] r.2
def behindLoop (whole : PI) (args : PM) : Nat → Int → PI
 | 0, _, _ => none
 | n + 1, e, st => (takesP c ⟨#[91]⟩ st).bind fun r => if r.1 = true then (whole r.2).bind fun k => (wantP c ⟨#[93]⟩ k.2).bind fun s => (nodeP 8 E0 0 [e, k.1] s).bind fun x => behindLoop whole args n x.1 x.2
  else (takesP c ⟨#[46]⟩ r.2).bind fun q => if q.1 = true then (nameN c q.2).bind fun m => (nodeP 4 m.1 0 [] m.2).bind fun k => (nodeP 8 E0 0 [e, k.1] k.2).bind fun x => behindLoop whole args n x.1 x.2
  else if isP c q.2 ⟨#[40]⟩ = true then (args q.2).bind fun l => if l.1.length > 1000000 then none else (nodeP 9 E0 0 (e :: l.1) l.2).bind fun x => behindLoop whole args n x.1 x.2 else some (e, q.2)
def behindP (primary whole : PI) (args : PM) (n : Nat) : PI := fun st => (primary st).bind fun e => behindLoop c whole args n e.1 e.2
def primaryP (whole fn table : PI) : PI := fun st =>
 if (pk c st).k = 3 then (adv 1 st).bind fun s => nodeP 3 E0 (pk c st).i [] s
 else if (pk c st).k = 4 then (adv 1 st).bind fun s => nodeP 4 (pk c st).text 0 [] s
 else if (pk c st).k = 1 then (adv 1 st).bind fun s => nodeP 5 (pk c st).text 0 [] s
 else (takesP c ⟨#[110, 105, 108]⟩ st).bind fun r => if r.1 = true then nodeP 1 E0 0 [] r.2
 else (takesP c ⟨#[116, 114, 117, 101]⟩ r.2).bind fun r => if r.1 = true then nodeP 2 E0 1 [] r.2
 else (takesP c ⟨#[102, 97, 108, 115, 101]⟩ r.2).bind fun r => if r.1 = true then nodeP 2 E0 0 [] r.2
 else (takesP c ⟨#[40]⟩ r.2).bind fun r => if r.1 = true then (whole r.2).bind fun e => (wantP c ⟨#[41]⟩ e.2).map fun s => (e.1, s)
 else (takesP c ⟨#[102, 110]⟩ r.2).bind fun r => if r.1 = true then fn r.2
 else if isP c r.2 ⟨#[123]⟩ = true then table r.2 else some (0, failP c r.2 2)
def fnLoop : Nat → List Int → PM
 | 0, _, _ => none
 | n + 1, out, st => (nameN c st).bind fun m => (nodeP 22 m.1 0 [] m.2).bind fun x => (takesP c ⟨#[44]⟩ x.2).bind fun r => if r.1 = true then fnLoop n (out ++ [x.1]) r.2 else (wantP c ⟨#[41]⟩ r.2).map fun s => (out ++ [x.1], s)
def fnP (block : PI) (n : Nat) : PI := fun st => (wantP c ⟨#[40]⟩ st).bind fun s1 => (takesP c ⟨#[41]⟩ s1).bind fun r => (if r.1 = true then some ([], r.2) else fnLoop c n [] r.2).bind fun l => (block l.2).bind fun b => nodeP 6 E0 0 (l.1 ++ [b.1]) b.2
def tableLoop (field : PI) : Nat → List Int → PM
 | 0, _, _ => none
 | n + 1, out, st => (field st).bind fun x => (takesP c ⟨#[44]⟩ x.2).bind fun r => if r.1 = true then tableLoop field n (out ++ [x.1]) r.2 else (wantP c ⟨#[125]⟩ r.2).map fun s => (out ++ [x.1], s)
def tableP (field : PI) (n : Nat) : PI := fun st => (wantP c ⟨#[123]⟩ st).bind fun s1 => (takesP c ⟨#[125]⟩ s1).bind fun r => (if r.1 = true then some ([], r.2) else tableLoop c field n [] r.2).bind fun l => nodeP 7 E0 0 l.1 l.2
def eqNext (st : PSt) : Bool := match c.toks[st.at' + 1]? with
 | some t => t.k == 5 && t.text.toList == (⟨#[61]⟩ : ByteArray).toList
 | none => false
def fieldP (whole : PI) : PI := fun st => (takesP c ⟨#[91]⟩ st).bind fun r => if r.1 = true then (whole r.2).bind fun k => (wantP c ⟨#[93]⟩ k.2).bind fun s => (wantP c ⟨#[61]⟩ s).bind fun s => (whole s).bind fun e => nodeP 24 E0 0 [k.1, e.1] e.2
 else if r.2.at' > 1000000 then none
 else if ((pk c r.2).k == 1 && eqNext c r.2) = true then (adv 2 r.2).bind fun s => (nodeP 4 (pk c r.2).text 0 [] s).bind fun k => (whole k.2).bind fun e => nodeP 24 E0 0 [k.1, e.1] e.2
 else (whole r.2).bind fun e => nodeP 23 E0 0 [e.1] e.2
def blockLoop (stmt : PI) : Nat → List Int → PM
 | 0, _, _ => none
 | n + 1, out, st => if st.code = 0 ∧ isP c st ⟨#[125]⟩ = false then (stmt st).bind fun x => blockLoop stmt n (out ++ [x.1]) x.2 else some (out, st)
def blockP (stmt : PI) (n : Nat) : PI := fun st => (openP c st).bind fun s1 => (wantP c ⟨#[123]⟩ s1).bind fun s2 => (blockLoop c stmt n [] s2).bind fun l => (wantP c ⟨#[125]⟩ l.2).bind fun s3 => (nestTo (-1) s3).bind fun s4 => nodeP 21 E0 0 l.1 s4
def cutP (e : Int) (st : PSt) : Option PSt := if 0 ≤ e ∧ e ≤ st.nodes.length then some { st with nodes := st.nodes.take e.toNat } else none
def begunP (whole : PI) : PI := fun st => (whole st).bind fun e => if e.2.code ≠ 0 then some (0, e.2) else
 match e.2.nodes[e.1.toNat]? with
 | none => none
 | some n => if e.1 < 0 then none else
  (if n.k = 9 then takesP c ⟨#[59]⟩ e.2 else some (false, e.2)).bind fun r => if r.1 = true then nodeP 20 E0 0 [e.1] r.2 else
  (if n.k = 5 then takesP c ⟨#[61]⟩ r.2 else some (false, r.2)).bind fun r => if r.1 = true then (cutP e.1 r.2).bind fun s => (whole s).bind fun x => (wantP c ⟨#[59]⟩ x.2).bind fun s => nodeP 15 n.t 0 [x.1] s else
  (if n.k = 8 then takesP c ⟨#[61]⟩ r.2 else some (false, r.2)).bind fun r => if r.1 = true then
   (match n.ks with
   | [a, b] => (cutP e.1 r.2).bind fun s => (whole s).bind fun x => (wantP c ⟨#[59]⟩ x.2).bind fun s => nodeP 16 E0 0 [a, b, x.1] s
   | _ => none)
  else some (0, failP c r.2 2)
def stmtP (whole block begun : PI) : PI := fun st =>
 (takesP c ⟨#[108, 111, 99, 97, 108]⟩ st).bind fun r => if r.1 = true then (nameN c r.2).bind fun m => (wantP c ⟨#[61]⟩ m.2).bind fun s => (whole s).bind fun e => (wantP c ⟨#[59]⟩ e.2).bind fun s => nodeP 14 m.1 0 [e.1] s else
 (takesP c ⟨#[114, 101, 116, 117, 114, 110]⟩ r.2).bind fun r => if r.1 = true then (whole r.2).bind fun e => (wantP c ⟨#[59]⟩ e.2).bind fun s => nodeP 19 E0 0 [e.1] s else
 (takesP c ⟨#[119, 104, 105, 108, 101]⟩ r.2).bind fun r => if r.1 = true then (whole r.2).bind fun e => (block e.2).bind fun b => nodeP 18 E0 0 [e.1, b.1] b.2 else
 (takesP c ⟨#[105, 102]⟩ r.2).bind fun r => if r.1 = true then (whole r.2).bind fun e => (block e.2).bind fun b => (takesP c ⟨#[101, 108, 115, 101]⟩ b.2).bind fun q =>
  if q.1 = true then (block q.2).bind fun b2 => nodeP 17 E0 0 [e.1, b.1, b2.1] b2.2 else nodeP 17 E0 0 [e.1, b.1] q.2 else
 begun r.2
def parse : Nat → Nat → PM
 | 0, _, _ => none
 | D + 1, k, st => if D < 30 ∨ D > 2000000 then none else
  if k = 110 then ret (wholeP c (un (parse D 158))) st
  else if k = 158 then ret (binP c ⟨#[111, 114]⟩ 13 (un (parse D 188)) D) st
  else if k = 188 then ret (binP c ⟨#[97, 110, 100]⟩ 12 (un (parse D 203)) D) st
  else if k = 203 then ret (compareP c (un (parse D 220))) st
  else if k = 220 then parse D 2310 st
  else if k = 2310 then ret (rowP c [⟨#[46, 46]⟩] (un (parse D 232)) D) st
  else if k = 232 then parse D 2311 st
  else if k = 2311 then ret (rowP c [⟨#[43]⟩, ⟨#[45]⟩] (un (parse D 238)) D) st
  else if k = 238 then parse D 2312 st
  else if k = 2312 then ret (rowP c [⟨#[42]⟩, ⟨#[47]⟩, ⟨#[37]⟩] (un (parse D 241)) D) st
  else if k = 241 then ret (unaryP c (un (parse D 241)) (un (parse D 242))) st
  else if k = 242 then ret (behindP c (un (parse D 243)) (un (parse D 110)) (parse D 244) D) st
  else if k = 243 then ret (primaryP c (un (parse D 110)) (un (parse D 245)) (un (parse D 246))) st
  else if k = 244 then argsP c (un (parse D 110)) D st
  else if k = 245 then ret (fnP c (un (parse D 111)) D) st
  else if k = 246 then ret (tableP c (un (parse D 247)) D) st
  else if k = 247 then ret (fieldP c (un (parse D 110))) st
  else if k = 111 then ret (blockP c (un (parse D 63)) D) st
  else if k = 112 then ret (begunP c (un (parse D 110))) st
  else if k = 63 then ret (stmtP c (un (parse D 110)) (un (parse D 111)) (un (parse D 112))) st
  else none
def topLoop (stmt : PI) : Nat → List Int → PM
 | 0, _, _ => none
 | n + 1, out, st => if st.at' < c.toks.length ∧ st.code = 0 then (stmt st).bind fun x => topLoop stmt n (out ++ [x.1]) x.2 else some (out, st)
end
def Sim (c : PC) (D : Nat) (f : FuncId) (m : PI) : Prop := ∀ (h : AHeap) (st : PSt) (rn : Option Nat) (a : Int) (st' : PSt), PH c h st rn → m st = some (a, st') → Pp c h rn (call Tp Ms D f [ptr c.p 0] h) (.int .i64 a) st'
theorem kidNew (h : AHeap) (ks : List Int) : KidH (h.new 3 (ints ks)) (slc h.size 0 ks.length) ks := .inr ⟨h.size, h.size, rfl, OwnR.new h 3 (ints ks)⟩
theorem nodeNew {d : Nat} {c : PC} {h : AHeap} {st st' : PSt} {rn : Option Nat} {k i r : Int} {t : ByteArray} (ks : List Int) (x : PH c h st rn) (hp : nodeP k t i ks st = some (r, st')) :
  Pp c h rn (call Tp Ms (d + 1) 102 [ptr c.p 0, .int .i64 k, .string t, .int .i64 i, slc h.size 0 ks.length] (h.new 3 (ints ks))) (.int .i64 r) st' :=
 Pp.ext (Ext.new (Nat.le_refl _) _ _) (l64 (x.ext (Ext.new (Nat.le_refl _) _ _)) (kidNew h ks) hp)
theorem bnd {α β : Type} {o : Option α} {f : α → Option β} {b : β} (h : o.bind f = some b) : ∃ a, o = some a ∧ f a = some b := Option.bind_eq_some_iff.1 h
theorem l110 {D : Nat} {c : PC} {sub : PI} (hs : Sim c (D + 3) 284 sub) : Sim c (D + 4) 197 (wholeP c sub) := by
 intro h st rn a st' x hp
 obtain ⟨s1, h1, hp⟩ := bnd hp
 obtain ⟨⟨e, s2⟩, h2, hp⟩ := bnd hp
 rw [Option.map_eq_some_iff] at hp
 obtain ⟨s3, h3, he⟩ := hp
 cases he
 obtain ⟨g1, r1, c1, y1, k1, n1⟩ := l157 (d := D) x h1
 obtain ⟨g2, r2, c2, y2, k2, n2⟩ := hs _ _ _ _ _ y1 h2
 obtain ⟨_, _, _, _, _, a3, _⟩ := y2.ld
 obtain ⟨g3, t3, y3, k3, _⟩ := stNest y2 h3
 have t3' : aSt g2 (ptr c.p 3) (.int .i64 (IntKind.i64.wrap (s2.nest - 1))) 1 = some g3 := t3
 refine Pp.of k1 n1 (Pp.of k2 n2 ⟨g3, r2, ?_, y3, k3, .inl rfl⟩)
 rw [c197, e197, c1, oBs, c2, oBs]
 simp only [asI, if_true, oBs, nil_ptr, aOff_ptr, Nat.zero_add, a3, t3']
theorem bin158_loop {D N : Nat} {c : PC} {sub : PI} (hs : Sim c (D + 4) 356 sub) : ∀ (n m : Nat) (a : Int) (h : AHeap) (st : PSt) (rn : Option Nat) (r : Int) (st' : PSt), n ≤ m → PH c h st rn → binLoop c ⟨#[111, 114]⟩ 13 sub n a st = some (r, st') →
  Pp c h rn (s284_0 hk0 (call Tp Ms (D + 4)) N m (ptr c.p 0) a h) (.int .i64 r) st' := by
 intro n
 induction n with
 | zero => intro m a h st rn r st' _ _ hp; cases hp
 | succ n ih =>
  intro m a h st rn r st' hm x hp
  obtain ⟨m, rfl⟩ : ∃ q, m = q + 1 := ⟨m - 1, by omega⟩
  rw [binLoop] at hp
  obtain ⟨⟨b, s1⟩, h1, hp⟩ := bnd hp
  obtain ⟨g1, r1, c1, y1, k1, n1⟩ := l107 (d := D + 1) x h1
  have c1' : call Tp Ms (D + 4) 194 [ptr c.p 0, .string ⟨#[111, 114]⟩] h = _ := c1
  rw [s284_0_eq, c1', oBs]
  simp only [asB, oBs]
  refine Pp.of k1 n1 ?_
  cases b with
  | false =>
   rw [if_neg (by simp)] at hp; cases hp
   rw [cond_false]
   exact ⟨g1, r1, rfl, y1, PK.refl _ _, .inl rfl⟩
  | true =>
   rw [if_pos rfl] at hp
   obtain ⟨⟨e, s2⟩, h2, hp⟩ := bnd hp
   obtain ⟨⟨q, s3⟩, h3, hp⟩ := bnd hp
   obtain ⟨g2, r2, c2, y2, k2, n2⟩ := hs _ _ _ _ _ y1 h2
   obtain ⟨g3, r3, c1003, y3, k3, n3⟩ := nodeNew (d := D + 3) [a, e] y2 h3
   have c1003' : call Tp Ms (D + 4) 102 [ptr c.p 0, .int .i64 13, .string ⟨#[]⟩, .int .i64 0, slc g2.size 0 2] (g2.new 3 [.int .i64 a, .int .i64 e]) = _ := c1003
   have z := ih m q g3 s3 r3 r st' (by omega) y3 hp
   refine Pp.of k2 n2 (Pp.of k3 n3 ?_)
   rw [cond_true, c2, oBs]
   simp only [asI, if_true, oBs, aNewS]
   rw [c1003', oBs]
   simp only [if_true, oBs]
   exact z
theorem l158 {D : Nat} {c : PC} {sub : PI} {n : Nat} (hn : n ≤ D + 4) (hs : Sim c (D + 4) 356 sub) : Sim c (D + 5) 284 (binP c ⟨#[111, 114]⟩ 13 sub n) := by
 intro h st rn r st' x hp
 obtain ⟨⟨a, s1⟩, h1, hp⟩ := bnd hp
 obtain ⟨g1, r1, c1, y1, k1, n1⟩ := hs _ _ _ _ _ x h1
 refine Pp.of k1 n1 ?_
 have z := bin158_loop (N := D + 4) hs n (D + 4) a g1 s1 r1 r st' hn y1 hp
 have hcall : call Tp Ms (D + 5) 284 [ptr c.p 0] h = evFn hk0 Tp (call Tp Ms (D + 4)) M284 (D + 4) Tryz.f284 [ptr c.p 0] h := c284 (D + 4) _ _
 rw [hcall, e284, c1, oBs]
 simp only [asI, if_true, oBs]
 exact z
theorem bin188_loop {D N : Nat} {c : PC} {sub : PI} (hs : Sim c (D + 4) 382 sub) : ∀ (n m : Nat) (a : Int) (h : AHeap) (st : PSt) (rn : Option Nat) (r : Int) (st' : PSt), n ≤ m → PH c h st rn → binLoop c ⟨#[97, 110, 100]⟩ 12 sub n a st = some (r, st') →
  Pp c h rn (s356_0 hk0 (call Tp Ms (D + 4)) N m (ptr c.p 0) a h) (.int .i64 r) st' := by
 intro n
 induction n with
 | zero => intro m a h st rn r st' _ _ hp; cases hp
 | succ n ih =>
  intro m a h st rn r st' hm x hp
  obtain ⟨m, rfl⟩ : ∃ q, m = q + 1 := ⟨m - 1, by omega⟩
  rw [binLoop] at hp
  obtain ⟨⟨b, s1⟩, h1, hp⟩ := bnd hp
  obtain ⟨g1, r1, c1, y1, k1, n1⟩ := l107 (d := D + 1) x h1
  have c1' : call Tp Ms (D + 4) 194 [ptr c.p 0, .string ⟨#[97, 110, 100]⟩] h = _ := c1
  rw [s356_0_eq, c1', oBs]
  simp only [asB, oBs]
  refine Pp.of k1 n1 ?_
  cases b with
  | false =>
   rw [if_neg (by simp)] at hp; cases hp
   rw [cond_false]
   exact ⟨g1, r1, rfl, y1, PK.refl _ _, .inl rfl⟩
  | true =>
   rw [if_pos rfl] at hp
   obtain ⟨⟨e, s2⟩, h2, hp⟩ := bnd hp
   obtain ⟨⟨q, s3⟩, h3, hp⟩ := bnd hp
   obtain ⟨g2, r2, c2, y2, k2, n2⟩ := hs _ _ _ _ _ y1 h2
   obtain ⟨g3, r3, c1003, y3, k3, n3⟩ := nodeNew (d := D + 3) [a, e] y2 h3
   have c1003' : call Tp Ms (D + 4) 102 [ptr c.p 0, .int .i64 12, .string ⟨#[]⟩, .int .i64 0, slc g2.size 0 2] (g2.new 3 [.int .i64 a, .int .i64 e]) = _ := c1003
   have z := ih m q g3 s3 r3 r st' (by omega) y3 hp
   refine Pp.of k2 n2 (Pp.of k3 n3 ?_)
   rw [cond_true, c2, oBs]
   simp only [asI, if_true, oBs, aNewS]
   rw [c1003', oBs]
   simp only [if_true, oBs]
   exact z
theorem l188 {D : Nat} {c : PC} {sub : PI} {n : Nat} (hn : n ≤ D + 4) (hs : Sim c (D + 4) 382 sub) : Sim c (D + 5) 356 (binP c ⟨#[97, 110, 100]⟩ 12 sub n) := by
 intro h st rn r st' x hp
 obtain ⟨⟨a, s1⟩, h1, hp⟩ := bnd hp
 obtain ⟨g1, r1, c1, y1, k1, n1⟩ := hs _ _ _ _ _ x h1
 refine Pp.of k1 n1 ?_
 have z := bin188_loop (N := D + 4) hs n (D + 4) a g1 s1 r1 r st' hn y1 hp
 have hcall : call Tp Ms (D + 5) 356 [ptr c.p 0] h = evFn hk0 Tp (call Tp Ms (D + 4)) M356 (D + 4) Tryz.f356 [ptr c.p 0] h := c356 (D + 4) _ _
 rw [hcall, e356, c1, oBs]
 simp only [asI, if_true, oBs]
 exact z
theorem ix_loop {C : ACall} {N r L : Nat} {t : ByteArray} {h : AHeap} (tr : RowE h r 9 (opTexts.map Value.string)) : ∀ (k j m : Nat), 10 - j = k → j ≤ 10 → k < m →
  s128_0 hk0 C N m (slc r 0 10) t 10 (j : Int) h = some (.int .i64 (ixGo t (opTexts.drop j) j), h) := by
 intro k
 induction k with
 | zero =>
  intro j m hk hj hm
  obtain ⟨m, rfl⟩ : ∃ q, m = q + 1 := ⟨m - 1, by omega⟩
  have : ¬ ((j : Int) < 10) := by omega
  have hl : opTexts.length = 10 := rfl
  rw [s128_0_eq, decide_eq_false this, cond_false, List.drop_eq_nil_of_le (by omega)]; rfl
 | succ k ih =>
  intro j m hk hj hm
  obtain ⟨m, rfl⟩ : ∃ q, m = q + 1 := ⟨m - 1, by omega⟩
  have hl : opTexts.length = 10 := rfl
  have hlt : j < opTexts.length := by omega
  have hI : ((j : Int) < 10) := by omega
  have hix : aIdx (slc r 0 10) (.int .i64 (j : Int)) 1 = some (ptr r j) := by simp [aIdx, slc]; omega
  have hld : aLd1 h (ptr r j) = some (.string (opTexts[j]'hlt)) := tr.row.ld1 (by simp [hlt])
  have wj : IntKind.i64.wrap ((j : Int) + 1) = ((j + 1 : Nat) : Int) := by rw [wr (by omega) (by omega)]; omega
  rw [s128_0_eq, decide_eq_true hI, cond_true, hix, oBs, hld, oBs, List.drop_eq_getElem_cons hlt, ixGo]
  simp only [asS, oBs]
  cases (t.toList == (opTexts[j]'hlt).toList) with
  | true => rw [cond_true, if_pos rfl]
  | false =>
   rw [cond_false, if_neg (by simp), wj]
   exact ih (j + 1) m (by omega) (by omega) (by omega)
theorem ops172 (d : Nat) (h : AHeap) : call Tp Ms (d + 1) 341 [] h = some (slc h.size 0 10, h.new 9 (opTexts.map Value.string)) := by
 rw [c341, e341]
 rfl
theorem ix_bd (t : ByteArray) : ∀ (l : List ByteArray) (i : Int), 0 ≤ i → i ≤ 100 → l.length ≤ 100 → -1 ≤ ixGo t l i ∧ ixGo t l i ≤ i + l.length
 | [], i, h0, _, _ => by rw [ixGo]; simp; omega
 | u :: us, i, h0, h1, h2 => by
  rw [ixGo]
  split
  ·simp; omega
  ·by_cases hi : i + 1 ≤ 100
   ·have := ix_bd t us (i + 1) (by omega) hi (by simp at h2; omega)
    simp at *; omega
   ·have : ∀ (l : List ByteArray) (k : Int), 0 ≤ k → -1 ≤ ixGo t l k ∧ ixGo t l k ≤ k + l.length := by
     intro l
     induction l with
     | nil => intro k hk; rw [ixGo]; simp; omega
     | cons v vs ihv =>
      intro k hk
      rw [ixGo]
      split
      ·simp; omega
      ·have := ihv (k + 1) (by omega); simp; omega
    have := this us (i + 1) (by omega)
    simp; omega
theorem l120 {d r : Nat} {t : ByteArray} {h : AHeap} (tr : RowE h r 9 (opTexts.map Value.string)) : call Tp Ms (d + 20) 128 [slc r 0 10, .string t] h = some (.int .i64 (ixGo t opTexts 0), h) := by
 have ix := ix_loop (C := call Tp Ms (d + 19)) (N := d + 19) (L := 0) (t := t) tr 10 0 (d + 19) rfl (by omega) (by omega)
 rw [List.drop_zero, show (((0 : Nat) : Int)) = 0 from rfl] at ix
 have hcall : call Tp Ms (d + 20) 128 [slc r 0 10, .string t] h = evFn hk0 Tp (call Tp Ms (d + 19)) M128 (d + 19) Tryz.f128 [slc r 0 10, .string t] h := c128 (d + 19) _ _
 have hlen : aLen (slc r 0 10) = some (.int .i64 10) := rfl
 rw [hcall, e128, hlen, oBs]
 change (Option.some (10 : Int)).bind (fun n2 => s128_0 hk0 (call Tp Ms (d + 19)) (d + 19) (d + 19) (slc r 0 10) t n2 0 h) = _
 rw [oBs, ix]
theorem op_loop {d N r : Nat} {c : PC} {texts : List ByteArray} (hl : texts.length ≤ 10) : ∀ (k j m : Nat) (h : AHeap) (st : PSt) (rn : Option Nat), texts.length - j = k → j ≤ texts.length → k < m → PH c h st rn → RowE h r 9 (texts.map Value.string) →
  ∃ h', s406_0 hk0 (call Tp Ms (d + 20)) N m (ptr c.p 0) (slc r 0 texts.length) (texts.length : Int) (j : Int) h = some (.int .i64 (opOfP c (texts.drop j) st), h') ∧ Ext h.size h h' := by
 intro k
 induction k with
 | zero =>
  intro j m h st rn hk hj hm x tr
  obtain ⟨m, rfl⟩ : ∃ q, m = q + 1 := ⟨m - 1, by omega⟩
  have : ¬ ((j : Int) < (texts.length : Int)) := by omega
  refine ⟨h, ?_, Ext.refl _ _⟩
  rw [s406_0_eq, decide_eq_false this, cond_false, List.drop_eq_nil_of_le (by omega)]; rfl
 | succ k ih =>
  intro j m h st rn hk hj hm x tr
  obtain ⟨m, rfl⟩ : ∃ q, m = q + 1 := ⟨m - 1, by omega⟩
  have hlt : j < texts.length := by omega
  have hI : ((j : Int) < (texts.length : Int)) := by omega
  have hix : aIdx (slc r 0 texts.length) (.int .i64 (j : Int)) 1 = some (ptr r j) := by simp [aIdx, slc, hlt]
  have hld : aLd1 h (ptr r j) = some (.string (texts[j]'hlt)) := tr.row.ld1 (by simp [hlt])
  have wj : IntKind.i64.wrap ((j : Int) + 1) = ((j + 1 : Nat) : Int) := by rw [wr (by omega) (by omega)]; omega
  obtain ⟨h2, c2, x2⟩ := l154 (d := d + 18) x (texts[j]'hlt)
  have c2' : call Tp Ms (d + 20) 280 [ptr c.p 0, .string (texts[j]'hlt)] h = _ := c2
  rw [s406_0_eq, decide_eq_true hI, cond_true, hix, oBs, hld, oBs, List.drop_eq_getElem_cons hlt, opOfP]
  simp only [asS, oBs]
  rw [c2', oBs]
  simp only [asB, oBs]
  cases isP c st (texts[j]'hlt) with
  | true =>
   have e1003 := Ext.new (Nat.le_refl h2.size) 9 (opTexts.map Value.string)
   have c1003 : call Tp Ms (d + 20) 341 [] h2 = some (slc h2.size 0 10, h2.new 9 (opTexts.map Value.string)) := ops172 (d + 19) h2
   have c1004 := l120 (d := d) (t := texts[j]'hlt) (RowE.new h2 9 (opTexts.map Value.string))
   have bd := ix_bd (texts[j]'hlt) opTexts 0 (by omega) (by omega) (by decide)
   have hl10 : opTexts.length = 10 := rfl
   have w : IntKind.i64.wrap (1 + ixGo (texts[j]'hlt) opTexts 0) = 1 + ixGo (texts[j]'hlt) opTexts 0 := wr (by omega) (by omega)
   refine ⟨_, ?_, x2.trans (e1003.mono x2.size)⟩
   rw [cond_true, if_pos rfl, c1003, oBs, c1004, oBs]
   simp only [asI, if_true, oBs, w]
  | false =>
   obtain ⟨h3, c1003, x3⟩ := ih (j + 1) m h2 st rn (by omega) (by omega) (by omega) (x.ext x2) (tr.pk (PK.ext x2 (rn := none)) (by decide) (by decide))
   refine ⟨h3, ?_, x2.trans (x3.mono x2.size)⟩
   rw [cond_false, if_neg (by simp), wj]
   exact c1003
theorem l221 {d r : Nat} {c : PC} {texts : List ByteArray} (hl : texts.length ≤ 10) {h : AHeap} {st : PSt} {rn : Option Nat} (x : PH c h st rn) (tr : RowE h r 9 (texts.map Value.string)) :
  ∃ h', call Tp Ms (d + 21) 406 [ptr c.p 0, slc r 0 texts.length] h = some (.int .i64 (opOfP c texts st), h') ∧ Ext h.size h h' := by
 obtain ⟨h', a, b⟩ := op_loop (d := d) (N := d + 20) hl texts.length 0 (d + 20) h st rn (by omega) (by omega) (by omega) x tr
 refine ⟨h', ?_, b⟩
 have hcall : call Tp Ms (d + 21) 406 [ptr c.p 0, slc r 0 texts.length] h = evFn hk0 Tp (call Tp Ms (d + 20)) M406 (d + 20) Tryz.f406 [ptr c.p 0, slc r 0 texts.length] h := c406 (d + 20) _ _
 have hlen : aLen (slc r 0 texts.length) = some (.int .i64 (texts.length : Int)) := rfl
 rw [hcall, e406, hlen, oBs]
 change (Option.some (texts.length : Int)).bind (fun n2 => s406_0 hk0 (call Tp Ms (d + 20)) (d + 20) (d + 20) (ptr c.p 0) (slc r 0 texts.length) n2 0 h) = _
 rw [oBs]
 have a' : s406_0 hk0 (call Tp Ms (d + 20)) (d + 20) (d + 20) (ptr c.p 0) (slc r 0 texts.length) (texts.length : Int) 0 h = _ := a
 rw [a', List.drop_zero]
def clos (g : FuncId) (p : Nat) : Value := .func (.func g) #[ptr p 0] #[]
theorem callC (C : ACall) (g : FuncId) (p : Nat) (h : AHeap) : aCallV C (clos g p) [] h = C g [ptr p 0] h := by
 show C g (([ptr p 0] : List Value) ++ [] ++ []) h = _
 rw [List.append_nil, List.append_nil]
theorem RowE.pp {h h' : AHeap} {rn : Option Nat} {r : Nat} {ts : List ByteArray} (x : RowE h r 9 (ts.map Value.string)) (k : PK rn h h') : RowE h' r 9 (ts.map Value.string) := x.pk k (by decide) (by decide)
theorem row_loop {d N g r : Nat} {c : PC} {sub : PI} {texts : List ByteArray} (hl : texts.length ≤ 10) (hs : Sim c (d + 21) g sub) : ∀ (n m : Nat) (a : Int) (h : AHeap) (st : PSt) (rn : Option Nat) (q : Int) (st' : PSt), n ≤ m → PH c h st rn → RowE h r 9 (texts.map Value.string) → rowLoop c texts sub n a st = some (q, st') →
  Pp c h rn (s415_0 hk0 (call Tp Ms (d + 21)) N m (ptr c.p 0) (clos g c.p) (slc r 0 texts.length) a h) (.int .i64 q) st' := by
 intro n
 induction n with
 | zero => intro m a h st rn q st' _ _ _ hp; cases hp
 | succ n ih =>
  intro m a h st rn q st' hm x tr hp
  obtain ⟨m, rfl⟩ : ∃ q, m = q + 1 := ⟨m - 1, by omega⟩
  rw [rowLoop] at hp
  obtain ⟨g1, c1, x1⟩ := l221 (d := d) hl x tr
  have y1 := x.ext x1
  rw [s415_0_eq, c1, oBs]
  simp only [asI, if_true, oBs]
  refine Pp.ext x1 ?_
  by_cases h0 : opOfP c texts st = 0
  ·rw [if_pos h0] at hp; cases hp
   rw [h0, show ((0 : Int) == 0) = true from rfl, cond_true]
   exact ⟨g1, rn, rfl, y1, PK.refl _ _, .inl rfl⟩
  ·rw [if_neg h0] at hp
   obtain ⟨s1, h1, hp⟩ := bnd hp
   obtain ⟨⟨b, s2⟩, h2, hp⟩ := bnd hp
   obtain ⟨⟨w, s3⟩, h3, hp⟩ := bnd hp
   obtain ⟨_, _, _, a1, _⟩ := y1.ld
   obtain ⟨g2, t2, y2, k2, _⟩ := stAdv y1 h1
   have t2' : aSt g1 (ptr c.p 1) (.int .i64 (IntKind.i64.wrap ((st.at' : Int) + 1))) 1 = some g2 := t2
   obtain ⟨g3, r3, c1003, y3, k3, n3⟩ := hs _ _ _ _ _ y2 h2
   obtain ⟨g4, r4, c1004, y4, k4, n4⟩ := nodeNew (d := d + 20) [a, b] y3 h3
   have c1004' : call Tp Ms (d + 21) 102 [ptr c.p 0, .int .i64 10, .string ⟨#[]⟩, .int .i64 (opOfP c texts st), slc g3.size 0 2] (g3.new 3 [.int .i64 a, .int .i64 b]) = _ := c1004
   have tr4 := (((tr.pp (PK.ext x1 (rn := none))).pp k2).pp k3).pp k4
   have z := ih m w g4 s3 r4 q st' (by omega) y4 tr4 hp
   refine Pp.of k2 (.inl rfl) (Pp.of k3 n3 (Pp.of k4 n4 ?_))
   rw [beq_eq_false_iff_ne.2 h0, cond_false]
   simp only [nil_ptr, aOff_ptr, Nat.zero_add, oBs, a1, asI, if_true, t2']
   rw [callC, c1003, oBs]
   simp only [if_true, oBs, aNewS]
   rw [c1004', oBs]
   simp only [if_true, oBs]
   exact z
theorem l231 {d g r n : Nat} {c : PC} {sub : PI} {texts : List ByteArray} (hl : texts.length ≤ 10) (hn : n ≤ d + 21) (hs : Sim c (d + 21) g sub) {h : AHeap} {st st' : PSt} {rn : Option Nat} {q : Int} (x : PH c h st rn) (tr : RowE h r 9 (texts.map Value.string)) (hp : rowP c texts sub n st = some (q, st')) :
  Pp c h rn (call Tp Ms (d + 22) 415 [ptr c.p 0, clos g c.p, slc r 0 texts.length] h) (.int .i64 q) st' := by
 obtain ⟨⟨a, s1⟩, h1, hp⟩ := bnd hp
 obtain ⟨g1, r1, c1, y1, k1, n1⟩ := hs _ _ _ _ _ x h1
 have z := row_loop (N := d + 21) hl hs n (d + 21) a g1 s1 r1 q st' hn y1 (tr.pp k1) hp
 have hcall : call Tp Ms (d + 22) 415 [ptr c.p 0, clos g c.p, slc r 0 texts.length] h = evFn hk0 Tp (call Tp Ms (d + 21)) M415 (d + 21) Tryz.f415 [ptr c.p 0, clos g c.p, slc r 0 texts.length] h := c415 (d + 21) _ _
 refine Pp.of k1 n1 ?_
 rw [hcall, e415, callC, c1, oBs]
 simp only [asI, if_true, oBs]
 exact z
theorem l220 {d n : Nat} {c : PC} {sub : PI} (hn : n ≤ d + 21) (hs : Sim c (d + 21) 416 sub) : Sim c (d + 23) 405 (rowP c [(⟨#[46, 46]⟩ : ByteArray)] sub n) := by
 intro h st rn q st' x hp
 have e1 := Ext.new (Nat.le_refl h.size) 9 ([(⟨#[46, 46]⟩ : ByteArray)].map Value.string)
 have r1 := RowE.new h 9 ([(⟨#[46, 46]⟩ : ByteArray)].map Value.string)
 obtain ⟨g2, r2, c2, y2, k2, n2⟩ := l231 (d := d) (by decide) hn hs (x.ext e1) r1 hp
 have hcall : call Tp Ms (d + 23) 405 [ptr c.p 0] h = evFn hk0 Tp (call Tp Ms (d + 22)) M405 (d + 22) Tryz.f405 [ptr c.p 0] h := c405 (d + 22) _ _
 have hf : aFn 416 [ptr c.p 0] [] = some (clos 416 c.p) := rfl
 have c2' : call Tp Ms (d + 22) 415 [ptr c.p 0, clos 416 c.p, slc h.size 0 1] (h.new 9 [.string (⟨#[46, 46]⟩)]) = _ := c2
 refine Pp.ext e1 ⟨g2, r2, ?_, y2, k2, n2⟩
 rw [hcall, e405, hf, oBs]
 simp only [aNewS]
 rw [c2', oBs]
 simp only [asI, if_true, oBs]
theorem l232 {d n : Nat} {c : PC} {sub : PI} (hn : n ≤ d + 21) (hs : Sim c (d + 21) 421 sub) : Sim c (d + 23) 416 (rowP c [(⟨#[43]⟩ : ByteArray), (⟨#[45]⟩ : ByteArray)] sub n) := by
 intro h st rn q st' x hp
 have e1 := Ext.new (Nat.le_refl h.size) 9 ([(⟨#[43]⟩ : ByteArray), (⟨#[45]⟩ : ByteArray)].map Value.string)
 have r1 := RowE.new h 9 ([(⟨#[43]⟩ : ByteArray), (⟨#[45]⟩ : ByteArray)].map Value.string)
 obtain ⟨g2, r2, c2, y2, k2, n2⟩ := l231 (d := d) (by decide) hn hs (x.ext e1) r1 hp
 have hcall : call Tp Ms (d + 23) 416 [ptr c.p 0] h = evFn hk0 Tp (call Tp Ms (d + 22)) M416 (d + 22) Tryz.f416 [ptr c.p 0] h := c416 (d + 22) _ _
 have hf : aFn 421 [ptr c.p 0] [] = some (clos 421 c.p) := rfl
 have c2' : call Tp Ms (d + 22) 415 [ptr c.p 0, clos 421 c.p, slc h.size 0 2] (h.new 9 [.string (⟨#[43]⟩), .string (⟨#[45]⟩)]) = _ := c2
 refine Pp.ext e1 ⟨g2, r2, ?_, y2, k2, n2⟩
 rw [hcall, e416, hf, oBs]
 simp only [aNewS]
 rw [c2', oBs]
 simp only [asI, if_true, oBs]
theorem l238 {d n : Nat} {c : PC} {sub : PI} (hn : n ≤ d + 21) (hs : Sim c (d + 21) 424 sub) : Sim c (d + 23) 421 (rowP c [(⟨#[42]⟩ : ByteArray), (⟨#[47]⟩ : ByteArray), (⟨#[37]⟩ : ByteArray)] sub n) := by
 intro h st rn q st' x hp
 have e1 := Ext.new (Nat.le_refl h.size) 9 ([(⟨#[42]⟩ : ByteArray), (⟨#[47]⟩ : ByteArray), (⟨#[37]⟩ : ByteArray)].map Value.string)
 have r1 := RowE.new h 9 ([(⟨#[42]⟩ : ByteArray), (⟨#[47]⟩ : ByteArray), (⟨#[37]⟩ : ByteArray)].map Value.string)
 obtain ⟨g2, r2, c2, y2, k2, n2⟩ := l231 (d := d) (by decide) hn hs (x.ext e1) r1 hp
 have hcall : call Tp Ms (d + 23) 421 [ptr c.p 0] h = evFn hk0 Tp (call Tp Ms (d + 22)) M421 (d + 22) Tryz.f421 [ptr c.p 0] h := c421 (d + 22) _ _
 have hf : aFn 424 [ptr c.p 0] [] = some (clos 424 c.p) := rfl
 have c2' : call Tp Ms (d + 22) 415 [ptr c.p 0, clos 424 c.p, slc h.size 0 3] (h.new 9 [.string (⟨#[42]⟩), .string (⟨#[47]⟩), .string (⟨#[37]⟩)]) = _ := c2
 refine Pp.ext e1 ⟨g2, r2, ?_, y2, k2, n2⟩
 rw [hcall, e421, hf, oBs]
 simp only [aNewS]
 rw [c2', oBs]
 simp only [asI, if_true, oBs]
theorem l203 {d : Nat} {c : PC} {sub : PI} (hs : Sim c (d + 21) 405 sub) : Sim c (d + 22) 382 (compareP c sub) := by
 intro h st rn q st' x hp
 obtain ⟨⟨a, s1⟩, h1, hp⟩ := bnd hp
 obtain ⟨g1, r1, c1, y1, k1, n1⟩ := hs _ _ _ _ _ x h1
 have e2 := Ext.new (Nat.le_refl g1.size) 9 (cmpTexts.map Value.string)
 have t2 := RowE.new g1 9 (cmpTexts.map Value.string)
 obtain ⟨g3, c1003, x3⟩ := l221 (d := d) (c := c) (texts := cmpTexts) (by decide) (y1.ext e2) t2
 have c1003' : call Tp Ms (d + 21) 406 [ptr c.p 0, slc g1.size 0 4] (g1.new 9 [.string (⟨#[61, 61]⟩), .string (⟨#[126, 61]⟩), .string (⟨#[60]⟩), .string (⟨#[60, 61]⟩)]) = _ := c1003
 have y3 := (y1.ext e2).ext x3
 have hcall : call Tp Ms (d + 22) 382 [ptr c.p 0] h = evFn hk0 Tp (call Tp Ms (d + 21)) M382 (d + 21) Tryz.f382 [ptr c.p 0] h := c382 (d + 21) _ _
 have E : Ext g1.size g1 g3 := e2.trans (x3.mono e2.size)
 refine Pp.of k1 n1 (Pp.ext E ?_)
 rw [hcall, e382, c1, oBs]
 simp only [asI, if_true, oBs, aNewS]
 rw [c1003', oBs]
 simp only [if_true, oBs]
 by_cases h0 : opOfP c cmpTexts s1 = 0
 ·rw [if_pos h0] at hp; cases hp
  rw [h0, show ((0 : Int) == 0) = true from rfl, cond_true]
  exact ⟨g3, r1, rfl, y3, PK.refl _ _, .inl rfl⟩
 ·rw [if_neg h0] at hp
  obtain ⟨s2, h2, hp⟩ := bnd hp
  obtain ⟨⟨b, s3⟩, h3, hp⟩ := bnd hp
  obtain ⟨_, _, _, a1, _⟩ := y3.ld
  obtain ⟨g4, t4, y4, k4, _⟩ := stAdv y3 h2
  have t4' : aSt g3 (ptr c.p 1) (.int .i64 (IntKind.i64.wrap ((s1.at' : Int) + 1))) 1 = some g4 := t4
  obtain ⟨g5, r5, c1005, y5, k5, n5⟩ := hs _ _ _ _ _ y4 h3
  obtain ⟨g6, r6, c1006, y6, k6, n6⟩ := nodeNew (d := d + 20) [a, b] y5 hp
  have c1006' : call Tp Ms (d + 21) 102 [ptr c.p 0, .int .i64 10, .string ⟨#[]⟩, .int .i64 (opOfP c cmpTexts s1), slc g5.size 0 2] (g5.new 3 [.int .i64 a, .int .i64 b]) = _ := c1006
  refine Pp.of k4 (.inl rfl) (Pp.of k5 n5 ⟨g6, r6, ?_, y6, k6, n6⟩)
  rw [beq_eq_false_iff_ne.2 h0, cond_false]
  simp only [nil_ptr, aOff_ptr, Nat.zero_add, oBs, a1, asI, if_true, t4']
  rw [c1005, oBs]
  simp only [if_true, oBs]
  rw [c1006', oBs]
  simp only [if_true, oBs]
theorem turn241 {d : Nat} {c : PC} {self : PI} (t : Int) (hs : Sim c (d + 21) 424 self) {h : AHeap} {st st' : PSt} {rn : Option Nat} {q : Int} (x : PH c h st rn) (hp : turnP c t self st = some (q, st')) :
  Pp c h rn (s424_0 hk0 (call Tp Ms (d + 21)) (d + 21) (ptr c.p 0) t h) (.int .i64 q) st' := by
 obtain ⟨s1, h1, hp⟩ := bnd hp
 obtain ⟨s2, h2, hp⟩ := bnd hp
 obtain ⟨⟨e, s3⟩, h3, hp⟩ := bnd hp
 obtain ⟨s4, h4, hp⟩ := bnd hp
 obtain ⟨g1, r1, c1, y1, k1, n1⟩ := l157 (d := d + 18) x h1
 have c1' : call Tp Ms (d + 21) 283 [ptr c.p 0] h = _ := c1
 obtain ⟨_, _, _, a1, _⟩ := y1.ld
 obtain ⟨g2, t2, y2, k2, _⟩ := stAdv y1 h2
 have t2' : aSt g1 (ptr c.p 1) (.int .i64 (IntKind.i64.wrap ((s1.at' : Int) + 1))) 1 = some g2 := t2
 obtain ⟨g3, r3, c1003, y3, k3, n3⟩ := hs _ _ _ _ _ y2 h3
 obtain ⟨_, _, _, _, _, b3, _⟩ := y3.ld
 obtain ⟨g4, t4, y4, k4, _⟩ := stNest y3 h4
 have t4' : aSt g3 (ptr c.p 3) (.int .i64 (IntKind.i64.wrap (s3.nest - 1))) 1 = some g4 := t4
 obtain ⟨g5, r5, c1005, y5, k5, n5⟩ := nodeNew (d := d + 20) [e] y4 hp
 have c1005' : call Tp Ms (d + 21) 102 [ptr c.p 0, .int .i64 11, .string ⟨#[]⟩, .int .i64 t, slc g4.size 0 1] (g4.new 3 [.int .i64 e]) = _ := c1005
 refine Pp.of k1 n1 (Pp.of k2 (.inl rfl) (Pp.of k3 n3 (Pp.of k4 (.inl rfl) ⟨g5, r5, ?_, y5, k5, n5⟩)))
 rw [s424_0_j, s424_0_eq, c1', oBs]
 simp only [nil_ptr, aOff_ptr, Nat.zero_add, oBs, a1, asI, if_true, t2']
 rw [c1003, oBs]
 simp only [nil_ptr, aOff_ptr, Nat.zero_add, oBs, b3, if_true, t4', aNewS]
 rw [c1005', oBs]
 simp only [if_true, oBs]
theorem l241 {d : Nat} {c : PC} {self beh : PI} (hs : Sim c (d + 21) 424 self) (hb : Sim c (d + 21) 425 beh) : Sim c (d + 22) 424 (unaryP c self beh) := by
 intro h st rn q st' x hp
 have hcall : call Tp Ms (d + 22) 424 [ptr c.p 0] h = evFn hk0 Tp (call Tp Ms (d + 21)) M424 (d + 21) Tryz.f424 [ptr c.p 0] h := c424 (d + 21) _ _
 obtain ⟨g1, c1, x1⟩ := l154 (d := d + 19) x ⟨#[45]⟩
 have c1' : call Tp Ms (d + 21) 280 [ptr c.p 0, .string (⟨#[45]⟩)] h = _ := c1
 have y1 := x.ext x1
 unfold unaryP at hp
 refine Pp.ext x1 ?_
 rw [hcall, e424, c1', oBs]
 simp only [asB, oBs]
 cases h1 : isP c st ⟨#[45]⟩ with
 | true =>
  rw [h1, if_pos rfl] at hp
  rw [cond_true]
  exact turn241 1 hs y1 hp
 | false =>
  rw [h1, if_neg (by simp)] at hp
  obtain ⟨g2, c2, x2⟩ := l154 (d := d + 19) y1 ⟨#[110, 111, 116]⟩
  have c2' : call Tp Ms (d + 21) 280 [ptr c.p 0, .string (⟨#[110, 111, 116]⟩)] g1 = _ := c2
  have y2 := y1.ext x2
  refine Pp.ext x2 ?_
  rw [cond_false, c2', oBs]
  simp only [oBs]
  cases h2 : isP c st ⟨#[110, 111, 116]⟩ with
  | true =>
   rw [h2, if_pos rfl] at hp
   rw [cond_true]
   exact turn241 2 hs y2 hp
  | false =>
   rw [h2, if_neg (by simp)] at hp
   obtain ⟨g3, c1003, x3⟩ := l154 (d := d + 19) y2 ⟨#[35]⟩
   have c1003' : call Tp Ms (d + 21) 280 [ptr c.p 0, .string (⟨#[35]⟩)] g2 = _ := c1003
   have y3 := y2.ext x3
   refine Pp.ext x3 ?_
   rw [cond_false, c1003', oBs]
   simp only [oBs]
   cases h3 : isP c st ⟨#[35]⟩ with
   | true =>
    rw [h3, if_pos rfl] at hp
    rw [cond_true]
    exact turn241 3 hs y3 hp
   | false =>
    rw [h3, if_neg (by simp)] at hp
    obtain ⟨g4, r4, c1004, y4, k4, n4⟩ := hb _ _ _ _ _ y3 hp
    refine ⟨g4, r4, ?_, y4, k4, n4⟩
    rw [cond_false, c1004, oBs]
    simp only [asI, if_true, oBs]
end Go.Proofs.YtajpnemfppaafaaGreat
