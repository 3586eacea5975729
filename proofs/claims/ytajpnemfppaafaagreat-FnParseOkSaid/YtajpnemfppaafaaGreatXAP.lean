import Derived.Test.YtajpnemfppaafaaGreatXAD
import Derived.KernelRfl
import Derived.Test.YtajpnemfppaafaaGreatProg
import Derived.Test.YtajpnemfppaafaaGreatXAO
import Derived.Test.YtajpnemfppaafaaGreatXAG
set_option linter.unusedSimpArgs false
set_option linter.unusedVariables false
namespace Go.Proofs.YtajpnemfppaafaaGreat
open Go Go.AH
noncomputable section
variable (hk : Hk (Value × AHeap)) (C : ACall) (N : Nat)
theorem e105 (x0 x1 : Value) (h : AHeap) : evFn hk Tp C M105 N Tryz.f105 [x0, x1] h =
  (aCells x1).bind fun c1 => aNew h 48 c1 fun p2 h3 => (aNil x0).bind fun v4 => (aOff v4 3).bind fun v5 => (aLd1 h3 v5).bind fun v6 => (asI .i64 v6).bind fun n7 => bif n7 != 0 then some (.int .i64 (-1), h3) else (aNil x0).bind fun v8 => (aOff v8 2).bind fun v9 => (aLd1 h3 v9).bind fun v10 => (aLdN h3 p2 4).bind fun v11 => (aFill [.int .i64 0, .string ⟨#[]⟩, .int .i64 0, .slice none 0 0] [(0, 4, v11)]).bind fun c12 => aNewS h3 48 c12 1 fun p13 h14 => ((aLd1 h14 v9).bind fun v15 => some (vbeq v15 v10)).bind fun b16 => bif b16 then (aApp h14 48 4 56 v10 p13).bind fun r17 => (aNil x0).bind fun v18 => (aOff v18 2).bind fun v19 => (aSt r17.2 v19 r17.1 1).bind fun h20 => (aNil x0).bind fun v21 => (aOff v21 2).bind fun v22 => (aLd1 h20 v22).bind fun v23 => (aLen v23).bind fun v24 => (asI .i64 v24).bind fun n25 => some (.int .i64 (IntKind.i64.wrap (n25 - 1)), h20) else none := by kernel_rfl
theorem c105 (d : Nat) (args : List Value) (h : AHeap) : call Tp Ms (d + 1) 105 args h = evFn hk0 Tp (call Tp Ms d) M105 d Tryz.f105 args h := by kernel_rfl
def F201_0 : Nx (Value × AHeap) := evSt hk Tp C M201 N Tryz.f201 [1, 0, 1] []
def s201_0 (x0 : Value) (x1 : ByteArray) (x22 : Bool) (h : AHeap) := hk 100002 (⟨47, [(0, x0), (1, .string x1), (22, .bool x22)]⟩) h (F201_0 hk C N)
def F201_1 : Nx (Value × AHeap) := evSt hk Tp C M201 N Tryz.f201 [1, 1] []
def s201_1 (x0 : Value) (x1 : ByteArray) (h : AHeap) := hk 3 (⟨47, [(0, x0), (1, .string x1)]⟩) h (F201_1 hk C N)
theorem e201 (x0 : Value) (x1 : ByteArray) (h : AHeap) : evFn hk Tp C M201 N Tryz.f201 [x0, .string x1] h =
  (aNil x0).bind fun v1 => (aOff v1 3).bind fun v2 => (aLd1 h v2).bind fun v3 => (asI .i64 v3).bind fun n4 => bif n4 != 0 then s201_0 hk C N x0 x1 true h else (aNil x0).bind fun v5 => (aOff v5 1).bind fun v6 => (aLd1 h v6).bind fun v7 => (asI .i64 v7).bind fun n8 => (aNil x0).bind fun v9 => (aOff v9 0).bind fun v10 => (aLd1 h v10).bind fun v11 => (aLen v11).bind fun v12 => (asI .i64 v12).bind fun n13 => s201_0 hk C N x0 x1 (decide (n8 ≥ n13)) h := by kernel_rfl
theorem s201_0_j (x0 : Value) (x1 : ByteArray) (x22 : Bool) (h : AHeap) : s201_0 hk0 C N x0 x1 x22 h = F201_0 hk0 C N (⟨47, [(0, x0), (1, .string x1), (22, .bool x22)]⟩) h := by delta s201_0; exact hk0_app _ _ _ _
theorem s201_0_eq (x0 : Value) (x1 : ByteArray) (x22 : Bool) (h : AHeap) : F201_0 hk C N (⟨47, [(0, x0), (1, .string x1), (22, .bool x22)]⟩) h =
  bif x22 then some (.bool false, h) else s201_1 hk C N x0 x1 h := by kernel_rfl
theorem s201_1_j (x0 : Value) (x1 : ByteArray) (h : AHeap) : s201_1 hk0 C N x0 x1 h = F201_1 hk0 C N (⟨47, [(0, x0), (1, .string x1)]⟩) h := by delta s201_1; exact hk0_app _ _ _ _
theorem s201_1_eq (x0 : Value) (x1 : ByteArray) (h : AHeap) : F201_1 hk C N (⟨47, [(0, x0), (1, .string x1)]⟩) h =
  (aNil x0).bind fun v14 => (aOff v14 0).bind fun v15 => (aLd1 h v15).bind fun v16 => (aNil x0).bind fun v17 => (aOff v17 1).bind fun v18 => (aLd1 h v18).bind fun v19 => (asI .i64 v19).bind fun n20 => (aIdx v16 (.int .i64 n20) 4).bind fun v21 => (aLdN h v21 4).bind fun v22 => aNew h 233 [.int .i64 0, .int .i64 0, .string ⟨#[]⟩, .int .i64 0] fun p23 h24 => ((aLd1 h24 v15).bind fun v25 => some (vbeq v25 v16)).bind fun b26 => bif b26 then ((aLd1 h24 v18).bind fun v27 => (asI .i64 v27).bind fun n28 => some (vbeq (.int .i64 n28) (.int .i64 n20))).bind fun b29 => bif b29 then ((aLdN h24 v21 4).bind fun v30 => some (vbeq v30 v22)).bind fun b31 => bif b31 then (aSt h24 p23 v22 4).bind fun h32 => (aOff p23 0).bind fun v33 => (aLd1 h32 v33).bind fun v34 => (asI .i64 v34).bind fun n35 => bif n35 == 2 then (aOff p23 2).bind fun v36 => (aLd1 h32 v36).bind fun v37 => (asS v37).bind fun t38 => some (.bool (t38.toList == x1.toList), h32) else (aOff p23 0).bind fun v39 => (aLd1 h32 v39).bind fun v40 => (asI .i64 v40).bind fun n41 => bif n41 == 5 then (aOff p23 2).bind fun v42 => (aLd1 h32 v42).bind fun v43 => (asS v43).bind fun t44 => some (.bool (t44.toList == x1.toList), h32) else some (.bool false, h32) else none else none else none := by kernel_rfl
theorem c201 (d : Nat) (args : List Value) (h : AHeap) : call Tp Ms (d + 1) 201 args h = evFn hk0 Tp (call Tp Ms d) M201 d Tryz.f201 args h := by kernel_rfl
theorem e202 (x0 : Value) (h : AHeap) : evFn hk Tp C M202 N Tryz.f202 [x0] h =
  (C 290 [x0] h).bind fun r1 => (asI .i64 r1.1).bind fun n2 => bif n2 != 1 then (C 291 [x0, .int .i64 2] r1.2).bind fun r3 => (asI .i64 r3.1).bind fun n4 => some (.string ⟨#[]⟩, r3.2) else (aNil x0).bind fun v5 => (aOff v5 1).bind fun v6 => (aLd1 r1.2 v6).bind fun v7 => (asI .i64 v7).bind fun n8 => (aNil x0).bind fun v9 => (aOff v9 1).bind fun v10 => (aSt r1.2 v10 (.int .i64 (IntKind.i64.wrap (n8 + 1))) 1).bind fun h11 => (aNil x0).bind fun v12 => (aOff v12 0).bind fun v13 => (aLd1 h11 v13).bind fun v14 => (aNil x0).bind fun v15 => (aOff v15 1).bind fun v16 => (aLd1 h11 v16).bind fun v17 => (asI .i64 v17).bind fun n18 => (aIdx v14 (.int .i64 (IntKind.i64.wrap (n18 - 1))) 4).bind fun v19 => (aOff v19 2).bind fun v20 => (aLd1 h11 v20).bind fun v21 => (asS v21).bind fun t22 => some (.string t22, h11) := by kernel_rfl
theorem c202 (d : Nat) (args : List Value) (h : AHeap) : call Tp Ms (d + 1) 202 args h = evFn hk0 Tp (call Tp Ms d) M202 d Tryz.f202 args h := by kernel_rfl
theorem e203 (x0 : Value) (x1 : ByteArray) (h : AHeap) : evFn hk Tp C M203 N Tryz.f203 [x0, .string x1] h =
  (C 201 [x0, .string x1] h).bind fun r1 => (asB r1.1).bind fun b2 => bif !b2 then (C 291 [x0, .int .i64 2] r1.2).bind fun r3 => (asI .i64 r3.1).bind fun n4 => some (.tuple (List.toArray []), r3.2) else (aNil x0).bind fun v5 => (aOff v5 1).bind fun v6 => (aLd1 r1.2 v6).bind fun v7 => (asI .i64 v7).bind fun n8 => (aNil x0).bind fun v9 => (aOff v9 1).bind fun v10 => (aSt r1.2 v10 (.int .i64 (IntKind.i64.wrap (n8 + 1))) 1).bind fun h11 => some (.tuple (List.toArray []), h11) := by kernel_rfl
theorem c203 (d : Nat) (args : List Value) (h : AHeap) : call Tp Ms (d + 1) 203 args h = evFn hk0 Tp (call Tp Ms d) M203 d Tryz.f203 args h := by kernel_rfl
theorem e204 (x0 : Value) (h : AHeap) : evFn hk Tp C M204 N Tryz.f204 [x0] h =
  (C 292 [x0] h).bind fun r1 => (asB r1.1).bind fun b2 => bif !b2 then some (.int .i64 (-1), r1.2) else (C 293 [x0, .int .i64 1] r1.2).bind fun r3 => (asI .i64 r3.1).bind fun n4 => (aNil x0).bind fun v5 => (aOff v5 5).bind fun v6 => (aLd1 r3.2 v6).bind fun v7 => (asI .i64 v7).bind fun n8 => (aNil x0).bind fun v9 => (aOff v9 5).bind fun v10 => (aSt r3.2 v10 (.int .i64 (IntKind.i64.wrap (n8 - 1))) 1).bind fun h11 => some (.int .i64 n4, h11) := by kernel_rfl
theorem c204 (d : Nat) (args : List Value) (h : AHeap) : call Tp Ms (d + 1) 204 args h = evFn hk0 Tp (call Tp Ms d) M204 d Tryz.f204 args h := by kernel_rfl
def F205_0 (n1 : Nat) : Nx (Value × AHeap) := evSt hk Tp C M205 N Tryz.f205 [1, 1, 1, 1, 0, 2, 6] [n1]
def s205_0 (n1 : Nat) (x0 x3 : Value) (h : AHeap) := F205_0 hk C N n1 (⟨38, [(0, x0), (3, x3)]⟩) h
def F205_1 (n1 : Nat) : Nx (Value × AHeap) := evSt hk Tp C M205 N Tryz.f205 [1, 1, 1, 1, 0, 2, 3, 1] [n1]
def s205_1 (n1 : Nat) (x0 x3 : Value) (h : AHeap) := hk 6 (⟨38, [(0, x0), (3, x3)]⟩) h (F205_1 hk C N n1)
theorem e205 (x0 : Value) (h : AHeap) : evFn hk Tp C M205 N Tryz.f205 [x0] h =
  (C 292 [x0] h).bind fun r1 => (asB r1.1).bind fun b2 => bif !b2 then some (.int .i64 (-1), r1.2) else (C 203 [x0, .string (⟨#[123]⟩)] r1.2).bind fun r3 => aNewS r3.2 3 [] 0 fun p4 h5 => s205_0 hk C N N x0 p4 h5 := by kernel_rfl
theorem s205_0_eq (n1 : Nat) (x0 x3 : Value) (h : AHeap) : s205_0 hk C N (n1 + 1) x0 x3 h =
  (aNil x0).bind fun v6 => (aOff v6 3).bind fun v7 => (aLd1 h v7).bind fun v8 => (asI .i64 v8).bind fun n9 => bif n9 == 0 then (C 201 [x0, .string (⟨#[125]⟩)] h).bind fun r10 => (asB r10.1).bind fun b11 => bif !b11 then s205_1 hk C N n1 x0 x3 r10.2 else (C 203 [x0, .string (⟨#[125]⟩)] r10.2).bind fun r12 => (aNil x0).bind fun v13 => (aOff v13 5).bind fun v14 => (aLd1 r12.2 v14).bind fun v15 => (asI .i64 v15).bind fun n16 => (aNil x0).bind fun v17 => (aOff v17 5).bind fun v18 => (aSt r12.2 v18 (.int .i64 (IntKind.i64.wrap (n16 - 1))) 1).bind fun h19 => (aFill [.int .i64 0, .string ⟨#[]⟩, .int .i64 0, .slice none 0 0] [(0, 1, .int .i64 21), (3, 1, x3)]).bind fun c20 => (C 105 [x0, (.agg (List.toArray c20))] h19).bind fun r21 => (asI .i64 r21.1).bind fun n22 => some (.int .i64 n22, r21.2) else (C 203 [x0, .string (⟨#[125]⟩)] h).bind fun r23 => (aNil x0).bind fun v24 => (aOff v24 5).bind fun v25 => (aLd1 r23.2 v25).bind fun v26 => (asI .i64 v26).bind fun n27 => (aNil x0).bind fun v28 => (aOff v28 5).bind fun v29 => (aSt r23.2 v29 (.int .i64 (IntKind.i64.wrap (n27 - 1))) 1).bind fun h30 => (aFill [.int .i64 0, .string ⟨#[]⟩, .int .i64 0, .slice none 0 0] [(0, 1, .int .i64 21), (3, 1, x3)]).bind fun c31 => (C 105 [x0, (.agg (List.toArray c31))] h30).bind fun r32 => (asI .i64 r32.1).bind fun n33 => some (.int .i64 n33, r32.2) := by kernel_rfl
theorem s205_1_j (n1 : Nat) (x0 x3 : Value) (h : AHeap) : s205_1 hk0 C N n1 x0 x3 h = F205_1 hk0 C N n1 (⟨38, [(0, x0), (3, x3)]⟩) h := by delta s205_1; exact hk0_app _ _ _ _
theorem s205_1_eq (n1 : Nat) (x0 x3 : Value) (h : AHeap) : F205_1 hk C N n1 (⟨38, [(0, x0), (3, x3)]⟩) h =
  (C 104 [x0] h).bind fun r34 => (asI .i64 r34.1).bind fun n35 => aNewS r34.2 3 [.int .i64 n35] 1 fun p36 h37 => (aApp h37 3 1 8 x3 p36).bind fun r38 => s205_0 hk C N n1 x0 r38.1 r38.2 := by kernel_rfl
theorem c205 (d : Nat) (args : List Value) (h : AHeap) : call Tp Ms (d + 1) 205 args h = evFn hk0 Tp (call Tp Ms d) M205 d Tryz.f205 args h := by kernel_rfl
def F206_0 : Nx (Value × AHeap) := evSt hk Tp C M206 N Tryz.f206 [1, 1, 1, 1, 0, 2, 1] []
def s206_0 (x0 : Value) (x3 : Int) (x4 : Value) (x21 : Bool) (h : AHeap) := hk 100006 (⟨119, [(0, x0), (3, .int .i64 x3), (4, x4), (21, .bool x21)]⟩) h (F206_0 hk C N)
def F206_1 : Nx (Value × AHeap) := evSt hk Tp C M206 N Tryz.f206 [1, 1, 1, 1, 0, 2, 1, 5, 1] []
def s206_1 (x0 : Value) (x3 : Int) (x4 : Value) (x41 : Bool) (h : AHeap) := hk 100009 (⟨119, [(0, x0), (3, .int .i64 x3), (4, x4), (41, .bool x41)]⟩) h (F206_1 hk C N)
def F206_2 : Nx (Value × AHeap) := evSt hk Tp C M206 N Tryz.f206 [1, 1, 1, 1, 0, 2, 1, 5, 1, 5, 1] []
def s206_2 (x0 : Value) (x3 : Int) (x4 : Value) (x76 : Bool) (h : AHeap) := hk 100015 (⟨119, [(0, x0), (3, .int .i64 x3), (4, x4), (76, .bool x76)]⟩) h (F206_2 hk C N)
theorem e206 (x0 : Value) (h : AHeap) : evFn hk Tp C M206 N Tryz.f206 [x0] h =
  (C 204 [x0] h).bind fun r1 => (asI .i64 r1.1).bind fun n2 => (aNil x0).bind fun v3 => (aOff v3 3).bind fun v4 => (aLd1 r1.2 v4).bind fun v5 => (asI .i64 v5).bind fun n6 => bif n6 != 0 then some (.int .i64 (-1), r1.2) else (aNil x0).bind fun v7 => (aOff v7 2).bind fun v8 => (aLd1 r1.2 v8).bind fun v9 => (aIdx v9 (.int .i64 n2) 4).bind fun v10 => (aLdN r1.2 v10 4).bind fun v11 => aNew r1.2 48 [.int .i64 0, .string ⟨#[]⟩, .int .i64 0, .slice none 0 0] fun p12 h13 => (aSt h13 p12 v11 4).bind fun h14 => (C 201 [x0, .string (⟨#[59]⟩)] h14).bind fun r15 => (asB r15.1).bind fun b16 => bif b16 then (aOff p12 0).bind fun v17 => (aLd1 r15.2 v17).bind fun v18 => (asI .i64 v18).bind fun n19 => s206_0 hk C N x0 n2 p12 (n19 == 9) r15.2 else s206_0 hk C N x0 n2 p12 false r15.2 := by kernel_rfl
theorem s206_0_j (x0 : Value) (x3 : Int) (x4 : Value) (x21 : Bool) (h : AHeap) : s206_0 hk0 C N x0 x3 x4 x21 h = F206_0 hk0 C N (⟨119, [(0, x0), (3, .int .i64 x3), (4, x4), (21, .bool x21)]⟩) h := by delta s206_0; exact hk0_app _ _ _ _
theorem s206_0_eq (x0 : Value) (x3 : Int) (x4 : Value) (x21 : Bool) (h : AHeap) : F206_0 hk C N (⟨119, [(0, x0), (3, .int .i64 x3), (4, x4), (21, .bool x21)]⟩) h =
  bif x21 then (aNil x0).bind fun v20 => (aOff v20 1).bind fun v21 => (aLd1 h v21).bind fun v22 => (asI .i64 v22).bind fun n23 => (aNil x0).bind fun v24 => (aOff v24 1).bind fun v25 => (aSt h v25 (.int .i64 (IntKind.i64.wrap (n23 + 1))) 1).bind fun h26 => aNewS h26 3 [.int .i64 x3] 1 fun p27 h28 => (aFill [.int .i64 0, .string ⟨#[]⟩, .int .i64 0, .slice none 0 0] [(0, 1, .int .i64 20), (3, 1, p27)]).bind fun c29 => (C 105 [x0, (.agg (List.toArray c29))] h28).bind fun r30 => (asI .i64 r30.1).bind fun n31 => some (.int .i64 n31, r30.2) else (C 201 [x0, .string (⟨#[61]⟩)] h).bind fun r32 => (asB r32.1).bind fun b33 => bif b33 then (aOff x4 0).bind fun v34 => (aLd1 r32.2 v34).bind fun v35 => (asI .i64 v35).bind fun n36 => s206_1 hk C N x0 x3 x4 (n36 == 5) r32.2 else s206_1 hk C N x0 x3 x4 false r32.2 := by kernel_rfl
theorem s206_1_j (x0 : Value) (x3 : Int) (x4 : Value) (x41 : Bool) (h : AHeap) : s206_1 hk0 C N x0 x3 x4 x41 h = F206_1 hk0 C N (⟨119, [(0, x0), (3, .int .i64 x3), (4, x4), (41, .bool x41)]⟩) h := by delta s206_1; exact hk0_app _ _ _ _
theorem s206_1_eq (x0 : Value) (x3 : Int) (x4 : Value) (x41 : Bool) (h : AHeap) : F206_1 hk C N (⟨119, [(0, x0), (3, .int .i64 x3), (4, x4), (41, .bool x41)]⟩) h =
  bif x41 then (aNil x0).bind fun v37 => (aOff v37 1).bind fun v38 => (aLd1 h v38).bind fun v39 => (asI .i64 v39).bind fun n40 => (aNil x0).bind fun v41 => (aOff v41 1).bind fun v42 => (aSt h v42 (.int .i64 (IntKind.i64.wrap (n40 + 1))) 1).bind fun h43 => (aNil x0).bind fun v44 => (aOff v44 2).bind fun v45 => (aLd1 h43 v45).bind fun v46 => (aSub h43 48 v46 none (some (.int .i64 x3)) 4).bind fun v47 => (aNil x0).bind fun v48 => (aOff v48 2).bind fun v49 => (aSt h43 v49 v47 1).bind fun h50 => (C 204 [x0] h50).bind fun r51 => (asI .i64 r51.1).bind fun n52 => (C 203 [x0, .string (⟨#[59]⟩)] r51.2).bind fun r53 => (aOff x4 1).bind fun v54 => (aLd1 r53.2 v54).bind fun v55 => (asS v55).bind fun t56 => aNewS r53.2 3 [.int .i64 n52] 1 fun p57 h58 => (aFill [.int .i64 0, .string ⟨#[]⟩, .int .i64 0, .slice none 0 0] [(0, 1, .int .i64 15), (1, 1, .string t56), (3, 1, p57)]).bind fun c59 => (C 105 [x0, (.agg (List.toArray c59))] h58).bind fun r60 => (asI .i64 r60.1).bind fun n61 => some (.int .i64 n61, r60.2) else (C 201 [x0, .string (⟨#[61]⟩)] h).bind fun r62 => (asB r62.1).bind fun b63 => bif b63 then (aOff x4 0).bind fun v64 => (aLd1 r62.2 v64).bind fun v65 => (asI .i64 v65).bind fun n66 => s206_2 hk C N x0 x3 x4 (n66 == 8) r62.2 else s206_2 hk C N x0 x3 x4 false r62.2 := by kernel_rfl
theorem s206_2_j (x0 : Value) (x3 : Int) (x4 : Value) (x76 : Bool) (h : AHeap) : s206_2 hk0 C N x0 x3 x4 x76 h = F206_2 hk0 C N (⟨119, [(0, x0), (3, .int .i64 x3), (4, x4), (76, .bool x76)]⟩) h := by delta s206_2; exact hk0_app _ _ _ _
theorem s206_2_eq (x0 : Value) (x3 : Int) (x4 : Value) (x76 : Bool) (h : AHeap) : F206_2 hk C N (⟨119, [(0, x0), (3, .int .i64 x3), (4, x4), (76, .bool x76)]⟩) h =
  bif x76 then (aNil x0).bind fun v67 => (aOff v67 1).bind fun v68 => (aLd1 h v68).bind fun v69 => (asI .i64 v69).bind fun n70 => (aNil x0).bind fun v71 => (aOff v71 1).bind fun v72 => (aSt h v72 (.int .i64 (IntKind.i64.wrap (n70 + 1))) 1).bind fun h73 => (aNil x0).bind fun v74 => (aOff v74 2).bind fun v75 => (aLd1 h73 v75).bind fun v76 => (aSub h73 48 v76 none (some (.int .i64 x3)) 4).bind fun v77 => (aNil x0).bind fun v78 => (aOff v78 2).bind fun v79 => (aSt h73 v79 v77 1).bind fun h80 => (C 204 [x0] h80).bind fun r81 => (asI .i64 r81.1).bind fun n82 => (C 203 [x0, .string (⟨#[59]⟩)] r81.2).bind fun r83 => (aOff x4 3).bind fun v84 => (aLd1 r83.2 v84).bind fun v85 => (aIdx v85 (.int .i64 0) 1).bind fun v86 => (aLd1 r83.2 v86).bind fun v87 => (asI .i64 v87).bind fun n88 => (aOff x4 3).bind fun v89 => (aLd1 r83.2 v89).bind fun v90 => (aIdx v90 (.int .i64 1) 1).bind fun v91 => (aLd1 r83.2 v91).bind fun v92 => (asI .i64 v92).bind fun n93 => aNewS r83.2 3 [.int .i64 n88, .int .i64 n93, .int .i64 n82] 3 fun p94 h95 => (aFill [.int .i64 0, .string ⟨#[]⟩, .int .i64 0, .slice none 0 0] [(0, 1, .int .i64 16), (3, 1, p94)]).bind fun c96 => (C 105 [x0, (.agg (List.toArray c96))] h95).bind fun r97 => (asI .i64 r97.1).bind fun n98 => some (.int .i64 n98, r97.2) else (C 291 [x0, .int .i64 2] h).bind fun r99 => (asI .i64 r99.1).bind fun n100 => some (.int .i64 n100, r99.2) := by kernel_rfl
theorem c206 (d : Nat) (args : List Value) (h : AHeap) : call Tp Ms (d + 1) 206 args h = evFn hk0 Tp (call Tp Ms d) M206 d Tryz.f206 args h := by kernel_rfl
def F290_0 : Nx (Value × AHeap) := evSt hk Tp C M290 N Tryz.f290 [1, 0, 1] []
def s290_0 (x0 : Value) (x19 : Bool) (h : AHeap) := hk 100002 (⟨31, [(0, x0), (19, .bool x19)]⟩) h (F290_0 hk C N)
def F290_1 : Nx (Value × AHeap) := evSt hk Tp C M290 N Tryz.f290 [1, 1] []
def s290_1 (x0 : Value) (h : AHeap) := hk 3 (⟨31, [(0, x0)]⟩) h (F290_1 hk C N)
theorem e290 (x0 : Value) (h : AHeap) : evFn hk Tp C M290 N Tryz.f290 [x0] h =
  (aNil x0).bind fun v1 => (aOff v1 3).bind fun v2 => (aLd1 h v2).bind fun v3 => (asI .i64 v3).bind fun n4 => bif n4 != 0 then s290_0 hk C N x0 true h else (aNil x0).bind fun v5 => (aOff v5 1).bind fun v6 => (aLd1 h v6).bind fun v7 => (asI .i64 v7).bind fun n8 => (aNil x0).bind fun v9 => (aOff v9 0).bind fun v10 => (aLd1 h v10).bind fun v11 => (aLen v11).bind fun v12 => (asI .i64 v12).bind fun n13 => s290_0 hk C N x0 (decide (n8 ≥ n13)) h := by kernel_rfl
theorem s290_0_j (x0 : Value) (x19 : Bool) (h : AHeap) : s290_0 hk0 C N x0 x19 h = F290_0 hk0 C N (⟨31, [(0, x0), (19, .bool x19)]⟩) h := by delta s290_0; exact hk0_app _ _ _ _
theorem s290_0_eq (x0 : Value) (x19 : Bool) (h : AHeap) : F290_0 hk C N (⟨31, [(0, x0), (19, .bool x19)]⟩) h =
  bif x19 then some (.int .i64 0, h) else s290_1 hk C N x0 h := by kernel_rfl
theorem s290_1_j (x0 : Value) (h : AHeap) : s290_1 hk0 C N x0 h = F290_1 hk0 C N (⟨31, [(0, x0)]⟩) h := by delta s290_1; exact hk0_app _ _ _ _
theorem s290_1_eq (x0 : Value) (h : AHeap) : F290_1 hk C N (⟨31, [(0, x0)]⟩) h =
  (aNil x0).bind fun v14 => (aOff v14 0).bind fun v15 => (aLd1 h v15).bind fun v16 => (aNil x0).bind fun v17 => (aOff v17 1).bind fun v18 => (aLd1 h v18).bind fun v19 => (asI .i64 v19).bind fun n20 => (aIdx v16 (.int .i64 n20) 4).bind fun v21 => (aOff v21 0).bind fun v22 => (aLd1 h v22).bind fun v23 => (asI .i64 v23).bind fun n24 => some (.int .i64 n24, h) := by kernel_rfl
theorem c290 (d : Nat) (args : List Value) (h : AHeap) : call Tp Ms (d + 1) 290 args h = evFn hk0 Tp (call Tp Ms d) M290 d Tryz.f290 args h := by kernel_rfl
theorem e291 (x0 : Value) (x1 : Int) (h : AHeap) : evFn hk Tp C M291 N Tryz.f291 [x0, .int .i64 x1] h =
  (aNil x0).bind fun v1 => (aOff v1 3).bind fun v2 => (aLd1 h v2).bind fun v3 => (asI .i64 v3).bind fun n4 => bif n4 == 0 then (aNil x0).bind fun v5 => (aOff v5 3).bind fun v6 => (aSt h v6 (.int .i64 x1) 1).bind fun h7 => (aNil x0).bind fun v8 => (aOff v8 6).bind fun v9 => (aLd1 h7 v9).bind fun v10 => (asI .i64 v10).bind fun n11 => (aNil x0).bind fun v12 => (aOff v12 4).bind fun v13 => (aSt h7 v13 (.int .i64 n11) 1).bind fun h14 => (aNil x0).bind fun v15 => (aOff v15 1).bind fun v16 => (aLd1 h14 v16).bind fun v17 => (asI .i64 v17).bind fun n18 => (aNil x0).bind fun v19 => (aOff v19 0).bind fun v20 => (aLd1 h14 v20).bind fun v21 => (aLen v21).bind fun v22 => (asI .i64 v22).bind fun n23 => bif decide (n18 < n23) then (aNil x0).bind fun v24 => (aOff v24 0).bind fun v25 => (aLd1 h14 v25).bind fun v26 => (aNil x0).bind fun v27 => (aOff v27 1).bind fun v28 => (aLd1 h14 v28).bind fun v29 => (asI .i64 v29).bind fun n30 => (aIdx v26 (.int .i64 n30) 4).bind fun v31 => (aOff v31 1).bind fun v32 => (aLd1 h14 v32).bind fun v33 => (asI .i64 v33).bind fun n34 => (aNil x0).bind fun v35 => (aOff v35 4).bind fun v36 => (aSt h14 v36 (.int .i64 n34) 1).bind fun h37 => some (.int .i64 (-1), h37) else some (.int .i64 (-1), h14) else some (.int .i64 (-1), h) := by kernel_rfl
theorem c291 (d : Nat) (args : List Value) (h : AHeap) : call Tp Ms (d + 1) 291 args h = evFn hk0 Tp (call Tp Ms d) M291 d Tryz.f291 args h := by kernel_rfl
theorem e292 (x0 : Value) (h : AHeap) : evFn hk Tp C M292 N Tryz.f292 [x0] h =
  (aNil x0).bind fun v1 => (aOff v1 3).bind fun v2 => (aLd1 h v2).bind fun v3 => (asI .i64 v3).bind fun n4 => bif n4 != 0 then some (.bool false, h) else (aNil x0).bind fun v5 => (aOff v5 1).bind fun v6 => (aLd1 h v6).bind fun v7 => (asI .i64 v7).bind fun n8 => (aNil x0).bind fun v9 => (aOff v9 0).bind fun v10 => (aLd1 h v10).bind fun v11 => (aLen v11).bind fun v12 => (asI .i64 v12).bind fun n13 => bif decide (n8 ≥ n13) then (C 291 [x0, .int .i64 2] h).bind fun r14 => (asI .i64 r14.1).bind fun n15 => some (.bool false, r14.2) else (aNil x0).bind fun v16 => (aOff v16 5).bind fun v17 => (aLd1 h v17).bind fun v18 => (asI .i64 v18).bind fun n19 => bif decide (n19 ≥ 30) then (C 291 [x0, .int .i64 3] h).bind fun r20 => (asI .i64 r20.1).bind fun n21 => some (.bool false, r20.2) else (aNil x0).bind fun v22 => (aOff v22 5).bind fun v23 => (aLd1 h v23).bind fun v24 => (asI .i64 v24).bind fun n25 => (aNil x0).bind fun v26 => (aOff v26 5).bind fun v27 => (aSt h v27 (.int .i64 (IntKind.i64.wrap (n25 + 1))) 1).bind fun h28 => some (.bool true, h28) := by kernel_rfl
theorem c292 (d : Nat) (args : List Value) (h : AHeap) : call Tp Ms (d + 1) 292 args h = evFn hk0 Tp (call Tp Ms d) M292 d Tryz.f292 args h := by kernel_rfl
def F293_0 (n1 : Nat) : Nx (Value × AHeap) := evSt hk Tp C M293 N Tryz.f293 [1, 1, 1, 0, 2, 6] [n1]
def s293_0 (n1 : Nat) (x0 : Value) (x1 x5 : Int) (h : AHeap) := F293_0 hk C N n1 (⟨65, [(0, x0), (1, .int .i64 x1), (5, .int .i64 x5)]⟩) h
def F293_1 (n1 : Nat) : Nx (Value × AHeap) := evSt hk Tp C M293 N Tryz.f293 [1, 1, 1, 0, 2, 3, 1, 2, 1, 0, 2, 1] [n1]
def s293_1 (n1 : Nat) (x0 : Value) (x1 x5 x6 x7 : Int) (x28 : Bool) (h : AHeap) := hk 100010 (⟨65, [(0, x0), (1, .int .i64 x1), (5, .int .i64 x5), (6, .int .i64 x6), (7, .int .i64 x7), (28, .bool x28)]⟩) h (F293_1 hk C N n1)
def F293_3 (n1 : Nat) : Nx (Value × AHeap) := evSt hk Tp C M293 N Tryz.f293 [1, 1, 1, 0, 2, 3, 1, 2, 1, 1] [n1]
def s293_3 (n1 : Nat) (x0 : Value) (x1 x5 x6 x7 : Int) (h : AHeap) := hk 13 (⟨65, [(0, x0), (1, .int .i64 x1), (5, .int .i64 x5), (6, .int .i64 x6), (7, .int .i64 x7)]⟩) h (F293_3 hk C N n1)
def F293_2 (n1 : Nat) : Nx (Value × AHeap) := evSt hk Tp C M293 N Tryz.f293 [1, 1, 1, 0, 2, 3, 1, 2, 1, 0, 2, 1, 5, 1] [n1]
def s293_2 (n1 : Nat) (x0 : Value) (x1 x5 x6 x7 : Int) (x35 : Bool) (h : AHeap) := hk 100012 (⟨65, [(0, x0), (1, .int .i64 x1), (5, .int .i64 x5), (6, .int .i64 x6), (7, .int .i64 x7), (35, .bool x35)]⟩) h (F293_2 hk C N n1)
theorem e293 (x0 : Value) (x1 : Int) (h : AHeap) : evFn hk Tp C M293 N Tryz.f293 [x0, .int .i64 x1] h =
  bif x1 == 7 then (C 358 [x0] h).bind fun r1 => (asI .i64 r1.1).bind fun n2 => some (.int .i64 n2, r1.2) else (C 293 [x0, .int .i64 (IntKind.i64.wrap (x1 + 1))] h).bind fun r3 => (asI .i64 r3.1).bind fun n4 => s293_0 hk C N N x0 x1 n4 r3.2 := by kernel_rfl
theorem s293_0_eq (n1 : Nat) (x0 : Value) (x1 x5 : Int) (h : AHeap) : s293_0 hk C N (n1 + 1) x0 x1 x5 h =
  (aNil x0).bind fun v5 => (aOff v5 3).bind fun v6 => (aLd1 h v6).bind fun v7 => (asI .i64 v7).bind fun n8 => bif n8 == 0 then bif x1 == 1 then (C 201 [x0, .string (⟨#[111, 114]⟩)] h).bind fun r9 => (asB r9.1).bind fun b10 => s293_1 hk C N n1 x0 x1 x5 10 0 b10 r9.2 else s293_1 hk C N n1 x0 x1 x5 10 0 false h else some (.int .i64 x5, h) := by kernel_rfl
theorem s293_1_j (n1 : Nat) (x0 : Value) (x1 x5 x6 x7 : Int) (x28 : Bool) (h : AHeap) : s293_1 hk0 C N n1 x0 x1 x5 x6 x7 x28 h = F293_1 hk0 C N n1 (⟨65, [(0, x0), (1, .int .i64 x1), (5, .int .i64 x5), (6, .int .i64 x6), (7, .int .i64 x7), (28, .bool x28)]⟩) h := by delta s293_1; exact hk0_app _ _ _ _
theorem s293_1_eq (n1 : Nat) (x0 : Value) (x1 x5 x6 x7 : Int) (x28 : Bool) (h : AHeap) : F293_1 hk C N n1 (⟨65, [(0, x0), (1, .int .i64 x1), (5, .int .i64 x5), (6, .int .i64 x6), (7, .int .i64 x7), (28, .bool x28)]⟩) h =
  bif x28 then s293_3 hk C N n1 x0 x1 x5 13 x7 h else bif x1 == 2 then (C 201 [x0, .string (⟨#[97, 110, 100]⟩)] h).bind fun r11 => (asB r11.1).bind fun b12 => s293_2 hk C N n1 x0 x1 x5 x6 x7 b12 r11.2 else s293_2 hk C N n1 x0 x1 x5 x6 x7 false h := by kernel_rfl
theorem s293_3_j (n1 : Nat) (x0 : Value) (x1 x5 x6 x7 : Int) (h : AHeap) : s293_3 hk0 C N n1 x0 x1 x5 x6 x7 h = F293_3 hk0 C N n1 (⟨65, [(0, x0), (1, .int .i64 x1), (5, .int .i64 x5), (6, .int .i64 x6), (7, .int .i64 x7)]⟩) h := by delta s293_3; exact hk0_app _ _ _ _
theorem s293_3_eq (n1 : Nat) (x0 : Value) (x1 x5 x6 x7 : Int) (h : AHeap) : F293_3 hk C N n1 (⟨65, [(0, x0), (1, .int .i64 x1), (5, .int .i64 x5), (6, .int .i64 x6), (7, .int .i64 x7)]⟩) h =
  (aNil x0).bind fun v13 => (aOff v13 1).bind fun v14 => (aLd1 h v14).bind fun v15 => (asI .i64 v15).bind fun n16 => (aNil x0).bind fun v17 => (aOff v17 1).bind fun v18 => (aSt h v18 (.int .i64 (IntKind.i64.wrap (n16 + 1))) 1).bind fun h19 => (C 293 [x0, .int .i64 (IntKind.i64.wrap (x1 + 1))] h19).bind fun r20 => (asI .i64 r20.1).bind fun n21 => aNewS r20.2 3 [.int .i64 x5, .int .i64 n21] 2 fun p22 h23 => (aFill [.int .i64 0, .string ⟨#[]⟩, .int .i64 0, .slice none 0 0] [(0, 1, .int .i64 x6), (2, 1, .int .i64 x7), (3, 1, p22)]).bind fun c24 => (C 105 [x0, (.agg (List.toArray c24))] h23).bind fun r25 => (asI .i64 r25.1).bind fun n26 => bif x1 == 3 then some (.int .i64 n26, r25.2) else s293_0 hk C N n1 x0 x1 n26 r25.2 := by kernel_rfl
theorem s293_2_j (n1 : Nat) (x0 : Value) (x1 x5 x6 x7 : Int) (x35 : Bool) (h : AHeap) : s293_2 hk0 C N n1 x0 x1 x5 x6 x7 x35 h = F293_2 hk0 C N n1 (⟨65, [(0, x0), (1, .int .i64 x1), (5, .int .i64 x5), (6, .int .i64 x6), (7, .int .i64 x7), (35, .bool x35)]⟩) h := by delta s293_2; exact hk0_app _ _ _ _
theorem s293_2_eq (n1 : Nat) (x0 : Value) (x1 x5 x6 x7 : Int) (x35 : Bool) (h : AHeap) : F293_2 hk C N n1 (⟨65, [(0, x0), (1, .int .i64 x1), (5, .int .i64 x5), (6, .int .i64 x6), (7, .int .i64 x7), (35, .bool x35)]⟩) h =
  bif x35 then s293_3 hk C N n1 x0 x1 x5 12 x7 h else (C 359 [x0, .int .i64 x1] h).bind fun r27 => (asI .i64 r27.1).bind fun n28 => bif n28 == 0 then some (.int .i64 x5, r27.2) else s293_3 hk C N n1 x0 x1 x5 x6 n28 r27.2 := by kernel_rfl
theorem c293 (d : Nat) (args : List Value) (h : AHeap) : call Tp Ms (d + 1) 293 args h = evFn hk0 Tp (call Tp Ms d) M293 d Tryz.f293 args h := by kernel_rfl
def F358_0 : Nx (Value × AHeap) := evSt hk Tp C M358 N Tryz.f358 [1, 1, 1] []
def s358_0 (x0 : Value) (x3 : Int) (h : AHeap) := hk 9 (⟨41, [(0, x0), (3, .int .i64 x3)]⟩) h (F358_0 hk C N)
theorem e358 (x0 : Value) (h : AHeap) : evFn hk Tp C M358 N Tryz.f358 [x0] h =
  (C 201 [x0, .string (⟨#[45]⟩)] h).bind fun r1 => (asB r1.1).bind fun b2 => bif b2 then s358_0 hk C N x0 1 r1.2 else (C 201 [x0, .string (⟨#[110, 111, 116]⟩)] r1.2).bind fun r3 => (asB r3.1).bind fun b4 => bif b4 then s358_0 hk C N x0 2 r3.2 else (C 201 [x0, .string (⟨#[35]⟩)] r3.2).bind fun r5 => (asB r5.1).bind fun b6 => bif b6 then s358_0 hk C N x0 3 r5.2 else (C 383 [x0] r5.2).bind fun r7 => (asI .i64 r7.1).bind fun n8 => some (.int .i64 n8, r7.2) := by kernel_rfl
theorem s358_0_j (x0 : Value) (x3 : Int) (h : AHeap) : s358_0 hk0 C N x0 x3 h = F358_0 hk0 C N (⟨41, [(0, x0), (3, .int .i64 x3)]⟩) h := by delta s358_0; exact hk0_app _ _ _ _
theorem s358_0_eq (x0 : Value) (x3 : Int) (h : AHeap) : F358_0 hk C N (⟨41, [(0, x0), (3, .int .i64 x3)]⟩) h =
  (C 292 [x0] h).bind fun r9 => (asB r9.1).bind fun b10 => bif !b10 then some (.int .i64 (-1), r9.2) else (aNil x0).bind fun v11 => (aOff v11 1).bind fun v12 => (aLd1 r9.2 v12).bind fun v13 => (asI .i64 v13).bind fun n14 => (aNil x0).bind fun v15 => (aOff v15 1).bind fun v16 => (aSt r9.2 v16 (.int .i64 (IntKind.i64.wrap (n14 + 1))) 1).bind fun h17 => (C 358 [x0] h17).bind fun r18 => (asI .i64 r18.1).bind fun n19 => (aNil x0).bind fun v20 => (aOff v20 5).bind fun v21 => (aLd1 r18.2 v21).bind fun v22 => (asI .i64 v22).bind fun n23 => (aNil x0).bind fun v24 => (aOff v24 5).bind fun v25 => (aSt r18.2 v25 (.int .i64 (IntKind.i64.wrap (n23 - 1))) 1).bind fun h26 => aNewS h26 3 [.int .i64 n19] 1 fun p27 h28 => (aFill [.int .i64 0, .string ⟨#[]⟩, .int .i64 0, .slice none 0 0] [(0, 1, .int .i64 11), (2, 1, .int .i64 x3), (3, 1, p27)]).bind fun c29 => (C 105 [x0, (.agg (List.toArray c29))] h28).bind fun r30 => (asI .i64 r30.1).bind fun n31 => some (.int .i64 n31, r30.2) := by kernel_rfl
theorem c358 (d : Nat) (args : List Value) (h : AHeap) : call Tp Ms (d + 1) 358 args h = evFn hk0 Tp (call Tp Ms d) M358 d Tryz.f358 args h := by kernel_rfl
end
noncomputable section
variable (hk : Hk (Value × AHeap)) (C : ACall) (N : Nat)
def F359_0 (n1 : Nat) : Nx (Value × AHeap) := evSt hk Tp C M359 N Tryz.f359 [1, 1, 0, 1, 2, 6] [n1]
def s359_0 (n1 : Nat) (x0 : Value) (x1 : Int) (x5 x6 : Value) (x7 : Int) (h : AHeap) := F359_0 hk C N n1 (⟨29, [(0, x0), (1, .int .i64 x1), (5, x5), (6, x6), (7, .int .i64 x7)]⟩) h
def F359_1 (n1 : Nat) : Nx (Value × AHeap) := evSt hk Tp C M359 N Tryz.f359 [1, 1, 0, 1, 2, 3, 1, 0, 2, 1] [n1]
def s359_1 (n1 : Nat) (x0 : Value) (x1 : Int) (x5 x6 : Value) (x7 : Int) (x27 : Bool) (h : AHeap) := hk 100006 (⟨29, [(0, x0), (1, .int .i64 x1), (5, x5), (6, x6), (7, .int .i64 x7), (27, .bool x27)]⟩) h (F359_1 hk C N n1)
theorem e359 (x0 : Value) (x1 : Int) (h : AHeap) : evFn hk Tp C M359 N Tryz.f359 [x0, .int .i64 x1] h =
  (C 343 [] h).bind fun r1 => (C 384 [] r1.2).bind fun r2 => s359_0 hk C N N x0 x1 r1.1 r2.1 1 r2.2 := by kernel_rfl
theorem s359_0_eq (n1 : Nat) (x0 : Value) (x1 : Int) (x5 x6 : Value) (x7 : Int) (h : AHeap) : s359_0 hk C N (n1 + 1) x0 x1 x5 x6 x7 h =
  bif decide (x7 ≤ 10) then (aIdx x6 (.int .i64 x7) 1).bind fun v3 => (aLd1 h v3).bind fun v4 => (asI .i64 v4).bind fun n5 => bif n5 == x1 then (aIdx x5 (.int .i64 x7) 1).bind fun v6 => (aLd1 h v6).bind fun v7 => (asS v7).bind fun t8 => (C 201 [x0, .string t8] h).bind fun r9 => (asB r9.1).bind fun b10 => s359_1 hk C N n1 x0 x1 x5 x6 x7 b10 r9.2 else s359_1 hk C N n1 x0 x1 x5 x6 x7 false h else some (.int .i64 0, h) := by kernel_rfl
theorem s359_1_j (n1 : Nat) (x0 : Value) (x1 : Int) (x5 x6 : Value) (x7 : Int) (x27 : Bool) (h : AHeap) : s359_1 hk0 C N n1 x0 x1 x5 x6 x7 x27 h = F359_1 hk0 C N n1 (⟨29, [(0, x0), (1, .int .i64 x1), (5, x5), (6, x6), (7, .int .i64 x7), (27, .bool x27)]⟩) h := by delta s359_1; exact hk0_app _ _ _ _
theorem s359_1_eq (n1 : Nat) (x0 : Value) (x1 : Int) (x5 x6 : Value) (x7 : Int) (x27 : Bool) (h : AHeap) : F359_1 hk C N n1 (⟨29, [(0, x0), (1, .int .i64 x1), (5, x5), (6, x6), (7, .int .i64 x7), (27, .bool x27)]⟩) h =
  bif x27 then some (.int .i64 x7, h) else s359_0 hk C N n1 x0 x1 x5 x6 (IntKind.i64.wrap (x7 + 1)) h := by kernel_rfl
theorem c359 (d : Nat) (args : List Value) (h : AHeap) : call Tp Ms (d + 1) 359 args h = evFn hk0 Tp (call Tp Ms d) M359 d Tryz.f359 args h := by kernel_rfl
def F383_0 (n1 : Nat) : Nx (Value × AHeap) := evSt hk Tp C M383 N Tryz.f383 [1, 1, 0, 2, 6] [n1]
def s383_0 (n1 : Nat) (x0 : Value) (x3 : Int) (h : AHeap) := F383_0 hk C N n1 (⟨97, [(0, x0), (3, .int .i64 x3)]⟩) h
def F383_1 (n1 n2 : Nat) : Nx (Value × AHeap) := evSt hk Tp C M383 N Tryz.f383 [1, 1, 0, 2, 3, 1, 2, 2, 1, 4, 1, 1, 0, 2, 6] [n1, n2]
def s383_1 (n1 n2 : Nat) (x0 x4 : Value) (h : AHeap) := F383_1 hk C N n1 n2 (⟨97, [(0, x0), (4, x4)]⟩) h
def F383_2 (n1 n2 : Nat) : Nx (Value × AHeap) := evSt hk Tp C M383 N Tryz.f383 [1, 1, 0, 2, 3, 1, 2, 2, 1, 4, 1, 1, 0, 2, 3, 1] [n1, n2]
def s383_2 (n1 n2 : Nat) (x0 x4 : Value) (h : AHeap) := hk 8 (⟨97, [(0, x0), (4, x4)]⟩) h (F383_2 hk C N n1 n2)
def F383_3 (n1 n2 : Nat) : Nx (Value × AHeap) := evSt hk Tp C M383 N Tryz.f383 [1, 1, 0, 2, 3, 1, 2, 2, 1, 4, 1, 1, 0, 2, 3, 1, 2, 1] [n1, n2]
def s383_3 (n1 n2 : Nat) (x0 x4 : Value) (h : AHeap) := hk 10 (⟨97, [(0, x0), (4, x4)]⟩) h (F383_3 hk C N n1 n2)
theorem e383 (x0 : Value) (h : AHeap) : evFn hk Tp C M383 N Tryz.f383 [x0] h =
  (C 407 [x0] h).bind fun r1 => (asI .i64 r1.1).bind fun n2 => s383_0 hk C N N x0 n2 r1.2 := by kernel_rfl
theorem s383_0_eq (n1 : Nat) (x0 : Value) (x3 : Int) (h : AHeap) : s383_0 hk C N (n1 + 1) x0 x3 h =
  (aNil x0).bind fun v3 => (aOff v3 3).bind fun v4 => (aLd1 h v4).bind fun v5 => (asI .i64 v5).bind fun n6 => bif n6 == 0 then (C 201 [x0, .string (⟨#[40]⟩)] h).bind fun r7 => (asB r7.1).bind fun b8 => bif b8 then (aNil x0).bind fun v9 => (aOff v9 1).bind fun v10 => (aLd1 r7.2 v10).bind fun v11 => (asI .i64 v11).bind fun n12 => (aNil x0).bind fun v13 => (aOff v13 1).bind fun v14 => (aSt r7.2 v14 (.int .i64 (IntKind.i64.wrap (n12 + 1))) 1).bind fun h15 => aNewS h15 3 [.int .i64 x3] 1 fun p16 h17 => s383_1 hk C N n1 N x0 p16 h17 else (C 201 [x0, .string (⟨#[91]⟩)] r7.2).bind fun r18 => (asB r18.1).bind fun b19 => bif b19 then (aNil x0).bind fun v20 => (aOff v20 1).bind fun v21 => (aLd1 r18.2 v21).bind fun v22 => (asI .i64 v22).bind fun n23 => (aNil x0).bind fun v24 => (aOff v24 1).bind fun v25 => (aSt r18.2 v25 (.int .i64 (IntKind.i64.wrap (n23 + 1))) 1).bind fun h26 => (C 204 [x0] h26).bind fun r27 => (asI .i64 r27.1).bind fun n28 => (C 203 [x0, .string (⟨#[93]⟩)] r27.2).bind fun r29 => aNewS r29.2 3 [.int .i64 x3, .int .i64 n28] 2 fun p30 h31 => (aFill [.int .i64 0, .string ⟨#[]⟩, .int .i64 0, .slice none 0 0] [(0, 1, .int .i64 8), (3, 1, p30)]).bind fun c32 => (C 105 [x0, (.agg (List.toArray c32))] h31).bind fun r33 => (asI .i64 r33.1).bind fun n34 => s383_0 hk C N n1 x0 n34 r33.2 else (C 201 [x0, .string (⟨#[46]⟩)] r18.2).bind fun r35 => (asB r35.1).bind fun b36 => bif b36 then (aNil x0).bind fun v37 => (aOff v37 1).bind fun v38 => (aLd1 r35.2 v38).bind fun v39 => (asI .i64 v39).bind fun n40 => (aNil x0).bind fun v41 => (aOff v41 1).bind fun v42 => (aSt r35.2 v42 (.int .i64 (IntKind.i64.wrap (n40 + 1))) 1).bind fun h43 => (C 202 [x0] h43).bind fun r44 => (asS r44.1).bind fun t45 => (C 105 [x0, (.agg (List.toArray [.int .i64 4, .string t45, .int .i64 0, .slice none 0 0]))] r44.2).bind fun r46 => (asI .i64 r46.1).bind fun n47 => aNewS r46.2 3 [.int .i64 x3, .int .i64 n47] 2 fun p48 h49 => (aFill [.int .i64 0, .string ⟨#[]⟩, .int .i64 0, .slice none 0 0] [(0, 1, .int .i64 8), (3, 1, p48)]).bind fun c50 => (C 105 [x0, (.agg (List.toArray c50))] h49).bind fun r51 => (asI .i64 r51.1).bind fun n52 => s383_0 hk C N n1 x0 n52 r51.2 else some (.int .i64 x3, r35.2) else some (.int .i64 x3, h) := by kernel_rfl
theorem s383_1_eq (n1 n2 : Nat) (x0 x4 : Value) (h : AHeap) : s383_1 hk C N n1 (n2 + 1) x0 x4 h =
  (aNil x0).bind fun v53 => (aOff v53 3).bind fun v54 => (aLd1 h v54).bind fun v55 => (asI .i64 v55).bind fun n56 => bif n56 == 0 then (C 201 [x0, .string (⟨#[41]⟩)] h).bind fun r57 => (asB r57.1).bind fun b58 => bif !b58 then s383_2 hk C N n1 n2 x0 x4 r57.2 else (C 203 [x0, .string (⟨#[41]⟩)] r57.2).bind fun r59 => (aFill [.int .i64 0, .string ⟨#[]⟩, .int .i64 0, .slice none 0 0] [(0, 1, .int .i64 9), (3, 1, x4)]).bind fun c60 => (C 105 [x0, (.agg (List.toArray c60))] r59.2).bind fun r61 => (asI .i64 r61.1).bind fun n62 => s383_0 hk C N n1 x0 n62 r61.2 else (C 203 [x0, .string (⟨#[41]⟩)] h).bind fun r63 => (aFill [.int .i64 0, .string ⟨#[]⟩, .int .i64 0, .slice none 0 0] [(0, 1, .int .i64 9), (3, 1, x4)]).bind fun c64 => (C 105 [x0, (.agg (List.toArray c64))] r63.2).bind fun r65 => (asI .i64 r65.1).bind fun n66 => s383_0 hk C N n1 x0 n66 r65.2 := by kernel_rfl
theorem s383_2_j (n1 n2 : Nat) (x0 x4 : Value) (h : AHeap) : s383_2 hk0 C N n1 n2 x0 x4 h = F383_2 hk0 C N n1 n2 (⟨97, [(0, x0), (4, x4)]⟩) h := by delta s383_2; exact hk0_app _ _ _ _
theorem s383_2_eq (n1 n2 : Nat) (x0 x4 : Value) (h : AHeap) : F383_2 hk C N n1 n2 (⟨97, [(0, x0), (4, x4)]⟩) h =
  (aLen x4).bind fun v67 => (asI .i64 v67).bind fun n68 => bif decide (n68 > 1) then (C 203 [x0, .string (⟨#[44]⟩)] h).bind fun r69 => s383_3 hk C N n1 n2 x0 x4 r69.2 else s383_3 hk C N n1 n2 x0 x4 h := by kernel_rfl
theorem s383_3_j (n1 n2 : Nat) (x0 x4 : Value) (h : AHeap) : s383_3 hk0 C N n1 n2 x0 x4 h = F383_3 hk0 C N n1 n2 (⟨97, [(0, x0), (4, x4)]⟩) h := by delta s383_3; exact hk0_app _ _ _ _
theorem s383_3_eq (n1 n2 : Nat) (x0 x4 : Value) (h : AHeap) : F383_3 hk C N n1 n2 (⟨97, [(0, x0), (4, x4)]⟩) h =
  (C 204 [x0] h).bind fun r70 => (asI .i64 r70.1).bind fun n71 => aNewS r70.2 3 [.int .i64 n71] 1 fun p72 h73 => (aApp h73 3 1 8 x4 p72).bind fun r74 => s383_1 hk C N n1 n2 x0 r74.1 r74.2 := by kernel_rfl
theorem c383 (d : Nat) (args : List Value) (h : AHeap) : call Tp Ms (d + 1) 383 args h = evFn hk0 Tp (call Tp Ms d) M383 d Tryz.f383 args h := by kernel_rfl
theorem e384 (h : AHeap) : evFn hk Tp C M384 N Tryz.f384 [] h =
  aNewS h 3 [.int .i64 0, .int .i64 5, .int .i64 5, .int .i64 6, .int .i64 6, .int .i64 6, .int .i64 4, .int .i64 3, .int .i64 3, .int .i64 3, .int .i64 3] 11 fun p1 h2 => some (p1, h2) := by kernel_rfl
theorem c384 (d : Nat) (args : List Value) (h : AHeap) : call Tp Ms (d + 1) 384 args h = evFn hk0 Tp (call Tp Ms d) M384 d Tryz.f384 args h := by kernel_rfl
theorem e407 (x0 : Value) (h : AHeap) : evFn hk Tp C M407 N Tryz.f407 [x0] h =
  (C 290 [x0] h).bind fun r1 => (asI .i64 r1.1).bind fun n2 => bif n2 == 3 then (aNil x0).bind fun v3 => (aOff v3 1).bind fun v4 => (aLd1 r1.2 v4).bind fun v5 => (asI .i64 v5).bind fun n6 => (aNil x0).bind fun v7 => (aOff v7 1).bind fun v8 => (aSt r1.2 v8 (.int .i64 (IntKind.i64.wrap (n6 + 1))) 1).bind fun h9 => (aNil x0).bind fun v10 => (aOff v10 0).bind fun v11 => (aLd1 h9 v11).bind fun v12 => (aNil x0).bind fun v13 => (aOff v13 1).bind fun v14 => (aLd1 h9 v14).bind fun v15 => (asI .i64 v15).bind fun n16 => (aIdx v12 (.int .i64 (IntKind.i64.wrap (n16 - 1))) 4).bind fun v17 => (aOff v17 3).bind fun v18 => (aLd1 h9 v18).bind fun v19 => (asI .i64 v19).bind fun n20 => (C 105 [x0, (.agg (List.toArray [.int .i64 3, .string ⟨#[]⟩, .int .i64 n20, .slice none 0 0]))] h9).bind fun r21 => (asI .i64 r21.1).bind fun n22 => some (.int .i64 n22, r21.2) else bif n2 == 4 then (aNil x0).bind fun v23 => (aOff v23 1).bind fun v24 => (aLd1 r1.2 v24).bind fun v25 => (asI .i64 v25).bind fun n26 => (aNil x0).bind fun v27 => (aOff v27 1).bind fun v28 => (aSt r1.2 v28 (.int .i64 (IntKind.i64.wrap (n26 + 1))) 1).bind fun h29 => (aNil x0).bind fun v30 => (aOff v30 0).bind fun v31 => (aLd1 h29 v31).bind fun v32 => (aNil x0).bind fun v33 => (aOff v33 1).bind fun v34 => (aLd1 h29 v34).bind fun v35 => (asI .i64 v35).bind fun n36 => (aIdx v32 (.int .i64 (IntKind.i64.wrap (n36 - 1))) 4).bind fun v37 => (aOff v37 2).bind fun v38 => (aLd1 h29 v38).bind fun v39 => (asS v39).bind fun t40 => (C 105 [x0, (.agg (List.toArray [.int .i64 4, .string t40, .int .i64 0, .slice none 0 0]))] h29).bind fun r41 => (asI .i64 r41.1).bind fun n42 => some (.int .i64 n42, r41.2) else bif n2 == 1 then (C 202 [x0] r1.2).bind fun r43 => (asS r43.1).bind fun t44 => (C 105 [x0, (.agg (List.toArray [.int .i64 5, .string t44, .int .i64 0, .slice none 0 0]))] r43.2).bind fun r45 => (asI .i64 r45.1).bind fun n46 => some (.int .i64 n46, r45.2) else (C 201 [x0, .string (⟨#[110, 105, 108]⟩)] r1.2).bind fun r47 => (asB r47.1).bind fun b48 => bif b48 then (aNil x0).bind fun v49 => (aOff v49 1).bind fun v50 => (aLd1 r47.2 v50).bind fun v51 => (asI .i64 v51).bind fun n52 => (aNil x0).bind fun v53 => (aOff v53 1).bind fun v54 => (aSt r47.2 v54 (.int .i64 (IntKind.i64.wrap (n52 + 1))) 1).bind fun h55 => (C 105 [x0, (.agg (List.toArray [.int .i64 1, .string ⟨#[]⟩, .int .i64 0, .slice none 0 0]))] h55).bind fun r56 => (asI .i64 r56.1).bind fun n57 => some (.int .i64 n57, r56.2) else (C 201 [x0, .string (⟨#[116, 114, 117, 101]⟩)] r47.2).bind fun r58 => (asB r58.1).bind fun b59 => bif b59 then (aNil x0).bind fun v60 => (aOff v60 1).bind fun v61 => (aLd1 r58.2 v61).bind fun v62 => (asI .i64 v62).bind fun n63 => (aNil x0).bind fun v64 => (aOff v64 1).bind fun v65 => (aSt r58.2 v65 (.int .i64 (IntKind.i64.wrap (n63 + 1))) 1).bind fun h66 => (C 105 [x0, (.agg (List.toArray [.int .i64 2, .string ⟨#[]⟩, .int .i64 1, .slice none 0 0]))] h66).bind fun r67 => (asI .i64 r67.1).bind fun n68 => some (.int .i64 n68, r67.2) else (C 201 [x0, .string (⟨#[102, 97, 108, 115, 101]⟩)] r58.2).bind fun r69 => (asB r69.1).bind fun b70 => bif b70 then (aNil x0).bind fun v71 => (aOff v71 1).bind fun v72 => (aLd1 r69.2 v72).bind fun v73 => (asI .i64 v73).bind fun n74 => (aNil x0).bind fun v75 => (aOff v75 1).bind fun v76 => (aSt r69.2 v76 (.int .i64 (IntKind.i64.wrap (n74 + 1))) 1).bind fun h77 => (C 105 [x0, (.agg (List.toArray [.int .i64 2, .string ⟨#[]⟩, .int .i64 0, .slice none 0 0]))] h77).bind fun r78 => (asI .i64 r78.1).bind fun n79 => some (.int .i64 n79, r78.2) else (C 201 [x0, .string (⟨#[102, 110]⟩)] r69.2).bind fun r80 => (asB r80.1).bind fun b81 => bif b81 then (aNil x0).bind fun v82 => (aOff v82 1).bind fun v83 => (aLd1 r80.2 v83).bind fun v84 => (asI .i64 v84).bind fun n85 => (aNil x0).bind fun v86 => (aOff v86 1).bind fun v87 => (aSt r80.2 v87 (.int .i64 (IntKind.i64.wrap (n85 + 1))) 1).bind fun h88 => (C 417 [x0] h88).bind fun r89 => (asI .i64 r89.1).bind fun n90 => some (.int .i64 n90, r89.2) else (C 201 [x0, .string (⟨#[123]⟩)] r80.2).bind fun r91 => (asB r91.1).bind fun b92 => bif b92 then (aNil x0).bind fun v93 => (aOff v93 1).bind fun v94 => (aLd1 r91.2 v94).bind fun v95 => (asI .i64 v95).bind fun n96 => (aNil x0).bind fun v97 => (aOff v97 1).bind fun v98 => (aSt r91.2 v98 (.int .i64 (IntKind.i64.wrap (n96 + 1))) 1).bind fun h99 => (C 418 [x0] h99).bind fun r100 => (asI .i64 r100.1).bind fun n101 => some (.int .i64 n101, r100.2) else (C 201 [x0, .string (⟨#[40]⟩)] r91.2).bind fun r102 => (asB r102.1).bind fun b103 => bif b103 then (aNil x0).bind fun v104 => (aOff v104 1).bind fun v105 => (aLd1 r102.2 v105).bind fun v106 => (asI .i64 v106).bind fun n107 => (aNil x0).bind fun v108 => (aOff v108 1).bind fun v109 => (aSt r102.2 v109 (.int .i64 (IntKind.i64.wrap (n107 + 1))) 1).bind fun h110 => (C 204 [x0] h110).bind fun r111 => (asI .i64 r111.1).bind fun n112 => (C 203 [x0, .string (⟨#[41]⟩)] r111.2).bind fun r113 => some (.int .i64 n112, r113.2) else (C 291 [x0, .int .i64 2] r102.2).bind fun r114 => (asI .i64 r114.1).bind fun n115 => some (.int .i64 n115, r114.2) := by kernel_rfl
theorem c407 (d : Nat) (args : List Value) (h : AHeap) : call Tp Ms (d + 1) 407 args h = evFn hk0 Tp (call Tp Ms d) M407 d Tryz.f407 args h := by kernel_rfl
def F417_0 (n1 : Nat) : Nx (Value × AHeap) := evSt hk Tp C M417 N Tryz.f417 [1, 1, 1, 0, 2, 6] [n1]
def s417_0 (n1 : Nat) (x0 x3 : Value) (h : AHeap) := F417_0 hk C N n1 (⟨43, [(0, x0), (3, x3)]⟩) h
def F417_1 (n1 : Nat) : Nx (Value × AHeap) := evSt hk Tp C M417 N Tryz.f417 [1, 1, 1, 0, 2, 3, 1] [n1]
def s417_1 (n1 : Nat) (x0 x3 : Value) (h : AHeap) := hk 4 (⟨43, [(0, x0), (3, x3)]⟩) h (F417_1 hk C N n1)
def F417_2 (n1 : Nat) : Nx (Value × AHeap) := evSt hk Tp C M417 N Tryz.f417 [1, 1, 1, 0, 2, 3, 1, 2, 1] [n1]
def s417_2 (n1 : Nat) (x0 x3 : Value) (h : AHeap) := hk 6 (⟨43, [(0, x0), (3, x3)]⟩) h (F417_2 hk C N n1)
theorem e417 (x0 : Value) (h : AHeap) : evFn hk Tp C M417 N Tryz.f417 [x0] h =
  aNewS h 3 [] 0 fun p1 h2 => (C 203 [x0, .string (⟨#[40]⟩)] h2).bind fun r3 => s417_0 hk C N N x0 p1 r3.2 := by kernel_rfl
theorem s417_0_eq (n1 : Nat) (x0 x3 : Value) (h : AHeap) : s417_0 hk C N (n1 + 1) x0 x3 h =
  (aNil x0).bind fun v4 => (aOff v4 3).bind fun v5 => (aLd1 h v5).bind fun v6 => (asI .i64 v6).bind fun n7 => bif n7 == 0 then (C 201 [x0, .string (⟨#[41]⟩)] h).bind fun r8 => (asB r8.1).bind fun b9 => bif !b9 then s417_1 hk C N n1 x0 x3 r8.2 else (C 203 [x0, .string (⟨#[41]⟩)] r8.2).bind fun r10 => (C 205 [x0] r10.2).bind fun r11 => (asI .i64 r11.1).bind fun n12 => aNewS r11.2 3 [.int .i64 n12] 1 fun p13 h14 => (aApp h14 3 1 8 x3 p13).bind fun r15 => (aFill [.int .i64 0, .string ⟨#[]⟩, .int .i64 0, .slice none 0 0] [(0, 1, .int .i64 6), (3, 1, r15.1)]).bind fun c16 => (C 105 [x0, (.agg (List.toArray c16))] r15.2).bind fun r17 => (asI .i64 r17.1).bind fun n18 => some (.int .i64 n18, r17.2) else (C 203 [x0, .string (⟨#[41]⟩)] h).bind fun r19 => (C 205 [x0] r19.2).bind fun r20 => (asI .i64 r20.1).bind fun n21 => aNewS r20.2 3 [.int .i64 n21] 1 fun p22 h23 => (aApp h23 3 1 8 x3 p22).bind fun r24 => (aFill [.int .i64 0, .string ⟨#[]⟩, .int .i64 0, .slice none 0 0] [(0, 1, .int .i64 6), (3, 1, r24.1)]).bind fun c25 => (C 105 [x0, (.agg (List.toArray c25))] r24.2).bind fun r26 => (asI .i64 r26.1).bind fun n27 => some (.int .i64 n27, r26.2) := by kernel_rfl
theorem s417_1_j (n1 : Nat) (x0 x3 : Value) (h : AHeap) : s417_1 hk0 C N n1 x0 x3 h = F417_1 hk0 C N n1 (⟨43, [(0, x0), (3, x3)]⟩) h := by delta s417_1; exact hk0_app _ _ _ _
theorem s417_1_eq (n1 : Nat) (x0 x3 : Value) (h : AHeap) : F417_1 hk C N n1 (⟨43, [(0, x0), (3, x3)]⟩) h =
  (aLen x3).bind fun v28 => (asI .i64 v28).bind fun n29 => bif decide (n29 > 0) then (C 203 [x0, .string (⟨#[44]⟩)] h).bind fun r30 => s417_2 hk C N n1 x0 x3 r30.2 else s417_2 hk C N n1 x0 x3 h := by kernel_rfl
theorem s417_2_j (n1 : Nat) (x0 x3 : Value) (h : AHeap) : s417_2 hk0 C N n1 x0 x3 h = F417_2 hk0 C N n1 (⟨43, [(0, x0), (3, x3)]⟩) h := by delta s417_2; exact hk0_app _ _ _ _
theorem s417_2_eq (n1 : Nat) (x0 x3 : Value) (h : AHeap) : F417_2 hk C N n1 (⟨43, [(0, x0), (3, x3)]⟩) h =
  (C 202 [x0] h).bind fun r31 => (asS r31.1).bind fun t32 => (C 105 [x0, (.agg (List.toArray [.int .i64 22, .string t32, .int .i64 0, .slice none 0 0]))] r31.2).bind fun r33 => (asI .i64 r33.1).bind fun n34 => aNewS r33.2 3 [.int .i64 n34] 1 fun p35 h36 => (aApp h36 3 1 8 x3 p35).bind fun r37 => s417_0 hk C N n1 x0 r37.1 r37.2 := by kernel_rfl
theorem c417 (d : Nat) (args : List Value) (h : AHeap) : call Tp Ms (d + 1) 417 args h = evFn hk0 Tp (call Tp Ms d) M417 d Tryz.f417 args h := by kernel_rfl
def F418_0 (n1 : Nat) : Nx (Value × AHeap) := evSt hk Tp C M418 N Tryz.f418 [1, 1, 0, 2, 6] [n1]
def s418_0 (n1 : Nat) (x0 x3 : Value) (h : AHeap) := F418_0 hk C N n1 (⟨31, [(0, x0), (3, x3)]⟩) h
def F418_1 (n1 : Nat) : Nx (Value × AHeap) := evSt hk Tp C M418 N Tryz.f418 [1, 1, 0, 2, 3, 1] [n1]
def s418_1 (n1 : Nat) (x0 x3 : Value) (h : AHeap) := hk 3 (⟨31, [(0, x0), (3, x3)]⟩) h (F418_1 hk C N n1)
def F418_2 (n1 : Nat) : Nx (Value × AHeap) := evSt hk Tp C M418 N Tryz.f418 [1, 1, 0, 2, 3, 1, 2, 1] [n1]
def s418_2 (n1 : Nat) (x0 x3 : Value) (h : AHeap) := hk 5 (⟨31, [(0, x0), (3, x3)]⟩) h (F418_2 hk C N n1)
theorem e418 (x0 : Value) (h : AHeap) : evFn hk Tp C M418 N Tryz.f418 [x0] h =
  aNewS h 3 [] 0 fun p1 h2 => s418_0 hk C N N x0 p1 h2 := by kernel_rfl
theorem s418_0_eq (n1 : Nat) (x0 x3 : Value) (h : AHeap) : s418_0 hk C N (n1 + 1) x0 x3 h =
  (aNil x0).bind fun v3 => (aOff v3 3).bind fun v4 => (aLd1 h v4).bind fun v5 => (asI .i64 v5).bind fun n6 => bif n6 == 0 then (C 201 [x0, .string (⟨#[125]⟩)] h).bind fun r7 => (asB r7.1).bind fun b8 => bif !b8 then s418_1 hk C N n1 x0 x3 r7.2 else (C 203 [x0, .string (⟨#[125]⟩)] r7.2).bind fun r9 => (aFill [.int .i64 0, .string ⟨#[]⟩, .int .i64 0, .slice none 0 0] [(0, 1, .int .i64 7), (3, 1, x3)]).bind fun c10 => (C 105 [x0, (.agg (List.toArray c10))] r9.2).bind fun r11 => (asI .i64 r11.1).bind fun n12 => some (.int .i64 n12, r11.2) else (C 203 [x0, .string (⟨#[125]⟩)] h).bind fun r13 => (aFill [.int .i64 0, .string ⟨#[]⟩, .int .i64 0, .slice none 0 0] [(0, 1, .int .i64 7), (3, 1, x3)]).bind fun c14 => (C 105 [x0, (.agg (List.toArray c14))] r13.2).bind fun r15 => (asI .i64 r15.1).bind fun n16 => some (.int .i64 n16, r15.2) := by kernel_rfl
theorem s418_1_j (n1 : Nat) (x0 x3 : Value) (h : AHeap) : s418_1 hk0 C N n1 x0 x3 h = F418_1 hk0 C N n1 (⟨31, [(0, x0), (3, x3)]⟩) h := by delta s418_1; exact hk0_app _ _ _ _
theorem s418_1_eq (n1 : Nat) (x0 x3 : Value) (h : AHeap) : F418_1 hk C N n1 (⟨31, [(0, x0), (3, x3)]⟩) h =
  (aLen x3).bind fun v17 => (asI .i64 v17).bind fun n18 => bif decide (n18 > 0) then (C 203 [x0, .string (⟨#[44]⟩)] h).bind fun r19 => s418_2 hk C N n1 x0 x3 r19.2 else s418_2 hk C N n1 x0 x3 h := by kernel_rfl
theorem s418_2_j (n1 : Nat) (x0 x3 : Value) (h : AHeap) : s418_2 hk0 C N n1 x0 x3 h = F418_2 hk0 C N n1 (⟨31, [(0, x0), (3, x3)]⟩) h := by delta s418_2; exact hk0_app _ _ _ _
theorem s418_2_eq (n1 : Nat) (x0 x3 : Value) (h : AHeap) : F418_2 hk C N n1 (⟨31, [(0, x0), (3, x3)]⟩) h =
  (C 422 [x0] h).bind fun r20 => (asI .i64 r20.1).bind fun n21 => aNewS r20.2 3 [.int .i64 n21] 1 fun p22 h23 => (aApp h23 3 1 8 x3 p22).bind fun r24 => s418_0 hk C N n1 x0 r24.1 r24.2 := by kernel_rfl
theorem c418 (d : Nat) (args : List Value) (h : AHeap) : call Tp Ms (d + 1) 418 args h = evFn hk0 Tp (call Tp Ms d) M418 d Tryz.f418 args h := by kernel_rfl
def F422_0 : Nx (Value × AHeap) := evSt hk Tp C M422 N Tryz.f422 [1, 1, 0, 1] []
def s422_0 (x0 : Value) (x77 : Bool) (h : AHeap) := hk 100009 (⟨106, [(0, x0), (77, .bool x77)]⟩) h (F422_0 hk C N)
def F422_1 : Nx (Value × AHeap) := evSt hk Tp C M422 N Tryz.f422 [1, 1, 1] []
def s422_1 (x0 : Value) (h : AHeap) := hk 14 (⟨106, [(0, x0)]⟩) h (F422_1 hk C N)
theorem e422 (x0 : Value) (h : AHeap) : evFn hk Tp C M422 N Tryz.f422 [x0] h =
  (C 201 [x0, .string (⟨#[91]⟩)] h).bind fun r1 => (asB r1.1).bind fun b2 => bif b2 then (aNil x0).bind fun v3 => (aOff v3 1).bind fun v4 => (aLd1 r1.2 v4).bind fun v5 => (asI .i64 v5).bind fun n6 => (aNil x0).bind fun v7 => (aOff v7 1).bind fun v8 => (aSt r1.2 v8 (.int .i64 (IntKind.i64.wrap (n6 + 1))) 1).bind fun h9 => (C 204 [x0] h9).bind fun r10 => (asI .i64 r10.1).bind fun n11 => (C 203 [x0, .string (⟨#[93]⟩)] r10.2).bind fun r12 => (C 203 [x0, .string (⟨#[61]⟩)] r12.2).bind fun r13 => (C 204 [x0] r13.2).bind fun r14 => (asI .i64 r14.1).bind fun n15 => aNewS r14.2 3 [.int .i64 n11, .int .i64 n15] 2 fun p16 h17 => (aFill [.int .i64 0, .string ⟨#[]⟩, .int .i64 0, .slice none 0 0] [(0, 1, .int .i64 24), (3, 1, p16)]).bind fun c18 => (C 105 [x0, (.agg (List.toArray c18))] h17).bind fun r19 => (asI .i64 r19.1).bind fun n20 => some (.int .i64 n20, r19.2) else (C 290 [x0] r1.2).bind fun r21 => (asI .i64 r21.1).bind fun n22 => bif n22 == 1 then (aNil x0).bind fun v23 => (aOff v23 1).bind fun v24 => (aLd1 r21.2 v24).bind fun v25 => (asI .i64 v25).bind fun n26 => (aNil x0).bind fun v27 => (aOff v27 0).bind fun v28 => (aLd1 r21.2 v28).bind fun v29 => (aLen v29).bind fun v30 => (asI .i64 v30).bind fun n31 => bif decide ((IntKind.i64.wrap (n26 + 1)) < n31) then (aNil x0).bind fun v32 => (aOff v32 0).bind fun v33 => (aLd1 r21.2 v33).bind fun v34 => (aNil x0).bind fun v35 => (aOff v35 1).bind fun v36 => (aLd1 r21.2 v36).bind fun v37 => (asI .i64 v37).bind fun n38 => (aIdx v34 (.int .i64 (IntKind.i64.wrap (n38 + 1))) 4).bind fun v39 => (aOff v39 0).bind fun v40 => (aLd1 r21.2 v40).bind fun v41 => (asI .i64 v41).bind fun n42 => bif n42 == 5 then (aNil x0).bind fun v43 => (aOff v43 0).bind fun v44 => (aLd1 r21.2 v44).bind fun v45 => (aNil x0).bind fun v46 => (aOff v46 1).bind fun v47 => (aLd1 r21.2 v47).bind fun v48 => (asI .i64 v48).bind fun n49 => (aIdx v45 (.int .i64 (IntKind.i64.wrap (n49 + 1))) 4).bind fun v50 => (aOff v50 2).bind fun v51 => (aLd1 r21.2 v51).bind fun v52 => (asS v52).bind fun t53 => s422_0 hk C N x0 (t53.toList == (⟨#[61]⟩ : ByteArray).toList) r21.2 else s422_0 hk C N x0 false r21.2 else s422_0 hk C N x0 false r21.2 else s422_0 hk C N x0 false r21.2 := by kernel_rfl
theorem s422_0_j (x0 : Value) (x77 : Bool) (h : AHeap) : s422_0 hk0 C N x0 x77 h = F422_0 hk0 C N (⟨106, [(0, x0), (77, .bool x77)]⟩) h := by delta s422_0; exact hk0_app _ _ _ _
theorem s422_0_eq (x0 : Value) (x77 : Bool) (h : AHeap) : F422_0 hk C N (⟨106, [(0, x0), (77, .bool x77)]⟩) h =
  bif x77 then (C 202 [x0] h).bind fun r54 => (asS r54.1).bind fun t55 => (aNil x0).bind fun v56 => (aOff v56 1).bind fun v57 => (aLd1 r54.2 v57).bind fun v58 => (asI .i64 v58).bind fun n59 => (aNil x0).bind fun v60 => (aOff v60 1).bind fun v61 => (aSt r54.2 v61 (.int .i64 (IntKind.i64.wrap (n59 + 1))) 1).bind fun h62 => (C 105 [x0, (.agg (List.toArray [.int .i64 4, .string t55, .int .i64 0, .slice none 0 0]))] h62).bind fun r63 => (asI .i64 r63.1).bind fun n64 => (C 204 [x0] r63.2).bind fun r65 => (asI .i64 r65.1).bind fun n66 => aNewS r65.2 3 [.int .i64 n64, .int .i64 n66] 2 fun p67 h68 => (aFill [.int .i64 0, .string ⟨#[]⟩, .int .i64 0, .slice none 0 0] [(0, 1, .int .i64 24), (3, 1, p67)]).bind fun c69 => (C 105 [x0, (.agg (List.toArray c69))] h68).bind fun r70 => (asI .i64 r70.1).bind fun n71 => some (.int .i64 n71, r70.2) else s422_1 hk C N x0 h := by kernel_rfl
theorem s422_1_j (x0 : Value) (h : AHeap) : s422_1 hk0 C N x0 h = F422_1 hk0 C N (⟨106, [(0, x0)]⟩) h := by delta s422_1; exact hk0_app _ _ _ _
theorem s422_1_eq (x0 : Value) (h : AHeap) : F422_1 hk C N (⟨106, [(0, x0)]⟩) h =
  (C 204 [x0] h).bind fun r72 => (asI .i64 r72.1).bind fun n73 => aNewS r72.2 3 [.int .i64 n73] 1 fun p74 h75 => (aFill [.int .i64 0, .string ⟨#[]⟩, .int .i64 0, .slice none 0 0] [(0, 1, .int .i64 23), (3, 1, p74)]).bind fun c76 => (C 105 [x0, (.agg (List.toArray c76))] h75).bind fun r77 => (asI .i64 r77.1).bind fun n78 => some (.int .i64 n78, r77.2) := by kernel_rfl
theorem c422 (d : Nat) (args : List Value) (h : AHeap) : call Tp Ms (d + 1) 422 args h = evFn hk0 Tp (call Tp Ms d) M422 d Tryz.f422 args h := by kernel_rfl
end
def qcells (c : PC) (nv : Value) (st : PSt) : List Value := [c.tv, .int .i64 st.at', nv, .int .i64 st.code, .int .i64 st.place, .int .i64 st.nest, .int .i64 c.en]
def QH (c : PC) (h : AHeap) (st : PSt) (rn : Option Nat) : Prop := ∃ nv, OwnR h c.p c.p 128 (qcells c nv st) ∧ TokH h c.tv c.toks ∧ NodesH h nv st.nodes rn
def QK (rn : Option Nat) (h h' : AHeap) : Prop := h.size ≤ h'.size ∧ (∀ j o, h.at? j = some o → o.elem ≠ 128 → (o.elem = 48 → rn ≠ some o.root) → h'.at? j = some o) ∧ ∀ r, r < h.size → h'.tip 3 r = h.tip 3 r
theorem QK.refl (rn : Option Nat) (h : AHeap) : QK rn h h := ⟨Nat.le_refl _, fun _ _ a _ _ => a, fun _ _ => rfl⟩
theorem QK.trans {rn rn1 : Option Nat} {h h1 h2 : AHeap} (x : QK rn h h1) (r : PRN rn rn1 h) (y : QK rn1 h1 h2) : QK rn h h2 :=
 ⟨Nat.le_trans x.1 y.1, fun j o a b c => y.2.1 j o (x.2.1 j o a b c) b (fun e => by
  rcases r with rfl | ⟨q, rfl, hq⟩
  ·exact c e
  ·have := at?_obj a
   intro hh
   have : q = o.root := by simpa using hh
   omega), fun q hq => (y.2.2 q (Nat.lt_of_lt_of_le hq x.1)).trans (x.2.2 q hq)⟩
theorem QK.ext {rn : Option Nat} {h h' : AHeap} (x : Ext h.size h h') : QK rn h h' := ⟨x.size, fun j o a _ _ => x.at? (at?_obj a).2.1 a, fun r hr => x.tip 3 r hr⟩
theorem RowE.qk {rn : Option Nat} {h h' : AHeap} {i : Nat} {e : TypeId} {cs : List Value} (x : RowE h i e cs) (k : QK rn h h') (h1 : e ≠ 128) (h2 : e ≠ 48) : RowE h' i e cs :=
 let ⟨o, a, b, c⟩ := x; ⟨o, k.2.1 i o a (by rw [b]; exact h1) (fun e' => absurd (b.symm.trans e') h2), b, c⟩
theorem OwnR.qk {rn : Option Nat} {h h' : AHeap} {i rt : Nat} {e : TypeId} {cs : List Value} (x : OwnR h i rt e cs) (k : QK rn h h') (h1 : e ≠ 128) (h2 : e ≠ 48) : OwnR h' i rt e cs :=
 let ⟨ep, a⟩ := x; ⟨ep, k.2.1 i _ a h1 (fun e' => absurd e' h2)⟩
theorem TokH.qk {rn : Option Nat} {h h' : AHeap} {v : Value} {ts : List Tok} (x : TokH h v ts) (k : QK rn h h') : TokH h' v ts := by
 rcases x with a | ⟨i, a, b⟩
 ·exact .inl a
 ·exact .inr ⟨i, a, b.qk k (by decide) (by decide)⟩
theorem KidH.qk {rn : Option Nat} {h h' : AHeap} {v : Value} {ks : List Int} (x : KidH h v ks) (k : QK rn h h') : KidH h' v ks := by
 rcases x with a | ⟨i, rt, a, b⟩
 ·exact .inl a
 ·exact .inr ⟨i, rt, a, b.qk k (by decide) (by decide)⟩
theorem QH.ext {c : PC} {h h' : AHeap} {st : PSt} {rn : Option Nat} (x : QH c h st rn) (e : Ext h.size h h') : QH c h' st rn :=
 let ⟨nv, a, b, d⟩ := x; ⟨nv, a.ext e, b.qk (QK.ext e (rn := none)), d.ext e⟩
theorem stQ {h : AHeap} {p i : Nat} {cells : List Value} (o : OwnR h p p 128 cells) (hi : i < cells.length) {v : Value} (hv : aCells v = some [v]) :
  ∃ h', aSt h (ptr p i) v 1 = some h' ∧ OwnR h' p p 128 (cells.set i v) ∧ h'.size = h.size ∧ (∀ j o, h.at? j = some o → o.elem ≠ 128 → h'.at? j = some o) ∧ (∀ r, h'.tip 3 r = h.tip 3 r) := by
 obtain ⟨ep, h1⟩ := o
 have hsp : splice cells i [v] = cells.set i v := by
  unfold splice
  rw [List.set_eq_take_append_cons_drop, if_pos hi]; simp
 refine ⟨h.put p ⟨p, ep, false, 128, cells⟩ (splice cells i [v]), by simp [aSt, ptr, h1, hv]; omega, ⟨h.ep 128 p + 1, ?_⟩, rfl, fun k o ho hk => at?_put_other ho (fun e => by subst e; rw [h1] at ho; cases ho; exact hk rfl) _ (fun hh => hk hh.1), fun r => by simp [AHeap.put]⟩
 rw [← hsp]; exact at?_put_same h1 _
theorem NodesH.keepq {h h' : AHeap} {v : Value} {ns : List Kn} {rn : Option Nat} (x : NodesH h v ns rn) (k : ∀ j o, h.at? j = some o → o.elem ≠ 128 → h'.at? j = some o) : NodesH h' v ns rn := by
 rcases x with a | ⟨i, rt, cs, a, b, ⟨ep, c⟩, d, f⟩
 ·exact .inl a
 ·refine .inr ⟨i, rt, cs, a, b, ⟨ep, k i _ c (by show (48 : TypeId) ≠ 128; decide)⟩, d, fun j n hn => ?_⟩
  obtain ⟨kv, y, z⟩ := f j n hn
  refine ⟨kv, y, ?_⟩
  rcases z with z | ⟨i', rt', z1, ep', z2⟩
  ·exact .inl z
  ·exact .inr ⟨i', rt', z1, ep', k i' _ z2 (by show (3 : TypeId) ≠ 128; decide)⟩
theorem QH.st {c : PC} {h : AHeap} {st st' : PSt} {rn : Option Nat} (x : QH c h st rn) {i : Nat} (hi : i < 7) {v : Value} (hv : aCells v = some [v]) (hn : st'.nodes = st.nodes) (hc : ∀ nv, (qcells c nv st).set i v = qcells c nv st') :
  ∃ h', aSt h (ptr c.p i) v 1 = some h' ∧ QH c h' st' rn ∧ QK rn h h' ∧ h'.size = h.size ∧ (∀ j o, h.at? j = some o → o.elem ≠ 128 → h'.at? j = some o) := by
 obtain ⟨nv, a, b, d⟩ := x
 obtain ⟨h', t, o', s, k, tp⟩ := stQ a (i := i) hi hv
 rw [hc] at o'
 have pk : QK rn h h' := ⟨by omega, fun j o hj h114 _ => k j o hj h114, fun r _ => tp r⟩
 exact ⟨h', t, ⟨nv, o', b.qk pk, by rw [hn]; exact d.keepq k⟩, pk, s, k⟩
theorem QH.ld {c : PC} {h : AHeap} {st : PSt} {rn : Option Nat} (x : QH c h st rn) : ∃ nv, NodesH h nv st.nodes rn ∧ aLd1 h (ptr c.p 0) = some c.tv ∧ aLd1 h (ptr c.p 1) = some (.int .i64 st.at') ∧ aLd1 h (ptr c.p 2) = some nv ∧ aLd1 h (ptr c.p 3) = some (.int .i64 st.code) ∧ aLd1 h (ptr c.p 4) = some (.int .i64 st.place) ∧ aLd1 h (ptr c.p 5) = some (.int .i64 st.nest) ∧ aLd1 h (ptr c.p 6) = some (.int .i64 c.en) := by
 obtain ⟨nv, a, b, d⟩ := x
 have r := a.row
 exact ⟨nv, d, r.ld1 rfl, r.ld1 rfl, r.ld1 rfl, r.ld1 rfl, r.ld1 rfl, r.ld1 rfl, r.ld1 rfl⟩
theorem PLI.qk {h h' : AHeap} {v : Value} {xs : List Int} {rt : Nat} {rn : Option Nat} (x : PLI h v xs rt) (k : QK rn h h') : PLI h' v xs rt := by
 have hl := x.lt
 obtain ⟨⟨i, e, o⟩, t⟩ := x
 exact ⟨⟨i, e, o.qk k (by decide) (by decide)⟩, (k.2.2 rt hl).trans t⟩
structure QS (c : PC) (rn0 : Option Nat) (h0 : AHeap) (st : PSt) (rn : Option Nat) (h : AHeap) : Prop where
 ph : QH c h st rn
 fr : QK rn0 h0 h
 rr : PRN rn0 rn h0
def Qp (c : PC) (h : AHeap) (rn : Option Nat) (o : Option (Value × AHeap)) (v : Value) (st' : PSt) : Prop := ∃ h' rn', o = some (v, h') ∧ QS c rn h st' rn' h'
theorem QS.next {c : PC} {rn0 rn rn' : Option Nat} {h0 h g : AHeap} {st st' : PSt} (w : QS c rn0 h0 st rn h) (x : QS c rn h st' rn' g) : QS c rn0 h0 st' rn' g :=
 ⟨x.ph, w.fr.trans w.rr x.fr, PRN.trans w.fr.1 w.rr x.rr⟩
theorem QS.ext {c : PC} {rn0 rn : Option Nat} {h0 h g : AHeap} {st : PSt} (w : QS c rn0 h0 st rn h) (e : Ext h.size h g) : QS c rn0 h0 st rn g := w.next ⟨w.ph.ext e, QK.ext e, PRN.refl rn h⟩
theorem QS.st {c : PC} {rn0 rn : Option Nat} {h0 h : AHeap} {st st' : PSt} (w : QS c rn0 h0 st rn h) {i : Nat} (hi : i < 7) {v : Value} (hv : aCells v = some [v]) (hn : st'.nodes = st.nodes) (hc : ∀ nv, (qcells c nv st).set i v = qcells c nv st') :
  ∃ g, aSt h (ptr c.p i) v 1 = some g ∧ QS c rn0 h0 st' rn g ∧ QK rn h g := by
 obtain ⟨g, a, b, d, _, _⟩ := w.ph.st hi hv hn hc
 exact ⟨g, a, w.next ⟨b, d, PRN.refl rn h⟩, d⟩
section
variable {P : Option (Value × AHeap) → Prop} {c : PC} {rn0 rn : Option Nat} {h0 h : AHeap} {st st' : PSt}
theorem incS {K : AHeap → Option (Value × AHeap)} (w : QS c rn0 h0 st rn h) (ha : adv 1 st = some st') (hk : ∀ g, QS c rn0 h0 st' rn g → QK rn h g → P (K g)) :
  P ((aNil (ptr c.p 0)).bind fun v3 => (aOff v3 1).bind fun v4 => (aLd1 h v4).bind fun v5 => (asI .i64 v5).bind fun n6 => (aNil (ptr c.p 0)).bind fun v7 => (aOff v7 1).bind fun v8 => (aSt h v8 (.int .i64 (IntKind.i64.wrap (n6 + 1))) 1).bind fun h9 => K h9) := by
 unfold adv at ha
 by_cases hl : st.at' + 1 ≤ 1000000
 ·rw [if_pos hl] at ha; cases ha
  obtain ⟨nv, _, _, f1, _⟩ := w.ph.ld
  have w1 : IntKind.i64.wrap ((st.at' : Int) + 1) = ((st.at' + 1 : Nat) : Int) := by rw [wr (by omega) (by omega)]; omega
  obtain ⟨g, a, b, d⟩ := w.st (i := 1) (st' := { st with at' := st.at' + 1 }) (v := .int .i64 ((st.at' + 1 : Nat) : Int)) (by omega) rfl rfl (fun _ => rfl)
  refine pb rfl (pb rfl (pb f1 (pb rfl (pb rfl (pb rfl ?_)))))
  rw [w1]
  exact pb a (hk g b d)
 ·rw [if_neg hl] at ha; cases ha
theorem decS {K : AHeap → Option (Value × AHeap)} (w : QS c rn0 h0 st rn h) (ha : nestTo (-1) st = some st') (hk : ∀ g, QS c rn0 h0 st' rn g → QK rn h g → P (K g)) :
  P ((aNil (ptr c.p 0)).bind fun v3 => (aOff v3 5).bind fun v4 => (aLd1 h v4).bind fun v5 => (asI .i64 v5).bind fun n6 => (aNil (ptr c.p 0)).bind fun v7 => (aOff v7 5).bind fun v8 => (aSt h v8 (.int .i64 (IntKind.i64.wrap (n6 - 1))) 1).bind fun h9 => K h9) := by
 unfold nestTo at ha
 by_cases hl : -1000 ≤ st.nest + (-1) ∧ st.nest + (-1) ≤ 1000
 ·rw [if_pos hl] at ha; cases ha
  obtain ⟨nv, _, _, _, _, _, _, f5, _⟩ := w.ph.ld
  have w1 : IntKind.i64.wrap (st.nest - 1) = st.nest + (-1) := by rw [wr (by omega) (by omega)]; omega
  obtain ⟨g, a, b, d⟩ := w.st (i := 5) (st' := { st with nest := st.nest + (-1) }) (v := .int .i64 (st.nest + (-1))) (by omega) rfl rfl (fun _ => rfl)
  refine pb rfl (pb rfl (pb f5 (pb rfl (pb rfl (pb rfl ?_)))))
  rw [w1]
  exact pb a (hk g b d)
 ·rw [if_neg hl] at ha; cases ha
theorem codS {K : Int → Option (Value × AHeap)} (w : QS c rn0 h0 st rn h) (hk : P (K st.code)) : P ((aNil (ptr c.p 0)).bind fun v3 => (aOff v3 3).bind fun v4 => (aLd1 h v4).bind fun v5 => (asI .i64 v5).bind fun n6 => K n6) := by
 obtain ⟨nv, _, _, _, _, f3, _⟩ := w.ph.ld
 exact pb rfl (pb rfl (pb f3 (pb rfl hk)))
theorem calS {o : Option (Value × AHeap)} {K : Value × AHeap → Int → Option (Value × AHeap)} {a : Int} (w : QS c rn0 h0 st rn h) (x : Qp c h rn o (.int .i64 a) st') (hk : ∀ g rn', QS c rn0 h0 st' rn' g → QK rn h g → PRN rn rn' h → P (K (.int .i64 a, g) a)) :
  P (o.bind fun r => (asI .i64 r.1).bind fun n => K r n) := by
 obtain ⟨g, rn', rfl, y⟩ := x
 exact hk g rn' (w.next y) y.fr y.rr
theorem calU {o : Option (Value × AHeap)} {K : Value × AHeap → Option (Value × AHeap)} {v : Value} (w : QS c rn0 h0 st rn h) (x : Qp c h rn o v st') (hk : ∀ g rn', QS c rn0 h0 st' rn' g → QK rn h g → PRN rn rn' h → P (K (v, g))) : P (o.bind fun r => K r) := by
 obtain ⟨g, rn', rfl, y⟩ := x
 exact hk g rn' (w.next y) y.fr y.rr
theorem calT {o : Option (Value × AHeap)} {K : Value × AHeap → ByteArray → Option (Value × AHeap)} {a : ByteArray} (w : QS c rn0 h0 st rn h) (x : Qp c h rn o (.string a) st') (hk : ∀ g rn', QS c rn0 h0 st' rn' g → QK rn h g → PRN rn rn' h → P (K (.string a, g) a)) :
  P (o.bind fun r => (asS r.1).bind fun n => K r n) := by
 obtain ⟨g, rn', rfl, y⟩ := x
 exact hk g rn' (w.next y) y.fr y.rr
theorem calB {o : Option (Value × AHeap)} {K : Value × AHeap → Bool → Option (Value × AHeap)} {a : Bool} (w : QS c rn0 h0 st rn h) (x : Qp c h rn o (.bool a) st') (hk : ∀ g rn', QS c rn0 h0 st' rn' g → QK rn h g → PRN rn rn' h → P (K (.bool a, g) a)) :
  P (o.bind fun r => (asB r.1).bind fun n => K r n) := by
 obtain ⟨g, rn', rfl, y⟩ := x
 exact hk g rn' (w.next y) y.fr y.rr
theorem rowS {cells : List Value} {n : Nat} {K : Value → AHeap → Option (Value × AHeap)} (xs : List Int) (w : QS c rn0 h0 st rn h) (hc : cells = ints xs) (hn : n = xs.length)
  (hk : ∀ g v rt, QS c rn0 h0 st rn g → PLI g v xs rt → QK rn h g → h.size ≤ rt → P (K v g)) : P (aNewS h 3 cells n K) := by
 subst hc; subst hn
 have e := Ext.new (Nat.le_refl h.size) 3 (ints xs)
 exact hk _ _ h.size (w.ext e) (PLI.new h xs) (QK.ext e) (Nat.le_refl _)
theorem pushS {v : Value} {xs : List Int} {rt : Nat} {y : Int} {K : Value × AHeap → Option (Value × AHeap)} (w : QS c rn0 h0 st rn h) (l : PLI h v xs rt) (hrt : h0.size ≤ rt) (hl : xs.length ≤ 9000000)
  (hk : ∀ g v', QS c rn0 h0 st rn g → PLI g v' (xs ++ [y]) rt → AK rt h g → P (K (v', g))) : P (aNewS h 3 [.int .i64 y] 1 fun p g => (aApp g 3 1 8 v p).bind fun r => K r) := by
 obtain ⟨v', g, a, b, k⟩ := l.push hl y
 show P ((aApp (h.new 3 [.int .i64 y]) 3 1 8 v (slc h.size 0 1)).bind fun r => K r)
 refine pb a (hk g v' ⟨?_, ?_, w.rr⟩ b k)
 ·obtain ⟨nv, ⟨ep, a⟩, b, d⟩ := w.ph
  refine ⟨nv, ⟨ep, k.2.1 _ _ a⟩, ?_, d.keepq fun j o y _ => k.2.1 j o y⟩
  rcases b with b | ⟨i, z, o, e1, e2, e1003⟩
  ·exact .inl b
  ·exact .inr ⟨i, z, o, k.2.1 _ _ e1, e2, e1003⟩
 ·refine ⟨Nat.le_trans w.fr.1 k.1, fun j o a b d => k.2.1 j o (w.fr.2.1 j o a b d), fun r hr => ?_⟩
  rw [k.2.2 r (Nat.lt_of_lt_of_le hr w.fr.1) (by omega)]
  exact w.fr.2.2 r hr
end
section
variable {b p p2 p8 rn0 : Nat} {nv : Value} {top : Int} {T : List Kn} {n : Kn} {kv : Value} {rts0 : List Nat} {h0 h g : AHeap} {v : Value} {cur : List Kn} {id rt : Nat} {ix : List Int} {rts : List Nat} {rn : Nat}
end
theorem ldX {h g : AHeap} {i off n : Nat} {v : Value} (a : aLdN h (ptr i off) n = some v) (e : Ext h.size h g) : aLdN g (ptr i off) n = some v := by
 simp only [aLdN, ptr, AHeap.rd] at a ⊢
 cases q : h.at? i with
 | none => rw [q] at a; cases a
 | some o => rw [q] at a; rw [e.at? (at?_obj q).2.1 q]; exact a
theorem ldX1 {h g : AHeap} {i off : Nat} {v : Value} (a : aLd1 h (ptr i off) = some v) (e : Ext h.size h g) : aLd1 g (ptr i off) = some v := by
 simp only [aLd1, ptr, AHeap.rd] at a ⊢
 cases q : h.at? i with
 | none => rw [q] at a; cases a
 | some o => rw [q] at a; rw [e.at? (at?_obj q).2.1 q]; exact a
theorem kn_vbeq {c : Nat} {h : AHeap} {n : Kn} {kv : Value} (x : ISl c h kv n.ks) : vbeq (knVal n kv) (knVal n kv) = true := by
 show (vbeq1 (.int .i64 n.k) (.int .i64 n.k) && (vbeq1 (.string n.t) (.string n.t) && (vbeq1 (.int .i64 n.i) (.int .i64 n.i) && (vbeq1 kv kv && true)))) = true
 rw [vbeq1_self kv x.cell.1 x.cell.2, show vbeq1 (.string n.t) (.string n.t) = true from vbeq_str n.t]; simp [vbeq1]
section
variable {b p p2 p8 rn0 : Nat} {nv : Value} {top : Int} {T : List Kn} {n : Kn} {kv : Value} {rts0 : List Nat} {h0 h : AHeap} {v : Value} {cur : List Kn} {id rt : Nat} {ix : List Int} {rts : List Nat} {rn : Nat}
end
variable {c : PC} {h : AHeap} {st st' : PSt} {rn : Option Nat} {D : Nat}
theorem nN {P : Option (Value × AHeap) → Prop} {h : AHeap} {e : TypeId} {cells : List Value} {k : Value → AHeap → Option (Value × AHeap)} (hk : P (k (ptr h.size 0) (h.new e cells))) : P (aNew h e cells k) := hk
theorem Qp.same {o : Option (Value × AHeap)} {v : Value} (x : QH c h st rn) (e : ∃ g, o = some (v, g) ∧ Ext h.size h g) : Qp c h rn o v st :=
 let ⟨g, a, b⟩ := e; ⟨g, rn, a, x.ext b, QK.ext b, PRN.refl rn h⟩
theorem tok_vbeq (t : Tok) : vbeq t.val t.val = true := by
 show (vbeq1 (.int .i64 t.k) (.int .i64 t.k) && (vbeq1 (.int .i64 t.at') (.int .i64 t.at') && (vbeq1 (.string t.text) (.string t.text) && (vbeq1 (.int .i64 t.i) (.int .i64 t.i) && true)))) = true
 rw [show vbeq1 (.string t.text) (.string t.text) = true from vbeq_str t.text]; simp [vbeq1]
theorem TokH.vb {h : AHeap} {v : Value} {ts : List Tok} (x : TokH h v ts) : vbeq v v = true := by
 rcases x with ⟨rfl, rfl⟩ | ⟨i, rfl, _⟩ <;> simp [vbeq, vbeq1, slc]
theorem TokH.fld {h : AHeap} {v : Value} {ts : List Tok} (x : TokH h v ts) {j : Nat} (hj : j < ts.length) :
  ∃ i o, aIdx v (.int .i64 (j : Int)) 4 = some (ptr i o) ∧ aLdN h (ptr i o) 4 = some ts[j].val ∧ aLd1 h (ptr i (o + 0)) = some (.int .i64 ts[j].k) ∧ aLd1 h (ptr i (o + 1)) = some (.int .i64 ts[j].at') ∧ aLd1 h (ptr i (o + 2)) = some (.string ts[j].text) ∧ aLd1 h (ptr i (o + 3)) = some (.int .i64 ts[j].i) := by
 have hg : ∀ k, k < 4 → (flat ts)[j * 4 + k]? = ts[j].cells[k]? := fun k hk => by
  rw [← flat_at ts j hj, List.getElem?_take_of_lt hk, List.getElem?_drop]
 rcases x with ⟨_, rfl⟩ | ⟨i, rfl, e⟩
 ·simp at hj
 ·have r := e.row
  exact ⟨i, j * 4, by simp [aIdx, slc, hj], by rw [r.ldN (by rw [flat_len]; omega), flat_at ts j hj]; rfl, r.ld1 (by rw [hg 0 (by omega)]; rfl), r.ld1 (by rw [hg 1 (by omega)]; rfl), r.ld1 (by rw [hg 2 (by omega)]; rfl), r.ld1 (by rw [hg 3 (by omega)]; rfl)⟩
theorem pk_dead (hc : st.code ≠ 0) : (pk c st).k = 0 := by unfold pk; rw [if_pos hc]
theorem pk_end (hc : st.code = 0) (he : c.toks.length ≤ st.at') : pk c st = ⟨0, c.en, ⟨#[]⟩, 0⟩ := by unfold pk; rw [if_neg (by simp [hc]), List.getElem?_eq_none he]; rfl
theorem pk_at (hc : st.code = 0) (hl : st.at' < c.toks.length) : pk c st = c.toks[st.at'] := by unfold pk; rw [if_neg (by simp [hc]), List.getElem?_eq_getElem hl]; rfl
theorem isP_zero {t : ByteArray} (hk : (pk c st).k = 0) : isP c st t = false := by unfold isP; rw [if_neg (by omega), if_neg (by omega)]
theorem q174 {code : Int} (hD : 1 ≤ D) (x : QH c h st rn) : Qp c h rn (call Tp Ms D 291 [ptr c.p 0, .int .i64 code] h) (.int .i64 (-1)) (failP c st code) := by
 obtain ⟨D, rfl⟩ : ∃ d, D = d + 1 := ⟨D - 1, by omega⟩
 obtain ⟨nv, nd, f0, f1, f2, f3, f4, f5, f6⟩ := x.ld
 rw [c291, e291]
 unfold failP
 by_cases hc : st.code = 0
 ·rw [if_pos hc]
  have w0 : QS c rn h st rn h := ⟨x, QK.refl rn h, PRN.refl rn h⟩
  obtain ⟨g1, a1, w1, _⟩ := w0.st (i := 3) (st' := { st with code := code }) (v := .int .i64 code) (by omega) rfl rfl (fun _ => rfl)
  obtain ⟨_, _, _, _, _, _, _, _, m6⟩ := w1.ph.ld
  obtain ⟨g2, a2, w2, _⟩ := w1.st (i := 4) (st' := { st with code := code, place := c.en }) (v := .int .i64 c.en) (by omega) rfl rfl (fun _ => rfl)
  obtain ⟨_, _, n0, n1, _⟩ := w2.ph.ld
  obtain ⟨_, _, tk, _⟩ := w2.ph
  refine pb (P := fun o => Qp c h rn o _ _) rfl (pb (P := fun o => Qp c h rn o _ _) rfl (pb (P := fun o => Qp c h rn o _ _) f3 (pb (P := fun o => Qp c h rn o _ _) rfl (pct (P := fun o => Qp c h rn o _ _) (by simp [hc]) ?_))))
  show Qp c h rn ((some (ptr c.p 0)).bind _) _ _
  by_cases hl : st.at' < c.toks.length
  ·obtain ⟨i, o, b1, _, _, b2, _⟩ := tk.fld hl
   obtain ⟨g3, a3, w3, _⟩ := w2.st (i := 4) (st' := { st with code := code, place := c.toks[st.at'].at' }) (v := .int .i64 c.toks[st.at'].at') (by omega) rfl rfl (fun _ => rfl)
   rw [pk_at hc hl]
   exact ⟨g3, rn, eb rfl (eb rfl (eb a1 (eb rfl (eb rfl (eb m6 (eb rfl (eb rfl (eb rfl (eb a2 (eb rfl (eb rfl (eb n1 (eb rfl (eb rfl (eb rfl (eb n0 (eb tk.len (eb rfl (ect (decide_eq_true (by show (st.at' : Int) < _; omega)) (eb rfl (eb rfl (eb n0 (eb rfl (eb rfl (eb n1 (eb rfl (eb b1 (eb rfl (eb b2 (eb rfl (eb rfl (eb rfl (eb a3 rfl))))))))))))))))))))))))))))))))), w3⟩
  ·rw [pk_end hc (by omega)]
   exact ⟨g2, rn, eb rfl (eb rfl (eb a1 (eb rfl (eb rfl (eb m6 (eb rfl (eb rfl (eb rfl (eb a2 (eb rfl (eb rfl (eb n1 (eb rfl (eb rfl (eb rfl (eb n0 (eb tk.len (eb rfl (ecf (decide_eq_false (by show ¬ (st.at' : Int) < _; omega)) rfl))))))))))))))))))), w2⟩
 ·rw [if_neg hc]
  exact Qp.same x ⟨h, eb rfl (eb rfl (eb f3 (eb rfl (ecf (by simp [hc]) rfl)))), Ext.refl _ _⟩
theorem q134 {t : ByteArray} (hD : 1 ≤ D) (x : QH c h st rn) : Qp c h rn (call Tp Ms D 201 [ptr c.p 0, .string t] h) (.bool (isP c st t)) st := by
 obtain ⟨D, rfl⟩ : ∃ d, D = d + 1 := ⟨D - 1, by omega⟩
 refine Qp.same x ?_
 obtain ⟨nv, nd, f0, f1, f2, f3, f4, f5, f6⟩ := x.ld
 obtain ⟨_, _, tk, _⟩ := x
 rw [c201, e201]
 have gone : (pk c st).k = 0 → ∃ g, s201_0 hk0 (call Tp Ms D) D (ptr c.p 0) t true h = some (.bool (isP c st t), g) ∧ Ext h.size h g := fun hz => by
  rw [isP_zero hz, s201_0_j, s201_0_eq]
  exact ⟨h, ect rfl rfl, Ext.refl _ _⟩
 by_cases hc : st.code = 0
 ·by_cases hl : st.at' < c.toks.length
  ·obtain ⟨i, o, b1, b2, _⟩ := tk.fld hl
   obtain ⟨g, a1, e1, r1, _⟩ := tokRow h c.toks[st.at']
   have en := Ext.new (Nat.le_refl h.size) 233 [.int .i64 0, .int .i64 0, .string ⟨#[]⟩, .int .i64 0]
   have k0 : aLd1 (h.new 233 [.int .i64 0, .int .i64 0, .string ⟨#[]⟩, .int .i64 0]) (ptr c.p 0) = some c.tv := ldX1 f0 en
   have k1 : aLd1 (h.new 233 [.int .i64 0, .int .i64 0, .string ⟨#[]⟩, .int .i64 0]) (ptr c.p 1) = some (.int .i64 st.at') := ldX1 f1 en
   have k2 : aLdN (h.new 233 [.int .i64 0, .int .i64 0, .string ⟨#[]⟩, .int .i64 0]) (ptr i o) 4 = some c.toks[st.at'].val := ldX b2 en
   have m0 : aLd1 g (ptr h.size 0) = some (.int .i64 c.toks[st.at'].k) := r1.row.ld1 rfl
   have m2 : aLd1 g (ptr h.size 2) = some (.string c.toks[st.at'].text) := r1.row.ld1 rfl
   unfold isP
   rw [pk_at hc hl]
   refine ⟨g, ?_, e1⟩
   refine eb rfl (eb rfl (eb f3 (eb rfl (ecf (by simp [hc]) (eb rfl (eb rfl (eb f1 (eb rfl (eb rfl (eb rfl (eb f0 (eb tk.len (eb rfl ?_)))))))))))))
   rw [decide_eq_false (by omega), s201_0_j, s201_0_eq]
   refine ecf rfl ?_
   rw [s201_1_j, s201_1_eq]
   refine eb rfl (eb rfl (eb f0 (eb rfl (eb rfl (eb f1 (eb rfl (eb b1 (eb b2 ?_))))))))
   show ((aLd1 (h.new 233 [.int .i64 0, .int .i64 0, .string ⟨#[]⟩, .int .i64 0]) (ptr c.p 0)).bind fun v25 => some (vbeq v25 c.tv)).bind _ = _
   refine eb (v := true) (by rw [k0, oBs, tk.vb]) (ect rfl (eb (v := true) (by show (aLd1 _ (ptr c.p 1)).bind _ = _; rw [k1]; show some (vbeq (.int .i64 (st.at' : Int)) (.int .i64 (st.at' : Int))) = _; simp [vbeq, vbeq1]) (ect rfl (eb (v := true) (by rw [k2, oBs, tok_vbeq]) (ect rfl (eb a1 (eb rfl (eb m0 (eb rfl ?_)))))))))
   by_cases h2 : c.toks[st.at'].k = 2
   ·rw [if_neg (by omega), if_pos h2]
    exact ect (by simp [h2]) (eb rfl (eb m2 (eb rfl rfl)))
   ·refine ecf (by simpa using h2) (eb rfl (eb m0 (eb rfl ?_)))
    by_cases h5 : c.toks[st.at'].k = 5
    ·rw [if_pos h5]; exact ect (by simp [h5]) (eb rfl (eb m2 (eb rfl rfl)))
    ·rw [if_neg h5, if_neg h2]; exact ecf (by simpa using h5) rfl
  ·obtain ⟨g, a, b⟩ := gone (by rw [pk_end hc (by omega)])
   refine ⟨g, ?_, b⟩
   refine eb rfl (eb rfl (eb f3 (eb rfl (ecf (by simp [hc]) (eb rfl (eb rfl (eb f1 (eb rfl (eb rfl (eb rfl (eb f0 (eb tk.len (eb rfl ?_)))))))))))))
   rw [decide_eq_true (by omega)]; exact a
 ·obtain ⟨g, a, b⟩ := gone (pk_dead hc)
  exact ⟨g, eb rfl (eb rfl (eb f3 (eb rfl (ect (by simpa using hc) a)))), b⟩
theorem q173 (hD : 1 ≤ D) (x : QH c h st rn) : Qp c h rn (call Tp Ms D 290 [ptr c.p 0] h) (.int .i64 (pk c st).k) st := by
 obtain ⟨D, rfl⟩ : ∃ d, D = d + 1 := ⟨D - 1, by omega⟩
 refine Qp.same x ⟨h, ?_, Ext.refl _ _⟩
 obtain ⟨nv, nd, f0, f1, f2, f3, f4, f5, f6⟩ := x.ld
 obtain ⟨_, _, tk, _⟩ := x
 rw [c290, e290]
 have gone : (pk c st).k = 0 → s290_0 hk0 (call Tp Ms D) D (ptr c.p 0) true h = some (.int .i64 (pk c st).k, h) := fun hz => by
  rw [hz, s290_0_j, s290_0_eq]
  exact ect rfl rfl
 by_cases hc : st.code = 0
 ·by_cases hl : st.at' < c.toks.length
  ·obtain ⟨i, o, b1, _, b2, _⟩ := tk.fld hl
   rw [pk_at hc hl]
   refine eb rfl (eb rfl (eb f3 (eb rfl (ecf (by simp [hc]) (eb rfl (eb rfl (eb f1 (eb rfl (eb rfl (eb rfl (eb f0 (eb tk.len (eb rfl ?_)))))))))))))
   rw [decide_eq_false (by omega), s290_0_j, s290_0_eq]
   refine ecf rfl ?_
   rw [s290_1_j, s290_1_eq]
   exact eb rfl (eb rfl (eb f0 (eb rfl (eb rfl (eb f1 (eb rfl (eb b1 (eb rfl (eb b2 (eb rfl rfl))))))))))
  ·refine eb rfl (eb rfl (eb f3 (eb rfl (ecf (by simp [hc]) (eb rfl (eb rfl (eb f1 (eb rfl (eb rfl (eb rfl (eb f0 (eb tk.len (eb rfl ?_)))))))))))))
   rw [decide_eq_true (by omega)]; exact gone (by rw [pk_end hc (by omega)])
 ·exact eb rfl (eb rfl (eb f3 (eb rfl (ect (by simpa using hc) (gone (pk_dead hc))))))
theorem q136 {t : ByteArray} (hD : 2 ≤ D) (x : QH c h st rn) (hp : wantP c t st = some st') : Qp c h rn (call Tp Ms D 203 [ptr c.p 0, .string t] h) unit st' := by
 obtain ⟨D, rfl⟩ : ∃ d, D = d + 1 := ⟨D - 1, by omega⟩
 have w : QS c rn h st rn h := ⟨x, QK.refl rn h, PRN.refl rn h⟩
 rw [c203, e203]
 unfold wantP takesP at hp
 refine calB (P := fun o => Qp c h rn o _ _) w (q134 (by omega) x) fun g r1 w1 k1 n1 => ?_
 by_cases hi : isP c st t = true
 ·rw [if_pos hi] at hp
  rw [hi]
  cases ha : adv 1 st with
  | none => rw [ha] at hp; cases hp
  | some s2 =>
   rw [ha] at hp; cases hp
   refine pcf (P := fun o => Qp c h rn o _ _) rfl ?_
   exact incS (P := fun o => Qp c h rn o _ _) w1 ha fun g2 w2 _ => ⟨g2, r1, rfl, w2⟩
 ·rw [if_neg hi] at hp
  cases hp
  have : isP c st t = false := by simpa using hi
  rw [this]
  refine pct (P := fun o => Qp c h rn o _ _) rfl ?_
  exact calS (P := fun o => Qp c h rn o _ _) w1 (q174 (code := 2) (by omega) w1.ph) fun g2 r2 w2 _ _ => ⟨g2, r2, rfl, w2⟩
theorem q135 {t : ByteArray} (hD : 2 ≤ D) (x : QH c h st rn) (hp : nameN c st = some (t, st')) : Qp c h rn (call Tp Ms D 202 [ptr c.p 0] h) (.string t) st' := by
 obtain ⟨D, rfl⟩ : ∃ d, D = d + 1 := ⟨D - 1, by omega⟩
 have w : QS c rn h st rn h := ⟨x, QK.refl rn h, PRN.refl rn h⟩
 rw [c202, e202]
 unfold nameN at hp
 refine calS (P := fun o => Qp c h rn o _ _) w (q173 (by omega) x) fun g r1 w1 k1 n1 => ?_
 by_cases hi : (pk c st).k ≠ 1
 ·rw [if_pos hi] at hp
  cases hp
  refine pct (P := fun o => Qp c h rn o _ _) (by simpa using hi) ?_
  exact calS (P := fun o => Qp c h rn o _ _) w1 (q174 (code := 2) (by omega) w1.ph) fun g2 r2 w2 _ _ => ⟨g2, r2, rfl, w2⟩
 ·rw [if_neg hi] at hp
  have hi' : (pk c st).k = 1 := by omega
  have hc : st.code = 0 := by
   apply Decidable.byContradiction
   intro h0; rw [pk_dead h0] at hi'; cases hi'
  have hl : st.at' < c.toks.length := by
   apply Decidable.byContradiction
   intro h0; rw [pk_end hc (by omega)] at hi'; cases hi'
  unfold adv at hp
  by_cases hb : st.at' + 1 ≤ 1000000
  ·rw [if_pos hb] at hp
   obtain ⟨rfl, rfl⟩ : (pk c st).text = t ∧ { st with at' := st.at' + 1 } = st' := by
    have := Option.some.inj hp
    exact ⟨congrArg (·.1) this, congrArg (·.2) this⟩
   refine pcf (P := fun o => Qp c h rn o _ _) (by simp [hi']) ?_
   refine incS (P := fun o => Qp c h rn o _ _) (st' := { st with at' := st.at' + 1 }) w1 (by unfold adv; rw [if_pos hb]) fun g2 w2 _ => ?_
   obtain ⟨nv, nd, f0, f1, _⟩ := w2.ph.ld
   have tk : TokH g2 c.tv c.toks := let ⟨_, _, a, _⟩ := w2.ph; a
   obtain ⟨i, o, b1, _, _, _, b2, _⟩ := tk.fld hl
   have w8 : IntKind.i64.wrap (((st.at' + 1 : Nat) : Int) - 1) = (st.at' : Int) := by rw [wr (by omega) (by omega)]; omega
   refine ⟨g2, r1, eb rfl (eb rfl (eb f0 (eb rfl (eb rfl (eb f1 (eb rfl ?_)))))), w2⟩
   show (aIdx c.tv (.int .i64 (IntKind.i64.wrap (((st.at' + 1 : Nat) : Int) - 1))) 4).bind _ = _
   rw [w8, pk_at hc hl]
   exact eb b1 (eb rfl (eb b2 (eb rfl rfl)))
  ·rw [if_neg hb] at hp; cases hp
def openS (c : PC) (st : PSt) : Option (Bool × PSt) :=
 if st.code ≠ 0 then some (false, st) else if st.at' ≥ c.toks.length then some (false, failP c st 2) else if st.nest ≥ 30 then some (false, failP c st 3) else (nestTo 1 st).map (true, ·)
theorem q175 {b : Bool} (hD : 2 ≤ D) (x : QH c h st rn) (hp : openS c st = some (b, st')) : Qp c h rn (call Tp Ms D 292 [ptr c.p 0] h) (.bool b) st' := by
 obtain ⟨D, rfl⟩ : ∃ d, D = d + 1 := ⟨D - 1, by omega⟩
 have w : QS c rn h st rn h := ⟨x, QK.refl rn h, PRN.refl rn h⟩
 obtain ⟨nv, nd, f0, f1, f2, f3, f4, f5, f6⟩ := x.ld
 have tk : TokH h c.tv c.toks := let ⟨_, _, a, _⟩ := x; a
 rw [c292, e292]
 unfold openS at hp
 by_cases hc : st.code ≠ 0
 ·rw [if_pos hc] at hp; cases hp
  exact Qp.same x ⟨h, eb rfl (eb rfl (eb f3 (eb rfl (ect (by simpa using hc) rfl)))), Ext.refl _ _⟩
 rw [if_neg hc] at hp
 refine pb (P := fun o => Qp c h rn o _ _) rfl (pb (P := fun o => Qp c h rn o _ _) rfl (pb (P := fun o => Qp c h rn o _ _) f3 (pb (P := fun o => Qp c h rn o _ _) rfl (pcf (P := fun o => Qp c h rn o _ _) (by simpa using hc) ?_))))
 refine pb (P := fun o => Qp c h rn o _ _) rfl (pb (P := fun o => Qp c h rn o _ _) rfl (pb (P := fun o => Qp c h rn o _ _) f1 (pb (P := fun o => Qp c h rn o _ _) rfl (pb (P := fun o => Qp c h rn o _ _) rfl (pb (P := fun o => Qp c h rn o _ _) rfl (pb (P := fun o => Qp c h rn o _ _) f0 (pb (P := fun o => Qp c h rn o _ _) tk.len (pb (P := fun o => Qp c h rn o _ _) rfl ?_))))))))
 by_cases ha : st.at' ≥ c.toks.length
 ·rw [if_pos ha] at hp; cases hp
  refine pct (P := fun o => Qp c h rn o _ _) (decide_eq_true (by omega)) ?_
  exact calS (P := fun o => Qp c h rn o _ _) w (q174 (code := 2) (by omega) x) fun g2 r2 w2 _ _ => ⟨g2, r2, rfl, w2⟩
 rw [if_neg ha] at hp
 refine pcf (P := fun o => Qp c h rn o _ _) (decide_eq_false (by omega)) ?_
 refine pb (P := fun o => Qp c h rn o _ _) rfl (pb (P := fun o => Qp c h rn o _ _) rfl (pb (P := fun o => Qp c h rn o _ _) f5 (pb (P := fun o => Qp c h rn o _ _) rfl ?_)))
 by_cases hn : st.nest ≥ 30
 ·rw [if_pos hn] at hp; cases hp
  refine pct (P := fun o => Qp c h rn o _ _) (decide_eq_true hn) ?_
  exact calS (P := fun o => Qp c h rn o _ _) w (q174 (code := 3) (by omega) x) fun g2 r2 w2 _ _ => ⟨g2, r2, rfl, w2⟩
 rw [if_neg hn] at hp
 unfold nestTo at hp
 by_cases hl : -1000 ≤ st.nest + 1 ∧ st.nest + 1 ≤ 1000
 ·rw [if_pos hl] at hp; cases hp
  have w1 : IntKind.i64.wrap (st.nest + 1) = st.nest + 1 := wr (by omega) (by omega)
  obtain ⟨g, a, b, d⟩ := w.st (i := 5) (st' := { st with nest := st.nest + 1 }) (v := .int .i64 (st.nest + 1)) (by omega) rfl rfl (fun _ => rfl)
  refine ⟨g, rn, ecf (decide_eq_false hn) (eb rfl (eb rfl (eb f5 (eb rfl (eb rfl (eb rfl ?_)))))), b⟩
  rw [w1]
  exact eb a rfl
 ·rw [if_neg hl] at hp; cases hp
def nodeS (k : Int) (t : ByteArray) (i : Int) (ks : List Int) (st : PSt) : Option (Int × PSt) := if st.code ≠ 0 then some (-1, st) else nodeP k t i ks st
theorem q83 {k i r : Int} {t : ByteArray} {ks : List Int} {kv : Value} (hD : 1 ≤ D) (x : QH c h st rn) (hk : KidH h kv ks) (hp : nodeS k t i ks st = some (r, st')) :
  Qp c h rn (call Tp Ms D 105 [ptr c.p 0, .agg (List.toArray (knCells ⟨k, t, i, ks⟩ kv))] h) (.int .i64 r) st' := by
 obtain ⟨D, rfl⟩ : ∃ d, D = d + 1 := ⟨D - 1, by omega⟩
 have e1 := Ext.new (Nat.le_refl h.size) 48 (knCells ⟨k, t, i, ks⟩ kv)
 have x1 := x.ext e1
 have w1 : QS c rn h st rn (h.new 48 (knCells ⟨k, t, i, ks⟩ kv)) := ⟨x1, QK.ext e1, PRN.refl rn h⟩
 have r1 := RowE.new h 48 (knCells ⟨k, t, i, ks⟩ kv)
 have kc := kn_cells (kv := kv) hk.cell ⟨k, t, i, ks⟩
 have k1 := hk.ext e1
 rw [c105, e105]
 refine pb (P := fun o => Qp c h rn o _ _) (v := knCells ⟨k, t, i, ks⟩ kv) kc ?_
 refine nN (P := fun o => Qp c h rn o _ _) ?_
 have L : aLdN (h.new 48 (knCells ⟨k, t, i, ks⟩ kv)) (ptr h.size 0) 4 = some (.agg (List.toArray (knCells ⟨k, t, i, ks⟩ kv))) := by
  rw [r1.row.ldN (by show 0 + 4 ≤ 4; omega)]; rfl
 generalize h.new 48 (knCells ⟨k, t, i, ks⟩ kv) = h1 at e1 x1 w1 r1 k1 L ⊢
 obtain ⟨nv, nd, f0, f1, f2, f3, f4, f5, f6⟩ := x1.ld
 unfold nodeS at hp
 by_cases hc : st.code ≠ 0
 ·rw [if_pos hc] at hp; cases hp
  exact ⟨h1, rn, eb rfl (eb rfl (eb f3 (eb rfl (ect (by simpa using hc) rfl)))), w1⟩
 rw [if_neg hc] at hp
 unfold nodeP at hp
 by_cases hl : st.nodes.length ≤ 1000000
 ·rw [if_pos hl] at hp; cases hp
  obtain ⟨nv0, o, tk, nd⟩ := x1
  have f2' : aLd1 h1 (ptr c.p 2) = some nv0 := o.row.ld1 rfl
  obtain ⟨nv', h2, rn', ap, nd2, pk2, n2, fr2, len2⟩ := nodesApp (n := ⟨k, t, i, ks⟩) nd k1 hl
  have en := Ext.new (Nat.le_refl h1.size) 48 (knCells ⟨k, t, i, ks⟩ kv)
  have f2n : aLd1 (h1.new 48 (knCells ⟨k, t, i, ks⟩ kv)) (ptr c.p 2) = some nv0 := ldX1 f2' en
  have qk2 : QK rn h1 h2 := ⟨pk2.1, fun j ob a b d => by
   by_cases h81 : ob.elem = 124
   ·exact fr2 j ob a (by rw [h81]; decide)
   ·exact pk2.2.1 j ob a h81 d, pk2.2.2⟩
  have o2 : OwnR h2 c.p c.p 128 (qcells c nv0 st) := let ⟨ep, a⟩ := o; ⟨ep, fr2 _ _ a (by show (128 : TypeId) ≠ 48; decide)⟩
  obtain ⟨h3, t3, o3, s3, f3', tp3⟩ := stQ o2 (i := 2) (by show 2 < 7; omega) (v := nv') (aCells_one nd2.cell)
  have nd3 := nd2.keepq f3'
  have qk3 : QK rn' h2 h3 := ⟨by omega, fun j ob a b _ => f3' j ob a b, fun r _ => tp3 r⟩
  have b2 : aLd1 h3 (ptr c.p 2) = some nv' := o3.row.ld1 rfl
  have w : IntKind.i64.wrap ((st.nodes.length : Int) + 1 - 1) = (st.nodes.length : Int) := by rw [wr (by omega) (by omega)]; omega
  have hz : aFill [.int .i64 0, .string ⟨#[]⟩, .int .i64 0, .slice none 0 0] [(0, 4, (.agg (List.toArray (knCells ⟨k, t, i, ks⟩ kv))))] = some (knCells ⟨k, t, i, ks⟩ kv) := by
   have this2 : aCells (.agg #[.int .i64 k, .string t, .int .i64 i, kv]) = some [.int .i64 k, .string t, .int .i64 i, kv] := kc
   simp [aFill, this2, splice, knCells]
  have vb : vbeq nv0 nv0 = true := by rcases nd with ⟨rfl, _⟩ | ⟨i, rt, cs, rfl, _⟩ <;> simp [vbeq, vbeq1, slc]
  refine ⟨h3, rn', ?_, w1.next ⟨⟨nv', o3, (tk.qk qk2).qk qk3, nd3⟩, qk2.trans n2 qk3, n2⟩⟩
  refine eb rfl (eb rfl (eb f3 (eb rfl (ecf (by simpa using hc) (eb rfl (eb rfl (eb f2' (eb L (eb hz ?_)))))))))
  show ((aLd1 (h1.new 48 (knCells ⟨k, t, i, ks⟩ kv)) (ptr c.p 2)).bind fun v15 => some (vbeq v15 nv0)).bind _ = _
  refine eb (v := true) (by rw [f2n, oBs, vb]) (ect rfl (eb ap (eb rfl (eb rfl (eb t3 (eb rfl (eb rfl (eb b2 (eb len2 (eb rfl ?_))))))))))
  rw [w]
 ·rw [if_neg hl] at hp; cases hp
theorem KidH.len {h : AHeap} {v : Value} {ks : List Int} (x : KidH h v ks) : aLen v = some (.int .i64 (ks.length : Int)) := by
 rcases x with ⟨rfl, rfl⟩ | ⟨i, rt, rfl, _⟩ <;> rfl
theorem KidH.at {h : AHeap} {v : Value} {ks : List Int} (x : KidH h v ks) {j : Nat} (hj : j < ks.length) : ∃ p, aIdx v (.int .i64 (j : Int)) 1 = some p ∧ aLd1 h p = some (.int .i64 ks[j]) := by
 rcases x with ⟨rfl, rfl⟩ | ⟨i, rt, rfl, o⟩
 ·simp at hj
 ·exact ⟨ptr i j, by simp [aIdx, slc, hj], o.row.ld1 (by simp [ints, hj])⟩
end Go.Proofs.YtajpnemfppaafaaGreat
