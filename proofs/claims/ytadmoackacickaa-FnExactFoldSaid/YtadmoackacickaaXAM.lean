import Derived.Test.YtadmoackacickaaXAD
import Derived.KernelRfl
import Derived.Test.YtadmoackacickaaProg
import Derived.Test.YtadmoackacickaaXAL
set_option linter.unusedVariables false
namespace Go.Proofs.Ytadmoackacickaa
open Go Go.AH
/-! 121 loop.example/g00101/spec.l19Plain -/
theorem e121 (hk : Hk (Value × AHeap)) (C : ACall) (N : Nat) (x0 : Int) (h : AHeap) : evFn hk Try.prog C M121 N Try.f121 [.int .i64 x0] h =
    bif decide (x0 ≥ 1) then some (.bool (decide (x0 ≤ 4)), h) else some (.bool false, h) := by kernel_rfl
theorem c121 (d : Nat) (args : List Value) (h : AHeap) : call Try.prog Ms (d + 1) 121 args h = evFn hk0 Try.prog (call Try.prog Ms d) M121 d Try.f121 args h := by kernel_rfl

/-! 122 loop.example/g00101/spec.l19True -/
theorem e122 (hk : Hk (Value × AHeap)) (C : ACall) (N : Nat) (x0 : Value) (h : AHeap) : evFn hk Try.prog C M122 N Try.f122 [x0] h =
    (aCells x0).bind fun c1 => aNew h 73 c1 fun p2 h3 => (aOff p2 0).bind fun v4 => (aLd1 h3 v4).bind fun v5 => (asI .i64 v5).bind fun n6 => bif n6 != 1 then (aOff p2 0).bind fun v7 => (aLd1 h3 v7).bind fun v8 => (asI .i64 v8).bind fun n9 => bif n9 != 2 then some (.bool true, h3) else (aOff p2 2).bind fun v10 => (aLd1 h3 v10).bind fun v11 => (asI .i64 v11).bind fun n12 => some (.bool (n12 != 0), h3) else some (.bool false, h3) := by kernel_rfl
theorem c122 (d : Nat) (args : List Value) (h : AHeap) : call Try.prog Ms (d + 1) 122 args h = evFn hk0 Try.prog (call Try.prog Ms d) M122 d Try.f122 args h := by kernel_rfl

/-! 123 loop.example/g00101/spec.l19Two -/
noncomputable def F123_0 (hk : Hk (Value × AHeap)) (C : ACall) (N : Nat) : Nx (Value × AHeap) := evSt hk Try.prog C M123 N Try.f123 [1, 0, 1] []
noncomputable def s123_0 (hk : Hk (Value × AHeap)) (C : ACall) (N : Nat) (x0 : Int) (x4 : Value) (x5 : Value) (x6 : Value) (x15 : Bool) (h : AHeap) := hk 100002 (⟨53, [(0, .int .i64 x0), (4, x4), (5, x5), (6, x6), (15, .bool x15)]⟩) h (F123_0 hk C N)
noncomputable def F123_1 (hk : Hk (Value × AHeap)) (C : ACall) (N : Nat) : Nx (Value × AHeap) := evSt hk Try.prog C M123 N Try.f123 [1, 1] []
noncomputable def s123_1 (hk : Hk (Value × AHeap)) (C : ACall) (N : Nat) (x0 : Int) (x4 : Value) (x5 : Value) (x6 : Value) (h : AHeap) := hk 3 (⟨53, [(0, .int .i64 x0), (4, x4), (5, x5), (6, x6)]⟩) h (F123_1 hk C N)
noncomputable def F123_2 (hk : Hk (Value × AHeap)) (C : ACall) (N : Nat) : Nx (Value × AHeap) := evSt hk Try.prog C M123 N Try.f123 [1, 1, 0, 1] []
noncomputable def s123_2 (hk : Hk (Value × AHeap)) (C : ACall) (N : Nat) (x4 : Value) (x5 : Value) (x6 : Value) (x45 : Bool) (h : AHeap) := hk 100004 (⟨53, [(4, x4), (5, x5), (6, x6), (45, .bool x45)]⟩) h (F123_2 hk C N)
noncomputable def F123_3 (hk : Hk (Value × AHeap)) (C : ACall) (N : Nat) : Nx (Value × AHeap) := evSt hk Try.prog C M123 N Try.f123 [1, 1, 1] []
noncomputable def s123_3 (hk : Hk (Value × AHeap)) (C : ACall) (N : Nat) (x6 : Value) (h : AHeap) := hk 5 (⟨53, [(6, x6)]⟩) h (F123_3 hk C N)
theorem e123 (hk : Hk (Value × AHeap)) (C : ACall) (N : Nat) (x0 : Int) (x1 : Value) (x2 : Value) (h : AHeap) : evFn hk Try.prog C M123 N Try.f123 [.int .i64 x0, x1, x2] h =
    (aCells x1).bind fun c1 => aNew h 73 c1 fun p2 h3 => (aCells x2).bind fun c4 => aNew h3 73 c4 fun p5 h6 => aNew h6 73 [.int .i64 0, .string ⟨#[]⟩, .int .i64 0, .slice none 0 0] fun p7 h8 => (aOff p2 0).bind fun v9 => (aLd1 h8 v9).bind fun v10 => (asI .i64 v10).bind fun n11 => bif n11 == 3 then (aOff p5 0).bind fun v12 => (aLd1 h8 v12).bind fun v13 => (asI .i64 v13).bind fun n14 => s123_0 hk C N x0 p2 p5 p7 (n14 == 3) h8 else s123_0 hk C N x0 p2 p5 p7 false h8 := by kernel_rfl
theorem s123_0_j (C : ACall) (N : Nat) (x0 : Int) (x4 : Value) (x5 : Value) (x6 : Value) (x15 : Bool) (h : AHeap) : s123_0 hk0 C N x0 x4 x5 x6 x15 h = F123_0 hk0 C N (⟨53, [(0, .int .i64 x0), (4, x4), (5, x5), (6, x6), (15, .bool x15)]⟩) h := by delta s123_0; exact hk0_app _ _ _ _
theorem s123_0_eq (hk : Hk (Value × AHeap)) (C : ACall) (N : Nat) (x0 : Int) (x4 : Value) (x5 : Value) (x6 : Value) (x15 : Bool) (h : AHeap) : F123_0 hk C N (⟨53, [(0, .int .i64 x0), (4, x4), (5, x5), (6, x6), (15, .bool x15)]⟩) h =
    bif x15 then (aOff x4 2).bind fun v15 => (aLd1 h v15).bind fun v16 => (asI .i64 v16).bind fun n17 => (aOff x5 2).bind fun v18 => (aLd1 h v18).bind fun v19 => (asI .i64 v19).bind fun n20 => (C 164 [.int .i64 x0, .int .i64 n17, .int .i64 n20] h).bind fun r21 => (aExt r21.1 0).bind fun v22 => (aExt r21.1 1).bind fun v23 => (asB v23).bind fun b24 => (aSt r21.2 x6 v22 4).bind fun h25 => (aLdN h25 x6 4).bind fun v26 => bif List.all [v26, .bool b24] isS2 then some (.tuple (List.toArray [v26, .bool b24]), h25) else none else s123_1 hk C N x0 x4 x5 x6 h := by kernel_rfl
theorem s123_1_j (C : ACall) (N : Nat) (x0 : Int) (x4 : Value) (x5 : Value) (x6 : Value) (h : AHeap) : s123_1 hk0 C N x0 x4 x5 x6 h = F123_1 hk0 C N (⟨53, [(0, .int .i64 x0), (4, x4), (5, x5), (6, x6)]⟩) h := by delta s123_1; exact hk0_app _ _ _ _
theorem s123_1_eq (hk : Hk (Value × AHeap)) (C : ACall) (N : Nat) (x0 : Int) (x4 : Value) (x5 : Value) (x6 : Value) (h : AHeap) : F123_1 hk C N (⟨53, [(0, .int .i64 x0), (4, x4), (5, x5), (6, x6)]⟩) h =
    bif x0 == 6 then (aOff x4 0).bind fun v27 => (aLd1 h v27).bind fun v28 => (asI .i64 v28).bind fun n29 => bif n29 == 4 then (aOff x5 0).bind fun v30 => (aLd1 h v30).bind fun v31 => (asI .i64 v31).bind fun n32 => bif n32 == 4 then (aOff x4 1).bind fun v33 => (aLd1 h v33).bind fun v34 => (asS v34).bind fun t35 => (aOff x5 1).bind fun v36 => (aLd1 h v36).bind fun v37 => (asS v37).bind fun t38 => s123_2 hk C N x4 x5 x6 (decide ((IntKind.i64.wrap ((ByteArray.size t35 : Int) + (ByteArray.size t38 : Int))) ≤ 160)) h else s123_2 hk C N x4 x5 x6 false h else s123_2 hk C N x4 x5 x6 false h else s123_2 hk C N x4 x5 x6 false h := by kernel_rfl
theorem s123_2_j (C : ACall) (N : Nat) (x4 : Value) (x5 : Value) (x6 : Value) (x45 : Bool) (h : AHeap) : s123_2 hk0 C N x4 x5 x6 x45 h = F123_2 hk0 C N (⟨53, [(4, x4), (5, x5), (6, x6), (45, .bool x45)]⟩) h := by delta s123_2; exact hk0_app _ _ _ _
theorem s123_2_eq (hk : Hk (Value × AHeap)) (C : ACall) (N : Nat) (x4 : Value) (x5 : Value) (x6 : Value) (x45 : Bool) (h : AHeap) : F123_2 hk C N (⟨53, [(4, x4), (5, x5), (6, x6), (45, .bool x45)]⟩) h =
    bif x45 then (aOff x4 1).bind fun v39 => (aLd1 h v39).bind fun v40 => (asS v40).bind fun t41 => (aOff x5 1).bind fun v42 => (aLd1 h v42).bind fun v43 => (asS v43).bind fun t44 => (aBin .add (.string t41) (.string t44)).bind fun v45 => (asS v45).bind fun t46 => (aSt h x6 (.agg (List.toArray [.int .i64 4, .string t46, .int .i64 0, .slice none 0 0])) 4).bind fun h47 => (aLdN h47 x6 4).bind fun v48 => bif List.all [v48, .bool true] isS2 then some (.tuple (List.toArray [v48, .bool true]), h47) else none else s123_3 hk C N x6 h := by kernel_rfl
theorem s123_3_j (C : ACall) (N : Nat) (x6 : Value) (h : AHeap) : s123_3 hk0 C N x6 h = F123_3 hk0 C N (⟨53, [(6, x6)]⟩) h := by delta s123_3; exact hk0_app _ _ _ _
theorem s123_3_eq (hk : Hk (Value × AHeap)) (C : ACall) (N : Nat) (x6 : Value) (h : AHeap) : F123_3 hk C N (⟨53, [(6, x6)]⟩) h =
    (aSt h x6 (.agg (List.toArray [.int .i64 0, .string ⟨#[]⟩, .int .i64 0, .slice none 0 0])) 4).bind fun h49 => (aLdN h49 x6 4).bind fun v50 => bif List.all [v50, .bool false] isS2 then some (.tuple (List.toArray [v50, .bool false]), h49) else none := by kernel_rfl
theorem c123 (d : Nat) (args : List Value) (h : AHeap) : call Try.prog Ms (d + 1) 123 args h = evFn hk0 Try.prog (call Try.prog Ms d) M123 d Try.f123 args h := by kernel_rfl

/-! 124 loop.example/g00101/spec.l19Bool -/
noncomputable def F124_0 (hk : Hk (Value × AHeap)) (C : ACall) (N : Nat) : Nx (Value × AHeap) := evSt hk Try.prog C M124 N Try.f124 [1, 1, 1] []
noncomputable def s124_0 (hk : Hk (Value × AHeap)) (C : ACall) (N : Nat) (x2 : Value) (x3 : Value) (h : AHeap) := hk 4 (⟨8, [(2, x2), (3, x3)]⟩) h (F124_0 hk C N)
theorem e124 (hk : Hk (Value × AHeap)) (C : ACall) (N : Nat) (x0 : Bool) (h : AHeap) : evFn hk Try.prog C M124 N Try.f124 [.bool x0] h =
    aNew h 73 [.int .i64 0, .string ⟨#[]⟩, .int .i64 0, .slice none 0 0] fun p1 h2 => aNew h2 73 [.int .i64 0, .string ⟨#[]⟩, .int .i64 0, .slice none 0 0] fun p3 h4 => (aSt h4 p3 (.agg (List.toArray [.int .i64 2, .string ⟨#[]⟩, .int .i64 0, .slice none 0 0])) 4).bind fun h5 => bif x0 then (aOff p3 2).bind fun v6 => (aSt h5 v6 (.int .i64 1) 1).bind fun h7 => s124_0 hk C N p1 p3 h7 else s124_0 hk C N p1 p3 h5 := by kernel_rfl
theorem s124_0_j (C : ACall) (N : Nat) (x2 : Value) (x3 : Value) (h : AHeap) : s124_0 hk0 C N x2 x3 h = F124_0 hk0 C N (⟨8, [(2, x2), (3, x3)]⟩) h := by delta s124_0; exact hk0_app _ _ _ _
theorem s124_0_eq (hk : Hk (Value × AHeap)) (C : ACall) (N : Nat) (x2 : Value) (x3 : Value) (h : AHeap) : F124_0 hk C N (⟨8, [(2, x2), (3, x3)]⟩) h =
    (aLdN h x3 4).bind fun v8 => (aSt h x2 v8 4).bind fun h9 => (aLdN h9 x2 4).bind fun v10 => some (v10, h9) := by kernel_rfl
theorem c124 (d : Nat) (args : List Value) (h : AHeap) : call Try.prog Ms (d + 1) 124 args h = evFn hk0 Try.prog (call Try.prog Ms d) M124 d Try.f124 args h := by kernel_rfl

/-! 125 (*loop.example/g00101/impl.twig).folded -/
noncomputable def F125_0 (hk : Hk (Value × AHeap)) (C : ACall) (N : Nat) : Nx (Value × AHeap) := evSt hk Try.prog C M125 N Try.f125 [1, 0, 1, 2, 1, 4, 1, 0, 1] []
noncomputable def s125_0 (hk : Hk (Value × AHeap)) (C : ACall) (N : Nat) (x0 : Value) (x3 : Value) (x4 : Value) (x39 : Bool) (h : AHeap) := hk 100005 (⟨141, [(0, x0), (3, x3), (4, x4), (39, .bool x39)]⟩) h (F125_0 hk C N)
noncomputable def F125_3 (hk : Hk (Value × AHeap)) (C : ACall) (N : Nat) : Nx (Value × AHeap) := evSt hk Try.prog C M125 N Try.f125 [1, 0, 1, 2, 1, 5, 1, 4, 1] []
noncomputable def s125_3 (hk : Hk (Value × AHeap)) (C : ACall) (N : Nat) (x0 : Value) (x103 : Bool) (h : AHeap) := hk 100012 (⟨141, [(0, x0), (103, .bool x103)]⟩) h (F125_3 hk C N)
noncomputable def F125_4 (hk : Hk (Value × AHeap)) (C : ACall) (N : Nat) : Nx (Value × AHeap) := evSt hk Try.prog C M125 N Try.f125 [1, 0, 1, 2, 1, 5, 1, 5, 1] []
noncomputable def s125_4 (hk : Hk (Value × AHeap)) (C : ACall) (N : Nat) (x0 : Value) (x113 : Bool) (h : AHeap) := hk 100015 (⟨141, [(0, x0), (113, .bool x113)]⟩) h (F125_4 hk C N)
noncomputable def F125_1 (hk : Hk (Value × AHeap)) (C : ACall) (N : Nat) : Nx (Value × AHeap) := evSt hk Try.prog C M125 N Try.f125 [1, 0, 1, 2, 1, 4, 1, 1] []
noncomputable def s125_1 (hk : Hk (Value × AHeap)) (C : ACall) (N : Nat) (x0 : Value) (x3 : Value) (x4 : Value) (h : AHeap) := hk 8 (⟨141, [(0, x0), (3, x3), (4, x4)]⟩) h (F125_1 hk C N)
noncomputable def F125_2 (hk : Hk (Value × AHeap)) (C : ACall) (N : Nat) : Nx (Value × AHeap) := evSt hk Try.prog C M125 N Try.f125 [1, 0, 1, 2, 1, 4, 1, 1, 1] []
noncomputable def s125_2 (hk : Hk (Value × AHeap)) (C : ACall) (N : Nat) (x0 : Value) (x3 : Value) (x4 : Value) (x78 : Bool) (h : AHeap) := hk 100009 (⟨141, [(0, x0), (3, x3), (4, x4), (78, .bool x78)]⟩) h (F125_2 hk C N)
theorem e125 (hk : Hk (Value × AHeap)) (C : ACall) (N : Nat) (x0 : Value) (h : AHeap) : evFn hk Try.prog C M125 N Try.f125 [x0] h =
    (aNil x0).bind fun v1 => (aOff v1 0).bind fun v2 => (aOff v2 0).bind fun v3 => (aLd1 h v3).bind fun v4 => (asI .i64 v4).bind fun n5 => bif n5 == 10 then (aNil x0).bind fun v6 => (aOff v6 4).bind fun v7 => (aLd1 h v7).bind fun v8 => (aIdx v8 (.int .i64 0) 1).bind fun v9 => (aLd1 h v9).bind fun v10 => (aNil v10).bind fun v11 => (aOff v11 0).bind fun v12 => (aLdN h v12 4).bind fun v13 => (aNil x0).bind fun v14 => (aOff v14 4).bind fun v15 => (aLd1 h v15).bind fun v16 => (aIdx v16 (.int .i64 1) 1).bind fun v17 => (aLd1 h v17).bind fun v18 => (aNil v18).bind fun v19 => (aOff v19 0).bind fun v20 => (aLdN h v20 4).bind fun v21 => aNew h 73 [.int .i64 0, .string ⟨#[]⟩, .int .i64 0, .slice none 0 0] fun p22 h23 => aNew h23 73 [.int .i64 0, .string ⟨#[]⟩, .int .i64 0, .slice none 0 0] fun p24 h25 => (aSt h25 p22 v13 4).bind fun h26 => ((aLd1 h26 v15).bind fun v27 => some (vbeq v27 v16)).bind fun b28 => bif b28 then ((aLd1 h26 v17).bind fun v29 => some (vbeq v29 v18)).bind fun b30 => bif b30 then ((aLdN h26 v20 4).bind fun v31 => some (vbeq v31 v21)).bind fun b32 => bif b32 then (aSt h26 p24 v21 4).bind fun h33 => (aOff p22 0).bind fun v34 => (aLd1 h33 v34).bind fun v35 => (asI .i64 v35).bind fun n36 => bif n36 == 3 then (aOff p24 0).bind fun v37 => (aLd1 h33 v37).bind fun v38 => (asI .i64 v38).bind fun n39 => s125_0 hk C N x0 p22 p24 (n39 == 3) h33 else s125_0 hk C N x0 p22 p24 false h33 else none else none else none else bif n5 == 11 then (aNil x0).bind fun v40 => (aOff v40 0).bind fun v41 => (aOff v41 2).bind fun v42 => (aLd1 h v42).bind fun v43 => (asI .i64 v43).bind fun n44 => bif n44 == 2 then (aNil x0).bind fun v45 => (aOff v45 4).bind fun v46 => (aLd1 h v46).bind fun v47 => (aIdx v47 (.int .i64 0) 1).bind fun v48 => (aLd1 h v48).bind fun v49 => (C 166 [v49] h).bind fun r50 => (asB r50.1).bind fun b51 => s125_3 hk C N x0 b51 r50.2 else s125_3 hk C N x0 false h else bif n5 == 12 then s125_4 hk C N x0 (n5 == 12) h else s125_4 hk C N x0 (n5 == 13) h := by kernel_rfl
theorem s125_0_j (C : ACall) (N : Nat) (x0 : Value) (x3 : Value) (x4 : Value) (x39 : Bool) (h : AHeap) : s125_0 hk0 C N x0 x3 x4 x39 h = F125_0 hk0 C N (⟨141, [(0, x0), (3, x3), (4, x4), (39, .bool x39)]⟩) h := by delta s125_0; exact hk0_app _ _ _ _
theorem s125_0_eq (hk : Hk (Value × AHeap)) (C : ACall) (N : Nat) (x0 : Value) (x3 : Value) (x4 : Value) (x39 : Bool) (h : AHeap) : F125_0 hk C N (⟨141, [(0, x0), (3, x3), (4, x4), (39, .bool x39)]⟩) h =
    bif x39 then (aNil x0).bind fun v52 => (aOff v52 0).bind fun v53 => (aOff v53 2).bind fun v54 => (aLd1 h v54).bind fun v55 => (asI .i64 v55).bind fun n56 => (aOff x3 2).bind fun v57 => (aLd1 h v57).bind fun v58 => (asI .i64 v58).bind fun n59 => (aOff x4 2).bind fun v60 => (aLd1 h v60).bind fun v61 => (asI .i64 v61).bind fun n62 => (C 165 [.int .i64 n56, .int .i64 n59, .int .i64 n62] h).bind fun r63 => (aBinP .neq r63.1 (.pointer none)).bind fun v64 => (asB v64).bind fun b65 => bif b65 then some (r63.1, r63.2) else s125_1 hk C N x0 x3 x4 r63.2 else s125_1 hk C N x0 x3 x4 h := by kernel_rfl
theorem s125_3_j (C : ACall) (N : Nat) (x0 : Value) (x103 : Bool) (h : AHeap) : s125_3 hk0 C N x0 x103 h = F125_3 hk0 C N (⟨141, [(0, x0), (103, .bool x103)]⟩) h := by delta s125_3; exact hk0_app _ _ _ _
theorem s125_3_eq (hk : Hk (Value × AHeap)) (C : ACall) (N : Nat) (x0 : Value) (x103 : Bool) (h : AHeap) : F125_3 hk C N (⟨141, [(0, x0), (103, .bool x103)]⟩) h =
    bif x103 then (aNil x0).bind fun v66 => (aOff v66 4).bind fun v67 => (aLd1 h v67).bind fun v68 => (aIdx v68 (.int .i64 0) 1).bind fun v69 => (aLd1 h v69).bind fun v70 => (C 168 [v70] h).bind fun r71 => (asB r71.1).bind fun b72 => (C 167 [.bool (!b72)] r71.2).bind fun r73 => some (r73.1, r73.2) else some (x0, h) := by kernel_rfl
theorem s125_4_j (C : ACall) (N : Nat) (x0 : Value) (x113 : Bool) (h : AHeap) : s125_4 hk0 C N x0 x113 h = F125_4 hk0 C N (⟨141, [(0, x0), (113, .bool x113)]⟩) h := by delta s125_4; exact hk0_app _ _ _ _
theorem s125_4_eq (hk : Hk (Value × AHeap)) (C : ACall) (N : Nat) (x0 : Value) (x113 : Bool) (h : AHeap) : F125_4 hk C N (⟨141, [(0, x0), (113, .bool x113)]⟩) h =
    bif x113 then (aNil x0).bind fun v74 => (aOff v74 4).bind fun v75 => (aLd1 h v75).bind fun v76 => (aIdx v76 (.int .i64 0) 1).bind fun v77 => (aLd1 h v77).bind fun v78 => (C 166 [v78] h).bind fun r79 => (asB r79.1).bind fun b80 => bif b80 then (aNil x0).bind fun v81 => (aOff v81 0).bind fun v82 => (aOff v82 0).bind fun v83 => (aLd1 r79.2 v83).bind fun v84 => (asI .i64 v84).bind fun n85 => (C 168 [v78] r79.2).bind fun r86 => (asB r86.1).bind fun b87 => ((aLd1 r86.2 v83).bind fun v88 => (asI .i64 v88).bind fun n89 => some (vbeq (.int .i64 n89) (.int .i64 n85))).bind fun b90 => bif b90 then bif b87 == (n85 == 13) then some (v78, r86.2) else (aNil x0).bind fun v91 => (aOff v91 4).bind fun v92 => (aLd1 r86.2 v92).bind fun v93 => (aIdx v93 (.int .i64 1) 1).bind fun v94 => (aLd1 r86.2 v94).bind fun v95 => some (v95, r86.2) else none else some (x0, r79.2) else some (x0, h) := by kernel_rfl
theorem s125_1_j (C : ACall) (N : Nat) (x0 : Value) (x3 : Value) (x4 : Value) (h : AHeap) : s125_1 hk0 C N x0 x3 x4 h = F125_1 hk0 C N (⟨141, [(0, x0), (3, x3), (4, x4)]⟩) h := by delta s125_1; exact hk0_app _ _ _ _
theorem s125_1_eq (hk : Hk (Value × AHeap)) (C : ACall) (N : Nat) (x0 : Value) (x3 : Value) (x4 : Value) (h : AHeap) : F125_1 hk C N (⟨141, [(0, x0), (3, x3), (4, x4)]⟩) h =
    (aOff x3 0).bind fun v96 => (aLd1 h v96).bind fun v97 => (asI .i64 v97).bind fun n98 => bif n98 == 4 then (aOff x4 0).bind fun v99 => (aLd1 h v99).bind fun v100 => (asI .i64 v100).bind fun n101 => bif n101 == 4 then (aNil x0).bind fun v102 => (aOff v102 0).bind fun v103 => (aOff v103 2).bind fun v104 => (aLd1 h v104).bind fun v105 => (asI .i64 v105).bind fun n106 => bif n106 == 6 then (aOff x3 1).bind fun v107 => (aLd1 h v107).bind fun v108 => (asS v108).bind fun t109 => (aOff x4 1).bind fun v110 => (aLd1 h v110).bind fun v111 => (asS v111).bind fun t112 => s125_2 hk C N x0 x3 x4 (decide ((IntKind.i64.wrap ((ByteArray.size t109 : Int) + (ByteArray.size t112 : Int))) ≤ 160)) h else s125_2 hk C N x0 x3 x4 false h else s125_2 hk C N x0 x3 x4 false h else s125_2 hk C N x0 x3 x4 false h := by kernel_rfl
theorem s125_2_j (C : ACall) (N : Nat) (x0 : Value) (x3 : Value) (x4 : Value) (x78 : Bool) (h : AHeap) : s125_2 hk0 C N x0 x3 x4 x78 h = F125_2 hk0 C N (⟨141, [(0, x0), (3, x3), (4, x4), (78, .bool x78)]⟩) h := by delta s125_2; exact hk0_app _ _ _ _
theorem s125_2_eq (hk : Hk (Value × AHeap)) (C : ACall) (N : Nat) (x0 : Value) (x3 : Value) (x4 : Value) (x78 : Bool) (h : AHeap) : F125_2 hk C N (⟨141, [(0, x0), (3, x3), (4, x4), (78, .bool x78)]⟩) h =
    bif x78 then (aOff x3 1).bind fun v113 => (aLd1 h v113).bind fun v114 => (asS v114).bind fun t115 => (aOff x4 1).bind fun v116 => (aLd1 h v116).bind fun v117 => (asS v117).bind fun t118 => (aBin .add (.string t115) (.string t118)).bind fun v119 => (asS v119).bind fun t120 => (aFill [.int .i64 0, .string ⟨#[]⟩, .int .i64 0, .slice none 0 0, .slice none 0 0] [(0, 4, (.agg (List.toArray [.int .i64 4, .string t120, .int .i64 0, .slice none 0 0])))]).bind fun c121 => (aCells (.agg (List.toArray c121))).bind fun c122 => aNew h 155 c122 fun p123 h124 => some (p123, h124) else some (x0, h) := by kernel_rfl
theorem c125 (d : Nat) (args : List Value) (h : AHeap) : call Try.prog Ms (d + 1) 125 args h = evFn hk0 Try.prog (call Try.prog Ms d) M125 d Try.f125 args h := by kernel_rfl

/-! 164 loop.example/g00101/spec.l19Number -/
noncomputable def F164_1 (hk : Hk (Value × AHeap)) (C : ACall) (N : Nat) : Nx (Value × AHeap) := evSt hk Try.prog C M164 N Try.f164 [1, 1, 1] []
noncomputable def s164_1 (hk : Hk (Value × AHeap)) (C : ACall) (N : Nat) (x6 : Value) (x8 : Int) (h : AHeap) := hk 20 (⟨63, [(6, x6), (8, .int .i64 x8)]⟩) h (F164_1 hk C N)
noncomputable def F164_0 (hk : Hk (Value × AHeap)) (C : ACall) (N : Nat) : Nx (Value × AHeap) := evSt hk Try.prog C M164 N Try.f164 [1, 1, 0, 1, 2, 1, 5, 1, 5, 1, 4, 0, 1] []
noncomputable def s164_0 (hk : Hk (Value × AHeap)) (C : ACall) (N : Nat) (x1 : Int) (x2 : Int) (x6 : Value) (x30 : Bool) (h : AHeap) := hk 100010 (⟨63, [(1, .int .i64 x1), (2, .int .i64 x2), (6, x6), (30, .bool x30)]⟩) h (F164_0 hk C N)
theorem e164 (hk : Hk (Value × AHeap)) (C : ACall) (N : Nat) (x0 : Int) (x1 : Int) (x2 : Int) (h : AHeap) : evFn hk Try.prog C M164 N Try.f164 [.int .i64 x0, .int .i64 x1, .int .i64 x2] h =
    aNew h 73 [.int .i64 0, .string ⟨#[]⟩, .int .i64 0, .slice none 0 0] fun p1 h2 => bif x0 == 1 then s164_1 hk C N p1 (IntKind.i64.wrap (x1 + x2)) h2 else bif x0 == 2 then s164_1 hk C N p1 (IntKind.i64.wrap (x1 - x2)) h2 else bif x0 == 3 then bif x1 != 0 then (aBin .quo (.int .i64 999999999999999) (.int .i64 x1)).bind fun v3 => (asI .i64 v3).bind fun n4 => s164_0 hk C N x1 x2 p1 (decide (x2 > n4)) h2 else s164_0 hk C N x1 x2 p1 false h2 else bif x0 == 7 then (C 124 [.bool (x1 == x2)] h2).bind fun r5 => (aSt r5.2 p1 r5.1 4).bind fun h6 => (aLdN h6 p1 4).bind fun v7 => bif List.all [v7, .bool true] isS2 then some (.tuple (List.toArray [v7, .bool true]), h6) else none else bif x0 == 8 then (C 124 [.bool (x1 != x2)] h2).bind fun r8 => (aSt r8.2 p1 r8.1 4).bind fun h9 => (aLdN h9 p1 4).bind fun v10 => bif List.all [v10, .bool true] isS2 then some (.tuple (List.toArray [v10, .bool true]), h9) else none else bif x0 == 9 then (C 124 [.bool (decide (x1 < x2))] h2).bind fun r11 => (aSt r11.2 p1 r11.1 4).bind fun h12 => (aLdN h12 p1 4).bind fun v13 => bif List.all [v13, .bool true] isS2 then some (.tuple (List.toArray [v13, .bool true]), h12) else none else bif x0 == 10 then (C 124 [.bool (decide (x1 ≤ x2))] h2).bind fun r14 => (aSt r14.2 p1 r14.1 4).bind fun h15 => (aLdN h15 p1 4).bind fun v16 => bif List.all [v16, .bool true] isS2 then some (.tuple (List.toArray [v16, .bool true]), h15) else none else (aSt h2 p1 (.agg (List.toArray [.int .i64 0, .string ⟨#[]⟩, .int .i64 0, .slice none 0 0])) 4).bind fun h17 => (aLdN h17 p1 4).bind fun v18 => bif List.all [v18, .bool false] isS2 then some (.tuple (List.toArray [v18, .bool false]), h17) else none := by kernel_rfl
theorem s164_1_j (C : ACall) (N : Nat) (x6 : Value) (x8 : Int) (h : AHeap) : s164_1 hk0 C N x6 x8 h = F164_1 hk0 C N (⟨63, [(6, x6), (8, .int .i64 x8)]⟩) h := by delta s164_1; exact hk0_app _ _ _ _
theorem s164_1_eq (hk : Hk (Value × AHeap)) (C : ACall) (N : Nat) (x6 : Value) (x8 : Int) (h : AHeap) : F164_1 hk C N (⟨63, [(6, x6), (8, .int .i64 x8)]⟩) h =
    (C 98 [.int .i64 x8, .int .i64 0, .int .i64 999999999999999] h).bind fun r19 => (asB r19.1).bind fun b20 => (aSt r19.2 x6 (.agg (List.toArray [.int .i64 3, .string ⟨#[]⟩, .int .i64 x8, .slice none 0 0])) 4).bind fun h21 => (aLdN h21 x6 4).bind fun v22 => bif List.all [v22, .bool b20] isS2 then some (.tuple (List.toArray [v22, .bool b20]), h21) else none := by kernel_rfl
theorem s164_0_j (C : ACall) (N : Nat) (x1 : Int) (x2 : Int) (x6 : Value) (x30 : Bool) (h : AHeap) : s164_0 hk0 C N x1 x2 x6 x30 h = F164_0 hk0 C N (⟨63, [(1, .int .i64 x1), (2, .int .i64 x2), (6, x6), (30, .bool x30)]⟩) h := by delta s164_0; exact hk0_app _ _ _ _
theorem s164_0_eq (hk : Hk (Value × AHeap)) (C : ACall) (N : Nat) (x1 : Int) (x2 : Int) (x6 : Value) (x30 : Bool) (h : AHeap) : F164_0 hk C N (⟨63, [(1, .int .i64 x1), (2, .int .i64 x2), (6, x6), (30, .bool x30)]⟩) h =
    bif x30 then (aSt h x6 (.agg (List.toArray [.int .i64 0, .string ⟨#[]⟩, .int .i64 0, .slice none 0 0])) 4).bind fun h23 => (aLdN h23 x6 4).bind fun v24 => bif List.all [v24, .bool false] isS2 then some (.tuple (List.toArray [v24, .bool false]), h23) else none else s164_1 hk C N x6 (IntKind.i64.wrap (x1 * x2)) h := by kernel_rfl
theorem c164 (d : Nat) (args : List Value) (h : AHeap) : call Try.prog Ms (d + 1) 164 args h = evFn hk0 Try.prog (call Try.prog Ms d) M164 d Try.f164 args h := by kernel_rfl

/-! 165 loop.example/g00101/impl.numbers -/
noncomputable def F165_0 (hk : Hk (Value × AHeap)) (C : ACall) (N : Nat) : Nx (Value × AHeap) := evSt hk Try.prog C M165 N Try.f165 [1, 1, 1] []
noncomputable def s165_0 (hk : Hk (Value × AHeap)) (C : ACall) (N : Nat) (x7 : Int) (x8 : Bool) (h : AHeap) := hk 17 (⟨63, [(7, .int .i64 x7), (8, .bool x8)]⟩) h (F165_0 hk C N)
noncomputable def F165_1 (hk : Hk (Value × AHeap)) (C : ACall) (N : Nat) : Nx (Value × AHeap) := evSt hk Try.prog C M165 N Try.f165 [1, 1, 1, 0, 1] []
noncomputable def s165_1 (hk : Hk (Value × AHeap)) (C : ACall) (N : Nat) (x7 : Int) (x58 : Bool) (h : AHeap) := hk 100018 (⟨63, [(7, .int .i64 x7), (58, .bool x58)]⟩) h (F165_1 hk C N)
noncomputable def F165_2 (hk : Hk (Value × AHeap)) (C : ACall) (N : Nat) : Nx (Value × AHeap) := evSt hk Try.prog C M165 N Try.f165 [1, 1, 1, 1] []
noncomputable def s165_2 (hk : Hk (Value × AHeap)) (C : ACall) (N : Nat) (x7 : Int) (h : AHeap) := hk 19 (⟨63, [(7, .int .i64 x7)]⟩) h (F165_2 hk C N)
theorem e165 (hk : Hk (Value × AHeap)) (C : ACall) (N : Nat) (x0 : Int) (x1 : Int) (x2 : Int) (h : AHeap) : evFn hk Try.prog C M165 N Try.f165 [.int .i64 x0, .int .i64 x1, .int .i64 x2] h =
    bif x0 == 1 then s165_0 hk C N (IntKind.i64.wrap (x1 + x2)) true h else bif x0 == 2 then s165_0 hk C N (IntKind.i64.wrap (x1 - x2)) true h else bif x0 == 3 then (C 196 [.int .i64 x1, .int .i64 x2] h).bind fun r1 => (aExt r1.1 0).bind fun v2 => (asI .i64 v2).bind fun n3 => (aExt r1.1 1).bind fun v4 => (asB v4).bind fun b5 => s165_0 hk C N n3 b5 r1.2 else bif x0 == 7 then (C 167 [.bool (x1 == x2)] h).bind fun r6 => some (r6.1, r6.2) else bif x0 == 8 then (C 167 [.bool (x1 != x2)] h).bind fun r7 => some (r7.1, r7.2) else bif x0 == 9 then (C 167 [.bool (decide (x1 < x2))] h).bind fun r8 => some (r8.1, r8.2) else bif x0 == 10 then (C 167 [.bool (decide (x1 ≤ x2))] h).bind fun r9 => some (r9.1, r9.2) else s165_0 hk C N 0 false h := by kernel_rfl
theorem s165_0_j (C : ACall) (N : Nat) (x7 : Int) (x8 : Bool) (h : AHeap) : s165_0 hk0 C N x7 x8 h = F165_0 hk0 C N (⟨63, [(7, .int .i64 x7), (8, .bool x8)]⟩) h := by delta s165_0; exact hk0_app _ _ _ _
theorem s165_0_eq (hk : Hk (Value × AHeap)) (C : ACall) (N : Nat) (x7 : Int) (x8 : Bool) (h : AHeap) : F165_0 hk C N (⟨63, [(7, .int .i64 x7), (8, .bool x8)]⟩) h =
    bif !x8 then s165_1 hk C N x7 true h else (C 103 [.int .i64 x7, .int .i64 0, .int .i64 999999999999999] h).bind fun r10 => (asB r10.1).bind fun b11 => s165_1 hk C N x7 (!b11) r10.2 := by kernel_rfl
theorem s165_1_j (C : ACall) (N : Nat) (x7 : Int) (x58 : Bool) (h : AHeap) : s165_1 hk0 C N x7 x58 h = F165_1 hk0 C N (⟨63, [(7, .int .i64 x7), (58, .bool x58)]⟩) h := by delta s165_1; exact hk0_app _ _ _ _
theorem s165_1_eq (hk : Hk (Value × AHeap)) (C : ACall) (N : Nat) (x7 : Int) (x58 : Bool) (h : AHeap) : F165_1 hk C N (⟨63, [(7, .int .i64 x7), (58, .bool x58)]⟩) h =
    bif x58 then some ((.pointer none), h) else s165_2 hk C N x7 h := by kernel_rfl
theorem s165_2_j (C : ACall) (N : Nat) (x7 : Int) (h : AHeap) : s165_2 hk0 C N x7 h = F165_2 hk0 C N (⟨63, [(7, .int .i64 x7)]⟩) h := by delta s165_2; exact hk0_app _ _ _ _
theorem s165_2_eq (hk : Hk (Value × AHeap)) (C : ACall) (N : Nat) (x7 : Int) (h : AHeap) : F165_2 hk C N (⟨63, [(7, .int .i64 x7)]⟩) h =
    (aFill [.int .i64 0, .string ⟨#[]⟩, .int .i64 0, .slice none 0 0, .slice none 0 0] [(0, 4, (.agg (List.toArray [.int .i64 3, .string ⟨#[]⟩, .int .i64 x7, .slice none 0 0])))]).bind fun c12 => (aCells (.agg (List.toArray c12))).bind fun c13 => aNew h 155 c13 fun p14 h15 => some (p14, h15) := by kernel_rfl
theorem c165 (d : Nat) (args : List Value) (h : AHeap) : call Try.prog Ms (d + 1) 165 args h = evFn hk0 Try.prog (call Try.prog Ms d) M165 d Try.f165 args h := by kernel_rfl

/-! 166 (*loop.example/g00101/impl.twig).isLit -/
theorem e166 (hk : Hk (Value × AHeap)) (C : ACall) (N : Nat) (x0 : Value) (h : AHeap) : evFn hk Try.prog C M166 N Try.f166 [x0] h =
    (aNil x0).bind fun v1 => (aOff v1 0).bind fun v2 => (aOff v2 0).bind fun v3 => (aLd1 h v3).bind fun v4 => (asI .i64 v4).bind fun n5 => (C 103 [.int .i64 n5, .int .i64 1, .int .i64 4] h).bind fun r6 => (asB r6.1).bind fun b7 => some (.bool b7, r6.2) := by kernel_rfl
theorem c166 (d : Nat) (args : List Value) (h : AHeap) : call Try.prog Ms (d + 1) 166 args h = evFn hk0 Try.prog (call Try.prog Ms d) M166 d Try.f166 args h := by kernel_rfl

/-! 167 loop.example/g00101/impl.boolTwig -/
noncomputable def F167_0 (hk : Hk (Value × AHeap)) (C : ACall) (N : Nat) : Nx (Value × AHeap) := evSt hk Try.prog C M167 N Try.f167 [1, 1, 1] []
noncomputable def s167_0 (hk : Hk (Value × AHeap)) (C : ACall) (N : Nat) (x3 : Value) (h : AHeap) := hk 4 (⟨10, [(3, x3)]⟩) h (F167_0 hk C N)
theorem e167 (hk : Hk (Value × AHeap)) (C : ACall) (N : Nat) (x0 : Bool) (h : AHeap) : evFn hk Try.prog C M167 N Try.f167 [.bool x0] h =
    aNew h 73 [.int .i64 0, .string ⟨#[]⟩, .int .i64 0, .slice none 0 0] fun p1 h2 => (aSt h2 p1 (.agg (List.toArray [.int .i64 2, .string ⟨#[]⟩, .int .i64 0, .slice none 0 0])) 4).bind fun h3 => bif x0 then (aOff p1 2).bind fun v4 => (aSt h3 v4 (.int .i64 1) 1).bind fun h5 => s167_0 hk C N p1 h5 else s167_0 hk C N p1 h3 := by kernel_rfl
theorem s167_0_j (C : ACall) (N : Nat) (x3 : Value) (h : AHeap) : s167_0 hk0 C N x3 h = F167_0 hk0 C N (⟨10, [(3, x3)]⟩) h := by delta s167_0; exact hk0_app _ _ _ _
theorem s167_0_eq (hk : Hk (Value × AHeap)) (C : ACall) (N : Nat) (x3 : Value) (h : AHeap) : F167_0 hk C N (⟨10, [(3, x3)]⟩) h =
    (aLdN h x3 4).bind fun v6 => (aFill [.int .i64 0, .string ⟨#[]⟩, .int .i64 0, .slice none 0 0, .slice none 0 0] [(0, 4, v6)]).bind fun c7 => (aCells (.agg (List.toArray c7))).bind fun c8 => aNew h 155 c8 fun p9 h10 => some (p9, h10) := by kernel_rfl
theorem c167 (d : Nat) (args : List Value) (h : AHeap) : call Try.prog Ms (d + 1) 167 args h = evFn hk0 Try.prog (call Try.prog Ms d) M167 d Try.f167 args h := by kernel_rfl

/-! 168 (*loop.example/g00101/impl.twig).truth -/
theorem e168 (hk : Hk (Value × AHeap)) (C : ACall) (N : Nat) (x0 : Value) (h : AHeap) : evFn hk Try.prog C M168 N Try.f168 [x0] h =
    (aNil x0).bind fun v1 => (aOff v1 0).bind fun v2 => (aOff v2 0).bind fun v3 => (aLd1 h v3).bind fun v4 => (asI .i64 v4).bind fun n5 => bif n5 != 1 then (aNil x0).bind fun v6 => (aOff v6 0).bind fun v7 => (aOff v7 0).bind fun v8 => (aLd1 h v8).bind fun v9 => (asI .i64 v9).bind fun n10 => bif n10 != 2 then some (.bool true, h) else (aNil x0).bind fun v11 => (aOff v11 0).bind fun v12 => (aOff v12 2).bind fun v13 => (aLd1 h v13).bind fun v14 => (asI .i64 v14).bind fun n15 => some (.bool (n15 == 1), h) else some (.bool false, h) := by kernel_rfl
theorem c168 (d : Nat) (args : List Value) (h : AHeap) : call Try.prog Ms (d + 1) 168 args h = evFn hk0 Try.prog (call Try.prog Ms d) M168 d Try.f168 args h := by kernel_rfl

/-! 196 loop.example/g00101/impl.whole -/
noncomputable def F196_0 (hk : Hk (Value × AHeap)) (C : ACall) (N : Nat) : Nx (Value × AHeap) := evSt hk Try.prog C M196 N Try.f196 [1, 0, 1] []
noncomputable def s196_0 (hk : Hk (Value × AHeap)) (C : ACall) (N : Nat) (x0 : Int) (x1 : Int) (x13 : Bool) (h : AHeap) := hk 100002 (⟨17, [(0, .int .i64 x0), (1, .int .i64 x1), (13, .bool x13)]⟩) h (F196_0 hk C N)
theorem e196 (hk : Hk (Value × AHeap)) (C : ACall) (N : Nat) (x0 : Int) (x1 : Int) (h : AHeap) : evFn hk Try.prog C M196 N Try.f196 [.int .i64 x0, .int .i64 x1] h =
    bif x0 != 0 then (aBin .quo (.int .i64 999999999999999) (.int .i64 x0)).bind fun v1 => (asI .i64 v1).bind fun n2 => s196_0 hk C N x0 x1 (decide (x1 > n2)) h else s196_0 hk C N x0 x1 false h := by kernel_rfl
theorem s196_0_j (C : ACall) (N : Nat) (x0 : Int) (x1 : Int) (x13 : Bool) (h : AHeap) : s196_0 hk0 C N x0 x1 x13 h = F196_0 hk0 C N (⟨17, [(0, .int .i64 x0), (1, .int .i64 x1), (13, .bool x13)]⟩) h := by delta s196_0; exact hk0_app _ _ _ _
theorem s196_0_eq (hk : Hk (Value × AHeap)) (C : ACall) (N : Nat) (x0 : Int) (x1 : Int) (x13 : Bool) (h : AHeap) : F196_0 hk C N (⟨17, [(0, .int .i64 x0), (1, .int .i64 x1), (13, .bool x13)]⟩) h =
    bif x13 then some (.tuple (List.toArray [.int .i64 0, .bool false]), h) else some (.tuple (List.toArray [.int .i64 (IntKind.i64.wrap (x0 * x1)), .bool true]), h) := by kernel_rfl
theorem c196 (d : Nat) (args : List Value) (h : AHeap) : call Try.prog Ms (d + 1) 196 args h = evFn hk0 Try.prog (call Try.prog Ms d) M196 d Try.f196 args h := by kernel_rfl
end Go.Proofs.Ytadmoackacickaa
/- Fold: the reference's reckoning of two nodes. -/
set_option linter.unusedSimpArgs false
namespace Go.Proofs.Ytadmoackacickaa
open Go Go.AH

section
variable {P : Option (Value × AHeap) → Prop}
theorem pb {α : Type} {o : Option α} {k : α → Option (Value × AHeap)} {v : α} (e : o = some v) (hk : P (k v)) : P (o.bind k) := by rw [e]; exact hk
theorem pcf {c : Bool} {x y : Option (Value × AHeap)} (e : c = false) (hk : P y) : P (bif c then x else y) := by rw [e]; exact hk
theorem pct {c : Bool} {x y : Option (Value × AHeap)} (e : c = true) (hk : P x) : P (bif c then x else y) := by rw [e]; exact hk
end
def kn0 (n : Kn) : Value := knVal n (.slice none 0 0)
def knC (n : Kn) : List Value := knCells n (.slice none 0 0)
theorem kn0_cells (n : Kn) : aCells (kn0 n) = some (knC n) := rfl
/-- An answer: a node without kids. -/
def RK (h : AHeap) (n : Kn) (o : Option (Value × AHeap)) : Prop := ∃ g, o = some (kn0 n, g) ∧ Ext h.size h g
theorem l121 {d : Nat} (x : Int) (h : AHeap) : call Try.prog Ms (d + 1) 121 [.int .i64 x] h = some (.bool (isC x), h) := by
  rw [c121, e121]; unfold isC
  by_cases h1 : 1 ≤ x
  · exact ect (decide_eq_true (show x ≥ 1 from h1)) (by rw [if_pos h1])
  · exact ecf (decide_eq_false (show ¬ x ≥ 1 from h1)) (by rw [if_neg h1])
theorem l122 {d c : Nat} {n : Kn} {kv : Value} {h : AHeap} (x : ISl c h kv n.ks) : ∃ g, call Try.prog Ms (d + 1) 122 [knVal n kv] h = some (.bool (tru n), g) ∧ Ext h.size h g := by
  rw [c122, e122]
  have e1 := Ext.new (Nat.le_refl h.size) 73 (knCells n kv)
  have r1 := RowE.new h 73 (knCells n kv)
  refine ⟨h.new 73 (knCells n kv), eb (kn_aCells x) ?_, e1⟩
  obtain ⟨f0, f1, f2, _⟩ := ld4 r1.row
  show (aLd1 (h.new 73 (knCells n kv)) (ptr h.size 0)).bind _ = _
  refine eb f0 (eb rfl ?_)
  unfold tru
  by_cases k1 : n.k = 1
  · exact ecf (by simp [k1]) (by rw [if_pos k1])
  · refine ect (by simp [k1]) ?_
    show (aLd1 (h.new 73 (knCells n kv)) (ptr h.size 0)).bind _ = _
    refine eb f0 (eb rfl ?_)
    by_cases k2 : n.k = 2
    · refine ecf (by simp [k2]) (eb rfl (eb f2 (eb rfl ?_)))
      rw [if_neg k1, if_pos k2]
    · exact ect (by simp [k2]) (by rw [if_neg k1, if_neg k2])
theorem l124 {d : Nat} (b : Bool) (h : AHeap) : RK h (boolK b) (call Try.prog Ms (d + 1) 124 [.bool b] h) := by
  rw [c124, e124]
  refine new_step (P := RK h (boolK b)) fun p1 h1 x1 o1 _ => ?_
  refine newSt_step (P := RK h (boolK b)) (kn0_cells ⟨2, ⟨#[]⟩, 0, []⟩) rfl rfl fun p3 h2 x2 o2 _ => ?_
  have o1' := o1.ext x2 o1.lt.2
  have fin : ∀ g, Ext h.size h g → Own h.size g p1 73 [.int .i64 0, .string ⟨#[]⟩, .int .i64 0, .slice none 0 0] → RowE g p3 73 (knC (boolK b)) → RK h (boolK b) (s124_0 hk0 (call Try.prog Ms d) d (ptr p1 0) (ptr p3 0) g) := by
    intro g E o r
    rw [s124_0_j, s124_0_eq]
    obtain ⟨g2, c2, e2, q2, _⟩ := Own.stN o (kn0_cells (boolK b)) rfl rfl
    have e2' := e2
    refine ⟨g2, eb (ld4 r.row).2.2.2.2 (eb c2 (eb (ld4 (Own.rowE q2).row).2.2.2.2 rfl)), E.trans e2'⟩
  cases b with
  | false => exact pcf (P := RK h _) rfl (fin h2 (Ext.tr x1 x2) o1' (Own.rowE o2))
  | true =>
    refine pct (P := RK h _) rfl (pb (P := RK h _) rfl ?_)
    obtain ⟨h3, c3, x3, o3, s3⟩ := Own.st1' o2 (n := 2) (v := .int .i64 1) (by show 2 < 4; decide) rfl
    refine pb (P := RK h _) c3 (fin h3 ?_ (o1'.ext x3 o1.lt.2) (Own.rowE o3))
    exact Ext.tr x1 (x2.trans x3)
/-- An answer: a node without kids, and whether it counts. -/
def BO (h : AHeap) (oc : Option Kn) (o : Option (Value × AHeap)) : Prop := ∃ n g, o = some (.tuple (List.toArray [kn0 n, .bool oc.isSome]), g) ∧ Ext h.size h g ∧ n.ks = [] ∧ ∀ c, oc = some c → n = c
theorem bo_st {h0 g : AHeap} {p : Nat} {cs : List Value} (E : Ext h0.size h0 g) (o : Own h0.size g p 73 cs) (hc : cs.length = 4) (n : Kn) (hn : n.ks = []) {oc : Option Kn} {b : Bool} (hb : b = oc.isSome) (hcn : ∀ c, oc = some c → n = c) :
    BO h0 oc ((aSt g (ptr p 0) (kn0 n) 4).bind fun h6 => (aLdN h6 (ptr p 0) 4).bind fun v7 => bif List.all [v7, .bool b] isS2 then some (.tuple (List.toArray [v7, .bool b]), h6) else none) := by
  subst hb
  obtain ⟨g2, c2, e2, q2, _⟩ := Own.stN o (kn0_cells n) rfl hc
  exact ⟨n, g2, eb c2 (eb (ld4 (Own.rowE q2).row).2.2.2.2 rfl), E.trans e2, hn, hcn⟩
def kz : Kn := ⟨0, ⟨#[]⟩, 0, []⟩
theorem quo_some {x : Int} (h : x ≠ 0) : aBin .quo (.int .i64 999999999999999) (.int .i64 x) = some (.int .i64 (quoI x)) := by
  show (if IntKind.i64 = IntKind.i64 then (if x = 0 then none else some (Value.int .i64 (IntKind.i64.wrap ((999999999999999 : Int).tdiv x)))) else none) = _
  rw [if_pos rfl, if_neg h]; rfl
theorem rng_fin {d N : Nat} {h0 g : AHeap} {p : Nat} {cs : List Value} (E : Ext h0.size h0 g) (o : Own h0.size g p 73 cs) (hc : cs.length = 4) (v : Int) : BO h0 (rngK v) (s164_1 hk0 (call Try.prog Ms (d + 1)) N (ptr p 0) v g) := by
  rw [s164_1_j, s164_1_eq]
  refine pb (P := BO h0 _) (l98 d v 0 999999999999999 g) (pb (P := BO h0 _) rfl ?_)
  refine bo_st E o hc ⟨3, ⟨#[]⟩, v, []⟩ rfl ?_ ?_
  · unfold rngK
    cases inR v 0 999999999999999 <;> rfl
  · intro c h
    unfold rngK at h
    split at h
    · cases h; rfl
    · cases h
theorem l164 {d : Nat} (op x y : Int) (h : AHeap) : BO h (arC op x y) (call Try.prog Ms (d + 2) 164 [.int .i64 op, .int .i64 x, .int .i64 y] h) := by
  rw [c164, e164]
  refine new_step (P := BO h _) fun p g E o _ => ?_
  have bool : ∀ b : Bool, BO h (some (boolK b)) ((call Try.prog Ms (d + 1) 124 [.bool b] g).bind fun r5 => (aSt r5.2 (ptr p 0) r5.1 4).bind fun h6 => (aLdN h6 (ptr p 0) 4).bind fun v7 => bif List.all [v7, .bool true] isS2 then some (.tuple (List.toArray [v7, .bool true]), h6) else none) := by
    intro b
    obtain ⟨g2, c2, e2⟩ := l124 (d := d) b g
    refine pb (P := BO h _) c2 ?_
    exact bo_st (Ext.tr E e2) (Own.ext o e2 o.lt.2) rfl (boolK b) rfl rfl (fun c h => by cases h; rfl)
  unfold arC
  by_cases k1 : op = 1
  · rw [if_pos k1]; exact pct (P := BO h _) (by simp [k1]) (rng_fin (d := d) E o rfl _)
  rw [if_neg k1]; refine pcf (P := BO h _) (by simp [k1]) ?_
  by_cases k2 : op = 2
  · rw [if_pos k2]; exact pct (P := BO h _) (by simp [k2]) (rng_fin (d := d) E o rfl _)
  rw [if_neg k2]; refine pcf (P := BO h _) (by simp [k2]) ?_
  by_cases k3 : op = 3
  · rw [if_pos k3]; refine pct (P := BO h _) (by simp [k3]) ?_
    by_cases hx : x = 0
    · rw [if_neg (fun e => e.1 hx)]
      refine pcf (P := BO h _) (by simp [hx]) ?_
      rw [s164_0_j, s164_0_eq]
      exact pcf (P := BO h _) rfl (rng_fin (d := d) E o rfl _)
    · refine pct (P := BO h _) (by simp [hx]) (pb (P := BO h _) (quo_some hx) (pb (P := BO h _) rfl ?_))
      rw [s164_0_j, s164_0_eq]
      by_cases hy : y > quoI x
      · rw [if_pos ⟨hx, hy⟩]
        refine pct (P := BO h _) (decide_eq_true hy) ?_
        exact bo_st E o rfl kz rfl rfl (fun c h => by cases h)
      · rw [if_neg (fun e => hy e.2)]
        exact pcf (P := BO h _) (decide_eq_false hy) (rng_fin (d := d) E o rfl _)
  rw [if_neg k3]; refine pcf (P := BO h _) (by simp [k3]) ?_
  by_cases k7 : op = 7
  · rw [if_pos k7]; exact pct (P := BO h _) (by simp [k7]) (bool _)
  rw [if_neg k7]; refine pcf (P := BO h _) (by simp [k7]) ?_
  by_cases k8 : op = 8
  · rw [if_pos k8]; exact pct (P := BO h _) (by simp [k8]) (bool _)
  rw [if_neg k8]; refine pcf (P := BO h _) (by simp [k8]) ?_
  by_cases k9 : op = 9
  · rw [if_pos k9]; exact pct (P := BO h _) (by simp [k9]) (bool _)
  rw [if_neg k9]; refine pcf (P := BO h _) (by simp [k9]) ?_
  by_cases k10 : op = 10
  · rw [if_pos k10]; exact pct (P := BO h _) (by simp [k10]) (bool _)
  rw [if_neg k10]; refine pcf (P := BO h _) (by simp [k10]) ?_
  exact bo_st E o rfl kz rfl rfl (fun c h => by cases h)
theorem l123 {d c1 c2 : Nat} {op : Int} {a b : Kn} {ka kb : Value} {h : AHeap} (xa : ISl c1 h ka a.ks) (xb : ISl c2 h kb b.ks) (ta : a.t.size ≤ 1048576) (tb : b.t.size ≤ 1048576) :
    BO h (binC op a b) (call Try.prog Ms (d + 3) 123 [.int .i64 op, knVal a ka, knVal b kb] h) := by
  rw [c123, e123]
  refine pb (P := BO h _) (kn_aCells xa) (new_step (P := BO h _) fun p1 g1 x1 o1 _ => ?_)
  refine pb (P := BO h _) (kn_aCells xb) (new_step (P := BO h _) fun p2 g2 x2 o2 _ => ?_)
  refine new_step (P := BO h _) fun p3 g3 x3 o3 _ => ?_
  have E := Ext.tr (Ext.tr x1 x2) x3
  have r1 := ((Own.rowE o1).ext' x2).ext' x3
  have r2 := (Own.rowE o2).ext' x3
  have o3' : Own h.size g3 p3 73 [.int .i64 0, .string ⟨#[]⟩, .int .i64 0, .slice none 0 0] := Own.mono o3 (by have := x1.size; have := x2.size; omega)
  obtain ⟨a0, a1, a2, _⟩ := ld4 r1.row
  obtain ⟨b0, b1, b2, _⟩ := ld4 r2.row
  have f3 : BO h none (s123_3 hk0 (call Try.prog Ms (d + 2)) (d + 2) (ptr p3 0) g3) := by
    rw [s123_3_j, s123_3_eq]
    exact bo_st E o3' rfl kz rfl rfl (fun c h => by cases h)
  have f2n : BO h none (s123_2 hk0 (call Try.prog Ms (d + 2)) (d + 2) (ptr p1 0) (ptr p2 0) (ptr p3 0) false g3) := by
    rw [s123_2_j, s123_2_eq]; exact pcf (P := BO h _) rfl f3
  have f1 : BO h (if op = 6 ∧ a.k = 4 ∧ b.k = 4 ∧ lenOk a b = true then some ⟨4, a.t ++ b.t, 0, []⟩ else none) (s123_1 hk0 (call Try.prog Ms (d + 2)) (d + 2) op (ptr p1 0) (ptr p2 0) (ptr p3 0) g3) := by
    rw [s123_1_j, s123_1_eq]
    by_cases k6 : op = 6
    · refine pct (P := BO h _) (by simp [k6]) (pb (P := BO h _) rfl (pb (P := BO h _) a0 (pb (P := BO h _) rfl ?_)))
      by_cases ka4 : a.k = 4
      · refine pct (P := BO h _) (by simp [ka4]) (pb (P := BO h _) rfl (pb (P := BO h _) b0 (pb (P := BO h _) rfl ?_)))
        by_cases kb4 : b.k = 4
        · refine pct (P := BO h _) (by simp [kb4]) (pb (P := BO h _) rfl (pb (P := BO h _) a1 (pb (P := BO h _) rfl (pb (P := BO h _) rfl (pb (P := BO h _) b1 (pb (P := BO h _) rfl ?_))))))
          show BO h _ (s123_2 hk0 (call Try.prog Ms (d + 2)) (d + 2) (ptr p1 0) (ptr p2 0) (ptr p3 0) (lenOk a b) g3)
          cases hl : lenOk a b with
          | false => rw [if_neg (fun e => by cases e.2.2.2)]; exact f2n
          | true =>
            rw [if_pos ⟨k6, ka4, kb4, rfl⟩, s123_2_j, s123_2_eq]
            refine pct (P := BO h _) rfl (pb (P := BO h _) rfl (pb (P := BO h _) a1 (pb (P := BO h _) rfl (pb (P := BO h _) rfl (pb (P := BO h _) b1 (pb (P := BO h _) rfl (pb (P := BO h _) (sAdd (by omega)) (pb (P := BO h _) rfl ?_))))))))
            exact bo_st E o3' rfl ⟨4, a.t ++ b.t, 0, []⟩ rfl rfl (fun c h => by cases h; rfl)
        · rw [if_neg (fun e => kb4 e.2.2.1)]; exact pcf (P := BO h _) (by simp [kb4]) f2n
      · rw [if_neg (fun e => ka4 e.2.1)]; exact pcf (P := BO h _) (by simp [ka4]) f2n
    · rw [if_neg (fun e => k6 e.1)]; exact pcf (P := BO h _) (by simp [k6]) f2n
  refine pb (P := BO h _) rfl (pb (P := BO h _) a0 (pb (P := BO h _) rfl ?_))
  unfold binC
  by_cases k3 : a.k = 3
  · refine pct (P := BO h _) (by simp [k3]) (pb (P := BO h _) rfl (pb (P := BO h _) b0 (pb (P := BO h _) rfl ?_)))
    rw [s123_0_j, s123_0_eq]
    by_cases k3' : b.k = 3
    · rw [if_pos ⟨k3, k3'⟩]
      refine pct (P := BO h _) (by simp [k3']) (pb (P := BO h _) rfl (pb (P := BO h _) a2 (pb (P := BO h _) rfl (pb (P := BO h _) rfl (pb (P := BO h _) b2 (pb (P := BO h _) rfl ?_))))))
      obtain ⟨n, g4, c4, x4, n1, n2⟩ := l164 (d := d) op a.i b.i g3
      refine pb (P := BO h _) c4 (pb (P := BO h _) rfl (pb (P := BO h _) rfl (pb (P := BO h _) rfl ?_)))
      exact bo_st (Ext.tr E x4) (Own.ext o3' x4 o3.lt.2) rfl n n1 rfl n2
    · rw [if_neg (fun e => k3' e.2)]
      exact pcf (P := BO h _) (by simp [k3']) f1
  · rw [if_neg (fun e => k3 e.1)]
    refine pcf (P := BO h _) (by simp [k3]) ?_
    rw [s123_0_j, s123_0_eq]
    exact pcf (P := BO h _) rfl f1
end Go.Proofs.Ytadmoackacickaa
/- Fold: the reference's walk, the ends of a node. -/
set_option linter.unusedSimpArgs false
namespace Go.Proofs.Ytadmoackacickaa
open Go Go.AH

/-- An answer: nodes behind those that were there. -/
def FQ (es : TypeId) (tl : List Value) (b p rn0 : Nat) (rts0 : List Nat) (h0 : AHeap) (N : List Kn) (o : Option (Value × AHeap)) : Prop :=
  ∃ g v' rts' rn', o = some (.int .i64 ((N.length : Int) - 1), g) ∧ Ext b h0 g ∧ K2 es p rn0 h0 g ∧ (rn' = rn0 ∨ h0.size ≤ rn') ∧ OwnR g p p es (v' :: tl) ∧ NS b p g v' N rts' rn' ∧ (∀ q ∈ rts', q ∈ rts0 ∨ h0.size ≤ q) ∧ NX g v' N
/-- What holds while a node's kids are walked. -/
structure LI (b p p2 p8 rn0 : Nat) (nv : Value) (top : Int) (T : List Kn) (n : Kn) (kv : Value) (rts0 : List Nat) (h0 h : AHeap) (v : Value) (cur : List Kn) (id rt : Nat) (ix : List Int) (rts : List Nat) (rn : Nat) : Prop where
  hb : b ≤ h0.size
  ext : Ext b h0 h
  k2 : K2 102 p rn0 h0 h
  rnn : rn = rn0 ∨ h0.size ≤ rn
  op : OwnR h p p 102 [v]
  bp : b ≤ p
  ns : NS b p h v cur rts rn
  rtn : ∀ q ∈ rts, q ∈ rts0 ∨ h0.size ≤ q
  r2 : RowE h p2 35 [nv, .int .i64 top]
  o8 : OwnR h p8 p8 73 (knCells n kv)
  p8r : p8 ≠ rn
  p8b : h0.size ≤ p8
  isl : ISl b h kv n.ks
  ksl : KSl b h nv T
  ok : OwnR h id rt 3 (ints ix)
  rtb : h0.size ≤ rt
  rtd : rt ∉ rts
  cl : cur.length ≤ 100000
section
variable {b p p2 p8 rn0 : Nat} {nv : Value} {top : Int} {T : List Kn} {n : Kn} {kv : Value} {rts0 : List Nat} {h0 h g : AHeap} {v : Value} {cur : List Kn} {id rt : Nat} {ix : List Int} {rts : List Nat} {rn : Nat}
theorem LI.sz (x : LI b p p2 p8 rn0 nv top T n kv rts0 h0 h v cur id rt ix rts rn) : h0.size ≤ h.size := x.ext.size
theorem LI.ex (x : LI b p p2 p8 rn0 nv top T n kv rts0 h0 h v cur id rt ix rts rn) (e : Ext h.size h g) : LI b p p2 p8 rn0 nv top T n kv rts0 h0 g v cur id rt ix rts rn :=
  have e' : Ext b h g := e.mono (Nat.le_trans x.hb x.sz)
  { x with ext := x.ext.trans e', k2 := x.k2.trans (K2.ext e (rn := rn0)) (.inl rfl), op := x.op.ext e, ns := x.ns.ext e, r2 := x.r2.ext' e, o8 := x.o8.ext e, isl := x.isl.ext e', ksl := x.ksl.ext e', ok := x.ok.ext e }
theorem LI.f0 (x : LI b p p2 p8 rn0 nv top T n kv rts0 h0 h v cur id rt ix rts rn) : aLd1 h (ptr p 0) = some v := x.op.row.ld1 rfl
theorem LI.n0 (x : LI b p p2 p8 rn0 nv top T n kv rts0 h0 h v cur id rt ix rts rn) : aLd1 h (ptr p8 0) = some (.int .i64 n.k) := (ld4 x.o8.row).1
theorem LI.n2 (x : LI b p p2 p8 rn0 nv top T n kv rts0 h0 h v cur id rt ix rts rn) : aLd1 h (ptr p8 2) = some (.int .i64 n.i) := (ld4 x.o8.row).2.2.1
theorem LI.n3 (x : LI b p p2 p8 rn0 nv top T n kv rts0 h0 h v cur id rt ix rts rn) : aLd1 h (ptr p8 3) = some kv := (ld4 x.o8.row).2.2.2.1
theorem LI.atk (x : LI b p p2 p8 rn0 nv top T n kv rts0 h0 h v cur id rt ix rts rn) {j : Nat} (hj : j < ix.length) : aIdx (slc id 0 ix.length) (.int .i64 (j : Int)) 1 = some (ptr id j) ∧ aLd1 h (ptr id j) = some (.int .i64 ix[j]) :=
  ⟨by simp [aIdx, slc, hj], x.ok.row.ld1 (by simp [ints, hj])⟩
theorem aOff0 {r i : Nat} : aOff (ptr r i) 0 = some (ptr r i) := rfl
/-- The end: a node that counts is put in place of its kids. -/
theorem f76_3t {C : ACall} {M p63 : Nat} {L : List Kn} {c : Kn} (x : LI b p p2 p8 rn0 nv top T n kv rts0 h0 h v (cur ++ L) id rt ix rts rn) (o : Own h0.size h p63 73 (knC c)) (hc : c.ks = []) (hr : p63 ∉ rts) :
    FQ 102 [] b p rn0 rts0 h0 (cur ++ [c]) (s76_3 hk0 C M (ptr p 0) (ptr p8 0) (cur.length : Int) (slc id 0 ix.length) (ptr p63 0) true h) := by
  obtain ⟨cs1, cs2⟩ := x.ns.cut (n := cur.length) (by simp)
  rw [List.take_append_of_le_length (Nat.le_refl _), List.take_length] at cs2
  have hp := x.op.lt
  have e1 := Ext.new (Nat.le_refl h.size) 73 (knC c)
  have x1 := x.ex e1
  obtain ⟨cs3, _⟩ := x1.ns.cut (n := cur.length) (by simp)
  have zz : KZ h (.slice none 0 0) c.ks p63 := .inl ⟨rfl, hc⟩
  have hb := Nat.le_trans x.hb x.sz
  have o63 := o.lt
  obtain ⟨v', g1, rn', c1, n1, ex1, s1, k1, q1, nx⟩ := cs2.push hb zz (fun hq => hr (List.mem_of_mem_take hq)) (by have := x.hb; omega) o63.2 (by have := x.cl; simp at this; omega)
  have op1 : OwnR g1 p p 102 [v] := let ⟨ep, a⟩ := x.op; ⟨ep, k1 p _ a fun e => absurd e.1 (show ¬ (102 : TypeId) = 73 by decide)⟩
  obtain ⟨g2, c2, ex2, k2, op2, s2⟩ := stOwn op1 x.bp (j := 0) (v := v') (by simp) n1.cell
  refine ⟨g2, v', rts.take cur.length ++ [p63], rn', ?_, ?_, ?_, ?_, op2, ?_, ?_, nx.keep fun j o a he _ _ => k2 j o a (.inl (by rw [he]; decide))⟩
  · rw [s76_3_j, s76_3_eq]
    have hlen : (((cur ++ [c]).length : Int) - 1) = (cur.length : Int) := by simp
    rw [hlen]
    refine ect rfl (eb rfl (eb rfl (eb x.f0 (eb cs1 (eb (ld4 (Own.rowE o).row).2.2.2.2 (eb rfl ?_))))))
    show ((aLd1 (h.new 73 (knC c)) (ptr p 0)).bind fun v161 => some (vbeq v161 v)).bind _ = _
    refine eb (ag1 x1.f0) (ect x.ns.vb ?_)
    refine eb (ag1 cs3) (ect cs2.vb (eb c1 (eb rfl (eb rfl (eb c2 rfl)))))
  · exact x.ext.trans (ex1.trans ex2)
  · refine ⟨by have := x.sz; omega, fun j ob a q r => k2 j ob (k1 j ob (x.k2.2 j ob a q r) fun e => ?_) ?_⟩
    · rcases x.rnn with e' | e'
      · exact r ⟨e.1, by rw [← e']; exact e.2⟩
      · have := at?_obj a; omega
    · by_cases e : ob.elem = 102
      · exact .inr fun z => q ⟨e, z⟩
      · exact .inl e
  · rcases q1 with q1 | q1
    · rw [q1]; exact x.rnn
    · exact .inr (by have := x.sz; omega)
  · exact n1.keep (by omega) fun j ob a he => k2 j ob a (.inl (by rcases he with he | he <;> (rw [he.1]; decide)))
  · intro q hq
    rcases List.mem_append.1 hq with hq | hq
    · exact x.rtn q (List.mem_of_mem_take hq)
    · rw [List.mem_singleton.1 hq]; exact .inr o63.1
/-- The end: the node itself is put behind its kids. -/
theorem f76_3f {C : ACall} {M : Nat} {q63 : Value} {base : Int} (x : LI b p p2 p8 rn0 nv top T n kv rts0 h0 h v cur id rt ix rts rn) :
    FQ 102 [] b p rn0 rts0 h0 (cur ++ [{ n with ks := ix }]) (s76_3 hk0 C M (ptr p 0) (ptr p8 0) base (slc id 0 ix.length) q63 false h) := by
  have hb := Nat.le_trans x.hb x.sz
  obtain ⟨g1, c1, e1, k1, o1, s1⟩ := stOwn x.o8 (b := b) (Nat.le_trans x.hb x.p8b) (j := 3) (v := slc id 0 ix.length) (by show 3 < 4; decide) rfl
  have hcs : (knCells n kv).set 3 (slc id 0 ix.length) = knCells { n with ks := ix } (slc id 0 ix.length) := rfl
  rw [hcs] at o1
  have op1 : OwnR g1 p p 102 [v] := x.op.ks k1 (.inl (by decide))
  have ns1 : NS b p g1 v cur rts rn := x.ns.keep (by omega) fun j ob a he => k1 j ob a (by
    rcases he with he | he
    · exact .inr (by rw [he.2]; exact Ne.symm x.p8r)
    · exact .inl (by rw [he.1]; decide))
  have zz : KZ g1 (slc id 0 ix.length) ({ n with ks := ix } : Kn).ks rt := .inr ⟨id, rfl, x.ok.ks k1 (.inl (by decide))⟩
  have okl := x.ok.lt
  obtain ⟨v', g2, g3, rn', c2, c3, o3, n3, e3, k3, q3, nx⟩ := bput op1 (by decide) (by decide) x.bp ns1 zz x.rtd (by have := x.rtb; have := x.hb; omega) (by omega) (Nat.le_trans x.cl (by decide))
  refine ⟨g3, v', rts ++ [rt], rn', ?_, x.ext.trans (e1.trans e3), ?_, ?_, o3, n3, ?_, nx⟩
  · rw [s76_3_j, s76_3_eq]
    have hlen : (((cur ++ [({ n with ks := ix } : Kn)]).length : Int) - 1) = (cur.length : Int) := by simp
    have w : IntKind.i64.wrap (((cur ++ [({ n with ks := ix } : Kn)]).length : Int) - 1) = (((cur ++ [({ n with ks := ix } : Kn)]).length : Int) - 1) := by have := x.cl; rw [hlen]; exact wr (by omega) (by omega)
    have f1 : aLd1 g1 (ptr p 0) = some v := op1.row.ld1 rfl
    have ex := Ext.new (Nat.le_refl g1.size) 73 (knCells { n with ks := ix } (slc id 0 ix.length))
    have f2 : aLd1 (g1.new 73 (knCells { n with ks := ix } (slc id 0 ix.length))) (ptr p 0) = some v := (op1.ext ex).row.ld1 rfl
    refine ecf rfl (eb rfl (eb c1 (eb rfl (eb rfl (eb f1 (eb (ld4 o1.row).2.2.2.2 (eb rfl ?_)))))))
    show ((aLd1 (g1.new 73 (knCells { n with ks := ix } (slc id 0 ix.length))) (ptr p 0)).bind fun v161 => some (vbeq v161 v)).bind _ = _
    refine eb (ag1 f2) (ect x.ns.vb (eb c2 (eb rfl (eb rfl (eb c3 (eb rfl (eb rfl (eb (o3.row.ld1 rfl) (eb n3.len (eb rfl ?_))))))))))
    rw [w]
  · refine K2.trans (rn1 := rn) ⟨by have := x.sz; omega, fun j ob a q r => k1 j ob (x.k2.2 j ob a q r) (.inr fun e => ?_)⟩ k3 x.rnn
    have := at?_obj a; have := x.p8b; omega
  · rcases q3 with q3 | q3
    · rw [q3]; exact x.rnn
    · exact .inr (by have := x.sz; omega)
  · intro q hq
    rcases List.mem_append.1 hq with hq | hq
    · exact x.rtn q hq
    · rw [List.mem_singleton.1 hq]; exact .inr x.rtb
end
end Go.Proofs.Ytadmoackacickaa
/- Fold: the reference's walk. -/
set_option linter.unusedSimpArgs false
namespace Go.Proofs.Ytadmoackacickaa
open Go Go.AH

def FwOk (b p : Nat) (nv : Value) (top : Int) (T : List Kn) (e : Nat) (k fr : Int) : Prop :=
  ∀ (h : AHeap) (v : Value) (ns : List Kn) (rts : List Nat) (rn : Nat), OwnR h p p 102 [v] → NS b p h v ns rts rn → KSl b h nv T → b ≤ h.size → (ns.length : Int) ≤ fr →
    FQ 102 [] b p rn rts h (ns ++ FL T (RR T k) ns.length) (call Try.prog Ms e 76 [ptr p 0, trVal nv top, .int .i64 k] h)
theorem binC_ke {op : Int} {a b a' b' : Kn} (ha : a.k = a'.k ∧ a.t = a'.t ∧ a.i = a'.i) (hb : b.k = b'.k ∧ b.t = b'.t ∧ b.i = b'.i) : binC op a b = binC op a' b' := by
  unfold binC lenOk; rw [ha.1, ha.2.1, ha.2.2, hb.1, hb.2.1, hb.2.2]
theorem tru_ke {a a' : Kn} (ha : a.k = a'.k ∧ a.i = a'.i) : tru a = tru a' := by unfold tru; rw [ha.1, ha.2]
theorem ldX {h g : AHeap} {i off n : Nat} {v : Value} (a : aLdN h (ptr i off) n = some v) (e : Ext h.size h g) : aLdN g (ptr i off) n = some v := by
  simp only [aLdN, ptr, AHeap.rd] at a ⊢
  cases q : h.at? i with
  | none => rw [q] at a; cases a
  | some o => rw [q] at a; rw [e.at? (at?_obj q).2.1 q]; exact a
theorem ldX1 {h g : AHeap} {i off : Nat} {v : Value} (a : aLd1 h (ptr i off) = some v) (e : Ext h.size h g) : aLd1 g (ptr i off) = some v := by
  simp only [aLd1, ptr, AHeap.rd] at a ⊢
  cases q : h.at? i with
  | none => rw [q] at a; cases a
  | some o => rw [q] at a; rw [e.at? (at?_obj q).2.1 q]; exact a
theorem kn_vbeq {c : Nat} {h : AHeap} {n : Kn} {kv : Value} (x : ISl c h kv n.ks) : vbeq (knVal n kv) (knVal n kv) = true := by
  show (vbeq1 (.int .i64 n.k) (.int .i64 n.k) && (vbeq1 (.string n.t) (.string n.t) && (vbeq1 (.int .i64 n.i) (.int .i64 n.i) && (vbeq1 kv kv && true)))) = true
  rw [vbeq1_self kv x.cell.1 x.cell.2, show vbeq1 (.string n.t) (.string n.t) = true from vbeq_str n.t]; simp [vbeq1]
section
variable {b p p2 p8 rn0 : Nat} {nv : Value} {top : Int} {T : List Kn} {n : Kn} {kv : Value} {rts0 : List Nat} {h0 h : AHeap} {v : Value} {cur : List Kn} {id rt : Nat} {ix : List Int} {rts : List Nat} {rn : Nat}
theorem f76_kid {e : Nat} {k fr : Int} (x : LI b p p2 p8 rn0 nv top T n kv rts0 h0 h v cur id rt ix rts rn) (F : FwOk b p nv top T e k fr) (hfr : (cur.length : Int) ≤ fr) (hcl : (cur ++ FL T (RR T k) cur.length).length ≤ 100000) (hil : ix.length ≤ 2000000) :
    ∃ g1 id' g2 v' rts' rn', call Try.prog Ms e 76 [ptr p 0, trVal nv top, .int .i64 k] h = some (.int .i64 (((cur ++ FL T (RR T k) cur.length).length : Int) - 1), g1) ∧
      aApp (g1.new 3 [.int .i64 (((cur ++ FL T (RR T k) cur.length).length : Int) - 1)]) 3 1 8 (slc id 0 ix.length) (slc g1.size 0 1) = some (slc id' 0 (ix ++ [((cur ++ FL T (RR T k) cur.length).length : Int) - 1]).length, g2) ∧
      LI b p p2 p8 rn0 nv top T n kv rts0 h0 g2 v' (cur ++ FL T (RR T k) cur.length) id' rt (ix ++ [((cur ++ FL T (RR T k) cur.length).length : Int) - 1]) rts' rn' ∧ NX g2 v' (cur ++ FL T (RR T k) cur.length) := by
  have hb := Nat.le_trans x.hb x.sz
  obtain ⟨g1, v', rts', rn', c1, e1, k1, q1, o1, n1, t1, nx⟩ := F h v cur rts rn x.op x.ns x.ksl hb hfr
  have okl := x.ok.lt
  have o8l := x.o8.lt
  have ok1 : OwnR g1 id rt 3 (ints ix) := k1.own x.ok (.inl (by decide)) (.inl (by decide))
  obtain ⟨id', g2, c2, e2, k2, o2⟩ := appR ok1 (b := b) (by have := x.rtb; have := x.hb; omega) (Nat.le_trans hb k1.1) hil (((cur ++ FL T (RR T k) cur.length).length : Int) - 1)
  have hrt : rt ∉ rts' := fun hq => by
    rcases t1 rt hq with z | z
    · exact x.rtd z
    · omega
  have s2 := e2.size
  have s1 := k1.1
  have sz := x.sz
  refine ⟨g1, id', g2, v', rts', rn', c1, c2, ?_, nx.keep fun j o a he _ _ => k2 j o a (.inl (by rw [he]; decide))⟩
  have r2 : RowE g2 p2 35 [nv, .int .i64 top] := let ⟨ob, a, q1, q2⟩ := k1.rowE x.r2 (by decide) (by decide); ⟨ob, k2 p2 ob a (.inl (by rw [q1]; decide)), q1, q2⟩
  have o8 : OwnR g2 p8 p8 73 (knCells n kv) := let ⟨ep, a⟩ := k1.own x.o8 (.inl (by decide)) (.inr x.p8r); ⟨ep, k2 p8 _ a (.inl (by show (73 : TypeId) ≠ 3; decide))⟩
  have op : OwnR g2 p p 102 [v'] := let ⟨ep, a⟩ := o1; ⟨ep, k2 p _ a (.inl (by show (102 : TypeId) ≠ 3; decide))⟩
  have ns : NS b p g2 v' (cur ++ FL T (RR T k) cur.length) rts' rn' := n1.keep s2 fun j ob a he => k2 j ob a (by
    rcases he with he | he
    · exact .inl (by rw [he.1]; decide)
    · exact .inr fun z => hrt (z ▸ he.2))
  refine { x with ext := x.ext.trans (e1.trans e2), k2 := ?_, rnn := ?_, op := op, ns := ns, rtn := ?_, r2 := r2, o8 := o8, p8r := ?_, isl := x.isl.ext (e1.trans e2), ksl := x.ksl.ext (e1.trans e2), ok := o2, rtd := hrt, cl := hcl }
  · have z := x.k2.trans k1 x.rnn
    refine ⟨by omega, fun j ob a q r => k2 j ob (z.2 j ob a q r) (.inr fun e => ?_)⟩
    have := at?_obj a; have := x.rtb; omega
  · rcases q1 with q1 | q1
    · rw [q1]; exact x.rnn
    · exact .inr (by omega)
  · intro q hq
    rcases t1 q hq with z | z
    · exact x.rtn q z
    · exact .inr (by omega)
  · rcases q1 with q1 | q1
    · rw [q1]; exact x.p8r
    · omega
/-- A node that a kid left. -/
theorem LI.kidAt (x : LI b p p2 p8 rn0 nv top T n kv rts0 h0 h v cur id rt ix rts rn) {A R : List Kn} {m : Kn} (hc : cur = A ++ m :: R) {z : Int} (hz : z = (A.length : Int)) :
    ∃ r ke, aIdx v (.int .i64 z) 4 = some (ptr r (A.length * 4)) ∧ aLdN h (ptr r (A.length * 4)) 4 = some (knVal m ke) ∧ aLd1 h (ptr r (A.length * 4)) = some (.int .i64 m.k) ∧ ISl h.size h ke m.ks := by
  subst hz
  have hl : A.length < cur.length := by rw [hc]; simp
  obtain ⟨r, ke, a1, a2, a3, a4⟩ := x.ns.at hl
  have : cur[A.length] = m := by simp [hc]
  rw [this] at a2 a3 a4
  exact ⟨r, ke, a1, a2, a3, a4⟩
theorem LI.ixAt (x : LI b p p2 p8 rn0 nv top T n kv rts0 h0 h v cur id rt ix rts rn) {j : Nat} {z : Int} (hz : ix[j]? = some z) : aIdx (slc id 0 ix.length) (.int .i64 (j : Int)) 1 = some (ptr id j) ∧ aLd1 h (ptr id j) = some (.int .i64 z) := by
  obtain ⟨hj, rfl⟩ := List.getElem?_eq_some_iff.1 hz
  exact x.atk hj
theorem f76_end {d M m base : Nat} {ns : List Kn} {i : Nat} (K : Tg T) (hn : T[i]? = some n) (x : LI b p p2 p8 rn0 nv top T n kv rts0 h0 h v cur id rt ix rts rn)
    (hcur : cur = ns ++ (flK (fun k b => FL T (RR T k) b) n.ks ns.length).1) (hix : ix = (flK (fun k b => FL T (RR T k) b) n.ks ns.length).2)
    (hb : base = ns.length) (hne : (n.k = 12 ∨ n.k = 13) → isC ((RR T (n.kd 0)).nd T).k = false) :
    FQ 102 [] b p rn0 rts0 h0 (ns ++ FL T (RR T (i : Int)) ns.length) (s76_0 hk0 (call Try.prog Ms (d + 3)) M (m + 1) (ptr p 0) (ptr p2 0) (ptr p8 0) (base : Int) (slc id 0 ix.length) (n.ks.length : Int) h) := by
  subst hb
  have hil : i < T.length := (List.getElem?_eq_some_iff.1 hn).1
  have G := K.good _ _ hn
  have okk : ∀ k : Int, 0 ≤ k → k < i → RtOk T i (RR T k) := fun k k0 k1 => by
    have z := RR_ok K k.toNat (by omega)
    rw [show ((k.toNat : Nat) : Int) = k by omega] at z
    exact z.mono (by omega)
  have hFo := FL_o K hn ns.length
  have hRR := RR_eq K hn
  rw [s76_0_eq]
  refine pb rfl (pb x.n3 (pb x.isl.len (pb rfl (pcf (decide_eq_false (by omega)) ?_))))
  refine newSt_step (kn0_cells kz) rfl rfl fun p63 g E63 o63 _ => ?_
  have y := x.ex E63
  have hgs := E63.size
  have o63' : Own h0.size g p63 73 (knC kz) := Own.mono o63 x.sz
  have hr63 : p63 ∉ rts := fun hq => by
    have := o63.lt
    rcases x.ns with ⟨_, _, h3, _⟩ | ⟨_, _, _, _, h5, _⟩
    · rw [h3] at hq; simp at hq
    · have := h5 p63 hq; omega
  have plain : ∀ g' q63, LI b p p2 p8 rn0 nv top T n kv rts0 h0 g' v cur id rt ix rts rn → foldN T n i (RR T) = .o i → FQ 102 [] b p rn0 rts0 h0 (ns ++ FL T (RR T (i : Int)) ns.length) (s76_3 hk0 (call Try.prog Ms (d + 3)) M (ptr p 0) (ptr p8 0) (ns.length : Int) (slc id 0 ix.length) q63 false g') := by
    intro g' q63 y hR
    have := f76_3f (C := call Try.prog Ms (d + 3)) (M := M) (q63 := q63) (base := (ns.length : Int)) y
    rw [hRR, hR, hFo, ← hix, ← List.append_assoc, ← hcur]; exact this
  have cst : ∀ g' c, LI b p p2 p8 rn0 nv top T n kv rts0 h0 g' v cur id rt ix rts rn → Own h0.size g' p63 73 (knC c) → c.ks = [] → foldN T n i (RR T) = .c c → FQ 102 [] b p rn0 rts0 h0 (ns ++ FL T (RR T (i : Int)) ns.length) (s76_3 hk0 (call Try.prog Ms (d + 3)) M (ptr p 0) (ptr p8 0) (ns.length : Int) (slc id 0 ix.length) (ptr p63 0) true g') := by
    intro g' c y o hc hR
    have hcc : ({ c with ks := [] } : Kn) = c := by
      cases c with
      | mk k t i ks =>
        have : ks = [] := hc
        subst this; rfl
    rw [hRR, hR, FL_c, hcc]
    rw [hcur] at y
    exact f76_3t y o hc hr63
  refine pb rfl (pb y.n0 (pb rfl ?_))
  by_cases k10 : n.k = 10
  · have htwo := G.two (.inl k10)
    obtain ⟨k0a, k0b⟩ := G.kd0 (.inl k10)
    obtain ⟨k1a, k1b⟩ := G.kd1 (.inl k10)
    have hks : n.ks = [n.kd 0, n.kd 1] := by
      match hh : n.ks, htwo with
      | [a, b], _ => simp [Kn.kd, hh]
    obtain ⟨A0, m0, hA0, q0⟩ := FL_last K (okk _ k0a k0b) hil ns.length
    obtain ⟨A1, m1, hA1, q1⟩ := FL_last K (okk _ k1a k1b) hil (ns.length + (FL T (RR T (n.kd 0)) ns.length).length)
    have hfl : flK (fun k b => FL T (RR T k) b) n.ks ns.length = (FL T (RR T (n.kd 0)) ns.length ++ (FL T (RR T (n.kd 1)) (ns.length + (FL T (RR T (n.kd 0)) ns.length).length) ++ []),
        [((ns.length + (FL T (RR T (n.kd 0)) ns.length).length : Nat) : Int) - 1, ((ns.length + (FL T (RR T (n.kd 0)) ns.length).length + (FL T (RR T (n.kd 1)) (ns.length + (FL T (RR T (n.kd 0)) ns.length).length)).length : Nat) : Int) - 1]) := by rw [hks]; rfl
    have i0 := y.ixAt (j := 0) (z := ((ns.length + (FL T (RR T (n.kd 0)) ns.length).length : Nat) : Int) - 1) (by rw [hix, hfl]; rfl)
    have i1 := y.ixAt (j := 1) (z := ((ns.length + (FL T (RR T (n.kd 0)) ns.length).length + (FL T (RR T (n.kd 1)) (ns.length + (FL T (RR T (n.kd 0)) ns.length).length)).length : Nat) : Int) - 1) (by rw [hix, hfl]; rfl)
    obtain ⟨r, ke0, a1, a2, _, a4⟩ := y.kidAt (A := ns ++ A0) (m := m0) (R := FL T (RR T (n.kd 1)) (ns.length + (FL T (RR T (n.kd 0)) ns.length).length) ++ []) (by rw [hcur, hfl]; simp only []; rw [hA0]; simp) (z := ((ns.length + (FL T (RR T (n.kd 0)) ns.length).length : Nat) : Int) - 1) (by rw [hA0]; simp; omega)
    obtain ⟨r', ke1, b1, b2, _, b4⟩ := y.kidAt (A := ns ++ FL T (RR T (n.kd 0)) ns.length ++ A1) (m := m1) (R := []) (by rw [hcur, hfl]; simp only []; rw [hA1]; simp) (z := ((ns.length + (FL T (RR T (n.kd 0)) ns.length).length + (FL T (RR T (n.kd 1)) (ns.length + (FL T (RR T (n.kd 0)) ns.length).length)).length : Nat) : Int) - 1) (by rw [hA1]; simp; omega)
    obtain ⟨n', g4, c4, x4, n1, n2⟩ := l123 (d := d) (op := n.i) a4 b4 (by rw [q0.2.1]; exact (okk _ k0a k0b).txt K hil) (by rw [q1.2.1]; exact (okk _ k1a k1b).txt K hil)
    have hbin : binC n.i m0 m1 = binC n.i ((RR T (n.kd 0)).nd T) ((RR T (n.kd 1)).nd T) := binC_ke q0 q1
    have og4 : Own h.size g4 p63 73 (knC kz) := Own.ext o63 x4 o63.lt.2
    obtain ⟨g5, c5, x5, o5, _⟩ := Own.stN og4 (kn0_cells n') rfl rfl
    have y5 := x.ex (Ext.trans E63 ((x4.mono hgs).trans x5))
    have o5' : Own h0.size g5 p63 73 (knC n') := Own.mono o5 x.sz
    refine pct (by simp [k10]) (pb rfl (pb y.n2 (pb rfl (pb rfl (pb rfl (pb y.f0 (pb i0.1 (pb i0.2 (pb rfl (pb a1 (pb a2 (pb rfl (pb rfl (pb y.f0 (pb i1.1 (pb i1.2 (pb rfl (pb b1 (pb b2 (pb c4 (pb rfl (pb rfl (pb rfl (pb c5 ?_))))))))))))))))))))))))
    cases hB : binC n.i m0 m1 with
    | none => exact plain g5 _ y5 (by unfold foldN; rw [if_pos k10, ← hbin, hB])
    | some c =>
      have := n2 c hB
      subst this
      exact cst g5 n' y5 o5' n1 (by unfold foldN; rw [if_pos k10, ← hbin, hB])
  · refine pcf (by simp [k10]) ?_
    by_cases k11 : n.k = 11
    · have hone := G.one k11
      obtain ⟨k0a, k0b⟩ := G.kd0 (.inr (.inl k11))
      have hks : n.ks = [n.kd 0] := by
        match hh : n.ks, hone with
        | [a], _ => simp [Kn.kd, hh]
      obtain ⟨A0, m0, hA0, q0⟩ := FL_last K (okk _ k0a k0b) hil ns.length
      have hfl : flK (fun k b => FL T (RR T k) b) n.ks ns.length = (FL T (RR T (n.kd 0)) ns.length ++ [], [((ns.length + (FL T (RR T (n.kd 0)) ns.length).length : Nat) : Int) - 1]) := by rw [hks]; rfl
      have i0 := y.ixAt (j := 0) (z := ((ns.length + (FL T (RR T (n.kd 0)) ns.length).length : Nat) : Int) - 1) (by rw [hix, hfl]; rfl)
      obtain ⟨r, ke0, a1, a2, _, a4⟩ := y.kidAt (A := ns ++ A0) (m := m0) (R := []) (by rw [hcur, hfl]; simp only []; rw [hA0]; simp) (z := ((ns.length + (FL T (RR T (n.kd 0)) ns.length).length : Nat) : Int) - 1) (by rw [hA0]; simp; omega)
      have htr : tru m0 = tru ((RR T (n.kd 0)).nd T) := tru_ke ⟨q0.1, q0.2.2⟩
      have hfold : foldN T n i (RR T) = (if n.i = 2 ∧ isC m0.k = true then .c (boolK (!tru m0)) else .o i) := by unfold foldN; rw [if_neg k10, if_pos k11, ← q0.1, ← htr]
      refine pct (by simp [k11]) (pb rfl (pb rfl (pb y.f0 (pb i0.1 (pb i0.2 (pb rfl (pb a1 (pb a2 ?_))))))))
      refine new_step fun p101 g2 E2 o2 _ => ?_
      have y2 := y.ex E2
      have i2 := y2.ixAt (j := 0) (z := ((ns.length + (FL T (RR T (n.kd 0)) ns.length).length : Nat) : Int) - 1) (by rw [hix, hfl]; rfl)
      have a2' := ldX a2 E2
      obtain ⟨g3, c3, x3, o3, s3⟩ := Own.stN o2 (kn_aCells a4) rfl rfl
      have E3 : Ext g.size g g3 := E2.trans x3
      have y3 := y.ex E3
      have oo3 : Own h.size g3 p63 73 (knC kz) := Own.ext o63 E3 o63.lt.2
      have f101 := (ld4 (Own.rowE o3).row)
      refine pb (ag1 y2.f0) (pct y.ns.vb (pb (ag2 i2.2) (pct (vbI _ _) (pb (ag1 a2') (pct (kn_vbeq a4) (pb c3 (pb rfl (pb y3.n2 (pb rfl ?_)))))))))
      have two : ∀ fl : Bool, (fl = true → n.i = 2 ∧ isC m0.k = true) → (fl = false → foldN T n i (RR T) = .o i) → FQ 102 [] b p rn0 rts0 h0 (ns ++ FL T (RR T (i : Int)) ns.length) (s76_2 hk0 (call Try.prog Ms (d + 3)) M (ptr p 0) (ptr p8 0) (ns.length : Int) (slc id 0 ix.length) (ptr p63 0) fl (ptr p101 0) g3) := by
        intro fl hf1 hf2
        rw [s76_2_j, s76_2_eq]
        obtain ⟨g4, c4, x4⟩ := l122 (d := d + 2) ((a4.ext E3).mono E3.size)
        obtain ⟨g5, c5, x5⟩ := l124 (d := d + 2) (!tru m0) g4
        have E5 : Ext g.size g g5 := (E3.trans (x4.mono (E3.size))).trans (x5.mono (by have := E3.size; have := x4.size; omega))
        obtain ⟨g6, c6, x6, o6, s6⟩ := Own.stN (Own.ext o63 E5 o63.lt.2) (kn0_cells (boolK (!tru m0))) rfl rfl
        have y6 := x.ex (Ext.trans E63 ((E5.mono hgs).trans x6))
        refine pb f101.2.2.2.2 (pb c4 (pb rfl (pb c5 (pb c6 ?_))))
        cases fl with
        | false => exact plain g6 _ y6 (hf2 rfl)
        | true => exact cst g6 _ y6 (Own.mono o6 x.sz) rfl (by rw [hfold, if_pos (hf1 rfl)])
      by_cases i2' : n.i = 2
      · refine pct (by simp [i2']) (pb rfl (pb f101.1 (pb rfl (pb (l121 (d := d + 2) m0.k g3) (pb rfl ?_)))))
        exact two _ (fun hc => ⟨i2', hc⟩) (fun hc => by rw [hfold, if_neg (fun e => by rw [hc] at e; cases e.2)])
      · refine pcf (by simp [i2']) ?_
        exact two false (fun hc => by cases hc) (fun _ => by rw [hfold, if_neg (fun e => i2' e.1)])
    · exact pcf (by simp [k11]) (plain g _ y (by
        unfold foldN
        rw [if_neg k10, if_neg k11]
        split
        · rename_i h2
          rw [hne h2.1] at h2; cases h2.2
        · rfl))
end
end Go.Proofs.Ytadmoackacickaa
/- Fold: the reference's walk, kids and nodes. -/
set_option linter.unusedSimpArgs false
namespace Go.Proofs.Ytadmoackacickaa
open Go Go.AH

theorem FQ.tr {es : TypeId} {tl : List Value} {b p rn0 rn : Nat} {rts0 rts : List Nat} {h0 h : AHeap} {N : List Kn} {o : Option (Value × AHeap)} (E : Ext b h0 h) (K : K2 es p rn0 h0 h) (hr : rn = rn0 ∨ h0.size ≤ rn) (ht : ∀ q ∈ rts, q ∈ rts0 ∨ h0.size ≤ q)
    (x : FQ es tl b p rn rts h N o) : FQ es tl b p rn0 rts0 h0 N o := by
  obtain ⟨g, v', rts', rn', c, e, k, r, op, ns, t, nx⟩ := x
  have := K.1
  refine ⟨g, v', rts', rn', c, E.trans e, K.trans k hr, ?_, op, ns, fun q hq => ?_, nx⟩
  · rcases r with r | r
    · rw [r]; exact hr
    · exact .inr (by omega)
  · rcases t q hq with z | z
    · exact ht q z
    · exact .inr (by omega)
section
variable {b p p2 p8 rn0 : Nat} {nv : Value} {top : Int} {T : List Kn} {n : Kn} {kv : Value} {rts0 : List Nat} {h0 h : AHeap} {v : Value} {cur : List Kn} {id rt : Nat} {ix : List Int} {rts : List Nat} {rn : Nat}
/-- A kid in the loop, up to where it is seen whether it ends all. -/
theorem f76_pre {C : ACall} {M m j id' : Nat} {base : Int} {N : List Kn} {z : Int} {g1 g2 : AHeap} {v' : Value} {cur' : List Kn} {rts' : List Nat} {rn' : Nat} (x : LI b p p2 p8 rn0 nv top T n kv rts0 h0 h v cur id rt ix rts rn) (hj : j < n.ks.length)
    (c1 : C 76 [ptr p 0, trVal nv top, .int .i64 (n.kd j)] h = some (.int .i64 z, g1)) (c2 : aApp (g1.new 3 [.int .i64 z]) 3 1 8 (slc id 0 ix.length) (slc g1.size 0 1) = some (slc id' 0 (ix ++ [z]).length, g2))
    (x' : LI b p p2 p8 rn0 nv top T n kv rts0 h0 g2 v' cur' id' rt (ix ++ [z]) rts' rn')
    (hne : (n.k = 12 ∨ n.k = 13) → 1 ≤ j) (hQ : FQ 102 [] b p rn0 rts0 h0 N (s76_1 hk0 C M m (ptr p 0) (ptr p2 0) (ptr p8 0) base (slc id' 0 (ix ++ [z]).length) (j : Int) false g2)) :
    FQ 102 [] b p rn0 rts0 h0 N (s76_0 hk0 C M (m + 1) (ptr p 0) (ptr p2 0) (ptr p8 0) base (slc id 0 ix.length) (j : Int) h) := by
  rw [s76_0_eq]
  refine pb rfl (pb x.n3 (pb x.isl.len (pb rfl (pct (decide_eq_true (by omega)) (pb (ld2 x.r2.row).2.2 (pb rfl (pb x.n3 (pb (x.isl.ird.at' j hj).1 (pb ((x.isl.ird.at' j hj).2 h (LF.refl _)) (pb rfl ?_))))))))))
  refine pb c1 (pb rfl ?_)
  show FQ 102 [] b p rn0 rts0 h0 N ((aApp (g1.new 3 [.int .i64 z]) 3 1 8 (slc id 0 ix.length) (slc g1.size 0 1)).bind _)
  refine pb c2 (pb rfl (pb x'.n0 (pb rfl ?_)))
  by_cases k12 : n.k = 12
  · have := hne (.inl k12)
    exact pct (by simp [k12]) (pcf (by simp; omega) hQ)
  · refine pcf (by simp [k12]) (pb rfl (pb x'.n0 (pb rfl ?_)))
    by_cases k13 : n.k = 13
    · have := hne (.inr k13)
      exact pct (by simp [k13]) (pcf (by simp; omega) hQ)
    · exact pcf (by simp [k13]) hQ
/-- The first kid of an 'and' or an 'or'. -/
theorem f76_pre0 {d M m id' : Nat} {base : Int} {N A : List Kn} {m0 : Kn} {z : Int} {g1 g2 : AHeap} {v' : Value} {rts' : List Nat} {rn' : Nat} (x : LI b p p2 p8 rn0 nv top T n kv rts0 h0 h v cur id rt [] rts rn) (hj : 0 < n.ks.length)
    (c1 : call Try.prog Ms (d + 3) 76 [ptr p 0, trVal nv top, .int .i64 (n.kd 0)] h = some (.int .i64 z, g1)) (c2 : aApp (g1.new 3 [.int .i64 z]) 3 1 8 (slc id 0 ([] : List Int).length) (slc g1.size 0 1) = some (slc id' 0 ([] ++ [z]).length, g2))
    (x' : LI b p p2 p8 rn0 nv top T n kv rts0 h0 g2 v' (A ++ [m0]) id' rt ([] ++ [z]) rts' rn') (hz : z = (A.length : Int))
    (hk : n.k = 12 ∨ n.k = 13) (hQ : FQ 102 [] b p rn0 rts0 h0 N (s76_1 hk0 (call Try.prog Ms (d + 3)) M m (ptr p 0) (ptr p2 0) (ptr p8 0) base (slc id' 0 ([] ++ [z]).length) 0 (isC m0.k) g2)) :
    FQ 102 [] b p rn0 rts0 h0 N (s76_0 hk0 (call Try.prog Ms (d + 3)) M (m + 1) (ptr p 0) (ptr p2 0) (ptr p8 0) base (slc id 0 ([] : List Int).length) 0 h) := by
  rw [s76_0_eq]
  have hI : ((0 : Int) < (n.ks.length : Int)) := by omega
  refine pb rfl (pb x.n3 (pb x.isl.len (pb rfl (pct (decide_eq_true hI) (pb (ld2 x.r2.row).2.2 (pb rfl (pb x.n3 (pb (x.isl.ird.at' 0 hj).1 (pb ((x.isl.ird.at' 0 hj).2 h (LF.refl _)) (pb rfl ?_))))))))))
  refine pb c1 (pb rfl ?_)
  show FQ 102 [] b p rn0 rts0 h0 N ((aApp (g1.new 3 [.int .i64 z]) 3 1 8 (slc id 0 ([] : List Int).length) (slc g1.size 0 1)).bind _)
  have i0 := x'.ixAt (j := 0) (z := z) rfl
  obtain ⟨r, ke, a1, _, a3, _⟩ := x'.kidAt (A := A) (m := m0) (R := []) rfl hz
  refine pb c2 (pb rfl (pb x'.n0 (pb rfl ?_)))
  rcases hk with k12 | k13
  · refine pct (by simp [k12]) (pct rfl (pb rfl (pb rfl (pb x'.f0 (pb i0.1 (pb i0.2 (pb rfl (pb a1 (pb aOff0 (pb a3 (pb rfl (pb (l121 (d := d + 2) m0.k g2) (pb rfl ?_)))))))))))))
    exact hQ
  · refine pcf (by simp [k13]) (pb rfl (pb x'.n0 (pb rfl ?_)))
    refine pct (by simp [k13]) (pct rfl (pb rfl (pb rfl (pb x'.f0 (pb i0.1 (pb i0.2 (pb rfl (pb a1 (pb aOff0 (pb a3 (pb rfl (pb (l121 (d := d + 2) m0.k g2) (pb rfl ?_)))))))))))))
    exact hQ
/-- A constant ahead of 'and' or 'or'. -/
theorem f76_cut {d M m id' : Nat} {N : List Kn} {ns A0 : List Kn} {m0 : Kn} {g2 : AHeap} {v' : Value} {rts' : List Nat} {rn' : Nat} {fr1 : Int}
    (x : LI b p p2 p8 rn0 nv top T n kv rts0 h0 g2 v' (ns ++ A0 ++ [m0]) id' rt ([] ++ [((ns ++ A0).length : Int)]) rts' rn') (nx : NX g2 v' (ns ++ A0 ++ [m0])) (htwo : 1 < n.ks.length) (F1 : FwOk b p nv top T (d + 3) (n.kd 1) fr1) (hfr : (ns.length : Int) ≤ fr1)
    (h1 : tru m0 = (n.k == 13) → N = ns ++ A0 ++ [m0]) (h2 : tru m0 ≠ (n.k == 13) → N = ns ++ FL T (RR T (n.kd 1)) ns.length) :
    FQ 102 [] b p rn0 rts0 h0 N (s76_1 hk0 (call Try.prog Ms (d + 3)) M m (ptr p 0) (ptr p2 0) (ptr p8 0) (ns.length : Int) (slc id' 0 ([] ++ [((ns ++ A0).length : Int)]).length) 0 true g2) := by
  rw [s76_1_j, s76_1_eq]
  have i0 := x.ixAt (j := 0) (z := ((ns ++ A0).length : Int)) rfl
  obtain ⟨r, ke, a1, a2, _, a4⟩ := x.kidAt (A := ns ++ A0) (m := m0) (R := []) rfl rfl
  obtain ⟨g3, c3, x3⟩ := l122 (d := d + 2) a4 (h := g2)
  have y := x.ex x3
  have i1 := y.ixAt (j := 0) (z := ((ns ++ A0).length : Int)) rfl
  refine pct rfl (pb rfl (pb rfl (pb x.f0 (pb i0.1 (pb i0.2 (pb rfl (pb a1 (pb a2 (pb rfl (pb x.n0 (pb rfl (pb c3 (pb rfl (pb (ag2 y.n0) (pct (vbI _ _) ?_)))))))))))))))
  by_cases ht : tru m0 = (n.k == 13)
  · refine pct (by rw [ht]; exact beq_self_eq_true _) (pb i1.1 (pb i1.2 (pb rfl ?_)))
    rw [h1 ht]
    exact ⟨g3, v', rts', rn', by simp; omega, y.ext, y.k2, y.rnn, y.op, y.ns, y.rtn, nx.keep fun j o a _ _ _ => x3.at? (at?_obj a).2.1 a⟩
  · refine pcf (by simpa using ht) ?_
    obtain ⟨g4, c4, c5, o4, n4, e4, k4⟩ := bcut (m := ns.length) y.op (by decide) (by decide) y.bp y.ns (by simp)
    have ht4 : (ns ++ A0 ++ [m0]).take ns.length = ns := by rw [List.append_assoc, List.take_append_of_le_length (Nat.le_refl _), List.take_length]
    rw [ht4] at n4
    have hb := Nat.le_trans y.hb y.sz
    have r4 := k4.rowE y.r2 (by decide) (by decide)
    have o8 : OwnR g4 p8 p8 73 (knCells n kv) := k4.own y.o8 (.inl (by decide)) (.inr y.p8r)
    have is4 := y.isl.ext e4
    have z := F1 g4 _ ns _ rn' o4 n4 (y.ksl.ext e4) (Nat.le_trans hb k4.1) hfr
    obtain ⟨g5, v5, rts5, rn5, c6, e6, k6, q6, o6, n6, t6, nx6⟩ := z.tr (rn0 := rn0) (rts0 := rts0) (h0 := h0) (y.ext.trans e4) (y.k2.trans k4 y.rnn) y.rnn (fun q hq => y.rtn q (List.mem_of_mem_take hq))
    rw [h2 ht]
    refine ⟨g5, v5, rts5, rn5, ?_, e6, k6, q6, o6, n6, t6, nx6⟩
    refine eb rfl (eb rfl (eb y.f0 (eb c4 (eb rfl (eb rfl (eb c5 (eb (ld2 r4.row).2.2 (eb rfl (eb (ld4 o8.row).2.2.2.1 (eb (is4.ird.at' 1 htwo).1 (eb ((is4.ird.at' 1 htwo).2 g4 (LF.refl _)) (eb rfl ?_))))))))))))
    exact eb c6 (eb rfl rfl)
theorem f76_loop {d M i : Nat} {G : Int → Int → Int} {ns : List Kn} (K : Tg T) (hn : T[i]? = some n) (hl : n.ks.length ≤ 1048576)
    (hF : ∀ k fr : Int, k ∈ n.ks → 0 ≤ fr → 0 ≤ G k fr → G k fr = k + 1 ∧ fr ≤ k ∧ FlLen T k fr ∧ FwOk b p nv top T (d + 3) k fr) :
    ∀ (q j m : Nat) (fr : Int) (h : AHeap) (v : Value) (cur : List Kn) (id : Nat) (ix : List Int) (rts : List Nat) (rn : Nat), n.ks.length - j = q → j ≤ n.ks.length → q < m → 0 ≤ fr → 0 ≤ numGo' G (i : Int) (n.ks.drop j) fr →
      LI b p p2 p8 rn0 nv top T n kv rts0 h0 h v cur id rt ix rts rn → (cur.length : Int) ≤ fr → ix.length = j →
      cur ++ (flK (fun k b => FL T (RR T k) b) (n.ks.drop j) cur.length).1 = ns ++ (flK (fun k b => FL T (RR T k) b) n.ks ns.length).1 → ix ++ (flK (fun k b => FL T (RR T k) b) (n.ks.drop j) cur.length).2 = (flK (fun k b => FL T (RR T k) b) n.ks ns.length).2 →
      ((n.k = 12 ∨ n.k = 13) → 1 ≤ j ∧ isC ((RR T (n.kd 0)).nd T).k = false) →
      FQ 102 [] b p rn0 rts0 h0 (ns ++ FL T (RR T (i : Int)) ns.length) (s76_0 hk0 (call Try.prog Ms (d + 3)) M m (ptr p 0) (ptr p2 0) (ptr p8 0) (ns.length : Int) (slc id 0 ix.length) (j : Int) h) := by
  have hil : i < T.length := (List.getElem?_eq_some_iff.1 hn).1
  have hT := K.len
  intro q
  induction q with
  | zero =>
    intro j m fr h v cur id ix rts rn hq hj hm hfr hnum x hcf hil hcur hix hne
    obtain ⟨m, rfl⟩ : ∃ q, m = q + 1 := ⟨m - 1, by omega⟩
    have hjl : j = n.ks.length := by omega
    subst hjl
    rw [List.drop_eq_nil_of_le (Nat.le_refl _), flK, List.append_nil] at hcur hix
    exact f76_end K hn x hcur hix rfl (fun h => (hne h).2)
  | succ q ih =>
    intro j m fr h v cur id ix rts rn hq hj hm hfr hnum x hcf hixl hcur hix hne
    obtain ⟨m, rfl⟩ : ∃ q, m = q + 1 := ⟨m - 1, by omega⟩
    have hlt : j < n.ks.length := by omega
    have wj : IntKind.i64.wrap ((j : Int) + 1) = ((j + 1 : Nat) : Int) := by rw [wr (by omega) (by omega)]; omega
    rw [drop_get hlt] at hnum hcur hix
    have hkd : n.ks.getD j 0 = n.kd j := rfl
    rw [hkd] at hnum hcur hix
    rw [numGo'] at hnum
    by_cases hng : G (n.kd j) fr < 0
    · rw [if_pos hng] at hnum; omega
    rw [if_neg hng] at hnum
    obtain ⟨g1, g2, g3, g4⟩ := hF (n.kd j) fr (kd_mem hlt) hfr (by omega)
    rw [g1] at hnum
    have hkj := (K.good _ _ hn).rng _ (kd_mem hlt)
    have hL := (g3 cur.length).2
    have hcl : ((cur ++ FL T (RR T (n.kd j)) cur.length).length : Int) ≤ n.kd j + 1 := by rw [List.length_append]; omega
    obtain ⟨h1, id', h2, v', rts', rn', c1, c2, x', _⟩ := f76_kid x g4 hcf (by omega) (by omega)
    refine f76_pre x hlt c1 c2 x' (fun h => (hne h).1) ?_
    rw [s76_1_j, s76_1_eq]
    refine pcf rfl ?_
    rw [wj]
    rw [flK] at hcur hix
    refine ih (j + 1) m (n.kd j + 1) h2 v' _ id' _ rts' rn' (by omega) (by omega) (by omega) (by omega) hnum x' hcl (by simp [hixl]) ?_ ?_ (fun h => ⟨by omega, (hne h).2⟩)
    · rw [← hcur, List.append_assoc, List.length_append]
    · rw [← hix, List.append_assoc, List.length_append]; rfl
end
end Go.Proofs.Ytadmoackacickaa
/- The reference's Fold. -/
set_option linter.unusedSimpArgs false
namespace Go.Proofs.Ytadmoackacickaa
open Go Go.AH

theorem own_root {h : AHeap} {b p : Nat} {e : TypeId} {cs : List Value} (x : Own b h p e cs) (hp : p = b) : OwnR h p p e cs := by
  obtain ⟨r, ep, a, hb⟩ := x
  have := at?_obj a
  have hr : r = p := by have := this.2.2.1; simp only [] at this; omega
  subst hr
  exact ⟨ep, a⟩
section
variable {b p : Nat} {nv : Value} {top : Int} {T : List Kn}
theorem NS.lt {h : AHeap} {v : Value} {ns : List Kn} {rts : List Nat} {rn : Nat} (x : NS b p h v ns rts rn) (hp : p < h.size) : rn < h.size ∧ ∀ q ∈ rts, q < h.size := by
  rcases x with ⟨_, _, rfl, rfl⟩ | ⟨_, h2, _, _, h5, _⟩
  · exact ⟨hp, fun q hq => by simp at hq⟩
  · exact ⟨h2, fun q hq => (h5 q hq).2⟩
theorem l76 {d : Nat} (hd : 1048577 < d) (K : Tg T) (hbp : b ≤ p) : ∀ (f e : Nat) (i fr : Int), d + f + 5 ≤ e → 0 ≤ i → i < T.length → 0 ≤ fr → 0 ≤ numP T f i fr → FwOk b p nv top T e i fr := by
  intro f
  induction f with
  | zero => intro e i fr _ _ _ _ h; exact absurd h (by show ¬ (0:Int) ≤ -1; decide)
  | succ f ih =>
    intro e i fr he hi hi2 hfr hnum h v ns rts rn op nsx ksl hb hnl
    obtain ⟨e, rfl⟩ : ∃ q, e = q + 4 := ⟨e - 4, by omega⟩
    obtain ⟨i, rfl⟩ : ∃ q : Nat, i = q := ⟨i.toNat, by omega⟩
    have hlt : i < T.length := by omega
    have hT := K.len
    have hget : T[i]? = some T[i] := by simp [hlt]
    have G := K.good _ _ hget
    have hkl := (K.txt _ (List.getElem_mem hlt)).2
    have nl := num_le T (f + 1) (i : Int) fr hnum hfr
    have hnum' : 0 ≤ numGo' (numP T f) (i : Int) T[i].ks fr := by
      have : numP T (f + 1) (i : Int) fr = numGo' (numP T f) (i : Int) T[i].ks fr := by
        show (match T[(i : Int).toNat]? with | some n => numGo' (numP T f) (i : Int) n.ks fr | none => -1) = _
        rw [Int.toNat_natCast, hget]
      omega
    have hF : ∀ k fr' : Int, k ∈ T[i].ks → 0 ≤ fr' → 0 ≤ numP T f k fr' → numP T f k fr' = k + 1 ∧ fr' ≤ k ∧ FlLen T k fr' ∧ FwOk b p nv top T (e + 3) k fr' := fun k fr' hk h0 h1 => by
      have := G.rng k hk
      have nl := num_le T f k fr' h1 h0
      exact ⟨nl.1, nl.2, fl_bound K f k fr' this.1 (by omega) h0 h1, ih (e + 3) k fr' (by omega) this.1 (by omega) h0 h1⟩
    have hps := op.lt
    have nlt := nsx.lt hps.2
    obtain ⟨q, kv, q1, is, q2⟩ := ksl.at hlt
    rw [c76, e76]
    refine pb (tr_aCells ksl top) (new_step fun p2 h1 x1 o1 _ => ?_)
    have r2 := Own.rowE o1
    refine pb rfl (pb (ld2 r2.row).1 (pb q1 (pb (q2 h1 (x1.mono hb)).1 ?_)))
    refine newSt_step (kn_aCells is) rfl rfl fun p8 h2 x2 o2 e8 => ?_
    have X2 := Ext.tr x1 x2
    have o8 := own_root o2 e8
    refine pb rfl (pb rfl (pb ((op.ext X2).row.ld1 rfl) (pb nsx.len (pb rfl ?_))))
    show FQ 102 [] b p rn rts h _ (s76_0 hk0 (call Try.prog Ms (e + 3)) (e + 3) (e + 3) (ptr p 0) (ptr p2 0) (ptr p8 0) (ns.length : Int) (slc h2.size 0 0) 0 (h2.new 3 []))
    have x3 := Ext.new (Nat.le_refl h2.size) 3 ([] : List Value)
    have ok := OwnR.new h2 3 ([] : List Value)
    have s3 : (h2.new 3 ([] : List Value)).size = h2.size + 1 := rfl
    generalize h2.new 3 [] = h3 at x3 ok s3 ⊢
    have X3 := Ext.tr X2 x3
    have sx1 := x1.size
    have sx2 := x2.size
    have li : LI b p p2 p8 rn nv top T T[i] kv rts h h3 v ns h2.size h2.size [] rts rn :=
      { hb := hb, ext := X3.mono hb, k2 := K2.ext X3, rnn := .inl rfl, op := op.ext X3, bp := hbp, ns := nsx.ext X3, rtn := fun q hq => .inl hq, r2 := (r2.ext' x2).ext' x3, o8 := o8.ext x3,
        p8r := by have := nlt.1; omega, p8b := by omega, isl := is.ext (X3.mono hb), ksl := ksl.ext (X3.mono hb), ok := ok, rtb := by omega, rtd := fun hq => by have := nlt.2 _ hq; omega, cl := by omega }
    by_cases k12 : T[i].k = 12 ∨ T[i].k = 13
    · have htwo := G.two (.inr k12)
      have hks : T[i].ks = [T[i].kd 0, T[i].kd 1] := by
        match hh : T[i].ks, htwo with
        | [a, b], _ => simp [Kn.kd, hh]
      have m0 : T[i].kd 0 ∈ T[i].ks := kd_mem (by omega)
      have m1 : T[i].kd 1 ∈ T[i].ks := kd_mem (by omega)
      have hn2 := hnum'
      rw [hks, numGo'] at hn2
      by_cases hng : numP T f (T[i].kd 0) fr < 0
      · rw [if_pos hng] at hn2; omega
      rw [if_neg hng] at hn2
      obtain ⟨a1, a2, a3, a4⟩ := hF _ fr m0 hfr (by omega)
      rw [a1, numGo'] at hn2
      by_cases hng1 : numP T f (T[i].kd 1) (T[i].kd 0 + 1) < 0
      · rw [if_pos hng1] at hn2; omega
      have k0 := G.rng _ m0
      have k1 := G.rng _ m1
      obtain ⟨b1, b2, b3, b4⟩ := hF _ (T[i].kd 0 + 1) m1 (by omega) (by omega)
      have hL := (a3 ns.length).2
      have hcl : ((ns ++ FL T (RR T (T[i].kd 0)) ns.length).length : Int) ≤ T[i].kd 0 + 1 := by rw [List.length_append]; omega
      obtain ⟨g1, id', g2, v', rts', rn', c1, c2, x', nx⟩ := f76_kid li a4 hnl (by omega) (by decide)
      have rok : RtOk T i (RR T (T[i].kd 0)) := by
        have z := RR_ok K (T[i].kd 0).toNat (by omega)
        rw [show (((T[i].kd 0).toNat : Nat) : Int) = T[i].kd 0 by omega] at z
        exact z.mono (by omega)
      obtain ⟨A0, mm, hA, hm⟩ := FL_last K rok hlt ns.length
      have hz : ((ns ++ FL T (RR T (T[i].kd 0)) ns.length).length : Int) - 1 = ((ns ++ A0).length : Int) := by rw [hA]; simp; omega
      rw [hz] at c1 c2 x'
      have hRR := RR_eq K hget
      have hfl0 : flK (fun k b => FL T (RR T k) b) T[i].ks ns.length = (FL T (RR T (T[i].kd 0)) ns.length ++ (flK (fun k b => FL T (RR T k) b) [T[i].kd 1] (ns.length + (FL T (RR T (T[i].kd 0)) ns.length).length)).1, (((ns.length + (FL T (RR T (T[i].kd 0)) ns.length).length : Nat) : Int) - 1) :: (flK (fun k b => FL T (RR T k) b) [T[i].kd 1] (ns.length + (FL T (RR T (T[i].kd 0)) ns.length).length)).2) := by rw [hks]; rfl
      have hcur0 := hA
      rw [hA, ← List.append_assoc] at x' nx
      obtain ⟨m, hm'⟩ : ∃ m, e + 3 = m + 1 := ⟨e + 2, rfl⟩
      have pre := fun N hQ => f76_pre0 (d := e) (M := e + 3) (m := m) (base := (ns.length : Int)) (N := N) (A := ns ++ A0) (m0 := mm) li (by omega) c1 c2 x' rfl k12 hQ
      rw [← hm'] at pre
      refine pre _ ?_
      rw [hm.1]
      cases hC : isC ((RR T (T[i].kd 0)).nd T).k with
      | true =>
        have htr : tru mm = tru ((RR T (T[i].kd 0)).nd T) := tru_ke ⟨hm.1, hm.2.2⟩
        have hf : foldN T T[i] i (RR T) = if tru mm = (T[i].k == 13) then RR T (T[i].kd 0) else RR T (T[i].kd 1) := by
          unfold foldN
          rw [if_neg (by omega), if_neg (by omega), if_pos ⟨k12, hC⟩, htr]
        refine f76_cut x' nx (by omega) b4 (by omega) (fun ht => ?_) (fun ht => ?_)
        · rw [hRR, hf, if_pos ht, hA, List.append_assoc]
        · rw [hRR, hf, if_neg ht]
      | false =>
        rw [s76_1_j, s76_1_eq]
        refine pcf rfl ?_
        have w1 : IntKind.i64.wrap ((0 : Int) + 1) = ((1 : Nat) : Int) := by rw [wr (by omega) (by omega)]; rfl
        rw [w1]
        have hd1 : T[i].ks.drop 1 = [T[i].kd 1] := by rw [hks]; rfl
        have e1 : (ns ++ A0 ++ [mm]).length = ns.length + (FL T (RR T (T[i].kd 0)) ns.length).length := by rw [hA]; simp
        have hcl2 : ((ns ++ A0 ++ [mm]).length : Int) ≤ T[i].kd 0 + 1 := by rw [e1]; rw [List.length_append] at hcl; exact hcl
        refine f76_loop (G := numP T f) K hget hkl hF (T[i].ks.length - 1) 1 m (T[i].kd 0 + 1) g2 v' (ns ++ A0 ++ [mm]) id' ([] ++ [((ns ++ A0).length : Int)]) rts' rn' (by omega) (by omega) (by omega) (by omega) (by rw [hd1, numGo']; exact hn2) x' hcl2 rfl ?_ ?_ (fun _ => ⟨Nat.le_refl _, hC⟩)
        · rw [hd1, e1, hfl0, List.append_assoc ns, ← hA, List.append_assoc]
        · rw [hd1, e1, hfl0]
          have hh : ((ns ++ A0).length : Int) = ((ns.length + (FL T (RR T (T[i].kd 0)) ns.length).length : Nat) : Int) - 1 := by rw [← hz, List.length_append]
          rw [hh]; rfl
    · have := f76_loop (M := e + 3) (G := numP T f) K hget hkl hF T[i].ks.length 0 (e + 3) fr h3 v ns h2.size [] rts rn (by omega) (by omega) (by omega) hfr (by simpa using hnum') li hnl rfl rfl rfl (fun h => absurd h k12)
      exact this
end
def foldT (T : List Kn) : List Kn := FL T (RR T ((T.length : Int) - 1)) 0
theorem Right.tg {T : List Kn} {top : Int} (R : Right T top) (hN : ∀ n ∈ T, n.t.size ≤ 1048576 ∧ n.ks.length ≤ 1048576) : Tg T := ⟨R.good, R.len, hN⟩
def foldL (T : List Kn) (top : Int) : List Kn := if specOk T top = true then foldT T else []
def foldTop (T : List Kn) (top : Int) : Int := if specOk T top = true then ((foldT T).length : Int) - 1 else 0
theorem tv_cells {v : Value} (hv : isCell v = true) (n : Int) : aCells (trVal v n) = some [v, .int .i64 n] := by
  show (if (isCell v && (isCell (.int .i64 n) && true)) = true then some [v, .int .i64 n] else none) = _
  rw [hv]; rfl
theorem fillT {v : Value} (hv : isCell v = true) (n : Int) : aFill [.slice none 0 0, .int .i64 0] [(0, 1, v), (1, 1, .int .i64 n)] = some [v, .int .i64 n] := by
  show ((aCells v).bind _) = _
  rw [aCells_one hv]; rfl
/-- What both give: a tree, and whether there is one. -/
def FA (L : List Kn) (tp : Int) (ok : Bool) (h0 : AHeap) (o : Option (Value × AHeap)) : Prop :=
  ∃ v g rts rn p, o = some (.tuple (List.toArray [trVal v tp, .bool ok]), g) ∧ Ext h0.size h0 g ∧ NS h0.size p g v L rts rn ∧ (L = [] ∨ NX g v L)
theorem l42 {d : Nat} (hd : 1048577 < d) {nv : Value} {T : List Kn} {top : Int} {h : AHeap} (x : KSe h.size h nv T) (hb : T.length ≤ 1048576) (hN : ∀ n ∈ T, n.t.size ≤ 1048576 ∧ n.ks.length ≤ 1048576) :
    FA (foldL T top) (foldTop T top) (specOk T top) h (call Try.prog Ms (d + 13010 + 8) 42 [trVal nv top] h) := by
  have hcall : call Try.prog Ms (d + 13010 + 8) 42 [trVal nv top] h = evFn hk0 Try.prog (call Try.prog Ms (d + 13010 + 7)) M42 (d + 13010 + 7) Try.f42 [trVal nv top] h := c42 _ _ _
  rw [hcall, e42]
  refine pb (tr_aCells x.ksl top) (new_step fun p2 h1 x1 o1 _ => new_step fun p4 h2 x2 o2 e4 => ?_)
  have X2 := Ext.tr x1 x2
  have r2 := (Own.rowE o1).ext' x2
  have L2 := (SF.ext X2).lf
  have ks2 := (x.lf L2).mono L2.1
  obtain ⟨h3, c3, x3⟩ := l20 (d := d + 10000) (by omega) (top := top) ks2.ksl (Nat.le_refl _) hb hN
  have c3' : call Try.prog Ms (d + 13010 + 7) 20 [trVal nv top] h2 = some (.bool (specOk T top), h3) := by rw [show d + 13010 + 7 = d + 10000 + 3010 + 7 by omega]; exact c3
  have X3 := Ext.tr X2 x3
  have sx1 := x1.size
  have sx2 := x2.size
  have o2' : Own h.size h3 p4 35 [.slice none 0 0, .int .i64 0] := Own.mono (Own.ext o2 x3 o2.lt.2) sx1
  refine pb (ld2 r2.row).2.2 (pb c3' (pb rfl ?_))
  unfold foldTop foldL
  cases hok : specOk T top with
  | false =>
    obtain ⟨g, c, e, o, _⟩ := Own.stN o2' (v := .agg (List.toArray [.slice none 0 0, .int .i64 0])) (vs := [.slice none 0 0, .int .i64 0]) rfl rfl rfl
    exact ⟨.slice none 0 0, g, [], 0, 0, ect rfl (eb c (eb (ld2 (Own.rowE o).row).2.2 rfl)), X3.trans e, .inl ⟨rfl, rfl, rfl, rfl⟩, .inl rfl⟩
  | true =>
    have R := right_of hok
    have hT := R.top
    subst hT
    have K := R.tg hN
    have hpos := R.pos
    have hlen := R.len
    have r3 := r2.ext' x3
    have L3 := (SF.ext x3).lf
    have ks3 := (ks2.lf L3).mono L3.1
    refine pcf rfl (pb rfl (new_step fun p12 h4 x4 o4 e12 => ?_))
    have e12 : p12 = h3.size := e12
    have x4 : Ext h3.size h3 h4 := x4
    have o12 := own_root o4 e12
    have L4 := (SF.ext x4).lf
    have ks4 := (ks3.lf L4).mono L4.1
    have r4 := r3.ext' x4
    have X4 := Ext.tr X3 x4
    have hnum : 0 ≤ numP T (T.length + 1) ((T.length : Int) - 1) 0 := by rw [R.num]; omega
    have w := l76 (d := d) hd K (b := h3.size) (p := p12) (nv := nv) (top := (T.length : Int) - 1) (by omega) (T.length + 1) (d + 13010 + 7) ((T.length : Int) - 1) 0 (by omega) (by omega) (by omega) (by omega) hnum h4 (.slice none 0 0) [] [] p12 o12 (.inl ⟨rfl, rfl, rfl, rfl⟩) (ks3.ksl.ext (x4.mono (Nat.le_refl _))) x4.size (by simp)
    obtain ⟨g5, v5, rts, rn, c5, e5, k5, q5, o5, n5, t5, nx⟩ := w
    rw [List.nil_append] at c5 n5 nx
    have s4 := x4.size
    have s3 := x3.size
    have E5 : Ext h3.size h3 g5 := x4.trans e5
    have p4o : Own h.size g5 p4 35 [.slice none 0 0, .int .i64 0] := Own.ext o2' E5 (by have := o2'.lt; omega)
    obtain ⟨g6, c6, e6, o6, s6, q6⟩ := Own.stX p4o (off := 0) (n := 2) (tv_cells n5.cell (((foldT T).length : Int) - 1)) rfl (by show 0 + 2 ≤ 2; omega)
    have r6 : RowE g6 p4 35 [v5, .int .i64 (((foldT T).length : Int) - 1)] := Own.rowE o6
    refine ⟨v5, g6, rts, rn, p12, ?_, X3.trans ((E5.mono X3.size).trans e6), ?_, .inr (nx.keep fun j o a he _ _ => q6 j o a (by rw [he]; decide))⟩
    · refine eb (ld2 r4.row).2.2 (eb rfl (eb (ld2 r4.row).2.1 (eb rfl (eb c5 (eb rfl (eb rfl (eb rfl (eb (o5.row.ld1 rfl) (eb (fillT n5.cell _) (eb c6 (eb (ld2 r6.row).2.2 rfl)))))))))))
    · exact (n5.lo X3.size).keep (by omega) fun j o a he => q6 j o a (by rcases he with he | he <;> (rw [he.1]; decide))
end Go.Proofs.Ytadmoackacickaa
/- Fold: the program's tree of pointers; what it reckons of a node. -/
set_option linter.unusedSimpArgs false
namespace Go.Proofs.Ytadmoackacickaa
open Go Go.AH

/-- A row whose root is as said. -/
def RowS (S : Nat → Prop) (h : AHeap) (i : Nat) (e : TypeId) (cs : List Value) : Prop := ∃ o, h.at? i = some o ∧ o.elem = e ∧ o.cells = cs ∧ S o.root
theorem RowS.rowE {S : Nat → Prop} {h : AHeap} {i : Nat} {e : TypeId} {cs : List Value} (x : RowS S h i e cs) : RowE h i e cs := let ⟨o, a, b, c, _⟩ := x; ⟨o, a, b, c⟩
/-- Pointers. -/
def PS (S : Nat → Prop) (h : AHeap) (v : Value) (ps : List Nat) : Prop := (v = .slice none 0 0 ∧ ps = []) ∨ ∃ r, v = slc r 0 ps.length ∧ RowS S h r 105 (ps.map fun x => ptr x 0)
/-- A node of the tree of pointers. -/
inductive PT (S : Nat → Prop) (T : List Kn) (h : AHeap) : Nat → RT → Prop
  | c (x : Nat) (n : Kn) (kv sl : Value) (hn : n.ks = []) (hv : isCell kv = true ∧ vbeq1 kv kv = true) (hs : PS S h sl []) (hr : RowS S h x 155 (knCells n kv ++ [sl])) : PT S T h x (.c n)
  | o (x j : Nat) (n : Kn) (kv sl : Value) (ps : List Nat) (hn : T[j]? = some n) (hv : isCell kv = true ∧ vbeq1 kv kv = true) (hl : ps.length = n.ks.length) (hs : PS S h sl ps) (hr : RowS S h x 155 (knCells n kv ++ [sl]))
      (hk : ∀ m, m < n.ks.length → PT S T h (ps.getD m 0) (RR T (n.ks.getD m 0))) : PT S T h x (.o j)
/-- What the tree of pointers needs. -/
def KP (S : Nat → Prop) (h g : AHeap) : Prop := ∀ j o, h.at? j = some o → (o.elem = 155 ∨ o.elem = 105) → S o.root → g.at? j = some o
theorem KP.ext {S : Nat → Prop} {h g : AHeap} (x : Ext h.size h g) : KP S h g := fun _ _ a _ _ => x.at? (at?_obj a).2.1 a
theorem KP.rowE {S : Nat → Prop} {h g : AHeap} {i : Nat} {e : TypeId} {cs : List Value} (k : KP S h g) (x : RowS S h i e cs) (he : e = 155 ∨ e = 105) : RowS S g i e cs := let ⟨o, a, b, c, d⟩ := x; ⟨o, k i o a (by rw [b]; exact he) d, b, c, d⟩
theorem RowS.mono {S S' : Nat → Prop} {h : AHeap} {i : Nat} {e : TypeId} {cs : List Value} (x : RowS S h i e cs) (hs : ∀ r, S r → S' r) : RowS S' h i e cs := let ⟨o, a, b, c, d⟩ := x; ⟨o, a, b, c, hs _ d⟩
section
variable {S : Nat → Prop}
theorem PS.keep {h g : AHeap} {v : Value} {ps : List Nat} (x : PS S h v ps) (k : KP S h g) : PS S g v ps := by
  rcases x with x | ⟨r, a, b⟩
  · exact .inl x
  · exact .inr ⟨r, a, k.rowE b (.inr rfl)⟩
theorem PS.mono {S' : Nat → Prop} {h : AHeap} {v : Value} {ps : List Nat} (x : PS S h v ps) (hs : ∀ r, S r → S' r) : PS S' h v ps := by
  rcases x with x | ⟨r, a, b⟩
  · exact .inl x
  · exact .inr ⟨r, a, b.mono hs⟩
theorem PT.keep {T : List Kn} {h g : AHeap} {x : Nat} {r : RT} (t : PT S T h x r) (k : KP S h g) : PT S T g x r := by
  induction t with
  | c x n kv sl hn hv hs hr => exact .c x n kv sl hn hv (hs.keep k) (k.rowE hr (.inl rfl))
  | o x j n kv sl ps hn hv hl hs hr _ ih => exact .o x j n kv sl ps hn hv hl (hs.keep k) (k.rowE hr (.inl rfl)) ih
theorem PT.mono {S' : Nat → Prop} {T : List Kn} {h : AHeap} {x : Nat} {r : RT} (t : PT S T h x r) (hs : ∀ r, S r → S' r) : PT S' T h x r := by
  induction t with
  | c x n kv sl hn hv hs' hr => exact .c x n kv sl hn hv (hs'.mono hs) (hr.mono hs)
  | o x j n kv sl ps hn hv hl hs' hr _ ih => exact .o x j n kv sl ps hn hv hl (hs'.mono hs) (hr.mono hs) ih
theorem PS.len {h : AHeap} {v : Value} {ps : List Nat} (x : PS S h v ps) : aLen v = some (.int .i64 (ps.length : Int)) := by
  rcases x with ⟨rfl, rfl⟩ | ⟨r, rfl, _⟩ <;> rfl
theorem PS.cell {h : AHeap} {v : Value} {ps : List Nat} (x : PS S h v ps) : isCell v = true := by
  rcases x with ⟨rfl, rfl⟩ | ⟨r, rfl, _⟩ <;> rfl
theorem PS.vb {h : AHeap} {v : Value} {ps : List Nat} (x : PS S h v ps) : vbeq v v = true := by
  rcases x with ⟨rfl, rfl⟩ | ⟨r, rfl, _⟩
  · rfl
  · simp [vbeq, vbeq1, slc]
theorem PS.at {h : AHeap} {v : Value} {ps : List Nat} (x : PS S h v ps) {m : Nat} (hm : m < ps.length) : ∃ r, aIdx v (.int .i64 (m : Int)) 1 = some (ptr r m) ∧ aLd1 h (ptr r m) = some (ptr (ps.getD m 0) 0) := by
  rcases x with ⟨_, rfl⟩ | ⟨r, rfl, b⟩
  · simp at hm
  · exact ⟨r, by simp [aIdx, slc, hm], b.rowE.row.ld1 (by simp [hm])⟩
theorem ld5 {h : AHeap} {i : Nat} {a b c d e : Value} (r : Row h i [a, b, c, d, e]) : aLd1 h (ptr i 0) = some a ∧ aLd1 h (ptr i 1) = some b ∧ aLd1 h (ptr i 2) = some c ∧ aLd1 h (ptr i 3) = some d ∧ aLd1 h (ptr i 4) = some e ∧ aLdN h (ptr i 0) 4 = some (.agg (List.toArray [a, b, c, d])) :=
  ⟨r.ld1 rfl, r.ld1 rfl, r.ld1 rfl, r.ld1 rfl, r.ld1 rfl, r.ldN (off := 0) (n := 4) (by show 0 + 4 ≤ 5; decide)⟩
theorem PT.row {T : List Kn} {h : AHeap} {x : Nat} {r : RT} (t : PT S T h x r) : ∃ kv sl, (isCell kv = true ∧ vbeq1 kv kv = true) ∧ RowE h x 155 (knCells (r.nd T) kv ++ [sl]) := by
  cases t with
  | c _ n kv sl hn hv hs hr => exact ⟨kv, sl, hv, hr.rowE⟩
  | o _ j n kv sl ps hn hv hl hs hr hk => exact ⟨kv, sl, hv, by show RowE h x 155 (knCells (kN T j) kv ++ [sl]); rw [kN_get hn]; exact hr.rowE⟩
def truI (n : Kn) : Bool := if n.k = 1 then false else if n.k = 2 then n.i == 1 else true
theorem tru_same {T : List Kn} (K : Tg T) {i : Nat} {r : RT} (x : RtOk T i r) (hi : i < T.length) : truI (r.nd T) = tru (r.nd T) := by
  have : (r.nd T).k = 2 → (r.nd T).i = 0 ∨ (r.nd T).i = 1 := by
    cases r with
    | c n => exact x.2.2
    | o q =>
      have hq : q < T.length := Nat.lt_of_le_of_lt x hi
      have hn : T[q]? = some T[q] := by simp [hq]
      show (kN T q).k = 2 → _
      intro h2
      rw [kN_get hn] at h2
      have := has2 (K.good _ _ hn).has h2
      show (kN T q).i = 0 ∨ (kN T q).i = 1
      rw [kN_get hn]; omega
  unfold truI tru
  by_cases k1 : (r.nd T).k = 1
  · rw [if_pos k1, if_pos k1]
  · rw [if_neg k1, if_neg k1]
    by_cases k2 : (r.nd T).k = 2
    · rw [if_pos k2, if_pos k2]
      rcases this k2 with e | e <;> rw [e] <;> rfl
    · rw [if_neg k2, if_neg k2]
theorem isC_inR (k : Int) : inR k 1 4 = isC k := by
  unfold inR isC
  by_cases h : 1 ≤ k <;> simp [h]
theorem l166 {d x : Nat} {T : List Kn} {r : RT} {h : AHeap} (t : PT S T h x r) : call Try.prog Ms (d + 2) 166 [ptr x 0] h = some (.bool (isC (r.nd T).k), h) := by
  obtain ⟨kv, sl, _, row⟩ := t.row
  rw [c166, e166]
  refine eb rfl (eb rfl (eb rfl (eb (ld5 row.row).1 (eb rfl (eb (l103 d _ 1 4 h) (eb rfl ?_))))))
  rw [isC_inR]
theorem l168 {d x : Nat} {T : List Kn} {r : RT} {h : AHeap} (t : PT S T h x r) : call Try.prog Ms (d + 1) 168 [ptr x 0] h = some (.bool (truI (r.nd T)), h) := by
  obtain ⟨kv, sl, _, row⟩ := t.row
  rw [c168, e168]
  unfold truI
  refine eb rfl (eb rfl (eb rfl (eb (ld5 row.row).1 (eb rfl ?_))))
  by_cases k1 : (r.nd T).k = 1
  · exact ecf (by simp [k1]) (by rw [if_pos k1])
  · refine ect (by simp [k1]) (eb rfl (eb rfl (eb rfl (eb (ld5 row.row).1 (eb rfl ?_)))))
    by_cases k2 : (r.nd T).k = 2
    · refine ecf (by simp [k2]) (eb rfl (eb rfl (eb rfl (eb (ld5 row.row).2.2.1 (eb rfl ?_)))))
      rw [if_neg k1, if_pos k2]
    · exact ect (by simp [k2]) (by rw [if_neg k1, if_neg k2])
/-- An answer: a pointer to a node. -/
def RP' (S : Nat → Prop) (T : List Kn) (h : AHeap) (r : RT) (o : Option (Value × AHeap)) : Prop := ∃ x g, o = some (ptr x 0, g) ∧ Ext h.size h g ∧ PT S T g x r
theorem newC {T : List Kn} {h : AHeap} {n : Kn} (hn : n.ks = []) (hS : S h.size) : PT S T (h.new 155 (knC n ++ [.slice none 0 0])) h.size (.c n) := .c _ n _ _ hn ⟨rfl, rfl⟩ (.inl ⟨rfl, rfl⟩) (let ⟨_, a⟩ := OwnR.new h 155 (knC n ++ [.slice none 0 0]); ⟨_, a, rfl, rfl, hS⟩)
theorem l167 {d : Nat} {T : List Kn} (b : Bool) (h : AHeap) (hS : ∀ r, h.size ≤ r → S r) : RP' S T h (.c (boolK b)) (call Try.prog Ms (d + 1) 167 [.bool b] h) := by
  rw [c167, e167]
  refine newSt_step (P := RP' S T h _) (kn0_cells ⟨2, ⟨#[]⟩, 0, []⟩) rfl rfl fun p h1 x1 o1 _ => ?_
  have fin : ∀ g, Ext h.size h g → RowE g p 73 (knC (boolK b)) → RP' S T h (.c (boolK b)) (s167_0 hk0 (call Try.prog Ms d) d (ptr p 0) g) := by
    intro g E r
    rw [s167_0_j, s167_0_eq]
    exact ⟨g.size, g.new 155 (knC (boolK b) ++ [.slice none 0 0]), eb (ld4 r.row).2.2.2.2 (eb rfl (eb rfl rfl)), Ext.tr E (Ext.new (Nat.le_refl _) _ _), newC rfl (hS _ E.size)⟩
  cases b with
  | false => exact pcf (P := RP' S T h _) rfl (fin h1 x1 (Own.rowE o1))
  | true =>
    obtain ⟨h2, c2, x2, o2, _⟩ := Own.st1' o1 (n := 2) (v := .int .i64 1) (by show 2 < 4; decide) rfl
    exact pct (P := RP' S T h _) rfl (pb rfl (pb c2 (fin h2 (x1.trans x2) (Own.rowE o2))))
/-- An answer: a pointer to a node, or none. -/
def RN (S : Nat → Prop) (T : List Kn) (h : AHeap) (oc : Option Kn) (o : Option (Value × AHeap)) : Prop := ∃ v g, o = some (v, g) ∧ Ext h.size h g ∧ match oc with | some c => ∃ x, v = ptr x 0 ∧ PT S T g x (.c c) | none => v = .pointer none
theorem l165 {d : Nat} {T : List Kn} (op x y : Int) (h : AHeap) (hS : ∀ r, h.size ≤ r → S r) : RN S T h (arC op x y) (call Try.prog Ms (d + 2) 165 [.int .i64 op, .int .i64 x, .int .i64 y] h) := by
  rw [c165, e165]
  have nope : RN S T h none (s165_0 hk0 (call Try.prog Ms (d + 1)) (d + 1) 0 false h) := by
    rw [s165_0_j, s165_0_eq]
    refine pct (P := RN S T h none) rfl ?_
    rw [s165_1_j, s165_1_eq]
    exact ⟨_, h, rfl, Ext.refl _ _, rfl⟩
  have rng : ∀ v, RN S T h (rngK v) (s165_0 hk0 (call Try.prog Ms (d + 1)) (d + 1) v true h) := by
    intro v
    rw [s165_0_j, s165_0_eq]
    refine pcf (P := RN S T h _) rfl (pb (l103 d v 0 999999999999999 h) (pb rfl ?_))
    rw [s165_1_j, s165_1_eq]
    unfold rngK
    cases inR v 0 999999999999999 with
    | false => exact ⟨_, h, rfl, Ext.refl _ _, rfl⟩
    | true =>
      refine pcf (P := RN S T h _) rfl ?_
      rw [s165_2_j, s165_2_eq]
      exact ⟨ptr h.size 0, h.new 155 (knC ⟨3, ⟨#[]⟩, v, []⟩ ++ [.slice none 0 0]), rfl, Ext.new (Nat.le_refl _) _ _, h.size, rfl, newC rfl (hS _ (Nat.le_refl _))⟩
  have bool : ∀ b : Bool, RN S T h (some (boolK b)) ((call Try.prog Ms (d + 1) 167 [.bool b] h).bind fun r => some (r.1, r.2)) := by
    intro b
    obtain ⟨x, g, c, e, t⟩ := l167 (T := T) (d := d) b h hS
    exact ⟨ptr x 0, g, eb c rfl, e, x, rfl, t⟩
  unfold arC
  by_cases k1 : op = 1
  · rw [if_pos k1]; exact pct (P := RN S T h _) (by simp [k1]) (rng _)
  rw [if_neg k1]; refine pcf (P := RN S T h _) (by simp [k1]) ?_
  by_cases k2 : op = 2
  · rw [if_pos k2]; exact pct (P := RN S T h _) (by simp [k2]) (rng _)
  rw [if_neg k2]; refine pcf (P := RN S T h _) (by simp [k2]) ?_
  by_cases k3 : op = 3
  · rw [if_pos k3]; refine pct (P := RN S T h _) (by simp [k3]) ?_
    have c196' : call Try.prog Ms (d + 1) 196 [.int .i64 x, .int .i64 y] h = some (if x ≠ 0 ∧ y > quoI x then .tuple (List.toArray [.int .i64 0, .bool false]) else .tuple (List.toArray [.int .i64 (IntKind.i64.wrap (x * y)), .bool true]), h) := by
      rw [c196, e196]
      by_cases hx : x = 0
      · rw [if_neg (fun e => e.1 hx)]
        refine ecf (by simp [hx]) ?_
        rw [s196_0_j, s196_0_eq]; rfl
      · refine ect (by simp [hx]) (eb (quo_some hx) (eb rfl ?_))
        rw [s196_0_j, s196_0_eq]
        by_cases hy : y > quoI x
        · rw [if_pos ⟨hx, hy⟩]; exact ect (decide_eq_true hy) rfl
        · rw [if_neg (fun e => hy e.2)]; exact ecf (decide_eq_false hy) rfl
    refine pb (P := RN S T h _) c196' ?_
    by_cases hh : x ≠ 0 ∧ y > quoI x
    · rw [if_pos hh, if_pos hh]
      exact pb rfl (pb rfl (pb rfl (pb rfl nope)))
    · rw [if_neg hh, if_neg hh]
      exact pb rfl (pb rfl (pb rfl (pb rfl (rng _))))
  rw [if_neg k3]; refine pcf (P := RN S T h _) (by simp [k3]) ?_
  by_cases k7 : op = 7
  · rw [if_pos k7]; exact pct (P := RN S T h _) (by simp [k7]) (bool _)
  rw [if_neg k7]; refine pcf (P := RN S T h _) (by simp [k7]) ?_
  by_cases k8 : op = 8
  · rw [if_pos k8]; exact pct (P := RN S T h _) (by simp [k8]) (bool _)
  rw [if_neg k8]; refine pcf (P := RN S T h _) (by simp [k8]) ?_
  by_cases k9 : op = 9
  · rw [if_pos k9]; exact pct (P := RN S T h _) (by simp [k9]) (bool _)
  rw [if_neg k9]; refine pcf (P := RN S T h _) (by simp [k9]) ?_
  by_cases k10 : op = 10
  · rw [if_pos k10]; exact pct (P := RN S T h _) (by simp [k10]) (bool _)
  rw [if_neg k10]; exact pcf (P := RN S T h _) (by simp [k10]) nope
end
end Go.Proofs.Ytadmoackacickaa
