import Derived.Test.YtadmoackacickaaXAD
import Derived.KernelRfl
import Derived.Test.YtadmoackacickaaProg
import Derived.Test.YtadmoackacickaaXAF
set_option linter.unusedVariables false
namespace Go.Proofs.Ytadmoackacickaa
open Go Go.AH
/-! 6 loop.example/g00101/laws.FnBinds -/
/-! 26 loop.example/g00101/laws.big -/
/-! 27 loop.example/g00101/laws.at -/
/-! 28 loop.example/g00101/impl.Parse -/
noncomputable def F28_0 (hk : Hk (Value × AHeap)) (C : ACall) (N : Nat) (n1 : Nat) : Nx (Value × AHeap) := evSt hk Try.prog C M28 N Try.f28 [1, 1, 1, 1, 1, 0, 2, 6] [n1]
noncomputable def s28_0 (hk : Hk (Value × AHeap)) (C : ACall) (N : Nat) (n1 : Nat) (x2 : Value) (x5 : Value) (x8 : Value) (x9 : Value) (h : AHeap) := F28_0 hk C N n1 (⟨71, [(2, x2), (5, x5), (8, x8), (9, x9)]⟩) h
noncomputable def F28_1 (hk : Hk (Value × AHeap)) (C : ACall) (N : Nat) (n1 : Nat) : Nx (Value × AHeap) := evSt hk Try.prog C M28 N Try.f28 [1, 1, 1, 1, 1, 0, 2, 3, 1] [n1]
noncomputable def s28_1 (hk : Hk (Value × AHeap)) (C : ACall) (N : Nat) (n1 : Nat) (x2 : Value) (x5 : Value) (x8 : Value) (x9 : Value) (h : AHeap) := hk 7 (⟨71, [(2, x2), (5, x5), (8, x8), (9, x9)]⟩) h (F28_1 hk C N n1)
theorem e28 (hk : Hk (Value × AHeap)) (C : ACall) (N : Nat) (x0 : ByteArray) (h : AHeap) : evFn hk Try.prog C M28 N Try.f28 [.string x0] h =
    aNew h 35 [.slice none 0 0, .int .i64 0] fun p1 h2 => (C 15 [.string x0] h2).bind fun r3 => (aExt r3.1 0).bind fun v4 => (aExt r3.1 1).bind fun v5 => (asI .i64 v5).bind fun n6 => (aExt r3.1 2).bind fun v7 => (asI .i64 v7).bind fun n8 => bif n6 != 0 then (aSt r3.2 p1 (.agg (List.toArray [.slice none 0 0, .int .i64 0])) 2).bind fun h9 => (aLdN h9 p1 2).bind fun v10 => bif List.all [v10, .int .i64 1, .int .i64 n8] isS2 then some (.tuple (List.toArray [v10, .int .i64 1, .int .i64 n8]), h9) else none else (aFill [.slice none 0 0, .int .i64 0, .int .i64 0, .int .i64 0, .slice none 0 0, .int .i64 0, .int .i64 0] [(0, 1, v4), (2, 1, .int .i64 (ByteArray.size x0 : Int))]).bind fun c11 => (aCells (.agg (List.toArray c11))).bind fun c12 => aNew r3.2 81 c12 fun p13 h14 => aNewS h14 3 [] 0 fun p15 h16 => s28_0 hk C N N p1 v4 p13 p15 h16 := by kernel_rfl
theorem s28_0_eq (hk : Hk (Value × AHeap)) (C : ACall) (N : Nat) (n1 : Nat) (x2 : Value) (x5 : Value) (x8 : Value) (x9 : Value) (h : AHeap) : s28_0 hk C N (n1 + 1) x2 x5 x8 x9 h =
    (aNil x8).bind fun v17 => (aOff v17 1).bind fun v18 => (aLd1 h v18).bind fun v19 => (asI .i64 v19).bind fun n20 => (aLen x5).bind fun v21 => (asI .i64 v21).bind fun n22 => bif decide (n20 < n22) then (aNil x8).bind fun v23 => (aOff v23 5).bind fun v24 => (aLd1 h v24).bind fun v25 => (asI .i64 v25).bind fun n26 => bif n26 == 0 then s28_1 hk C N n1 x2 x5 x8 x9 h else (aNil x8).bind fun v27 => (aOff v27 5).bind fun v28 => (aLd1 h v28).bind fun v29 => (asI .i64 v29).bind fun n30 => bif n30 != 0 then (aNil x8).bind fun v31 => (aOff v31 5).bind fun v32 => (aLd1 h v32).bind fun v33 => (asI .i64 v33).bind fun n34 => (aNil x8).bind fun v35 => (aOff v35 6).bind fun v36 => (aLd1 h v36).bind fun v37 => (asI .i64 v37).bind fun n38 => (aSt h x2 (.agg (List.toArray [.slice none 0 0, .int .i64 0])) 2).bind fun h39 => ((aLd1 h39 v32).bind fun v40 => (asI .i64 v40).bind fun n41 => some (vbeq (.int .i64 n41) (.int .i64 n34))).bind fun b42 => bif b42 then ((aLd1 h39 v36).bind fun v43 => (asI .i64 v43).bind fun n44 => some (vbeq (.int .i64 n44) (.int .i64 n38))).bind fun b45 => bif b45 then ((aLd1 h39 v36).bind fun v46 => (asI .i64 v46).bind fun n47 => some (vbeq (.int .i64 n47) (.int .i64 n38))).bind fun b48 => bif b48 then (aLdN h39 x2 2).bind fun v49 => bif List.all [v49, .int .i64 n34, .int .i64 n38] isS2 then some (.tuple (List.toArray [v49, .int .i64 n34, .int .i64 n38]), h39) else none else none else none else none else (C 64 [x8, .int .i64 21, .string ⟨#[]⟩, .int .i64 0, x9] h).bind fun r50 => (asI .i64 r50.1).bind fun n51 => (aNil x8).bind fun v52 => (aOff v52 4).bind fun v53 => (aLd1 r50.2 v53).bind fun v54 => (aFill [.slice none 0 0, .int .i64 0] [(0, 1, v54), (1, 1, .int .i64 n51)]).bind fun c55 => (aSt r50.2 x2 (.agg (List.toArray c55)) 2).bind fun h56 => (aLdN h56 x2 2).bind fun v57 => bif List.all [v57, .int .i64 0, .int .i64 0] isS2 then some (.tuple (List.toArray [v57, .int .i64 0, .int .i64 0]), h56) else none else (aNil x8).bind fun v58 => (aOff v58 5).bind fun v59 => (aLd1 h v59).bind fun v60 => (asI .i64 v60).bind fun n61 => bif n61 != 0 then (aNil x8).bind fun v62 => (aOff v62 5).bind fun v63 => (aLd1 h v63).bind fun v64 => (asI .i64 v64).bind fun n65 => (aNil x8).bind fun v66 => (aOff v66 6).bind fun v67 => (aLd1 h v67).bind fun v68 => (asI .i64 v68).bind fun n69 => (aSt h x2 (.agg (List.toArray [.slice none 0 0, .int .i64 0])) 2).bind fun h70 => ((aLd1 h70 v63).bind fun v71 => (asI .i64 v71).bind fun n72 => some (vbeq (.int .i64 n72) (.int .i64 n65))).bind fun b73 => bif b73 then ((aLd1 h70 v67).bind fun v74 => (asI .i64 v74).bind fun n75 => some (vbeq (.int .i64 n75) (.int .i64 n69))).bind fun b76 => bif b76 then ((aLd1 h70 v67).bind fun v77 => (asI .i64 v77).bind fun n78 => some (vbeq (.int .i64 n78) (.int .i64 n69))).bind fun b79 => bif b79 then (aLdN h70 x2 2).bind fun v80 => bif List.all [v80, .int .i64 n65, .int .i64 n69] isS2 then some (.tuple (List.toArray [v80, .int .i64 n65, .int .i64 n69]), h70) else none else none else none else none else (C 64 [x8, .int .i64 21, .string ⟨#[]⟩, .int .i64 0, x9] h).bind fun r81 => (asI .i64 r81.1).bind fun n82 => (aNil x8).bind fun v83 => (aOff v83 4).bind fun v84 => (aLd1 r81.2 v84).bind fun v85 => (aFill [.slice none 0 0, .int .i64 0] [(0, 1, v85), (1, 1, .int .i64 n82)]).bind fun c86 => (aSt r81.2 x2 (.agg (List.toArray c86)) 2).bind fun h87 => (aLdN h87 x2 2).bind fun v88 => bif List.all [v88, .int .i64 0, .int .i64 0] isS2 then some (.tuple (List.toArray [v88, .int .i64 0, .int .i64 0]), h87) else none := by kernel_rfl
theorem s28_1_j (C : ACall) (N : Nat) (n1 : Nat) (x2 : Value) (x5 : Value) (x8 : Value) (x9 : Value) (h : AHeap) : s28_1 hk0 C N n1 x2 x5 x8 x9 h = F28_1 hk0 C N n1 (⟨71, [(2, x2), (5, x5), (8, x8), (9, x9)]⟩) h := by delta s28_1; exact hk0_app _ _ _ _
theorem s28_1_eq (hk : Hk (Value × AHeap)) (C : ACall) (N : Nat) (n1 : Nat) (x2 : Value) (x5 : Value) (x8 : Value) (x9 : Value) (h : AHeap) : F28_1 hk C N n1 (⟨71, [(2, x2), (5, x5), (8, x8), (9, x9)]⟩) h =
    (C 63 [x8] h).bind fun r89 => (asI .i64 r89.1).bind fun n90 => aNewS r89.2 3 [.int .i64 n90] 1 fun p91 h92 => (aApp h92 3 1 8 x9 p91).bind fun r93 => s28_0 hk C N n1 x2 x5 x8 r93.1 r93.2 := by kernel_rfl
theorem c28 (d : Nat) (args : List Value) (h : AHeap) : call Try.prog Ms (d + 1) 28 args h = evFn hk0 Try.prog (call Try.prog Ms d) M28 d Try.f28 args h := by kernel_rfl

/-! 29 loop.example/g00101/impl.TreeSame -/
/-! 63 (*loop.example/g00101/impl.parser).statement -/
theorem e63 (hk : Hk (Value × AHeap)) (C : ACall) (N : Nat) (x0 : Value) (h : AHeap) : evFn hk Try.prog C M63 N Try.f63 [x0] h =
    (C 107 [x0, .string (⟨#[108, 111, 99, 97, 108]⟩)] h).bind fun r1 => (asB r1.1).bind fun b2 => bif b2 then (C 108 [x0] r1.2).bind fun r3 => (asS r3.1).bind fun t4 => (C 109 [x0, .string (⟨#[61]⟩)] r3.2).bind fun r5 => (C 110 [x0] r5.2).bind fun r6 => (asI .i64 r6.1).bind fun n7 => (C 109 [x0, .string (⟨#[59]⟩)] r6.2).bind fun r8 => aNewS r8.2 3 [.int .i64 n7] 1 fun p9 h10 => (C 64 [x0, .int .i64 14, .string t4, .int .i64 0, p9] h10).bind fun r11 => (asI .i64 r11.1).bind fun n12 => some (.int .i64 n12, r11.2) else (C 107 [x0, .string (⟨#[114, 101, 116, 117, 114, 110]⟩)] r1.2).bind fun r13 => (asB r13.1).bind fun b14 => bif b14 then (C 110 [x0] r13.2).bind fun r15 => (asI .i64 r15.1).bind fun n16 => (C 109 [x0, .string (⟨#[59]⟩)] r15.2).bind fun r17 => aNewS r17.2 3 [.int .i64 n16] 1 fun p18 h19 => (C 64 [x0, .int .i64 19, .string ⟨#[]⟩, .int .i64 0, p18] h19).bind fun r20 => (asI .i64 r20.1).bind fun n21 => some (.int .i64 n21, r20.2) else (C 107 [x0, .string (⟨#[119, 104, 105, 108, 101]⟩)] r13.2).bind fun r22 => (asB r22.1).bind fun b23 => bif b23 then (C 110 [x0] r22.2).bind fun r24 => (asI .i64 r24.1).bind fun n25 => (C 111 [x0] r24.2).bind fun r26 => (asI .i64 r26.1).bind fun n27 => aNewS r26.2 3 [.int .i64 n25, .int .i64 n27] 2 fun p28 h29 => (C 64 [x0, .int .i64 18, .string ⟨#[]⟩, .int .i64 0, p28] h29).bind fun r30 => (asI .i64 r30.1).bind fun n31 => some (.int .i64 n31, r30.2) else (C 107 [x0, .string (⟨#[105, 102]⟩)] r22.2).bind fun r32 => (asB r32.1).bind fun b33 => bif b33 then (C 110 [x0] r32.2).bind fun r34 => (asI .i64 r34.1).bind fun n35 => aNewS r34.2 3 [.int .i64 n35] 1 fun p36 h37 => (C 111 [x0] h37).bind fun r38 => (asI .i64 r38.1).bind fun n39 => aNewS r38.2 3 [.int .i64 n39] 1 fun p40 h41 => (aApp h41 3 1 8 p36 p40).bind fun r42 => (C 107 [x0, .string (⟨#[101, 108, 115, 101]⟩)] r42.2).bind fun r43 => (asB r43.1).bind fun b44 => bif b44 then (C 111 [x0] r43.2).bind fun r45 => (asI .i64 r45.1).bind fun n46 => aNewS r45.2 3 [.int .i64 n46] 1 fun p47 h48 => (aApp h48 3 1 8 r42.1 p47).bind fun r49 => (C 64 [x0, .int .i64 17, .string ⟨#[]⟩, .int .i64 0, r49.1] r49.2).bind fun r50 => (asI .i64 r50.1).bind fun n51 => some (.int .i64 n51, r50.2) else (C 64 [x0, .int .i64 17, .string ⟨#[]⟩, .int .i64 0, r42.1] r43.2).bind fun r52 => (asI .i64 r52.1).bind fun n53 => some (.int .i64 n53, r52.2) else (C 112 [x0] r32.2).bind fun r54 => (asI .i64 r54.1).bind fun n55 => some (.int .i64 n55, r54.2) := by kernel_rfl
theorem c63 (d : Nat) (args : List Value) (h : AHeap) : call Try.prog Ms (d + 1) 63 args h = evFn hk0 Try.prog (call Try.prog Ms d) M63 d Try.f63 args h := by kernel_rfl

/-! 64 (*loop.example/g00101/impl.parser).node -/
theorem e64 (hk : Hk (Value × AHeap)) (C : ACall) (N : Nat) (x0 : Value) (x1 : Int) (x2 : ByteArray) (x3 : Int) (x4 : Value) (h : AHeap) : evFn hk Try.prog C M64 N Try.f64 [x0, .int .i64 x1, .string x2, .int .i64 x3, x4] h =
    (aNil x0).bind fun v1 => (aOff v1 4).bind fun v2 => (aLd1 h v2).bind fun v3 => (aFill [.int .i64 0, .string ⟨#[]⟩, .int .i64 0, .slice none 0 0] [(0, 1, .int .i64 x1), (1, 1, .string x2), (2, 1, .int .i64 x3), (3, 1, x4)]).bind fun c4 => (aFill [.int .i64 0, .string ⟨#[]⟩, .int .i64 0, .slice none 0 0] [(0, 4, (.agg (List.toArray c4)))]).bind fun c5 => aNewS h 73 c5 1 fun p6 h7 => (aApp h7 73 4 56 v3 p6).bind fun r8 => (aNil x0).bind fun v9 => (aOff v9 4).bind fun v10 => (aSt r8.2 v10 r8.1 1).bind fun h11 => (aNil x0).bind fun v12 => (aOff v12 4).bind fun v13 => (aLd1 h11 v13).bind fun v14 => (aLen v14).bind fun v15 => (asI .i64 v15).bind fun n16 => some (.int .i64 (IntKind.i64.wrap (n16 - 1)), h11) := by kernel_rfl
theorem c64 (d : Nat) (args : List Value) (h : AHeap) : call Try.prog Ms (d + 1) 64 args h = evFn hk0 Try.prog (call Try.prog Ms d) M64 d Try.f64 args h := by kernel_rfl

/-! 65 slices.EqualFunc[[]loop.example/g00101/impl.Knot,[]loop.example/g00101/impl.Knot,loop.example/g00101/impl.Knot,loop.example/g00101/impl.Knot] -/
/-! 66 loop.example/g00101/impl.TreeSame$1 -/
/-! 67 slices.Equal[[]int,int] -/
/-! 107 (*loop.example/g00101/impl.parser).takes -/
theorem e107 (hk : Hk (Value × AHeap)) (C : ACall) (N : Nat) (x0 : Value) (x1 : ByteArray) (h : AHeap) : evFn hk Try.prog C M107 N Try.f107 [x0, .string x1] h =
    (C 154 [x0, .string x1] h).bind fun r1 => (asB r1.1).bind fun b2 => bif !b2 then some (.bool false, r1.2) else (aNil x0).bind fun v3 => (aOff v3 1).bind fun v4 => (aLd1 r1.2 v4).bind fun v5 => (asI .i64 v5).bind fun n6 => (aNil x0).bind fun v7 => (aOff v7 1).bind fun v8 => (aSt r1.2 v8 (.int .i64 (IntKind.i64.wrap (n6 + 1))) 1).bind fun h9 => some (.bool true, h9) := by kernel_rfl
theorem c107 (d : Nat) (args : List Value) (h : AHeap) : call Try.prog Ms (d + 1) 107 args h = evFn hk0 Try.prog (call Try.prog Ms d) M107 d Try.f107 args h := by kernel_rfl

/-! 108 (*loop.example/g00101/impl.parser).name -/
theorem e108 (hk : Hk (Value × AHeap)) (C : ACall) (N : Nat) (x0 : Value) (h : AHeap) : evFn hk Try.prog C M108 N Try.f108 [x0] h =
    (C 155 [x0] h).bind fun r1 => aNew r1.2 53 [.int .i64 0, .int .i64 0, .string ⟨#[]⟩, .int .i64 0] fun p2 h3 => (aSt h3 p2 r1.1 4).bind fun h4 => (aOff p2 0).bind fun v5 => (aLd1 h4 v5).bind fun v6 => (asI .i64 v6).bind fun n7 => bif n7 != 1 then (C 156 [x0, .int .i64 2] h4).bind fun r8 => some (.string ⟨#[]⟩, r8.2) else (aNil x0).bind fun v9 => (aOff v9 1).bind fun v10 => (aLd1 h4 v10).bind fun v11 => (asI .i64 v11).bind fun n12 => (aNil x0).bind fun v13 => (aOff v13 1).bind fun v14 => (aSt h4 v14 (.int .i64 (IntKind.i64.wrap (n12 + 1))) 1).bind fun h15 => (aOff p2 2).bind fun v16 => (aLd1 h15 v16).bind fun v17 => (asS v17).bind fun t18 => some (.string t18, h15) := by kernel_rfl
theorem c108 (d : Nat) (args : List Value) (h : AHeap) : call Try.prog Ms (d + 1) 108 args h = evFn hk0 Try.prog (call Try.prog Ms d) M108 d Try.f108 args h := by kernel_rfl
end Go.Proofs.Ytadmoackacickaa
set_option linter.unusedVariables false
namespace Go.Proofs.Ytadmoackacickaa
open Go Go.AH
/-! 109 (*loop.example/g00101/impl.parser).want -/
theorem e109 (hk : Hk (Value × AHeap)) (C : ACall) (N : Nat) (x0 : Value) (x1 : ByteArray) (h : AHeap) : evFn hk Try.prog C M109 N Try.f109 [x0, .string x1] h =
    (C 107 [x0, .string x1] h).bind fun r1 => (asB r1.1).bind fun b2 => bif !b2 then (C 156 [x0, .int .i64 2] r1.2).bind fun r3 => some (.tuple (List.toArray []), r3.2) else some (.tuple (List.toArray []), r1.2) := by kernel_rfl
theorem c109 (d : Nat) (args : List Value) (h : AHeap) : call Try.prog Ms (d + 1) 109 args h = evFn hk0 Try.prog (call Try.prog Ms d) M109 d Try.f109 args h := by kernel_rfl

/-! 110 (*loop.example/g00101/impl.parser).whole -/
theorem e110 (hk : Hk (Value × AHeap)) (C : ACall) (N : Nat) (x0 : Value) (h : AHeap) : evFn hk Try.prog C M110 N Try.f110 [x0] h =
    (C 157 [x0] h).bind fun r1 => (C 158 [x0] r1.2).bind fun r2 => (asI .i64 r2.1).bind fun n3 => (aNil x0).bind fun v4 => (aOff v4 3).bind fun v5 => (aLd1 r2.2 v5).bind fun v6 => (asI .i64 v6).bind fun n7 => (aNil x0).bind fun v8 => (aOff v8 3).bind fun v9 => (aSt r2.2 v9 (.int .i64 (IntKind.i64.wrap (n7 - 1))) 1).bind fun h10 => some (.int .i64 n3, h10) := by kernel_rfl
theorem c110 (d : Nat) (args : List Value) (h : AHeap) : call Try.prog Ms (d + 1) 110 args h = evFn hk0 Try.prog (call Try.prog Ms d) M110 d Try.f110 args h := by kernel_rfl

/-! 111 (*loop.example/g00101/impl.parser).block -/
noncomputable def F111_0 (hk : Hk (Value × AHeap)) (C : ACall) (N : Nat) (n1 : Nat) : Nx (Value × AHeap) := evSt hk Try.prog C M111 N Try.f111 [1, 1, 1, 1, 0, 2, 6] [n1]
noncomputable def s111_0 (hk : Hk (Value × AHeap)) (C : ACall) (N : Nat) (n1 : Nat) (x0 : Value) (x3 : Value) (h : AHeap) := F111_0 hk C N n1 (⟨38, [(0, x0), (3, x3)]⟩) h
noncomputable def F111_1 (hk : Hk (Value × AHeap)) (C : ACall) (N : Nat) (n1 : Nat) : Nx (Value × AHeap) := evSt hk Try.prog C M111 N Try.f111 [1, 1, 1, 1, 0, 2, 3, 1] [n1]
noncomputable def s111_1 (hk : Hk (Value × AHeap)) (C : ACall) (N : Nat) (n1 : Nat) (x0 : Value) (x3 : Value) (h : AHeap) := hk 5 (⟨38, [(0, x0), (3, x3)]⟩) h (F111_1 hk C N n1)
theorem e111 (hk : Hk (Value × AHeap)) (C : ACall) (N : Nat) (x0 : Value) (h : AHeap) : evFn hk Try.prog C M111 N Try.f111 [x0] h =
    (C 157 [x0] h).bind fun r1 => (C 109 [x0, .string (⟨#[123]⟩)] r1.2).bind fun r2 => aNewS r2.2 3 [] 0 fun p3 h4 => s111_0 hk C N N x0 p3 h4 := by kernel_rfl
theorem s111_0_eq (hk : Hk (Value × AHeap)) (C : ACall) (N : Nat) (n1 : Nat) (x0 : Value) (x3 : Value) (h : AHeap) : s111_0 hk C N (n1 + 1) x0 x3 h =
    (aNil x0).bind fun v5 => (aOff v5 5).bind fun v6 => (aLd1 h v6).bind fun v7 => (asI .i64 v7).bind fun n8 => bif n8 == 0 then (C 154 [x0, .string (⟨#[125]⟩)] h).bind fun r9 => (asB r9.1).bind fun b10 => bif !b10 then s111_1 hk C N n1 x0 x3 r9.2 else (C 109 [x0, .string (⟨#[125]⟩)] r9.2).bind fun r11 => (aNil x0).bind fun v12 => (aOff v12 3).bind fun v13 => (aLd1 r11.2 v13).bind fun v14 => (asI .i64 v14).bind fun n15 => (aNil x0).bind fun v16 => (aOff v16 3).bind fun v17 => (aSt r11.2 v17 (.int .i64 (IntKind.i64.wrap (n15 - 1))) 1).bind fun h18 => (C 64 [x0, .int .i64 21, .string ⟨#[]⟩, .int .i64 0, x3] h18).bind fun r19 => (asI .i64 r19.1).bind fun n20 => some (.int .i64 n20, r19.2) else (C 109 [x0, .string (⟨#[125]⟩)] h).bind fun r21 => (aNil x0).bind fun v22 => (aOff v22 3).bind fun v23 => (aLd1 r21.2 v23).bind fun v24 => (asI .i64 v24).bind fun n25 => (aNil x0).bind fun v26 => (aOff v26 3).bind fun v27 => (aSt r21.2 v27 (.int .i64 (IntKind.i64.wrap (n25 - 1))) 1).bind fun h28 => (C 64 [x0, .int .i64 21, .string ⟨#[]⟩, .int .i64 0, x3] h28).bind fun r29 => (asI .i64 r29.1).bind fun n30 => some (.int .i64 n30, r29.2) := by kernel_rfl
theorem s111_1_j (C : ACall) (N : Nat) (n1 : Nat) (x0 : Value) (x3 : Value) (h : AHeap) : s111_1 hk0 C N n1 x0 x3 h = F111_1 hk0 C N n1 (⟨38, [(0, x0), (3, x3)]⟩) h := by delta s111_1; exact hk0_app _ _ _ _
theorem s111_1_eq (hk : Hk (Value × AHeap)) (C : ACall) (N : Nat) (n1 : Nat) (x0 : Value) (x3 : Value) (h : AHeap) : F111_1 hk C N n1 (⟨38, [(0, x0), (3, x3)]⟩) h =
    (C 63 [x0] h).bind fun r31 => (asI .i64 r31.1).bind fun n32 => aNewS r31.2 3 [.int .i64 n32] 1 fun p33 h34 => (aApp h34 3 1 8 x3 p33).bind fun r35 => s111_0 hk C N n1 x0 r35.1 r35.2 := by kernel_rfl
theorem c111 (d : Nat) (args : List Value) (h : AHeap) : call Try.prog Ms (d + 1) 111 args h = evFn hk0 Try.prog (call Try.prog Ms d) M111 d Try.f111 args h := by kernel_rfl

/-! 112 (*loop.example/g00101/impl.parser).begun -/
noncomputable def F112_0 (hk : Hk (Value × AHeap)) (C : ACall) (N : Nat) : Nx (Value × AHeap) := evSt hk Try.prog C M112 N Try.f112 [1, 1, 1, 1, 0, 2, 1] []
noncomputable def s112_0 (hk : Hk (Value × AHeap)) (C : ACall) (N : Nat) (x0 : Value) (x3 : Int) (x4 : Value) (x21 : Bool) (h : AHeap) := hk 100006 (⟨95, [(0, x0), (3, .int .i64 x3), (4, x4), (21, .bool x21)]⟩) h (F112_0 hk C N)
noncomputable def F112_1 (hk : Hk (Value × AHeap)) (C : ACall) (N : Nat) : Nx (Value × AHeap) := evSt hk Try.prog C M112 N Try.f112 [1, 1, 1, 1, 0, 2, 1, 5, 1] []
noncomputable def s112_1 (hk : Hk (Value × AHeap)) (C : ACall) (N : Nat) (x0 : Value) (x3 : Int) (x4 : Value) (x33 : Bool) (h : AHeap) := hk 100008 (⟨95, [(0, x0), (3, .int .i64 x3), (4, x4), (33, .bool x33)]⟩) h (F112_1 hk C N)
noncomputable def F112_2 (hk : Hk (Value × AHeap)) (C : ACall) (N : Nat) : Nx (Value × AHeap) := evSt hk Try.prog C M112 N Try.f112 [1, 1, 1, 1, 0, 2, 1, 5, 1, 5, 1] []
noncomputable def s112_2 (hk : Hk (Value × AHeap)) (C : ACall) (N : Nat) (x0 : Value) (x3 : Int) (x4 : Value) (x60 : Bool) (h : AHeap) := hk 100013 (⟨95, [(0, x0), (3, .int .i64 x3), (4, x4), (60, .bool x60)]⟩) h (F112_2 hk C N)
noncomputable def F112_3 (hk : Hk (Value × AHeap)) (C : ACall) (N : Nat) : Nx (Value × AHeap) := evSt hk Try.prog C M112 N Try.f112 [1, 1, 1, 1, 1] []
noncomputable def s112_3 (hk : Hk (Value × AHeap)) (C : ACall) (N : Nat) (x0 : Value) (h : AHeap) := hk 17 (⟨95, [(0, x0)]⟩) h (F112_3 hk C N)
theorem e112 (hk : Hk (Value × AHeap)) (C : ACall) (N : Nat) (x0 : Value) (h : AHeap) : evFn hk Try.prog C M112 N Try.f112 [x0] h =
    (C 110 [x0] h).bind fun r1 => (asI .i64 r1.1).bind fun n2 => (aNil x0).bind fun v3 => (aOff v3 5).bind fun v4 => (aLd1 r1.2 v4).bind fun v5 => (asI .i64 v5).bind fun n6 => bif n6 != 0 then some (.int .i64 0, r1.2) else (aNil x0).bind fun v7 => (aOff v7 4).bind fun v8 => (aLd1 r1.2 v8).bind fun v9 => (aIdx v9 (.int .i64 n2) 4).bind fun v10 => (aLdN r1.2 v10 4).bind fun v11 => aNew r1.2 73 [.int .i64 0, .string ⟨#[]⟩, .int .i64 0, .slice none 0 0] fun p12 h13 => (aSt h13 p12 v11 4).bind fun h14 => (aOff p12 0).bind fun v15 => (aLd1 h14 v15).bind fun v16 => (asI .i64 v16).bind fun n17 => bif n17 == 9 then (C 107 [x0, .string (⟨#[59]⟩)] h14).bind fun r18 => (asB r18.1).bind fun b19 => s112_0 hk C N x0 n2 p12 b19 r18.2 else s112_0 hk C N x0 n2 p12 false h14 := by kernel_rfl
theorem s112_0_j (C : ACall) (N : Nat) (x0 : Value) (x3 : Int) (x4 : Value) (x21 : Bool) (h : AHeap) : s112_0 hk0 C N x0 x3 x4 x21 h = F112_0 hk0 C N (⟨95, [(0, x0), (3, .int .i64 x3), (4, x4), (21, .bool x21)]⟩) h := by delta s112_0; exact hk0_app _ _ _ _
theorem s112_0_eq (hk : Hk (Value × AHeap)) (C : ACall) (N : Nat) (x0 : Value) (x3 : Int) (x4 : Value) (x21 : Bool) (h : AHeap) : F112_0 hk C N (⟨95, [(0, x0), (3, .int .i64 x3), (4, x4), (21, .bool x21)]⟩) h =
    bif x21 then aNewS h 3 [.int .i64 x3] 1 fun p20 h21 => (C 64 [x0, .int .i64 20, .string ⟨#[]⟩, .int .i64 0, p20] h21).bind fun r22 => (asI .i64 r22.1).bind fun n23 => some (.int .i64 n23, r22.2) else (aOff x4 0).bind fun v24 => (aLd1 h v24).bind fun v25 => (asI .i64 v25).bind fun n26 => bif n26 == 5 then (C 107 [x0, .string (⟨#[61]⟩)] h).bind fun r27 => (asB r27.1).bind fun b28 => s112_1 hk C N x0 x3 x4 b28 r27.2 else s112_1 hk C N x0 x3 x4 false h := by kernel_rfl
theorem s112_1_j (C : ACall) (N : Nat) (x0 : Value) (x3 : Int) (x4 : Value) (x33 : Bool) (h : AHeap) : s112_1 hk0 C N x0 x3 x4 x33 h = F112_1 hk0 C N (⟨95, [(0, x0), (3, .int .i64 x3), (4, x4), (33, .bool x33)]⟩) h := by delta s112_1; exact hk0_app _ _ _ _
theorem s112_1_eq (hk : Hk (Value × AHeap)) (C : ACall) (N : Nat) (x0 : Value) (x3 : Int) (x4 : Value) (x33 : Bool) (h : AHeap) : F112_1 hk C N (⟨95, [(0, x0), (3, .int .i64 x3), (4, x4), (33, .bool x33)]⟩) h =
    bif x33 then (aNil x0).bind fun v29 => (aOff v29 4).bind fun v30 => (aLd1 h v30).bind fun v31 => (aSub h 73 v31 none (some (.int .i64 x3)) 4).bind fun v32 => (aNil x0).bind fun v33 => (aOff v33 4).bind fun v34 => (aSt h v34 v32 1).bind fun h35 => (C 110 [x0] h35).bind fun r36 => (asI .i64 r36.1).bind fun n37 => (C 109 [x0, .string (⟨#[59]⟩)] r36.2).bind fun r38 => (aOff x4 1).bind fun v39 => (aLd1 r38.2 v39).bind fun v40 => (asS v40).bind fun t41 => aNewS r38.2 3 [.int .i64 n37] 1 fun p42 h43 => (C 64 [x0, .int .i64 15, .string t41, .int .i64 0, p42] h43).bind fun r44 => (asI .i64 r44.1).bind fun n45 => some (.int .i64 n45, r44.2) else (aOff x4 0).bind fun v46 => (aLd1 h v46).bind fun v47 => (asI .i64 v47).bind fun n48 => bif n48 == 8 then (C 107 [x0, .string (⟨#[61]⟩)] h).bind fun r49 => (asB r49.1).bind fun b50 => s112_2 hk C N x0 x3 x4 b50 r49.2 else s112_2 hk C N x0 x3 x4 false h := by kernel_rfl
theorem s112_2_j (C : ACall) (N : Nat) (x0 : Value) (x3 : Int) (x4 : Value) (x60 : Bool) (h : AHeap) : s112_2 hk0 C N x0 x3 x4 x60 h = F112_2 hk0 C N (⟨95, [(0, x0), (3, .int .i64 x3), (4, x4), (60, .bool x60)]⟩) h := by delta s112_2; exact hk0_app _ _ _ _
theorem s112_2_eq (hk : Hk (Value × AHeap)) (C : ACall) (N : Nat) (x0 : Value) (x3 : Int) (x4 : Value) (x60 : Bool) (h : AHeap) : F112_2 hk C N (⟨95, [(0, x0), (3, .int .i64 x3), (4, x4), (60, .bool x60)]⟩) h =
    bif x60 then (aNil x0).bind fun v51 => (aOff v51 4).bind fun v52 => (aLd1 h v52).bind fun v53 => (aSub h 73 v53 none (some (.int .i64 x3)) 4).bind fun v54 => (aNil x0).bind fun v55 => (aOff v55 4).bind fun v56 => (aSt h v56 v54 1).bind fun h57 => (C 110 [x0] h57).bind fun r58 => (asI .i64 r58.1).bind fun n59 => (C 109 [x0, .string (⟨#[59]⟩)] r58.2).bind fun r60 => (aOff x4 3).bind fun v61 => (aLd1 r60.2 v61).bind fun v62 => (aIdx v62 (.int .i64 0) 1).bind fun v63 => (aLd1 r60.2 v63).bind fun v64 => (asI .i64 v64).bind fun n65 => (aOff x4 3).bind fun v66 => (aLd1 r60.2 v66).bind fun v67 => (aIdx v67 (.int .i64 1) 1).bind fun v68 => (aLd1 r60.2 v68).bind fun v69 => (asI .i64 v69).bind fun n70 => aNewS r60.2 3 [.int .i64 n65, .int .i64 n70, .int .i64 n59] 3 fun p71 h72 => (C 64 [x0, .int .i64 16, .string ⟨#[]⟩, .int .i64 0, p71] h72).bind fun r73 => (asI .i64 r73.1).bind fun n74 => some (.int .i64 n74, r73.2) else s112_3 hk C N x0 h := by kernel_rfl
theorem s112_3_j (C : ACall) (N : Nat) (x0 : Value) (h : AHeap) : s112_3 hk0 C N x0 h = F112_3 hk0 C N (⟨95, [(0, x0)]⟩) h := by delta s112_3; exact hk0_app _ _ _ _
theorem s112_3_eq (hk : Hk (Value × AHeap)) (C : ACall) (N : Nat) (x0 : Value) (h : AHeap) : F112_3 hk C N (⟨95, [(0, x0)]⟩) h =
    (C 156 [x0, .int .i64 2] h).bind fun r75 => some (.int .i64 0, r75.2) := by kernel_rfl
theorem c112 (d : Nat) (args : List Value) (h : AHeap) : call Try.prog Ms (d + 1) 112 args h = evFn hk0 Try.prog (call Try.prog Ms d) M112 d Try.f112 args h := by kernel_rfl

/-! 120 slices.Index[[]string,string] -/
noncomputable def F120_0 (hk : Hk (Value × AHeap)) (C : ACall) (N : Nat) (n1 : Nat) : Nx (Value × AHeap) := evSt hk Try.prog C M120 N Try.f120 [1, 0, 1, 2, 6] [n1]
noncomputable def s120_0 (hk : Hk (Value × AHeap)) (C : ACall) (N : Nat) (n1 : Nat) (x0 : Value) (x1 : ByteArray) (x7 : Int) (x8 : Int) (h : AHeap) := F120_0 hk C N n1 (⟨19, [(0, x0), (1, .string x1), (7, .int .i64 x7), (8, .int .i64 x8)]⟩) h
theorem e120 (hk : Hk (Value × AHeap)) (C : ACall) (N : Nat) (x0 : Value) (x1 : ByteArray) (h : AHeap) : evFn hk Try.prog C M120 N Try.f120 [x0, .string x1] h =
    (aLen x0).bind fun v1 => (asI .i64 v1).bind fun n2 => s120_0 hk C N N x0 x1 n2 0 h := by kernel_rfl
theorem s120_0_eq (hk : Hk (Value × AHeap)) (C : ACall) (N : Nat) (n1 : Nat) (x0 : Value) (x1 : ByteArray) (x7 : Int) (x8 : Int) (h : AHeap) : s120_0 hk C N (n1 + 1) x0 x1 x7 x8 h =
    bif decide (x8 < x7) then (aIdx x0 (.int .i64 x8) 1).bind fun v3 => (aLd1 h v3).bind fun v4 => (asS v4).bind fun t5 => bif x1.toList == t5.toList then some (.int .i64 x8, h) else s120_0 hk C N n1 x0 x1 x7 (IntKind.i64.wrap (x8 + 1)) h else some (.int .i64 (-1), h) := by kernel_rfl
theorem c120 (d : Nat) (args : List Value) (h : AHeap) : call Try.prog Ms (d + 1) 120 args h = evFn hk0 Try.prog (call Try.prog Ms d) M120 d Try.f120 args h := by kernel_rfl

/-! 154 (*loop.example/g00101/impl.parser).is -/
theorem e154 (hk : Hk (Value × AHeap)) (C : ACall) (N : Nat) (x0 : Value) (x1 : ByteArray) (h : AHeap) : evFn hk Try.prog C M154 N Try.f154 [x0, .string x1] h =
    (C 155 [x0] h).bind fun r1 => aNew r1.2 53 [.int .i64 0, .int .i64 0, .string ⟨#[]⟩, .int .i64 0] fun p2 h3 => (aSt h3 p2 r1.1 4).bind fun h4 => (aOff p2 0).bind fun v5 => (aLd1 h4 v5).bind fun v6 => (asI .i64 v6).bind fun n7 => bif n7 == 5 then (aOff p2 2).bind fun v8 => (aLd1 h4 v8).bind fun v9 => (asS v9).bind fun t10 => some (.bool (t10.toList == x1.toList), h4) else (aOff p2 0).bind fun v11 => (aLd1 h4 v11).bind fun v12 => (asI .i64 v12).bind fun n13 => bif n13 == 2 then (aOff p2 2).bind fun v14 => (aLd1 h4 v14).bind fun v15 => (asS v15).bind fun t16 => some (.bool (t16.toList == x1.toList), h4) else some (.bool false, h4) := by kernel_rfl
theorem c154 (d : Nat) (args : List Value) (h : AHeap) : call Try.prog Ms (d + 1) 154 args h = evFn hk0 Try.prog (call Try.prog Ms d) M154 d Try.f154 args h := by kernel_rfl

/-! 155 (*loop.example/g00101/impl.parser).peek -/
noncomputable def F155_0 (hk : Hk (Value × AHeap)) (C : ACall) (N : Nat) : Nx (Value × AHeap) := evSt hk Try.prog C M155 N Try.f155 [1, 0, 1] []
noncomputable def s155_0 (hk : Hk (Value × AHeap)) (C : ACall) (N : Nat) (x0 : Value) (x2 : Value) (x19 : Bool) (h : AHeap) := hk 100002 (⟨35, [(0, x0), (2, x2), (19, .bool x19)]⟩) h (F155_0 hk C N)
noncomputable def F155_1 (hk : Hk (Value × AHeap)) (C : ACall) (N : Nat) : Nx (Value × AHeap) := evSt hk Try.prog C M155 N Try.f155 [1, 1] []
noncomputable def s155_1 (hk : Hk (Value × AHeap)) (C : ACall) (N : Nat) (x0 : Value) (x2 : Value) (h : AHeap) := hk 3 (⟨35, [(0, x0), (2, x2)]⟩) h (F155_1 hk C N)
theorem e155 (hk : Hk (Value × AHeap)) (C : ACall) (N : Nat) (x0 : Value) (h : AHeap) : evFn hk Try.prog C M155 N Try.f155 [x0] h =
    aNew h 53 [.int .i64 0, .int .i64 0, .string ⟨#[]⟩, .int .i64 0] fun p1 h2 => (aNil x0).bind fun v3 => (aOff v3 5).bind fun v4 => (aLd1 h2 v4).bind fun v5 => (asI .i64 v5).bind fun n6 => bif n6 != 0 then s155_0 hk C N x0 p1 true h2 else (aNil x0).bind fun v7 => (aOff v7 1).bind fun v8 => (aLd1 h2 v8).bind fun v9 => (asI .i64 v9).bind fun n10 => (aNil x0).bind fun v11 => (aOff v11 0).bind fun v12 => (aLd1 h2 v12).bind fun v13 => (aLen v13).bind fun v14 => (asI .i64 v14).bind fun n15 => s155_0 hk C N x0 p1 (decide (n10 ≥ n15)) h2 := by kernel_rfl
theorem s155_0_j (C : ACall) (N : Nat) (x0 : Value) (x2 : Value) (x19 : Bool) (h : AHeap) : s155_0 hk0 C N x0 x2 x19 h = F155_0 hk0 C N (⟨35, [(0, x0), (2, x2), (19, .bool x19)]⟩) h := by delta s155_0; exact hk0_app _ _ _ _
theorem s155_0_eq (hk : Hk (Value × AHeap)) (C : ACall) (N : Nat) (x0 : Value) (x2 : Value) (x19 : Bool) (h : AHeap) : F155_0 hk C N (⟨35, [(0, x0), (2, x2), (19, .bool x19)]⟩) h =
    bif x19 then (aNil x0).bind fun v16 => (aOff v16 2).bind fun v17 => (aLd1 h v17).bind fun v18 => (asI .i64 v18).bind fun n19 => (aSt h x2 (.agg (List.toArray [.int .i64 0, .int .i64 n19, .string ⟨#[]⟩, .int .i64 0])) 4).bind fun h20 => (aLdN h20 x2 4).bind fun v21 => some (v21, h20) else s155_1 hk C N x0 x2 h := by kernel_rfl
theorem s155_1_j (C : ACall) (N : Nat) (x0 : Value) (x2 : Value) (h : AHeap) : s155_1 hk0 C N x0 x2 h = F155_1 hk0 C N (⟨35, [(0, x0), (2, x2)]⟩) h := by delta s155_1; exact hk0_app _ _ _ _
theorem s155_1_eq (hk : Hk (Value × AHeap)) (C : ACall) (N : Nat) (x0 : Value) (x2 : Value) (h : AHeap) : F155_1 hk C N (⟨35, [(0, x0), (2, x2)]⟩) h =
    (aNil x0).bind fun v22 => (aOff v22 0).bind fun v23 => (aLd1 h v23).bind fun v24 => (aNil x0).bind fun v25 => (aOff v25 1).bind fun v26 => (aLd1 h v26).bind fun v27 => (asI .i64 v27).bind fun n28 => (aIdx v24 (.int .i64 n28) 4).bind fun v29 => (aLdN h v29 4).bind fun v30 => (aSt h x2 v30 4).bind fun h31 => (aLdN h31 x2 4).bind fun v32 => some (v32, h31) := by kernel_rfl
theorem c155 (d : Nat) (args : List Value) (h : AHeap) : call Try.prog Ms (d + 1) 155 args h = evFn hk0 Try.prog (call Try.prog Ms d) M155 d Try.f155 args h := by kernel_rfl

/-! 156 (*loop.example/g00101/impl.parser).fail -/
theorem e156 (hk : Hk (Value × AHeap)) (C : ACall) (N : Nat) (x0 : Value) (x1 : Int) (h : AHeap) : evFn hk Try.prog C M156 N Try.f156 [x0, .int .i64 x1] h =
    (aNil x0).bind fun v1 => (aOff v1 5).bind fun v2 => (aLd1 h v2).bind fun v3 => (asI .i64 v3).bind fun n4 => bif n4 == 0 then (C 155 [x0] h).bind fun r5 => (aPart r5.1 1 1 false).bind fun v6 => (asI .i64 v6).bind fun n7 => (aNil x0).bind fun v8 => (aOff v8 6).bind fun v9 => (aSt r5.2 v9 (.int .i64 n7) 1).bind fun h10 => (aNil x0).bind fun v11 => (aOff v11 5).bind fun v12 => (aSt h10 v12 (.int .i64 x1) 1).bind fun h13 => some (.tuple (List.toArray []), h13) else some (.tuple (List.toArray []), h) := by kernel_rfl
theorem c156 (d : Nat) (args : List Value) (h : AHeap) : call Try.prog Ms (d + 1) 156 args h = evFn hk0 Try.prog (call Try.prog Ms d) M156 d Try.f156 args h := by kernel_rfl

/-! 157 (*loop.example/g00101/impl.parser).open -/
noncomputable def F157_0 (hk : Hk (Value × AHeap)) (C : ACall) (N : Nat) : Nx (Value × AHeap) := evSt hk Try.prog C M157 N Try.f157 [0, 1] []
noncomputable def s157_0 (hk : Hk (Value × AHeap)) (C : ACall) (N : Nat) (x0 : Value) (x12 : Bool) (h : AHeap) := hk 100001 (⟨22, [(0, x0), (12, .bool x12)]⟩) h (F157_0 hk C N)
noncomputable def F157_1 (hk : Hk (Value × AHeap)) (C : ACall) (N : Nat) : Nx (Value × AHeap) := evSt hk Try.prog C M157 N Try.f157 [1] []
noncomputable def s157_1 (hk : Hk (Value × AHeap)) (C : ACall) (N : Nat) (x0 : Value) (h : AHeap) := hk 2 (⟨22, [(0, x0)]⟩) h (F157_1 hk C N)
theorem e157 (hk : Hk (Value × AHeap)) (C : ACall) (N : Nat) (x0 : Value) (h : AHeap) : evFn hk Try.prog C M157 N Try.f157 [x0] h =
    (C 155 [x0] h).bind fun r1 => (aPart r1.1 0 1 false).bind fun v2 => (asI .i64 v2).bind fun n3 => bif n3 != 0 then (aNil x0).bind fun v4 => (aOff v4 3).bind fun v5 => (aLd1 r1.2 v5).bind fun v6 => (asI .i64 v6).bind fun n7 => s157_0 hk C N x0 (n7 == 30) r1.2 else s157_0 hk C N x0 false r1.2 := by kernel_rfl
theorem s157_0_j (C : ACall) (N : Nat) (x0 : Value) (x12 : Bool) (h : AHeap) : s157_0 hk0 C N x0 x12 h = F157_0 hk0 C N (⟨22, [(0, x0), (12, .bool x12)]⟩) h := by delta s157_0; exact hk0_app _ _ _ _
theorem s157_0_eq (hk : Hk (Value × AHeap)) (C : ACall) (N : Nat) (x0 : Value) (x12 : Bool) (h : AHeap) : F157_0 hk C N (⟨22, [(0, x0), (12, .bool x12)]⟩) h =
    bif x12 then (C 156 [x0, .int .i64 3] h).bind fun r8 => s157_1 hk C N x0 r8.2 else s157_1 hk C N x0 h := by kernel_rfl
theorem s157_1_j (C : ACall) (N : Nat) (x0 : Value) (h : AHeap) : s157_1 hk0 C N x0 h = F157_1 hk0 C N (⟨22, [(0, x0)]⟩) h := by delta s157_1; exact hk0_app _ _ _ _
theorem s157_1_eq (hk : Hk (Value × AHeap)) (C : ACall) (N : Nat) (x0 : Value) (h : AHeap) : F157_1 hk C N (⟨22, [(0, x0)]⟩) h =
    (aNil x0).bind fun v9 => (aOff v9 3).bind fun v10 => (aLd1 h v10).bind fun v11 => (asI .i64 v11).bind fun n12 => (aNil x0).bind fun v13 => (aOff v13 3).bind fun v14 => (aSt h v14 (.int .i64 (IntKind.i64.wrap (n12 + 1))) 1).bind fun h15 => some (.tuple (List.toArray []), h15) := by kernel_rfl
theorem c157 (d : Nat) (args : List Value) (h : AHeap) : call Try.prog Ms (d + 1) 157 args h = evFn hk0 Try.prog (call Try.prog Ms d) M157 d Try.f157 args h := by kernel_rfl

/-! 158 (*loop.example/g00101/impl.parser).or -/
noncomputable def F158_0 (hk : Hk (Value × AHeap)) (C : ACall) (N : Nat) (n1 : Nat) : Nx (Value × AHeap) := evSt hk Try.prog C M158 N Try.f158 [1, 1, 0, 2, 6] [n1]
noncomputable def s158_0 (hk : Hk (Value × AHeap)) (C : ACall) (N : Nat) (n1 : Nat) (x0 : Value) (x3 : Int) (h : AHeap) := F158_0 hk C N n1 (⟨17, [(0, x0), (3, .int .i64 x3)]⟩) h
theorem e158 (hk : Hk (Value × AHeap)) (C : ACall) (N : Nat) (x0 : Value) (h : AHeap) : evFn hk Try.prog C M158 N Try.f158 [x0] h =
    (C 188 [x0] h).bind fun r1 => (asI .i64 r1.1).bind fun n2 => s158_0 hk C N N x0 n2 r1.2 := by kernel_rfl
theorem s158_0_eq (hk : Hk (Value × AHeap)) (C : ACall) (N : Nat) (n1 : Nat) (x0 : Value) (x3 : Int) (h : AHeap) : s158_0 hk C N (n1 + 1) x0 x3 h =
    (C 107 [x0, .string (⟨#[111, 114]⟩)] h).bind fun r3 => (asB r3.1).bind fun b4 => bif b4 then (C 188 [x0] r3.2).bind fun r5 => (asI .i64 r5.1).bind fun n6 => aNewS r5.2 3 [.int .i64 x3, .int .i64 n6] 2 fun p7 h8 => (C 64 [x0, .int .i64 13, .string ⟨#[]⟩, .int .i64 0, p7] h8).bind fun r9 => (asI .i64 r9.1).bind fun n10 => s158_0 hk C N n1 x0 n10 r9.2 else some (.int .i64 x3, r3.2) := by kernel_rfl
theorem c158 (d : Nat) (args : List Value) (h : AHeap) : call Try.prog Ms (d + 1) 158 args h = evFn hk0 Try.prog (call Try.prog Ms d) M158 d Try.f158 args h := by kernel_rfl

/-! 172 loop.example/g00101/impl.opTexts -/
theorem e172 (hk : Hk (Value × AHeap)) (C : ACall) (N : Nat) (h : AHeap) : evFn hk Try.prog C M172 N Try.f172 [] h =
    aNewS h 9 [.string (⟨#[43]⟩), .string (⟨#[45]⟩), .string (⟨#[42]⟩), .string (⟨#[47]⟩), .string (⟨#[37]⟩), .string (⟨#[46, 46]⟩), .string (⟨#[61, 61]⟩), .string (⟨#[126, 61]⟩), .string (⟨#[60]⟩), .string (⟨#[60, 61]⟩)] 10 fun p1 h2 => some (p1, h2) := by kernel_rfl
theorem c172 (d : Nat) (args : List Value) (h : AHeap) : call Try.prog Ms (d + 1) 172 args h = evFn hk0 Try.prog (call Try.prog Ms d) M172 d Try.f172 args h := by kernel_rfl

/-! 188 (*loop.example/g00101/impl.parser).and -/
noncomputable def F188_0 (hk : Hk (Value × AHeap)) (C : ACall) (N : Nat) (n1 : Nat) : Nx (Value × AHeap) := evSt hk Try.prog C M188 N Try.f188 [1, 1, 0, 2, 6] [n1]
noncomputable def s188_0 (hk : Hk (Value × AHeap)) (C : ACall) (N : Nat) (n1 : Nat) (x0 : Value) (x3 : Int) (h : AHeap) := F188_0 hk C N n1 (⟨17, [(0, x0), (3, .int .i64 x3)]⟩) h
theorem e188 (hk : Hk (Value × AHeap)) (C : ACall) (N : Nat) (x0 : Value) (h : AHeap) : evFn hk Try.prog C M188 N Try.f188 [x0] h =
    (C 203 [x0] h).bind fun r1 => (asI .i64 r1.1).bind fun n2 => s188_0 hk C N N x0 n2 r1.2 := by kernel_rfl
theorem s188_0_eq (hk : Hk (Value × AHeap)) (C : ACall) (N : Nat) (n1 : Nat) (x0 : Value) (x3 : Int) (h : AHeap) : s188_0 hk C N (n1 + 1) x0 x3 h =
    (C 107 [x0, .string (⟨#[97, 110, 100]⟩)] h).bind fun r3 => (asB r3.1).bind fun b4 => bif b4 then (C 203 [x0] r3.2).bind fun r5 => (asI .i64 r5.1).bind fun n6 => aNewS r5.2 3 [.int .i64 x3, .int .i64 n6] 2 fun p7 h8 => (C 64 [x0, .int .i64 12, .string ⟨#[]⟩, .int .i64 0, p7] h8).bind fun r9 => (asI .i64 r9.1).bind fun n10 => s188_0 hk C N n1 x0 n10 r9.2 else some (.int .i64 x3, r3.2) := by kernel_rfl
theorem c188 (d : Nat) (args : List Value) (h : AHeap) : call Try.prog Ms (d + 1) 188 args h = evFn hk0 Try.prog (call Try.prog Ms d) M188 d Try.f188 args h := by kernel_rfl
end Go.Proofs.Ytadmoackacickaa
set_option linter.unusedVariables false
namespace Go.Proofs.Ytadmoackacickaa
open Go Go.AH
/-! 203 (*loop.example/g00101/impl.parser).compare -/
theorem e203 (hk : Hk (Value × AHeap)) (C : ACall) (N : Nat) (x0 : Value) (h : AHeap) : evFn hk Try.prog C M203 N Try.f203 [x0] h =
    (C 220 [x0] h).bind fun r1 => (asI .i64 r1.1).bind fun n2 => aNewS r1.2 9 [.string (⟨#[61, 61]⟩), .string (⟨#[126, 61]⟩), .string (⟨#[60]⟩), .string (⟨#[60, 61]⟩)] 4 fun p3 h4 => (C 221 [x0, p3] h4).bind fun r5 => (asI .i64 r5.1).bind fun n6 => bif n6 == 0 then some (.int .i64 n2, r5.2) else (aNil x0).bind fun v7 => (aOff v7 1).bind fun v8 => (aLd1 r5.2 v8).bind fun v9 => (asI .i64 v9).bind fun n10 => (aNil x0).bind fun v11 => (aOff v11 1).bind fun v12 => (aSt r5.2 v12 (.int .i64 (IntKind.i64.wrap (n10 + 1))) 1).bind fun h13 => (C 220 [x0] h13).bind fun r14 => (asI .i64 r14.1).bind fun n15 => aNewS r14.2 3 [.int .i64 n2, .int .i64 n15] 2 fun p16 h17 => (C 64 [x0, .int .i64 10, .string ⟨#[]⟩, .int .i64 n6, p16] h17).bind fun r18 => (asI .i64 r18.1).bind fun n19 => some (.int .i64 n19, r18.2) := by kernel_rfl
theorem c203 (d : Nat) (args : List Value) (h : AHeap) : call Try.prog Ms (d + 1) 203 args h = evFn hk0 Try.prog (call Try.prog Ms d) M203 d Try.f203 args h := by kernel_rfl

/-! 220 (*loop.example/g00101/impl.parser).join -/
theorem e220 (hk : Hk (Value × AHeap)) (C : ACall) (N : Nat) (x0 : Value) (h : AHeap) : evFn hk Try.prog C M220 N Try.f220 [x0] h =
    (aFn 232 [x0] []).bind fun v1 => aNewS h 9 [.string (⟨#[46, 46]⟩)] 1 fun p2 h3 => (C 231 [x0, v1, p2] h3).bind fun r4 => (asI .i64 r4.1).bind fun n5 => some (.int .i64 n5, r4.2) := by kernel_rfl
theorem c220 (d : Nat) (args : List Value) (h : AHeap) : call Try.prog Ms (d + 1) 220 args h = evFn hk0 Try.prog (call Try.prog Ms d) M220 d Try.f220 args h := by kernel_rfl

/-! 221 (*loop.example/g00101/impl.parser).opOf -/
noncomputable def F221_0 (hk : Hk (Value × AHeap)) (C : ACall) (N : Nat) (n1 : Nat) : Nx (Value × AHeap) := evSt hk Try.prog C M221 N Try.f221 [1, 0, 1, 2, 6] [n1]
noncomputable def s221_0 (hk : Hk (Value × AHeap)) (C : ACall) (N : Nat) (n1 : Nat) (x0 : Value) (x7 : Value) (x8 : Int) (x9 : Int) (h : AHeap) := F221_0 hk C N n1 (⟨21, [(0, x0), (7, x7), (8, .int .i64 x8), (9, .int .i64 x9)]⟩) h
theorem e221 (hk : Hk (Value × AHeap)) (C : ACall) (N : Nat) (x0 : Value) (x1 : Value) (h : AHeap) : evFn hk Try.prog C M221 N Try.f221 [x0, x1] h =
    (aLen x1).bind fun v1 => (asI .i64 v1).bind fun n2 => s221_0 hk C N N x0 x1 n2 0 h := by kernel_rfl
theorem s221_0_eq (hk : Hk (Value × AHeap)) (C : ACall) (N : Nat) (n1 : Nat) (x0 : Value) (x7 : Value) (x8 : Int) (x9 : Int) (h : AHeap) : s221_0 hk C N (n1 + 1) x0 x7 x8 x9 h =
    bif decide (x9 < x8) then (aIdx x7 (.int .i64 x9) 1).bind fun v3 => (aLd1 h v3).bind fun v4 => (asS v4).bind fun t5 => (C 154 [x0, .string t5] h).bind fun r6 => (asB r6.1).bind fun b7 => bif b7 then (C 172 [] r6.2).bind fun r8 => (C 120 [r8.1, .string t5] r8.2).bind fun r9 => (asI .i64 r9.1).bind fun n10 => some (.int .i64 (IntKind.i64.wrap (1 + n10)), r9.2) else s221_0 hk C N n1 x0 x7 x8 (IntKind.i64.wrap (x9 + 1)) r6.2 else some (.int .i64 0, h) := by kernel_rfl
theorem c221 (d : Nat) (args : List Value) (h : AHeap) : call Try.prog Ms (d + 1) 221 args h = evFn hk0 Try.prog (call Try.prog Ms d) M221 d Try.f221 args h := by kernel_rfl

/-! 231 (*loop.example/g00101/impl.parser).row -/
noncomputable def F231_0 (hk : Hk (Value × AHeap)) (C : ACall) (N : Nat) (n1 : Nat) : Nx (Value × AHeap) := evSt hk Try.prog C M231 N Try.f231 [1, 1, 2, 6] [n1]
noncomputable def s231_0 (hk : Hk (Value × AHeap)) (C : ACall) (N : Nat) (n1 : Nat) (x0 : Value) (x1 : Value) (x2 : Value) (x7 : Int) (h : AHeap) := F231_0 hk C N n1 (⟨33, [(0, x0), (1, x1), (2, x2), (7, .int .i64 x7)]⟩) h
theorem e231 (hk : Hk (Value × AHeap)) (C : ACall) (N : Nat) (x0 : Value) (x1 : Value) (x2 : Value) (h : AHeap) : evFn hk Try.prog C M231 N Try.f231 [x0, x1, x2] h =
    (aCallV C x1 [] h).bind fun r1 => (asI .i64 r1.1).bind fun n2 => s231_0 hk C N N x0 x1 x2 n2 r1.2 := by kernel_rfl
theorem s231_0_eq (hk : Hk (Value × AHeap)) (C : ACall) (N : Nat) (n1 : Nat) (x0 : Value) (x1 : Value) (x2 : Value) (x7 : Int) (h : AHeap) : s231_0 hk C N (n1 + 1) x0 x1 x2 x7 h =
    (C 221 [x0, x2] h).bind fun r3 => (asI .i64 r3.1).bind fun n4 => bif n4 == 0 then some (.int .i64 x7, r3.2) else (aNil x0).bind fun v5 => (aOff v5 1).bind fun v6 => (aLd1 r3.2 v6).bind fun v7 => (asI .i64 v7).bind fun n8 => (aNil x0).bind fun v9 => (aOff v9 1).bind fun v10 => (aSt r3.2 v10 (.int .i64 (IntKind.i64.wrap (n8 + 1))) 1).bind fun h11 => (aCallV C x1 [] h11).bind fun r12 => (asI .i64 r12.1).bind fun n13 => aNewS r12.2 3 [.int .i64 x7, .int .i64 n13] 2 fun p14 h15 => (C 64 [x0, .int .i64 10, .string ⟨#[]⟩, .int .i64 n4, p14] h15).bind fun r16 => (asI .i64 r16.1).bind fun n17 => s231_0 hk C N n1 x0 x1 x2 n17 r16.2 := by kernel_rfl
theorem c231 (d : Nat) (args : List Value) (h : AHeap) : call Try.prog Ms (d + 1) 231 args h = evFn hk0 Try.prog (call Try.prog Ms d) M231 d Try.f231 args h := by kernel_rfl

/-! 232 (*loop.example/g00101/impl.parser).sum -/
theorem e232 (hk : Hk (Value × AHeap)) (C : ACall) (N : Nat) (x0 : Value) (h : AHeap) : evFn hk Try.prog C M232 N Try.f232 [x0] h =
    (aFn 238 [x0] []).bind fun v1 => aNewS h 9 [.string (⟨#[43]⟩), .string (⟨#[45]⟩)] 2 fun p2 h3 => (C 231 [x0, v1, p2] h3).bind fun r4 => (asI .i64 r4.1).bind fun n5 => some (.int .i64 n5, r4.2) := by kernel_rfl
theorem c232 (d : Nat) (args : List Value) (h : AHeap) : call Try.prog Ms (d + 1) 232 args h = evFn hk0 Try.prog (call Try.prog Ms d) M232 d Try.f232 args h := by kernel_rfl

/-! 238 (*loop.example/g00101/impl.parser).product -/
theorem e238 (hk : Hk (Value × AHeap)) (C : ACall) (N : Nat) (x0 : Value) (h : AHeap) : evFn hk Try.prog C M238 N Try.f238 [x0] h =
    (aFn 241 [x0] []).bind fun v1 => aNewS h 9 [.string (⟨#[42]⟩), .string (⟨#[47]⟩), .string (⟨#[37]⟩)] 3 fun p2 h3 => (C 231 [x0, v1, p2] h3).bind fun r4 => (asI .i64 r4.1).bind fun n5 => some (.int .i64 n5, r4.2) := by kernel_rfl
theorem c238 (d : Nat) (args : List Value) (h : AHeap) : call Try.prog Ms (d + 1) 238 args h = evFn hk0 Try.prog (call Try.prog Ms d) M238 d Try.f238 args h := by kernel_rfl

/-! 241 (*loop.example/g00101/impl.parser).unary -/
noncomputable def F241_0 (hk : Hk (Value × AHeap)) (C : ACall) (N : Nat) : Nx (Value × AHeap) := evSt hk Try.prog C M241 N Try.f241 [1, 1, 1] []
noncomputable def s241_0 (hk : Hk (Value × AHeap)) (C : ACall) (N : Nat) (x0 : Value) (x3 : Int) (h : AHeap) := hk 9 (⟨39, [(0, x0), (3, .int .i64 x3)]⟩) h (F241_0 hk C N)
theorem e241 (hk : Hk (Value × AHeap)) (C : ACall) (N : Nat) (x0 : Value) (h : AHeap) : evFn hk Try.prog C M241 N Try.f241 [x0] h =
    (C 154 [x0, .string (⟨#[45]⟩)] h).bind fun r1 => (asB r1.1).bind fun b2 => bif b2 then s241_0 hk C N x0 1 r1.2 else (C 154 [x0, .string (⟨#[110, 111, 116]⟩)] r1.2).bind fun r3 => (asB r3.1).bind fun b4 => bif b4 then s241_0 hk C N x0 2 r3.2 else (C 154 [x0, .string (⟨#[35]⟩)] r3.2).bind fun r5 => (asB r5.1).bind fun b6 => bif b6 then s241_0 hk C N x0 3 r5.2 else (C 242 [x0] r5.2).bind fun r7 => (asI .i64 r7.1).bind fun n8 => some (.int .i64 n8, r7.2) := by kernel_rfl
theorem s241_0_j (C : ACall) (N : Nat) (x0 : Value) (x3 : Int) (h : AHeap) : s241_0 hk0 C N x0 x3 h = F241_0 hk0 C N (⟨39, [(0, x0), (3, .int .i64 x3)]⟩) h := by delta s241_0; exact hk0_app _ _ _ _
theorem s241_0_eq (hk : Hk (Value × AHeap)) (C : ACall) (N : Nat) (x0 : Value) (x3 : Int) (h : AHeap) : F241_0 hk C N (⟨39, [(0, x0), (3, .int .i64 x3)]⟩) h =
    (C 157 [x0] h).bind fun r9 => (aNil x0).bind fun v10 => (aOff v10 1).bind fun v11 => (aLd1 r9.2 v11).bind fun v12 => (asI .i64 v12).bind fun n13 => (aNil x0).bind fun v14 => (aOff v14 1).bind fun v15 => (aSt r9.2 v15 (.int .i64 (IntKind.i64.wrap (n13 + 1))) 1).bind fun h16 => (C 241 [x0] h16).bind fun r17 => (asI .i64 r17.1).bind fun n18 => (aNil x0).bind fun v19 => (aOff v19 3).bind fun v20 => (aLd1 r17.2 v20).bind fun v21 => (asI .i64 v21).bind fun n22 => (aNil x0).bind fun v23 => (aOff v23 3).bind fun v24 => (aSt r17.2 v24 (.int .i64 (IntKind.i64.wrap (n22 - 1))) 1).bind fun h25 => aNewS h25 3 [.int .i64 n18] 1 fun p26 h27 => (C 64 [x0, .int .i64 11, .string ⟨#[]⟩, .int .i64 x3, p26] h27).bind fun r28 => (asI .i64 r28.1).bind fun n29 => some (.int .i64 n29, r28.2) := by kernel_rfl
theorem c241 (d : Nat) (args : List Value) (h : AHeap) : call Try.prog Ms (d + 1) 241 args h = evFn hk0 Try.prog (call Try.prog Ms d) M241 d Try.f241 args h := by kernel_rfl

/-! 242 (*loop.example/g00101/impl.parser).behind -/
noncomputable def F242_0 (hk : Hk (Value × AHeap)) (C : ACall) (N : Nat) (n1 : Nat) : Nx (Value × AHeap) := evSt hk Try.prog C M242 N Try.f242 [1, 1, 2, 6] [n1]
noncomputable def s242_0 (hk : Hk (Value × AHeap)) (C : ACall) (N : Nat) (n1 : Nat) (x0 : Value) (x3 : Int) (h : AHeap) := F242_0 hk C N n1 (⟨47, [(0, x0), (3, .int .i64 x3)]⟩) h
theorem e242 (hk : Hk (Value × AHeap)) (C : ACall) (N : Nat) (x0 : Value) (h : AHeap) : evFn hk Try.prog C M242 N Try.f242 [x0] h =
    (C 243 [x0] h).bind fun r1 => (asI .i64 r1.1).bind fun n2 => s242_0 hk C N N x0 n2 r1.2 := by kernel_rfl
theorem s242_0_eq (hk : Hk (Value × AHeap)) (C : ACall) (N : Nat) (n1 : Nat) (x0 : Value) (x3 : Int) (h : AHeap) : s242_0 hk C N (n1 + 1) x0 x3 h =
    (C 107 [x0, .string (⟨#[91]⟩)] h).bind fun r3 => (asB r3.1).bind fun b4 => bif b4 then (C 110 [x0] r3.2).bind fun r5 => (asI .i64 r5.1).bind fun n6 => (C 109 [x0, .string (⟨#[93]⟩)] r5.2).bind fun r7 => aNewS r7.2 3 [.int .i64 x3, .int .i64 n6] 2 fun p8 h9 => (C 64 [x0, .int .i64 8, .string ⟨#[]⟩, .int .i64 0, p8] h9).bind fun r10 => (asI .i64 r10.1).bind fun n11 => s242_0 hk C N n1 x0 n11 r10.2 else (C 107 [x0, .string (⟨#[46]⟩)] r3.2).bind fun r12 => (asB r12.1).bind fun b13 => bif b13 then (C 108 [x0] r12.2).bind fun r14 => (asS r14.1).bind fun t15 => (C 64 [x0, .int .i64 4, .string t15, .int .i64 0, (.slice none 0 0)] r14.2).bind fun r16 => (asI .i64 r16.1).bind fun n17 => aNewS r16.2 3 [.int .i64 x3, .int .i64 n17] 2 fun p18 h19 => (C 64 [x0, .int .i64 8, .string ⟨#[]⟩, .int .i64 0, p18] h19).bind fun r20 => (asI .i64 r20.1).bind fun n21 => s242_0 hk C N n1 x0 n21 r20.2 else (C 154 [x0, .string (⟨#[40]⟩)] r12.2).bind fun r22 => (asB r22.1).bind fun b23 => bif b23 then aNewS r22.2 3 [.int .i64 x3] 1 fun p24 h25 => (C 244 [x0] h25).bind fun r26 => (aApp r26.2 3 1 8 p24 r26.1).bind fun r27 => (C 64 [x0, .int .i64 9, .string ⟨#[]⟩, .int .i64 0, r27.1] r27.2).bind fun r28 => (asI .i64 r28.1).bind fun n29 => s242_0 hk C N n1 x0 n29 r28.2 else some (.int .i64 x3, r22.2) := by kernel_rfl
theorem c242 (d : Nat) (args : List Value) (h : AHeap) : call Try.prog Ms (d + 1) 242 args h = evFn hk0 Try.prog (call Try.prog Ms d) M242 d Try.f242 args h := by kernel_rfl

/-! 243 (*loop.example/g00101/impl.parser).primary -/
theorem e243 (hk : Hk (Value × AHeap)) (C : ACall) (N : Nat) (x0 : Value) (h : AHeap) : evFn hk Try.prog C M243 N Try.f243 [x0] h =
    (C 155 [x0] h).bind fun r1 => aNew r1.2 53 [.int .i64 0, .int .i64 0, .string ⟨#[]⟩, .int .i64 0] fun p2 h3 => (aSt h3 p2 r1.1 4).bind fun h4 => (aOff p2 0).bind fun v5 => (aLd1 h4 v5).bind fun v6 => (asI .i64 v6).bind fun n7 => bif n7 == 3 then (aNil x0).bind fun v8 => (aOff v8 1).bind fun v9 => (aLd1 h4 v9).bind fun v10 => (asI .i64 v10).bind fun n11 => (aNil x0).bind fun v12 => (aOff v12 1).bind fun v13 => (aSt h4 v13 (.int .i64 (IntKind.i64.wrap (n11 + 1))) 1).bind fun h14 => (aOff p2 3).bind fun v15 => (aLd1 h14 v15).bind fun v16 => (asI .i64 v16).bind fun n17 => (C 64 [x0, .int .i64 3, .string ⟨#[]⟩, .int .i64 n17, (.slice none 0 0)] h14).bind fun r18 => (asI .i64 r18.1).bind fun n19 => some (.int .i64 n19, r18.2) else bif n7 == 4 then (aNil x0).bind fun v20 => (aOff v20 1).bind fun v21 => (aLd1 h4 v21).bind fun v22 => (asI .i64 v22).bind fun n23 => (aNil x0).bind fun v24 => (aOff v24 1).bind fun v25 => (aSt h4 v25 (.int .i64 (IntKind.i64.wrap (n23 + 1))) 1).bind fun h26 => (aOff p2 2).bind fun v27 => (aLd1 h26 v27).bind fun v28 => (asS v28).bind fun t29 => (C 64 [x0, .int .i64 4, .string t29, .int .i64 0, (.slice none 0 0)] h26).bind fun r30 => (asI .i64 r30.1).bind fun n31 => some (.int .i64 n31, r30.2) else bif n7 == 1 then (aNil x0).bind fun v32 => (aOff v32 1).bind fun v33 => (aLd1 h4 v33).bind fun v34 => (asI .i64 v34).bind fun n35 => (aNil x0).bind fun v36 => (aOff v36 1).bind fun v37 => (aSt h4 v37 (.int .i64 (IntKind.i64.wrap (n35 + 1))) 1).bind fun h38 => (aOff p2 2).bind fun v39 => (aLd1 h38 v39).bind fun v40 => (asS v40).bind fun t41 => (C 64 [x0, .int .i64 5, .string t41, .int .i64 0, (.slice none 0 0)] h38).bind fun r42 => (asI .i64 r42.1).bind fun n43 => some (.int .i64 n43, r42.2) else (C 107 [x0, .string (⟨#[110, 105, 108]⟩)] h4).bind fun r44 => (asB r44.1).bind fun b45 => bif b45 then (C 64 [x0, .int .i64 1, .string ⟨#[]⟩, .int .i64 0, (.slice none 0 0)] r44.2).bind fun r46 => (asI .i64 r46.1).bind fun n47 => some (.int .i64 n47, r46.2) else (C 107 [x0, .string (⟨#[116, 114, 117, 101]⟩)] r44.2).bind fun r48 => (asB r48.1).bind fun b49 => bif b49 then (C 64 [x0, .int .i64 2, .string ⟨#[]⟩, .int .i64 1, (.slice none 0 0)] r48.2).bind fun r50 => (asI .i64 r50.1).bind fun n51 => some (.int .i64 n51, r50.2) else (C 107 [x0, .string (⟨#[102, 97, 108, 115, 101]⟩)] r48.2).bind fun r52 => (asB r52.1).bind fun b53 => bif b53 then (C 64 [x0, .int .i64 2, .string ⟨#[]⟩, .int .i64 0, (.slice none 0 0)] r52.2).bind fun r54 => (asI .i64 r54.1).bind fun n55 => some (.int .i64 n55, r54.2) else (C 107 [x0, .string (⟨#[40]⟩)] r52.2).bind fun r56 => (asB r56.1).bind fun b57 => bif b57 then (C 110 [x0] r56.2).bind fun r58 => (asI .i64 r58.1).bind fun n59 => (C 109 [x0, .string (⟨#[41]⟩)] r58.2).bind fun r60 => some (.int .i64 n59, r60.2) else (C 107 [x0, .string (⟨#[102, 110]⟩)] r56.2).bind fun r61 => (asB r61.1).bind fun b62 => bif b62 then (C 245 [x0] r61.2).bind fun r63 => (asI .i64 r63.1).bind fun n64 => some (.int .i64 n64, r63.2) else (C 154 [x0, .string (⟨#[123]⟩)] r61.2).bind fun r65 => (asB r65.1).bind fun b66 => bif b66 then (C 246 [x0] r65.2).bind fun r67 => (asI .i64 r67.1).bind fun n68 => some (.int .i64 n68, r67.2) else (C 156 [x0, .int .i64 2] r65.2).bind fun r69 => some (.int .i64 0, r69.2) := by kernel_rfl
theorem c243 (d : Nat) (args : List Value) (h : AHeap) : call Try.prog Ms (d + 1) 243 args h = evFn hk0 Try.prog (call Try.prog Ms d) M243 d Try.f243 args h := by kernel_rfl

/-! 244 (*loop.example/g00101/impl.parser).args -/
noncomputable def F244_0 (hk : Hk (Value × AHeap)) (C : ACall) (N : Nat) (n1 : Nat) : Nx (Value × AHeap) := evSt hk Try.prog C M244 N Try.f244 [1, 1, 1, 1, 2, 6] [n1]
noncomputable def s244_0 (hk : Hk (Value × AHeap)) (C : ACall) (N : Nat) (n1 : Nat) (x0 : Value) (x3 : Value) (h : AHeap) := F244_0 hk C N n1 (⟨23, [(0, x0), (3, x3)]⟩) h
theorem e244 (hk : Hk (Value × AHeap)) (C : ACall) (N : Nat) (x0 : Value) (h : AHeap) : evFn hk Try.prog C M244 N Try.f244 [x0] h =
    (C 109 [x0, .string (⟨#[40]⟩)] h).bind fun r1 => aNewS r1.2 3 [] 0 fun p2 h3 => (C 107 [x0, .string (⟨#[41]⟩)] h3).bind fun r4 => (asB r4.1).bind fun b5 => bif b5 then some (p2, r4.2) else s244_0 hk C N N x0 p2 r4.2 := by kernel_rfl
theorem s244_0_eq (hk : Hk (Value × AHeap)) (C : ACall) (N : Nat) (n1 : Nat) (x0 : Value) (x3 : Value) (h : AHeap) : s244_0 hk C N (n1 + 1) x0 x3 h =
    (C 110 [x0] h).bind fun r6 => (asI .i64 r6.1).bind fun n7 => aNewS r6.2 3 [.int .i64 n7] 1 fun p8 h9 => (aApp h9 3 1 8 x3 p8).bind fun r10 => (C 107 [x0, .string (⟨#[44]⟩)] r10.2).bind fun r11 => (asB r11.1).bind fun b12 => bif !b12 then (C 109 [x0, .string (⟨#[41]⟩)] r11.2).bind fun r13 => some (r10.1, r13.2) else s244_0 hk C N n1 x0 r10.1 r11.2 := by kernel_rfl
theorem c244 (d : Nat) (args : List Value) (h : AHeap) : call Try.prog Ms (d + 1) 244 args h = evFn hk0 Try.prog (call Try.prog Ms d) M244 d Try.f244 args h := by kernel_rfl

/-! 245 (*loop.example/g00101/impl.parser).fn -/
noncomputable def F245_0 (hk : Hk (Value × AHeap)) (C : ACall) (N : Nat) (n1 : Nat) : Nx (Value × AHeap) := evSt hk Try.prog C M245 N Try.f245 [1, 1, 1, 0, 1, 4, 2, 6] [n1]
noncomputable def s245_0 (hk : Hk (Value × AHeap)) (C : ACall) (N : Nat) (n1 : Nat) (x0 : Value) (x3 : Value) (h : AHeap) := F245_0 hk C N n1 (⟨33, [(0, x0), (3, x3)]⟩) h
noncomputable def F245_1 (hk : Hk (Value × AHeap)) (C : ACall) (N : Nat) : Nx (Value × AHeap) := evSt hk Try.prog C M245 N Try.f245 [1, 1, 1, 1] []
noncomputable def s245_1 (hk : Hk (Value × AHeap)) (C : ACall) (N : Nat) (x0 : Value) (x3 : Value) (h : AHeap) := hk 8 (⟨33, [(0, x0), (3, x3)]⟩) h (F245_1 hk C N)
theorem e245 (hk : Hk (Value × AHeap)) (C : ACall) (N : Nat) (x0 : Value) (h : AHeap) : evFn hk Try.prog C M245 N Try.f245 [x0] h =
    (C 109 [x0, .string (⟨#[40]⟩)] h).bind fun r1 => aNewS r1.2 3 [] 0 fun p2 h3 => (C 107 [x0, .string (⟨#[41]⟩)] h3).bind fun r4 => (asB r4.1).bind fun b5 => bif !b5 then s245_0 hk C N N x0 p2 r4.2 else s245_1 hk C N x0 p2 r4.2 := by kernel_rfl
theorem s245_0_eq (hk : Hk (Value × AHeap)) (C : ACall) (N : Nat) (n1 : Nat) (x0 : Value) (x3 : Value) (h : AHeap) : s245_0 hk C N (n1 + 1) x0 x3 h =
    (C 108 [x0] h).bind fun r6 => (asS r6.1).bind fun t7 => (C 64 [x0, .int .i64 22, .string t7, .int .i64 0, (.slice none 0 0)] r6.2).bind fun r8 => (asI .i64 r8.1).bind fun n9 => aNewS r8.2 3 [.int .i64 n9] 1 fun p10 h11 => (aApp h11 3 1 8 x3 p10).bind fun r12 => (C 107 [x0, .string (⟨#[44]⟩)] r12.2).bind fun r13 => (asB r13.1).bind fun b14 => bif !b14 then (C 109 [x0, .string (⟨#[41]⟩)] r13.2).bind fun r15 => s245_1 hk C N x0 r12.1 r15.2 else s245_0 hk C N n1 x0 r12.1 r13.2 := by kernel_rfl
theorem s245_1_j (C : ACall) (N : Nat) (x0 : Value) (x3 : Value) (h : AHeap) : s245_1 hk0 C N x0 x3 h = F245_1 hk0 C N (⟨33, [(0, x0), (3, x3)]⟩) h := by delta s245_1; exact hk0_app _ _ _ _
theorem s245_1_eq (hk : Hk (Value × AHeap)) (C : ACall) (N : Nat) (x0 : Value) (x3 : Value) (h : AHeap) : F245_1 hk C N (⟨33, [(0, x0), (3, x3)]⟩) h =
    (C 111 [x0] h).bind fun r16 => (asI .i64 r16.1).bind fun n17 => aNewS r16.2 3 [.int .i64 n17] 1 fun p18 h19 => (aApp h19 3 1 8 x3 p18).bind fun r20 => (C 64 [x0, .int .i64 6, .string ⟨#[]⟩, .int .i64 0, r20.1] r20.2).bind fun r21 => (asI .i64 r21.1).bind fun n22 => some (.int .i64 n22, r21.2) := by kernel_rfl
theorem c245 (d : Nat) (args : List Value) (h : AHeap) : call Try.prog Ms (d + 1) 245 args h = evFn hk0 Try.prog (call Try.prog Ms d) M245 d Try.f245 args h := by kernel_rfl

/-! 246 (*loop.example/g00101/impl.parser).table -/
noncomputable def F246_0 (hk : Hk (Value × AHeap)) (C : ACall) (N : Nat) (n1 : Nat) : Nx (Value × AHeap) := evSt hk Try.prog C M246 N Try.f246 [1, 1, 1, 0, 1, 4, 2, 6] [n1]
noncomputable def s246_0 (hk : Hk (Value × AHeap)) (C : ACall) (N : Nat) (n1 : Nat) (x0 : Value) (x3 : Value) (h : AHeap) := F246_0 hk C N n1 (⟨25, [(0, x0), (3, x3)]⟩) h
theorem e246 (hk : Hk (Value × AHeap)) (C : ACall) (N : Nat) (x0 : Value) (h : AHeap) : evFn hk Try.prog C M246 N Try.f246 [x0] h =
    (C 109 [x0, .string (⟨#[123]⟩)] h).bind fun r1 => aNewS r1.2 3 [] 0 fun p2 h3 => (C 107 [x0, .string (⟨#[125]⟩)] h3).bind fun r4 => (asB r4.1).bind fun b5 => bif !b5 then s246_0 hk C N N x0 p2 r4.2 else (C 64 [x0, .int .i64 7, .string ⟨#[]⟩, .int .i64 0, p2] r4.2).bind fun r6 => (asI .i64 r6.1).bind fun n7 => some (.int .i64 n7, r6.2) := by kernel_rfl
theorem s246_0_eq (hk : Hk (Value × AHeap)) (C : ACall) (N : Nat) (n1 : Nat) (x0 : Value) (x3 : Value) (h : AHeap) : s246_0 hk C N (n1 + 1) x0 x3 h =
    (C 247 [x0] h).bind fun r8 => (asI .i64 r8.1).bind fun n9 => aNewS r8.2 3 [.int .i64 n9] 1 fun p10 h11 => (aApp h11 3 1 8 x3 p10).bind fun r12 => (C 107 [x0, .string (⟨#[44]⟩)] r12.2).bind fun r13 => (asB r13.1).bind fun b14 => bif !b14 then (C 109 [x0, .string (⟨#[125]⟩)] r13.2).bind fun r15 => (C 64 [x0, .int .i64 7, .string ⟨#[]⟩, .int .i64 0, r12.1] r15.2).bind fun r16 => (asI .i64 r16.1).bind fun n17 => some (.int .i64 n17, r16.2) else s246_0 hk C N n1 x0 r12.1 r13.2 := by kernel_rfl
theorem c246 (d : Nat) (args : List Value) (h : AHeap) : call Try.prog Ms (d + 1) 246 args h = evFn hk0 Try.prog (call Try.prog Ms d) M246 d Try.f246 args h := by kernel_rfl
end Go.Proofs.Ytadmoackacickaa
set_option linter.unusedVariables false
namespace Go.Proofs.Ytadmoackacickaa
open Go Go.AH
/-! 247 (*loop.example/g00101/impl.parser).field -/
noncomputable def F247_0 (hk : Hk (Value × AHeap)) (C : ACall) (N : Nat) : Nx (Value × AHeap) := evSt hk Try.prog C M247 N Try.f247 [1, 1, 0, 1, 1] []
noncomputable def s247_0 (hk : Hk (Value × AHeap)) (C : ACall) (N : Nat) (x0 : Value) (x5 : Value) (x71 : Bool) (h : AHeap) := hk 100009 (⟨96, [(0, x0), (5, x5), (71, .bool x71)]⟩) h (F247_0 hk C N)
noncomputable def F247_1 (hk : Hk (Value × AHeap)) (C : ACall) (N : Nat) : Nx (Value × AHeap) := evSt hk Try.prog C M247 N Try.f247 [1, 1, 1] []
noncomputable def s247_1 (hk : Hk (Value × AHeap)) (C : ACall) (N : Nat) (x0 : Value) (h : AHeap) := hk 13 (⟨96, [(0, x0)]⟩) h (F247_1 hk C N)
theorem e247 (hk : Hk (Value × AHeap)) (C : ACall) (N : Nat) (x0 : Value) (h : AHeap) : evFn hk Try.prog C M247 N Try.f247 [x0] h =
    (C 107 [x0, .string (⟨#[91]⟩)] h).bind fun r1 => (asB r1.1).bind fun b2 => bif b2 then (C 110 [x0] r1.2).bind fun r3 => (asI .i64 r3.1).bind fun n4 => (C 109 [x0, .string (⟨#[93]⟩)] r3.2).bind fun r5 => (C 109 [x0, .string (⟨#[61]⟩)] r5.2).bind fun r6 => (C 110 [x0] r6.2).bind fun r7 => (asI .i64 r7.1).bind fun n8 => aNewS r7.2 3 [.int .i64 n4, .int .i64 n8] 2 fun p9 h10 => (C 64 [x0, .int .i64 24, .string ⟨#[]⟩, .int .i64 0, p9] h10).bind fun r11 => (asI .i64 r11.1).bind fun n12 => some (.int .i64 n12, r11.2) else (C 155 [x0] r1.2).bind fun r13 => aNew r13.2 53 [.int .i64 0, .int .i64 0, .string ⟨#[]⟩, .int .i64 0] fun p14 h15 => (aSt h15 p14 r13.1 4).bind fun h16 => (aOff p14 0).bind fun v17 => (aLd1 h16 v17).bind fun v18 => (asI .i64 v18).bind fun n19 => bif n19 == 1 then (aNil x0).bind fun v20 => (aOff v20 1).bind fun v21 => (aLd1 h16 v21).bind fun v22 => (asI .i64 v22).bind fun n23 => (aNil x0).bind fun v24 => (aOff v24 0).bind fun v25 => (aLd1 h16 v25).bind fun v26 => (aLen v26).bind fun v27 => (asI .i64 v27).bind fun n28 => bif decide ((IntKind.i64.wrap (n23 + 1)) < n28) then (aNil x0).bind fun v29 => (aOff v29 0).bind fun v30 => (aLd1 h16 v30).bind fun v31 => (aNil x0).bind fun v32 => (aOff v32 1).bind fun v33 => (aLd1 h16 v33).bind fun v34 => (asI .i64 v34).bind fun n35 => (aIdx v31 (.int .i64 (IntKind.i64.wrap (n35 + 1))) 4).bind fun v36 => (aOff v36 0).bind fun v37 => (aLd1 h16 v37).bind fun v38 => (asI .i64 v38).bind fun n39 => bif n39 == 5 then (aNil x0).bind fun v40 => (aOff v40 0).bind fun v41 => (aLd1 h16 v41).bind fun v42 => (aNil x0).bind fun v43 => (aOff v43 1).bind fun v44 => (aLd1 h16 v44).bind fun v45 => (asI .i64 v45).bind fun n46 => (aIdx v42 (.int .i64 (IntKind.i64.wrap (n46 + 1))) 4).bind fun v47 => (aOff v47 2).bind fun v48 => (aLd1 h16 v48).bind fun v49 => (asS v49).bind fun t50 => s247_0 hk C N x0 p14 (t50.toList == (⟨#[61]⟩ : ByteArray).toList) h16 else s247_0 hk C N x0 p14 false h16 else s247_0 hk C N x0 p14 false h16 else s247_0 hk C N x0 p14 false h16 := by kernel_rfl
theorem s247_0_j (C : ACall) (N : Nat) (x0 : Value) (x5 : Value) (x71 : Bool) (h : AHeap) : s247_0 hk0 C N x0 x5 x71 h = F247_0 hk0 C N (⟨96, [(0, x0), (5, x5), (71, .bool x71)]⟩) h := by delta s247_0; exact hk0_app _ _ _ _
theorem s247_0_eq (hk : Hk (Value × AHeap)) (C : ACall) (N : Nat) (x0 : Value) (x5 : Value) (x71 : Bool) (h : AHeap) : F247_0 hk C N (⟨96, [(0, x0), (5, x5), (71, .bool x71)]⟩) h =
    bif x71 then (aNil x0).bind fun v51 => (aOff v51 1).bind fun v52 => (aLd1 h v52).bind fun v53 => (asI .i64 v53).bind fun n54 => (aNil x0).bind fun v55 => (aOff v55 1).bind fun v56 => (aSt h v56 (.int .i64 (IntKind.i64.wrap (n54 + 2))) 1).bind fun h57 => (aOff x5 2).bind fun v58 => (aLd1 h57 v58).bind fun v59 => (asS v59).bind fun t60 => (C 64 [x0, .int .i64 4, .string t60, .int .i64 0, (.slice none 0 0)] h57).bind fun r61 => (asI .i64 r61.1).bind fun n62 => (C 110 [x0] r61.2).bind fun r63 => (asI .i64 r63.1).bind fun n64 => aNewS r63.2 3 [.int .i64 n62, .int .i64 n64] 2 fun p65 h66 => (C 64 [x0, .int .i64 24, .string ⟨#[]⟩, .int .i64 0, p65] h66).bind fun r67 => (asI .i64 r67.1).bind fun n68 => some (.int .i64 n68, r67.2) else s247_1 hk C N x0 h := by kernel_rfl
theorem s247_1_j (C : ACall) (N : Nat) (x0 : Value) (h : AHeap) : s247_1 hk0 C N x0 h = F247_1 hk0 C N (⟨96, [(0, x0)]⟩) h := by delta s247_1; exact hk0_app _ _ _ _
theorem s247_1_eq (hk : Hk (Value × AHeap)) (C : ACall) (N : Nat) (x0 : Value) (h : AHeap) : F247_1 hk C N (⟨96, [(0, x0)]⟩) h =
    (C 110 [x0] h).bind fun r69 => (asI .i64 r69.1).bind fun n70 => aNewS r69.2 3 [.int .i64 n70] 1 fun p71 h72 => (C 64 [x0, .int .i64 23, .string ⟨#[]⟩, .int .i64 0, p71] h72).bind fun r73 => (asI .i64 r73.1).bind fun n74 => some (.int .i64 n74, r73.2) := by kernel_rfl
theorem c247 (d : Nat) (args : List Value) (h : AHeap) : call Try.prog Ms (d + 1) 247 args h = evFn hk0 Try.prog (call Try.prog Ms d) M247 d Try.f247 args h := by kernel_rfl

/-! 11 loop.example/g00101/laws.FnExactPrint -/
/-! 45 loop.example/g00101/spec.Print -/
/-! 46 loop.example/g00101/impl.Print -/
/-! 80 loop.example/g00101/spec.l9Toks -/
/-! 81 (*loop.example/g00101/impl.printer).node -/
/-! 126 loop.example/g00101/spec.l9ExprToks -/
/-! 127 loop.example/g00101/spec.l9StmtToks -/
/-! 128 loop.example/g00101/spec.l9Around -/
/-! 129 (*loop.example/g00101/impl.printer).put -/
/-! 130 loop.example/g00101/impl.digits -/
/-! 131 (*loop.example/g00101/impl.printer).list -/
end Go.Proofs.Ytadmoackacickaa
/- The parser: its state in the small evaluator's heap; its first steps. -/
set_option linter.unusedSimpArgs false
namespace Go.Proofs.Ytadmoackacickaa
open Go Go.AH

/-- A parser's state, plainly. -/
structure PSt where
  at' : Nat
  nest : Int
  nodes : List Kn
  code : Int
  place : Int
/-- What a parser has at hand. -/
structure PC where
  p : Nat
  tv : Value
  toks : List Tok
  en : Int
def TokH (h : AHeap) (v : Value) (ts : List Tok) : Prop := (v = .slice none 0 0 ∧ ts = []) ∨ ∃ i, v = slc i 0 ts.length ∧ RowE h i 53 (flat ts)
def KidH (h : AHeap) (kv : Value) (ks : List Int) : Prop := (kv = .slice none 0 0 ∧ ks = []) ∨ ∃ i rt, kv = slc i 0 ks.length ∧ OwnR h i rt 3 (ints ks)
def NodesH (h : AHeap) (nv : Value) (ns : List Kn) (rn : Option Nat) : Prop :=
  (nv = .slice none 0 0 ∧ ns = [] ∧ rn = none) ∨
  ∃ i root cells, nv = slc i 0 ns.length ∧ rn = some root ∧ OwnR h i root 73 cells ∧ ns.length * 4 ≤ cells.length ∧ ∀ (j : Nat) (n : Kn), ns[j]? = some n → ∃ kv, (cells.drop (j * 4)).take 4 = knCells n kv ∧ KidH h kv n.ks
def pcells (c : PC) (nv : Value) (st : PSt) : List Value := [c.tv, .int .i64 st.at', .int .i64 c.en, .int .i64 st.nest, nv, .int .i64 st.code, .int .i64 st.place]
def PH (c : PC) (h : AHeap) (st : PSt) (rn : Option Nat) : Prop := ∃ nv, OwnR h c.p c.p 81 (pcells c nv st) ∧ TokH h c.tv c.toks ∧ NodesH h nv st.nodes rn
/-- All is as it was but the parser and its nodes. -/
def PK (rn : Option Nat) (h h' : AHeap) : Prop := h.size ≤ h'.size ∧ (∀ j o, h.at? j = some o → o.elem ≠ 81 → (o.elem = 73 → rn ≠ some o.root) → h'.at? j = some o) ∧ ∀ r, r < h.size → h'.tip 3 r = h.tip 3 r
def PRN (rn rn' : Option Nat) (h : AHeap) : Prop := rn' = rn ∨ ∃ r, rn' = some r ∧ h.size ≤ r
theorem PK.refl (rn : Option Nat) (h : AHeap) : PK rn h h := ⟨Nat.le_refl _, fun _ _ a _ _ => a, fun _ _ => rfl⟩
theorem PRN.refl (rn : Option Nat) (h : AHeap) : PRN rn rn h := .inl rfl
theorem PK.trans {rn rn1 : Option Nat} {h h1 h2 : AHeap} (x : PK rn h h1) (r : PRN rn rn1 h) (y : PK rn1 h1 h2) : PK rn h h2 :=
  ⟨Nat.le_trans x.1 y.1, fun j o a b c => y.2.1 j o (x.2.1 j o a b c) b (fun e => by
    rcases r with rfl | ⟨q, rfl, hq⟩
    · exact c e
    · have := at?_obj a
      intro hh
      have : q = o.root := by simpa using hh
      omega), fun q hq => (y.2.2 q (Nat.lt_of_lt_of_le hq x.1)).trans (x.2.2 q hq)⟩
theorem PRN.trans {rn rn1 rn2 : Option Nat} {h h1 : AHeap} (hs : h.size ≤ h1.size) (x : PRN rn rn1 h) (y : PRN rn1 rn2 h1) : PRN rn rn2 h := by
  rcases y with rfl | ⟨q, rfl, hq⟩
  · exact x
  · exact .inr ⟨q, rfl, Nat.le_trans hs hq⟩
theorem PK.ext {rn : Option Nat} {h h' : AHeap} (x : Ext h.size h h') : PK rn h h' := ⟨x.size, fun j o a _ _ => x.at? (at?_obj a).2.1 a, fun r hr => x.tip 3 r hr⟩
theorem RowE.pk {rn : Option Nat} {h h' : AHeap} {i : Nat} {e : TypeId} {cs : List Value} (x : RowE h i e cs) (k : PK rn h h') (h1 : e ≠ 81) (h2 : e ≠ 73) : RowE h' i e cs :=
  let ⟨o, a, b, c⟩ := x; ⟨o, k.2.1 i o a (by rw [b]; exact h1) (fun e' => absurd (b.symm.trans e') h2), b, c⟩
theorem OwnR.pk {rn : Option Nat} {h h' : AHeap} {i rt : Nat} {e : TypeId} {cs : List Value} (x : OwnR h i rt e cs) (k : PK rn h h') (h1 : e ≠ 81) (h2 : e ≠ 73) : OwnR h' i rt e cs :=
  let ⟨ep, a⟩ := x; ⟨ep, k.2.1 i _ a h1 (fun e' => absurd e' h2)⟩
theorem TokH.pk {rn : Option Nat} {h h' : AHeap} {v : Value} {ts : List Tok} (x : TokH h v ts) (k : PK rn h h') : TokH h' v ts := by
  rcases x with a | ⟨i, a, b⟩
  · exact .inl a
  · exact .inr ⟨i, a, b.pk k (by decide) (by decide)⟩
theorem KidH.pk {rn : Option Nat} {h h' : AHeap} {v : Value} {ks : List Int} (x : KidH h v ks) (k : PK rn h h') : KidH h' v ks := by
  rcases x with a | ⟨i, rt, a, b⟩
  · exact .inl a
  · exact .inr ⟨i, rt, a, b.pk k (by decide) (by decide)⟩
theorem KidH.cell {h : AHeap} {v : Value} {ks : List Int} (x : KidH h v ks) : isCell v = true := by
  rcases x with ⟨rfl, _⟩ | ⟨i, rt, rfl, _⟩ <;> rfl
theorem NodesH.cell {h : AHeap} {v : Value} {ns : List Kn} {rn : Option Nat} (x : NodesH h v ns rn) : isCell v = true := by
  rcases x with ⟨rfl, _⟩ | ⟨i, rt, cs, rfl, _⟩ <;> rfl
theorem KidH.ext {h h' : AHeap} {v : Value} {ks : List Int} (x : KidH h v ks) (e : Ext h.size h h') : KidH h' v ks := x.pk (PK.ext e (rn := none))
theorem NodesH.ext {h h' : AHeap} {v : Value} {ns : List Kn} {rn : Option Nat} (x : NodesH h v ns rn) (e : Ext h.size h h') : NodesH h' v ns rn := by
  rcases x with a | ⟨i, rt, cs, a, b, c, d, f⟩
  · exact .inl a
  · exact .inr ⟨i, rt, cs, a, b, c.ext e, d, fun j n hn => let ⟨kv, y, z⟩ := f j n hn; ⟨kv, y, z.ext e⟩⟩
theorem PH.ext {c : PC} {h h' : AHeap} {st : PSt} {rn : Option Nat} (x : PH c h st rn) (e : Ext h.size h h') : PH c h' st rn :=
  let ⟨nv, a, b, d⟩ := x; ⟨nv, a.ext e, b.pk (PK.ext e (rn := none)), d.ext e⟩
/-- A store into the parser. -/
theorem stP {h : AHeap} {p i : Nat} {cells : List Value} (o : OwnR h p p 81 cells) (hi : i < cells.length) {v : Value} (hv : aCells v = some [v]) :
    ∃ h', aSt h (ptr p i) v 1 = some h' ∧ OwnR h' p p 81 (cells.set i v) ∧ h'.size = h.size ∧ (∀ j o, h.at? j = some o → o.elem ≠ 81 → h'.at? j = some o) ∧ (∀ r, h'.tip 3 r = h.tip 3 r) := by
  obtain ⟨ep, h1⟩ := o
  have hsp : splice cells i [v] = cells.set i v := by
    unfold splice
    rw [List.set_eq_take_append_cons_drop, if_pos hi]; simp
  refine ⟨h.put p ⟨p, ep, false, 81, cells⟩ (splice cells i [v]), by simp [aSt, ptr, h1, hv]; omega, ⟨h.ep 81 p + 1, ?_⟩, rfl, fun k o ho hk => at?_put_other ho (fun e => by subst e; rw [h1] at ho; cases ho; exact hk rfl) _ (fun hh => hk hh.1), fun r => by simp [AHeap.put]⟩
  rw [← hsp]; exact at?_put_same h1 _
theorem PH.ld {c : PC} {h : AHeap} {st : PSt} {rn : Option Nat} (x : PH c h st rn) : ∃ nv, NodesH h nv st.nodes rn ∧ aLd1 h (ptr c.p 0) = some c.tv ∧ aLd1 h (ptr c.p 1) = some (.int .i64 st.at') ∧ aLd1 h (ptr c.p 2) = some (.int .i64 c.en) ∧ aLd1 h (ptr c.p 3) = some (.int .i64 st.nest) ∧ aLd1 h (ptr c.p 4) = some nv ∧ aLd1 h (ptr c.p 5) = some (.int .i64 st.code) ∧ aLd1 h (ptr c.p 6) = some (.int .i64 st.place) := by
  obtain ⟨nv, a, b, d⟩ := x
  have r := a.row
  exact ⟨nv, d, r.ld1 rfl, r.ld1 rfl, r.ld1 rfl, r.ld1 rfl, r.ld1 rfl, r.ld1 rfl, r.ld1 rfl⟩
theorem TokH.len {h : AHeap} {v : Value} {ts : List Tok} (x : TokH h v ts) : aLen v = some (.int .i64 ts.length) := by
  rcases x with ⟨rfl, rfl⟩ | ⟨i, rfl, _⟩ <;> rfl
theorem TokH.at {h : AHeap} {v : Value} {ts : List Tok} (x : TokH h v ts) {j : Nat} (hj : j < ts.length) : ∃ p, aIdx v (.int .i64 (j : Int)) 4 = some p ∧ aLdN h p 4 = some ts[j].val := by
  rcases x with ⟨rfl, rfl⟩ | ⟨i, rfl, hr⟩
  · simp at hj
  · refine ⟨ptr i (j * 4), by simp [aIdx, slc, hj], ?_⟩
    rw [hr.row.ldN (by rw [flat_len]; omega), flat_at ts j hj]; rfl
theorem nil_ptr (p : Nat) : aNil (ptr p 0) = some (ptr p 0) := rfl
/-- The next token. -/
def pk (c : PC) (st : PSt) : Tok := if st.code ≠ 0 then ⟨0, c.en, ⟨#[]⟩, 0⟩ else (c.toks[st.at']?).getD ⟨0, c.en, ⟨#[]⟩, 0⟩
theorem l155 {d : Nat} {c : PC} {h : AHeap} {st : PSt} {rn : Option Nat} (x : PH c h st rn) : ∃ h', call Try.prog Ms (d + 1) 155 [ptr c.p 0] h = some ((pk c st).val, h') ∧ Ext h.size h h' := by
  have e1 := Ext.new (Nat.le_refl h.size) 53 tok0.cells
  have o1 := TB.new h tok0
  have hz : ([Value.int .i64 0, .int .i64 0, .string ⟨#[]⟩, .int .i64 0] : List Value) = tok0.cells := rfl
  have x1 := x.ext e1
  rw [c155, e155]
  simp only [aNew, hz]
  generalize h.new 53 tok0.cells = h1 at e1 o1 x1 ⊢
  have x1' := x1
  obtain ⟨nv0, _, tk, _⟩ := x1'
  obtain ⟨nv, _, a0, a1, a2, a3, a4, a5, a6⟩ := x1.ld
  have fin : ∀ t : Tok, ∃ h', ((aSt h1 (ptr h.size 0) t.val 4).bind fun h2 => (aLdN h2 (ptr h.size 0) 4).bind fun v => some (v, h2)) = some (t.val, h') ∧ Ext h.size h h' := fun t => by
    obtain ⟨h2, t2, x2, q2⟩ := o1.stAll t
    refine ⟨h2, ?_, e1.trans x2⟩
    rw [t2, Option.bind_some, TB.ldAll q2.row, Option.bind_some]
  have gone : ∃ h', s155_0 hk0 (call Try.prog Ms d) d (ptr c.p 0) (ptr h.size 0) true h1 = some ((⟨0, c.en, ⟨#[]⟩, 0⟩ : Tok).val, h') ∧ Ext h.size h h' := by
    obtain ⟨h', z1, z2⟩ := fin ⟨0, c.en, ⟨#[]⟩, 0⟩
    refine ⟨h', ?_, z2⟩
    rw [s155_0_j, s155_0_eq, cond_true, nil_ptr, Option.bind_some]
    simp only [aOff_ptr, Nat.zero_add, Option.bind_some, a2, asI, if_true]
    exact z1
  simp only [nil_ptr, aOff_ptr, Nat.zero_add, Option.bind_some, a5, asI, if_true]
  unfold pk
  by_cases hcode : st.code = 0
  · have : (st.code != 0) = false := by rw [hcode]; rfl
    rw [this, cond_false, if_neg (by simp [hcode])]
    simp only [a0, a1, Option.bind_some, tk.len, asI, if_true]
    by_cases hlt : st.at' < c.toks.length
    · have hn : ¬ ((st.at' : Int) ≥ (c.toks.length : Int)) := by omega
      obtain ⟨pt, b1, b2⟩ := tk.at hlt
      obtain ⟨h', z1, z2⟩ := fin c.toks[st.at']
      refine ⟨h', ?_, z2⟩
      rw [decide_eq_false hn, s155_0_j, s155_0_eq, cond_false, s155_1_j, s155_1_eq, List.getElem?_eq_getElem hlt]
      simp only [nil_ptr, aOff_ptr, Nat.zero_add, Option.bind_some, a0, a1, asI, if_true, b1, b2, Option.getD_some]
      exact z1
    · have hn : ((st.at' : Int) ≥ (c.toks.length : Int)) := by omega
      rw [decide_eq_true hn, List.getElem?_eq_none (by omega)]
      exact gone
  · have : (st.code != 0) = true := by simp [hcode]
    rw [this, cond_true, if_pos hcode]
    exact gone
end Go.Proofs.Ytadmoackacickaa
/- The parser's small steps. -/
set_option linter.unusedSimpArgs false
namespace Go.Proofs.Ytadmoackacickaa
open Go Go.AH

/-- A call that turns the parser's state. -/
def Pp (c : PC) (h : AHeap) (rn : Option Nat) (r : Option (Value × AHeap)) (v : Value) (st' : PSt) : Prop := ∃ h' rn', r = some (v, h') ∧ PH c h' st' rn' ∧ PK rn h h' ∧ PRN rn rn' h
def unit : Value := .tuple (List.toArray [])
def failP (c : PC) (st : PSt) (code : Int) : PSt := if st.code = 0 then { st with place := (pk c st).at', code := code } else st
def isP (c : PC) (st : PSt) (t : ByteArray) : Bool := if (pk c st).k = 5 then (pk c st).text.toList == t.toList else if (pk c st).k = 2 then (pk c st).text.toList == t.toList else false
/-- A token that was told, in a row of its own. -/
theorem tokRow (h : AHeap) (t : Tok) : ∃ h', aSt (h.new 53 [.int .i64 0, .int .i64 0, .string ⟨#[]⟩, .int .i64 0]) (ptr h.size 0) t.val 4 = some h' ∧ Ext h.size h h' ∧ RowE h' h.size 53 t.cells ∧ h'.size = h.size + 1 := by
  have o1 := TB.new h tok0
  obtain ⟨h', a, b, e, s⟩ := Own.stN (n := 4) (v := t.val) o1 t.aCells rfl rfl
  exact ⟨h', a, (Ext.new (Nat.le_refl h.size) 53 tok0.cells).trans b, Own.rowE e, s⟩
theorem l154 {d : Nat} {c : PC} {h : AHeap} {st : PSt} {rn : Option Nat} (x : PH c h st rn) (t : ByteArray) : ∃ h', call Try.prog Ms (d + 2) 154 [ptr c.p 0, .string t] h = some (.bool (isP c st t), h') ∧ Ext h.size h h' := by
  obtain ⟨h2, c2, x2⟩ := l155 (d := d) x
  obtain ⟨h3, t3, x3, r3, s3⟩ := tokRow h2 (pk c st)
  obtain ⟨b0, _, b2, _⟩ := ld_at r3.row
  refine ⟨h3, ?_, x2.trans (x3.mono x2.size)⟩
  rw [c154, e154, c2, Option.bind_some]
  simp only [aNew]
  rw [t3, Option.bind_some]
  simp only [aOff_ptr, Nat.zero_add, Option.bind_some, b0, b2, asI, asS, if_true]
  unfold isP
  by_cases h5 : (pk c st).k = 5
  · rw [h5, show ((5 : Int) == 5) = true from rfl, cond_true, if_pos rfl]
  · rw [beq_eq_false_iff_ne.2 h5, cond_false, if_neg h5]
    by_cases h6 : (pk c st).k = 2
    · rw [h6, show ((2 : Int) == 2) = true from rfl, cond_true, if_pos rfl]
    · rw [beq_eq_false_iff_ne.2 h6, cond_false, if_neg h6]
def adv (n : Nat) (st : PSt) : Option PSt := if st.at' + n ≤ 1000000 then some { st with at' := st.at' + n } else none
def takesP (c : PC) (t : ByteArray) (st : PSt) : Option (Bool × PSt) := if isP c st t = true then (adv 1 st).map (true, ·) else some (false, st)
def wantP (c : PC) (t : ByteArray) (st : PSt) : Option PSt := (takesP c t st).map fun r => if r.1 = true then r.2 else failP c r.2 2
def nameN (c : PC) (st : PSt) : Option (ByteArray × PSt) := if (pk c st).k ≠ 1 then some (⟨#[]⟩, failP c st 2) else (adv 1 st).map ((pk c st).text, ·)
def nestTo (n : Int) (st : PSt) : Option PSt := if -1000 ≤ st.nest + n ∧ st.nest + n ≤ 1000 then some { st with nest := st.nest + n } else none
def openP (c : PC) (st : PSt) : Option PSt := nestTo 1 (if (pk c st).k ≠ 0 ∧ st.nest = 30 then failP c st 3 else st)
end Go.Proofs.Ytadmoackacickaa
/- The parser puts a node. -/
set_option linter.unusedSimpArgs false
namespace Go.Proofs.Ytadmoackacickaa
open Go Go.AH

theorem take_at {cs : List Value} {n j : Nat} (hn : n ≤ cs.length) (hj : j + 4 ≤ n) (l : List Value) : (((cs.take n) ++ l).drop j).take 4 = (cs.drop j).take 4 := by
  apply List.ext_getElem?
  intro k
  rw [List.getElem?_take, List.getElem?_take]
  by_cases hk : k < 4
  · rw [if_pos hk, if_pos hk, List.getElem?_drop, List.getElem?_drop, List.getElem?_append_left (by simp; omega), List.getElem?_take, if_pos (by omega)]
  · rw [if_neg hk, if_neg hk]
theorem take_new {cs l : List Value} {n : Nat} (hn : n ≤ cs.length) (hl : l.length = 4) : (((cs.take n) ++ l).drop n).take 4 = l := by
  have h1 : (cs.take n).length = n := by simp; omega
  rw [List.drop_append_of_le_length (by omega), List.drop_eq_nil_of_le (by omega), List.nil_append, ← hl, List.take_length]
theorem kn_cells {kv : Value} (h : isCell kv = true) (n : Kn) : aCells (knVal n kv) = some (knCells n kv) := by
  have e : (List.all (List.toArray (knCells n kv)).toList isCell) = true := by
    show (true && (true && (true && (isCell kv && true)))) = true
    rw [h]; rfl
  show (if (List.all (List.toArray (knCells n kv)).toList isCell) = true then some (List.toArray (knCells n kv)).toList else none) = _
  rw [if_pos e]
theorem nodesApp {h : AHeap} {nv kv : Value} {ns : List Kn} {rn : Option Nat} {n : Kn} (x : NodesH h nv ns rn) (k : KidH h kv n.ks) (hl : ns.length ≤ 1000000) :
    ∃ nv' h' rn', aApp (h.new 73 (knCells n kv)) 73 4 56 nv (slc h.size 0 1) = some (nv', h') ∧ NodesH h' nv' (ns ++ [n]) rn' ∧ PK rn h h' ∧ PRN rn rn' h ∧ (∀ j o, h.at? j = some o → o.elem ≠ 73 → h'.at? j = some o) ∧ aLen nv' = some (.int .i64 ((ns.length : Int) + 1)) := by
  have e := Ext.new (Nat.le_refl h.size) 73 (knCells n kv)
  have w := (Own.new (b := 0) (Nat.zero_le h.size) 73 (knCells n kv)).row
  have hS : (h.new 73 (knCells n kv)).size = h.size + 1 := rfl
  have hsrc : aSrc (h.new 73 (knCells n kv)) 4 (slc h.size 0 1) = some (1, knCells n kv) := w.src (n := 1) (esz := 4) (by show 0 + 1 * 4 ≤ 4; omega)
  have x1 := x.ext e
  have k1 := k.ext e
  have pk1 : PK rn h (h.new 73 (knCells n kv)) := PK.ext e
  have keep1 : ∀ j o, h.at? j = some o → (h.new 73 (knCells n kv)).at? j = some o := fun j o a => e.at? (at?_obj a).2.1 a
  generalize h.new 73 (knCells n kv) = h1 at e w hS hsrc x1 k1 pk1 keep1 ⊢
  rcases x1 with ⟨rfl, rfl, rfl⟩ | ⟨i, root, cells, rfl, rfl, ⟨ep, ha⟩, hlen, hx⟩
  · have e2 := Ext.new (Nat.le_refl h1.size) 73 (knCells n kv)
    refine ⟨slc h1.size 0 1, h1.new 73 (knCells n kv), some h1.size, ?_, .inr ⟨h1.size, h1.size, knCells n kv, rfl, rfl, OwnR.new _ _ _, by show 1 * 4 ≤ 4; omega, fun j m hm => ?_⟩, pk1.trans (.inl rfl) (PK.ext e2), .inr ⟨h1.size, rfl, by omega⟩, fun j o a b => e2.at? (by have := (at?_obj a).2.1; omega) (keep1 j o a), rfl⟩
    · simp [aApp, aAppG, hsrc, most]
    · cases j with
      | zero =>
        have : m = n := by simpa using hm.symm
        subst this
        exact ⟨kv, rfl, k1.ext e2⟩
      | succ j => simp at hm
  · have hap : aApp h1 73 4 56 (slc i 0 ns.length) (slc h.size 0 1) = some (slc h1.size 0 (ns.length + 1), h1.app ⟨root, ep, false, 73, cells⟩ (ns.length * 4) (cells.take (ns.length * 4) ++ knCells n kv)) := by
      have m1 : ns.length + 1 ≤ most := by show ns.length + 1 ≤ 140737488355328; omega
      have m2 : (ns.length + 1) * 56 ≤ most := by show (ns.length + 1) * 56 ≤ 140737488355328; omega
      have hsrc' : aSrc h1 4 (.slice (some ⟨h.size, 0, none⟩) 1 1) = some (1, knCells n kv) := hsrc
      simp [aApp, aAppG, slc, ha, hsrc', hlen, m1, m2]
    have old : ∀ j o, h1.at? j = some o → (o.elem ≠ 73 ∨ o.root ≠ root) → (h1.app ⟨root, ep, false, 73, cells⟩ (ns.length * 4) (cells.take (ns.length * 4) ++ knCells n kv)).at? j = some o :=
      fun j o a b => at?_app_old a _ (fun hh => b.elim (fun z => absurd hh.1 z) (fun z => absurd hh.2 z))
    have kid : ∀ (v : Value) (ks : List Int), KidH h1 v ks → KidH (h1.app ⟨root, ep, false, 73, cells⟩ (ns.length * 4) (cells.take (ns.length * 4) ++ knCells n kv)) v ks := fun v ks z => by
      rcases z with z | ⟨i', rt', z1, ep', z2⟩
      · exact .inl z
      · exact .inr ⟨i', rt', z1, ep', old i' _ z2 (.inl (by show (3 : TypeId) ≠ 73; decide))⟩
    refine ⟨_, _, some root, hap, .inr ⟨h1.size, root, _, by simp, rfl, ⟨_, at?_app_same ha _ _⟩, ?_, fun j m hm => ?_⟩, pk1.trans (.inl rfl) ⟨by show h1.size ≤ h1.size + 1; omega, fun j o a b c => old j o a (by
      by_cases h73 : o.elem = 73
      · exact .inr (fun hr => c h73 (by rw [hr]))
      · exact .inl h73), fun r _ => by simp [AHeap.app]⟩, .inl rfl, fun j o a b => old j o (keep1 j o a) (.inl b), by show some (Value.int .i64 ((ns.length + 1 : Nat) : Int)) = _; rw [Int.natCast_add]; rfl⟩
    · rw [List.length_append, List.length_append, List.length_take]
      show (ns.length + 1) * 4 ≤ min (ns.length * 4) cells.length + 4
      omega
    · by_cases hj : j < ns.length
      · rw [List.getElem?_append_left hj] at hm
        obtain ⟨kv', y, z⟩ := hx j m hm
        exact ⟨kv', by rw [take_at (by omega) (by omega)]; exact y, kid _ _ z⟩
      · have hjl : j < (ns ++ [n]).length := (List.getElem?_eq_some_iff.1 hm).1
        have hje : j = ns.length := by simp at hjl; omega
        subst hje
        rw [List.getElem?_append_right (by omega)] at hm
        simp at hm
        subst hm
        exact ⟨kv, take_new (by omega) rfl, kid _ _ k1⟩
def nodeP (k : Int) (t : ByteArray) (i : Int) (ks : List Int) (st : PSt) : Option (Int × PSt) := if st.nodes.length ≤ 1000000 then some ((st.nodes.length : Int), { st with nodes := st.nodes ++ [⟨k, t, i, ks⟩] }) else none
theorem fillK {kv : Value} (h : isCell kv = true) (k : Int) (t : ByteArray) (i : Int) (ks : List Int) : aFill [.int .i64 0, .string ⟨#[]⟩, .int .i64 0, .slice none 0 0] [(0, 1, .int .i64 k), (1, 1, .string t), (2, 1, .int .i64 i), (3, 1, kv)] = some (knCells ⟨k, t, i, ks⟩ kv) := by
  simp [aFill, aCells_int, aCells_str, aCells_one h, splice, knCells]
end Go.Proofs.Ytadmoackacickaa
/- The parser, plainly: its fuel is the depth of calls, as the small evaluator's. -/
set_option linter.unusedSimpArgs false
namespace Go.Proofs.Ytadmoackacickaa
open Go Go.AH

abbrev PM := PSt → Option (List Int × PSt)
abbrev PI := PSt → Option (Int × PSt)
def un (m : PM) : PI := fun st => (m st).bind fun r => match r.1 with | [a] => some (a, r.2) | _ => none
def ret (m : PI) : PM := fun st => (m st).map fun r => ([r.1], r.2)
abbrev E0 : ByteArray := ⟨#[]⟩
section
variable (c : PC)
def wholeP (sub : PI) : PI := fun st => (openP c st).bind fun s1 => (sub s1).bind fun a => (nestTo (-1) a.2).map fun s3 => (a.1, s3)
def binLoop (w : ByteArray) (k : Int) (sub : PI) : Nat → Int → PI
  | 0, _, _ => none
  | n + 1, a, st => (takesP c w st).bind fun r => if r.1 = true then (sub r.2).bind fun b => (nodeP k E0 0 [a, b.1] b.2).bind fun x => binLoop w k sub n x.1 x.2 else some (a, r.2)
def binP (w : ByteArray) (k : Int) (sub : PI) (n : Nat) : PI := fun st => (sub st).bind fun a => binLoop c w k sub n a.1 a.2
def opTexts : List ByteArray := [⟨#[43]⟩, ⟨#[45]⟩, ⟨#[42]⟩, ⟨#[47]⟩, ⟨#[37]⟩, ⟨#[46, 46]⟩, ⟨#[61, 61]⟩, ⟨#[126, 61]⟩, ⟨#[60]⟩, ⟨#[60, 61]⟩]
def ixGo (t : ByteArray) : List ByteArray → Int → Int
  | [], _ => -1
  | u :: us, i => if (t.toList == u.toList) = true then i else ixGo t us (i + 1)
def opOfP : List ByteArray → PSt → Int
  | [], _ => 0
  | t :: ts, st => if isP c st t = true then 1 + ixGo t opTexts 0 else opOfP ts st
def rowLoop (texts : List ByteArray) (sub : PI) : Nat → Int → PI
  | 0, _, _ => none
  | n + 1, a, st => if opOfP c texts st = 0 then some (a, st) else (adv 1 st).bind fun s1 => (sub s1).bind fun b => (nodeP 10 E0 (opOfP c texts st) [a, b.1] b.2).bind fun x => rowLoop texts sub n x.1 x.2
def rowP (texts : List ByteArray) (sub : PI) (n : Nat) : PI := fun st => (sub st).bind fun a => rowLoop c texts sub n a.1 a.2
def cmpTexts : List ByteArray := [⟨#[61, 61]⟩, ⟨#[126, 61]⟩, ⟨#[60]⟩, ⟨#[60, 61]⟩]
def compareP (sub : PI) : PI := fun st => (sub st).bind fun a => if opOfP c cmpTexts a.2 = 0 then some a else (adv 1 a.2).bind fun s1 => (sub s1).bind fun b => nodeP 10 E0 (opOfP c cmpTexts a.2) [a.1, b.1] b.2
def turnP (t : Int) (self : PI) : PI := fun st => (openP c st).bind fun s1 => (adv 1 s1).bind fun s2 => (self s2).bind fun e => (nestTo (-1) e.2).bind fun s4 => nodeP 11 E0 t [e.1] s4
def unaryP (self behind : PI) : PI := fun st => if isP c st ⟨#[45]⟩ = true then turnP c 1 self st else if isP c st ⟨#[110, 111, 116]⟩ = true then turnP c 2 self st else if isP c st ⟨#[35]⟩ = true then turnP c 3 self st else behind st
def argsLoop (whole : PI) : Nat → List Int → PM
  | 0, _, _ => none
  | n + 1, out, st => (whole st).bind fun e => (takesP c ⟨#[44]⟩ e.2).bind fun r => if r.1 = true then argsLoop whole n (out ++ [e.1]) r.2 else (wantP c ⟨#[41]⟩ r.2).map fun s => (out ++ [e.1], s)
def argsP (whole : PI) (n : Nat) : PM := fun st => (wantP c ⟨#[40]⟩ st).bind fun s1 => (takesP c ⟨#[41]⟩ s1).bind fun r => if r.1 = true then some ([], r.2) else argsLoop c whole n [] r.2
def behindLoop (whole : PI) (args : PM) : Nat → Int → PI
  | 0, _, _ => none
  | n + 1, e, st => (takesP c ⟨#[91]⟩ st).bind fun r => if r.1 = true then (whole r.2).bind fun k => (wantP c ⟨#[93]⟩ k.2).bind fun s => (nodeP 8 E0 0 [e, k.1] s).bind fun x => behindLoop whole args n x.1 x.2
    else (takesP c ⟨#[46]⟩ r.2).bind fun q => if q.1 = true then (nameN c q.2).bind fun m => (nodeP 4 m.1 0 [] m.2).bind fun k => (nodeP 8 E0 0 [e, k.1] k.2).bind fun x => behindLoop whole args n x.1 x.2
    else if isP c q.2 ⟨#[40]⟩ = true then (args q.2).bind fun l => if l.1.length > 1000000 then none else (nodeP 9 E0 0 (e :: l.1) l.2).bind fun x => behindLoop whole args n x.1 x.2 else some (e, q.2)
def behindP (primary whole : PI) (args : PM) (n : Nat) : PI := fun st => (primary st).bind fun e => behindLoop c whole args n e.1 e.2
def primaryP (whole fn table : PI) : PI := fun st =>
  if (pk c st).k = 3 then (adv 1 st).bind fun s => nodeP 3 E0 (pk c st).i [] s
  else if (pk c st).k = 4 then (adv 1 st).bind fun s => nodeP 4 (pk c st).text 0 [] s
  else if (pk c st).k = 1 then (adv 1 st).bind fun s => nodeP 5 (pk c st).text 0 [] s
  else (takesP c ⟨#[110, 105, 108]⟩ st).bind fun r => if r.1 = true then nodeP 1 E0 0 [] r.2
  else (takesP c ⟨#[116, 114, 117, 101]⟩ r.2).bind fun r => if r.1 = true then nodeP 2 E0 1 [] r.2
  else (takesP c ⟨#[102, 97, 108, 115, 101]⟩ r.2).bind fun r => if r.1 = true then nodeP 2 E0 0 [] r.2
  else (takesP c ⟨#[40]⟩ r.2).bind fun r => if r.1 = true then (whole r.2).bind fun e => (wantP c ⟨#[41]⟩ e.2).map fun s => (e.1, s)
  else (takesP c ⟨#[102, 110]⟩ r.2).bind fun r => if r.1 = true then fn r.2
  else if isP c r.2 ⟨#[123]⟩ = true then table r.2 else some (0, failP c r.2 2)
def fnLoop : Nat → List Int → PM
  | 0, _, _ => none
  | n + 1, out, st => (nameN c st).bind fun m => (nodeP 22 m.1 0 [] m.2).bind fun x => (takesP c ⟨#[44]⟩ x.2).bind fun r => if r.1 = true then fnLoop n (out ++ [x.1]) r.2 else (wantP c ⟨#[41]⟩ r.2).map fun s => (out ++ [x.1], s)
def fnP (block : PI) (n : Nat) : PI := fun st => (wantP c ⟨#[40]⟩ st).bind fun s1 => (takesP c ⟨#[41]⟩ s1).bind fun r => (if r.1 = true then some ([], r.2) else fnLoop c n [] r.2).bind fun l => (block l.2).bind fun b => nodeP 6 E0 0 (l.1 ++ [b.1]) b.2
def tableLoop (field : PI) : Nat → List Int → PM
  | 0, _, _ => none
  | n + 1, out, st => (field st).bind fun x => (takesP c ⟨#[44]⟩ x.2).bind fun r => if r.1 = true then tableLoop field n (out ++ [x.1]) r.2 else (wantP c ⟨#[125]⟩ r.2).map fun s => (out ++ [x.1], s)
def tableP (field : PI) (n : Nat) : PI := fun st => (wantP c ⟨#[123]⟩ st).bind fun s1 => (takesP c ⟨#[125]⟩ s1).bind fun r => (if r.1 = true then some ([], r.2) else tableLoop c field n [] r.2).bind fun l => nodeP 7 E0 0 l.1 l.2
def eqNext (st : PSt) : Bool := match c.toks[st.at' + 1]? with
  | some t => t.k == 5 && t.text.toList == (⟨#[61]⟩ : ByteArray).toList
  | none => false
def fieldP (whole : PI) : PI := fun st => (takesP c ⟨#[91]⟩ st).bind fun r => if r.1 = true then (whole r.2).bind fun k => (wantP c ⟨#[93]⟩ k.2).bind fun s => (wantP c ⟨#[61]⟩ s).bind fun s => (whole s).bind fun e => nodeP 24 E0 0 [k.1, e.1] e.2
  else if r.2.at' > 1000000 then none
  else if ((pk c r.2).k == 1 && eqNext c r.2) = true then (adv 2 r.2).bind fun s => (nodeP 4 (pk c r.2).text 0 [] s).bind fun k => (whole k.2).bind fun e => nodeP 24 E0 0 [k.1, e.1] e.2
  else (whole r.2).bind fun e => nodeP 23 E0 0 [e.1] e.2
def blockLoop (stmt : PI) : Nat → List Int → PM
  | 0, _, _ => none
  | n + 1, out, st => if st.code = 0 ∧ isP c st ⟨#[125]⟩ = false then (stmt st).bind fun x => blockLoop stmt n (out ++ [x.1]) x.2 else some (out, st)
def blockP (stmt : PI) (n : Nat) : PI := fun st => (openP c st).bind fun s1 => (wantP c ⟨#[123]⟩ s1).bind fun s2 => (blockLoop c stmt n [] s2).bind fun l => (wantP c ⟨#[125]⟩ l.2).bind fun s3 => (nestTo (-1) s3).bind fun s4 => nodeP 21 E0 0 l.1 s4
def cutP (e : Int) (st : PSt) : Option PSt := if 0 ≤ e ∧ e ≤ st.nodes.length then some { st with nodes := st.nodes.take e.toNat } else none
def begunP (whole : PI) : PI := fun st => (whole st).bind fun e => if e.2.code ≠ 0 then some (0, e.2) else
  match e.2.nodes[e.1.toNat]? with
  | none => none
  | some n => if e.1 < 0 then none else
    (if n.k = 9 then takesP c ⟨#[59]⟩ e.2 else some (false, e.2)).bind fun r => if r.1 = true then nodeP 20 E0 0 [e.1] r.2 else
    (if n.k = 5 then takesP c ⟨#[61]⟩ r.2 else some (false, r.2)).bind fun r => if r.1 = true then (cutP e.1 r.2).bind fun s => (whole s).bind fun x => (wantP c ⟨#[59]⟩ x.2).bind fun s => nodeP 15 n.t 0 [x.1] s else
    (if n.k = 8 then takesP c ⟨#[61]⟩ r.2 else some (false, r.2)).bind fun r => if r.1 = true then
      (match n.ks with
      | [a, b] => (cutP e.1 r.2).bind fun s => (whole s).bind fun x => (wantP c ⟨#[59]⟩ x.2).bind fun s => nodeP 16 E0 0 [a, b, x.1] s
      | _ => none)
    else some (0, failP c r.2 2)
def stmtP (whole block begun : PI) : PI := fun st =>
  (takesP c ⟨#[108, 111, 99, 97, 108]⟩ st).bind fun r => if r.1 = true then (nameN c r.2).bind fun m => (wantP c ⟨#[61]⟩ m.2).bind fun s => (whole s).bind fun e => (wantP c ⟨#[59]⟩ e.2).bind fun s => nodeP 14 m.1 0 [e.1] s else
  (takesP c ⟨#[114, 101, 116, 117, 114, 110]⟩ r.2).bind fun r => if r.1 = true then (whole r.2).bind fun e => (wantP c ⟨#[59]⟩ e.2).bind fun s => nodeP 19 E0 0 [e.1] s else
  (takesP c ⟨#[119, 104, 105, 108, 101]⟩ r.2).bind fun r => if r.1 = true then (whole r.2).bind fun e => (block e.2).bind fun b => nodeP 18 E0 0 [e.1, b.1] b.2 else
  (takesP c ⟨#[105, 102]⟩ r.2).bind fun r => if r.1 = true then (whole r.2).bind fun e => (block e.2).bind fun b => (takesP c ⟨#[101, 108, 115, 101]⟩ b.2).bind fun q =>
    if q.1 = true then (block q.2).bind fun b2 => nodeP 17 E0 0 [e.1, b.1, b2.1] b2.2 else nodeP 17 E0 0 [e.1, b.1] q.2 else
  begun r.2
/-- The parser's functions, by their numbers; 2310 to 2312: rows of operands. -/
def parse : Nat → Nat → PM
  | 0, _, _ => none
  | D + 1, k, st => if D < 30 ∨ D > 2000000 then none else
    if k = 110 then ret (wholeP c (un (parse D 158))) st
    else if k = 158 then ret (binP c ⟨#[111, 114]⟩ 13 (un (parse D 188)) D) st
    else if k = 188 then ret (binP c ⟨#[97, 110, 100]⟩ 12 (un (parse D 203)) D) st
    else if k = 203 then ret (compareP c (un (parse D 220))) st
    else if k = 220 then parse D 2310 st
    else if k = 2310 then ret (rowP c [⟨#[46, 46]⟩] (un (parse D 232)) D) st
    else if k = 232 then parse D 2311 st
    else if k = 2311 then ret (rowP c [⟨#[43]⟩, ⟨#[45]⟩] (un (parse D 238)) D) st
    else if k = 238 then parse D 2312 st
    else if k = 2312 then ret (rowP c [⟨#[42]⟩, ⟨#[47]⟩, ⟨#[37]⟩] (un (parse D 241)) D) st
    else if k = 241 then ret (unaryP c (un (parse D 241)) (un (parse D 242))) st
    else if k = 242 then ret (behindP c (un (parse D 243)) (un (parse D 110)) (parse D 244) D) st
    else if k = 243 then ret (primaryP c (un (parse D 110)) (un (parse D 245)) (un (parse D 246))) st
    else if k = 244 then argsP c (un (parse D 110)) D st
    else if k = 245 then ret (fnP c (un (parse D 111)) D) st
    else if k = 246 then ret (tableP c (un (parse D 247)) D) st
    else if k = 247 then ret (fieldP c (un (parse D 110))) st
    else if k = 111 then ret (blockP c (un (parse D 63)) D) st
    else if k = 112 then ret (begunP c (un (parse D 110))) st
    else if k = 63 then ret (stmtP c (un (parse D 110)) (un (parse D 111)) (un (parse D 112))) st
    else none
def topLoop (stmt : PI) : Nat → List Int → PM
  | 0, _, _ => none
  | n + 1, out, st => if st.at' < c.toks.length ∧ st.code = 0 then (stmt st).bind fun x => topLoop stmt n (out ++ [x.1]) x.2 else some (out, st)
end
end Go.Proofs.Ytadmoackacickaa
/- The parser's expressions. -/
set_option linter.unusedSimpArgs false
namespace Go.Proofs.Ytadmoackacickaa
open Go Go.AH

def Sim (c : PC) (D f : Nat) (m : PI) : Prop := ∀ (h : AHeap) (st : PSt) (rn : Option Nat) (a : Int) (st' : PSt), PH c h st rn → m st = some (a, st') → Pp c h rn (call Try.prog Ms D f [ptr c.p 0] h) (.int .i64 a) st'
theorem bnd {α β : Type} {o : Option α} {f : α → Option β} {b : β} (h : o.bind f = some b) : ∃ a, o = some a ∧ f a = some b := Option.bind_eq_some_iff.1 h
theorem ix_loop {C : ACall} {N r L : Nat} {t : ByteArray} {h : AHeap} (tr : RowE h r 9 (opTexts.map Value.string)) : ∀ (k j m : Nat), 10 - j = k → j ≤ 10 → k < m →
    s120_0 hk0 C N m (slc r 0 10) t 10 (j : Int) h = some (.int .i64 (ixGo t (opTexts.drop j) j), h) := by
  intro k
  induction k with
  | zero =>
    intro j m hk hj hm
    obtain ⟨m, rfl⟩ : ∃ q, m = q + 1 := ⟨m - 1, by omega⟩
    have : ¬ ((j : Int) < 10) := by omega
    have hl : opTexts.length = 10 := rfl
    rw [s120_0_eq, decide_eq_false this, cond_false, List.drop_eq_nil_of_le (by omega)]; rfl
  | succ k ih =>
    intro j m hk hj hm
    obtain ⟨m, rfl⟩ : ∃ q, m = q + 1 := ⟨m - 1, by omega⟩
    have hl : opTexts.length = 10 := rfl
    have hlt : j < opTexts.length := by omega
    have hI : ((j : Int) < 10) := by omega
    have hix : aIdx (slc r 0 10) (.int .i64 (j : Int)) 1 = some (ptr r j) := by simp [aIdx, slc]; omega
    have hld : aLd1 h (ptr r j) = some (.string (opTexts[j]'hlt)) := tr.row.ld1 (by simp [hlt])
    have wj : IntKind.i64.wrap ((j : Int) + 1) = ((j + 1 : Nat) : Int) := by rw [wr (by omega) (by omega)]; omega
    rw [s120_0_eq, decide_eq_true hI, cond_true, hix, Option.bind_some, hld, Option.bind_some, List.drop_eq_getElem_cons hlt, ixGo]
    simp only [asS, Option.bind_some]
    cases (t.toList == (opTexts[j]'hlt).toList) with
    | true => rw [cond_true, if_pos rfl]
    | false =>
      rw [cond_false, if_neg (by simp), wj]
      exact ih (j + 1) m (by omega) (by omega) (by omega)
theorem ops172 (d : Nat) (h : AHeap) : call Try.prog Ms (d + 1) 172 [] h = some (slc h.size 0 10, h.new 9 (opTexts.map Value.string)) := by
  rw [c172, e172]
  rfl
theorem ix_bd (t : ByteArray) : ∀ (l : List ByteArray) (i : Int), 0 ≤ i → i ≤ 100 → l.length ≤ 100 → -1 ≤ ixGo t l i ∧ ixGo t l i ≤ i + l.length
  | [], i, h0, _, _ => by rw [ixGo]; simp; omega
  | u :: us, i, h0, h1, h2 => by
    rw [ixGo]
    split
    · simp; omega
    · by_cases hi : i + 1 ≤ 100
      · have := ix_bd t us (i + 1) (by omega) hi (by simp at h2; omega)
        simp at *; omega
      · have : ∀ (l : List ByteArray) (k : Int), 0 ≤ k → -1 ≤ ixGo t l k ∧ ixGo t l k ≤ k + l.length := by
          intro l
          induction l with
          | nil => intro k hk; rw [ixGo]; simp; omega
          | cons v vs ihv =>
            intro k hk
            rw [ixGo]
            split
            · simp; omega
            · have := ihv (k + 1) (by omega); simp; omega
        have := this us (i + 1) (by omega)
        simp; omega
theorem l120 {d r : Nat} {t : ByteArray} {h : AHeap} (tr : RowE h r 9 (opTexts.map Value.string)) : call Try.prog Ms (d + 20) 120 [slc r 0 10, .string t] h = some (.int .i64 (ixGo t opTexts 0), h) := by
  have ix := ix_loop (C := call Try.prog Ms (d + 19)) (N := d + 19) (L := 0) (t := t) tr 10 0 (d + 19) rfl (by omega) (by omega)
  rw [List.drop_zero, show (((0 : Nat) : Int)) = 0 from rfl] at ix
  have hcall : call Try.prog Ms (d + 20) 120 [slc r 0 10, .string t] h = evFn hk0 Try.prog (call Try.prog Ms (d + 19)) M120 (d + 19) Try.f120 [slc r 0 10, .string t] h := c120 (d + 19) _ _
  have hlen : aLen (slc r 0 10) = some (.int .i64 10) := rfl
  rw [hcall, e120, hlen, Option.bind_some]
  change (Option.some (10 : Int)).bind (fun n2 => s120_0 hk0 (call Try.prog Ms (d + 19)) (d + 19) (d + 19) (slc r 0 10) t n2 0 h) = _
  rw [Option.bind_some, ix]
theorem op_loop {d N r : Nat} {c : PC} {texts : List ByteArray} (hl : texts.length ≤ 10) : ∀ (k j m : Nat) (h : AHeap) (st : PSt) (rn : Option Nat), texts.length - j = k → j ≤ texts.length → k < m → PH c h st rn → RowE h r 9 (texts.map Value.string) →
    ∃ h', s221_0 hk0 (call Try.prog Ms (d + 20)) N m (ptr c.p 0) (slc r 0 texts.length) (texts.length : Int) (j : Int) h = some (.int .i64 (opOfP c (texts.drop j) st), h') ∧ Ext h.size h h' := by
  intro k
  induction k with
  | zero =>
    intro j m h st rn hk hj hm x tr
    obtain ⟨m, rfl⟩ : ∃ q, m = q + 1 := ⟨m - 1, by omega⟩
    have : ¬ ((j : Int) < (texts.length : Int)) := by omega
    refine ⟨h, ?_, Ext.refl _ _⟩
    rw [s221_0_eq, decide_eq_false this, cond_false, List.drop_eq_nil_of_le (by omega)]; rfl
  | succ k ih =>
    intro j m h st rn hk hj hm x tr
    obtain ⟨m, rfl⟩ : ∃ q, m = q + 1 := ⟨m - 1, by omega⟩
    have hlt : j < texts.length := by omega
    have hI : ((j : Int) < (texts.length : Int)) := by omega
    have hix : aIdx (slc r 0 texts.length) (.int .i64 (j : Int)) 1 = some (ptr r j) := by simp [aIdx, slc, hlt]
    have hld : aLd1 h (ptr r j) = some (.string (texts[j]'hlt)) := tr.row.ld1 (by simp [hlt])
    have wj : IntKind.i64.wrap ((j : Int) + 1) = ((j + 1 : Nat) : Int) := by rw [wr (by omega) (by omega)]; omega
    obtain ⟨h2, c2, x2⟩ := l154 (d := d + 18) x (texts[j]'hlt)
    have c2' : call Try.prog Ms (d + 20) 154 [ptr c.p 0, .string (texts[j]'hlt)] h = _ := c2
    rw [s221_0_eq, decide_eq_true hI, cond_true, hix, Option.bind_some, hld, Option.bind_some, List.drop_eq_getElem_cons hlt, opOfP]
    simp only [asS, Option.bind_some]
    rw [c2', Option.bind_some]
    simp only [asB, Option.bind_some]
    cases isP c st (texts[j]'hlt) with
    | true =>
      have e3 := Ext.new (Nat.le_refl h2.size) 9 (opTexts.map Value.string)
      have c3 : call Try.prog Ms (d + 20) 172 [] h2 = some (slc h2.size 0 10, h2.new 9 (opTexts.map Value.string)) := ops172 (d + 19) h2
      have c4 := l120 (d := d) (t := texts[j]'hlt) (RowE.new h2 9 (opTexts.map Value.string))
      have bd := ix_bd (texts[j]'hlt) opTexts 0 (by omega) (by omega) (by decide)
      have hl10 : opTexts.length = 10 := rfl
      have w : IntKind.i64.wrap (1 + ixGo (texts[j]'hlt) opTexts 0) = 1 + ixGo (texts[j]'hlt) opTexts 0 := wr (by omega) (by omega)
      refine ⟨_, ?_, x2.trans (e3.mono x2.size)⟩
      rw [cond_true, if_pos rfl, c3, Option.bind_some, c4, Option.bind_some]
      simp only [asI, if_true, Option.bind_some, w]
    | false =>
      obtain ⟨h3, c3, x3⟩ := ih (j + 1) m h2 st rn (by omega) (by omega) (by omega) (x.ext x2) (tr.pk (PK.ext x2 (rn := none)) (by decide) (by decide))
      refine ⟨h3, ?_, x2.trans (x3.mono x2.size)⟩
      rw [cond_false, if_neg (by simp), wj]
      exact c3
theorem l221 {d r : Nat} {c : PC} {texts : List ByteArray} (hl : texts.length ≤ 10) {h : AHeap} {st : PSt} {rn : Option Nat} (x : PH c h st rn) (tr : RowE h r 9 (texts.map Value.string)) :
    ∃ h', call Try.prog Ms (d + 21) 221 [ptr c.p 0, slc r 0 texts.length] h = some (.int .i64 (opOfP c texts st), h') ∧ Ext h.size h h' := by
  obtain ⟨h', a, b⟩ := op_loop (d := d) (N := d + 20) hl texts.length 0 (d + 20) h st rn (by omega) (by omega) (by omega) x tr
  refine ⟨h', ?_, b⟩
  have hcall : call Try.prog Ms (d + 21) 221 [ptr c.p 0, slc r 0 texts.length] h = evFn hk0 Try.prog (call Try.prog Ms (d + 20)) M221 (d + 20) Try.f221 [ptr c.p 0, slc r 0 texts.length] h := c221 (d + 20) _ _
  have hlen : aLen (slc r 0 texts.length) = some (.int .i64 (texts.length : Int)) := rfl
  rw [hcall, e221, hlen, Option.bind_some]
  change (Option.some (texts.length : Int)).bind (fun n2 => s221_0 hk0 (call Try.prog Ms (d + 20)) (d + 20) (d + 20) (ptr c.p 0) (slc r 0 texts.length) n2 0 h) = _
  rw [Option.bind_some]
  have a' : s221_0 hk0 (call Try.prog Ms (d + 20)) (d + 20) (d + 20) (ptr c.p 0) (slc r 0 texts.length) (texts.length : Int) 0 h = _ := a
  rw [a', List.drop_zero]
end Go.Proofs.Ytadmoackacickaa
/- The parser's expressions (2): rows of operands, comparisons, turns. -/
set_option linter.unusedSimpArgs false
namespace Go.Proofs.Ytadmoackacickaa
open Go Go.AH

def clos (g p : Nat) : Value := .func (.func g) #[ptr p 0] #[]
theorem callC (C : ACall) (g p : Nat) (h : AHeap) : aCallV C (clos g p) [] h = C g [ptr p 0] h := by
  show C g (([ptr p 0] : List Value) ++ [] ++ []) h = _
  rw [List.append_nil, List.append_nil]
end Go.Proofs.Ytadmoackacickaa
/- The parser's lists of kids: arguments. -/
set_option linter.unusedSimpArgs false
namespace Go.Proofs.Ytadmoackacickaa
open Go Go.AH

/-- A list under way: what is appended to it comes behind all that its family has. -/
def PLI (h : AHeap) (v : Value) (xs : List Int) (rt : Nat) : Prop := (∃ i, v = slc i 0 xs.length ∧ OwnR h i rt 3 (ints xs)) ∧ h.tip 3 rt = xs.length
def AK (rt : Nat) (h h' : AHeap) : Prop := h.size ≤ h'.size ∧ (∀ j o, h.at? j = some o → h'.at? j = some o) ∧ ∀ r, r < h.size → r ≠ rt → h'.tip 3 r = h.tip 3 r
theorem PLI.new (h : AHeap) (xs : List Int) : PLI (h.new 3 (ints xs)) (slc h.size 0 xs.length) xs h.size := ⟨⟨h.size, rfl, OwnR.new h 3 (ints xs)⟩, by simp [AHeap.new, ints]⟩
theorem PLI.lt {h : AHeap} {v : Value} {xs : List Int} {rt : Nat} (x : PLI h v xs rt) : rt < h.size := by
  obtain ⟨⟨i, _, o⟩, _⟩ := x
  have := o.lt; omega
theorem PLI.pk {h h' : AHeap} {v : Value} {xs : List Int} {rt : Nat} {rn : Option Nat} (x : PLI h v xs rt) (k : PK rn h h') : PLI h' v xs rt := by
  have hl := x.lt
  obtain ⟨⟨i, e, o⟩, t⟩ := x
  exact ⟨⟨i, e, o.pk k (by decide) (by decide)⟩, (k.2.2 rt hl).trans t⟩
theorem PLI.kid {h : AHeap} {v : Value} {xs : List Int} {rt : Nat} (x : PLI h v xs rt) : KidH h v xs := let ⟨⟨i, e, o⟩, _⟩ := x; .inr ⟨i, rt, e, o⟩
theorem PLI.app {h : AHeap} {v x : Value} {xs ys : List Int} {rt : Nat} (l : PLI h v xs rt) (hs : aSrc h 1 x = some (ys.length, ints ys)) (h1 : xs.length + ys.length ≤ 10000000) :
    ∃ v' h', aApp h 3 1 8 v x = some (v', h') ∧ PLI h' v' (xs ++ ys) rt ∧ AK rt h h' := by
  obtain ⟨⟨i, rfl, ep, ha⟩, ht⟩ := l
  have hn : xs.length * 1 = (ints xs).length := by simp [ints]
  have m1 : xs.length + ys.length ≤ most := by show _ ≤ 140737488355328; omega
  have m2 : (xs.length + ys.length) * 8 ≤ most := by show _ ≤ 140737488355328; omega
  refine ⟨slc h.size 0 (xs.length + ys.length), h.app ⟨rt, ep, false, 3, ints xs⟩ (xs.length * 1) (ints xs ++ ints ys), ?_, ⟨⟨h.size, by simp, ?_⟩, by simp [AHeap.app, ints]⟩, by show h.size ≤ h.size + 1; omega, fun j o a => at?_app_old a _ (fun _ => ?_), fun r _ hne => by simp [AHeap.app, hne]⟩
  · have hl : (ints xs).length = xs.length := by simp [ints]
    simp only [aApp, aAppG, slc, ha, hs, Option.bind_some]
    rw [if_pos ⟨trivial, trivial, by omega, m1, m2⟩, hn, List.take_length]
  · rw [show ints (xs ++ ys) = ints xs ++ ints ys by simp [ints]]
    exact ⟨_, at?_app_same ha _ _⟩
  · show ¬ xs.length * 1 < h.tip 3 rt
    omega
theorem PLI.src {h : AHeap} {v : Value} {xs : List Int} {rt : Nat} (l : PLI h v xs rt) : aSrc h 1 v = some (xs.length, ints xs) := by
  obtain ⟨⟨i, rfl, o⟩, _⟩ := l
  have := o.row.src (off := 0) (n := xs.length) (esz := 1) (by simp [ints])
  rw [this, List.drop_zero, show xs.length * 1 = (ints xs).length by simp [ints], List.take_length]
theorem PLI.push {h : AHeap} {v : Value} {xs : List Int} {rt : Nat} (l : PLI h v xs rt) (h1 : xs.length ≤ 9000000) (y : Int) :
    ∃ v' h', aApp (h.new 3 [.int .i64 y]) 3 1 8 v (slc h.size 0 1) = some (v', h') ∧ PLI h' v' (xs ++ [y]) rt ∧ AK rt h h' := by
  have e := Ext.new (Nat.le_refl h.size) 3 (ints [y])
  have l1 := l.pk (PK.ext e (rn := none))
  obtain ⟨v', h', a, b, k⟩ := l1.app (ys := [y]) (PLI.new h [y]).src (by simp; omega)
  exact ⟨v', h', a, b, Nat.le_trans e.size k.1, fun j o z => k.2.1 j o (e.at? (at?_obj z).2.1 z), fun r hr hne => (k.2.2 r (Nat.lt_of_lt_of_le hr e.size) hne).trans (e.tip 3 r hr)⟩
end Go.Proofs.Ytadmoackacickaa
/- The parser's operands: what stands behind. -/
set_option linter.unusedSimpArgs false
namespace Go.Proofs.Ytadmoackacickaa
open Go Go.AH

section
variable {d : Nat} {c : PC} {h : AHeap} {st st' : PSt} {rn : Option Nat}
end
end Go.Proofs.Ytadmoackacickaa
/- The parser's operands: primaries, functions, tables, fields. -/
set_option linter.unusedSimpArgs false
namespace Go.Proofs.Ytadmoackacickaa
open Go Go.AH

end Go.Proofs.Ytadmoackacickaa
/- The parser: fields. -/
set_option linter.unusedSimpArgs false
namespace Go.Proofs.Ytadmoackacickaa
open Go Go.AH

theorem flat_one {ts : List Tok} {j : Nat} (hj : j < ts.length) {q : Nat} (hq : q < 4) : (flat ts)[j * 4 + q]? = ts[j].cells[q]? := by
  rw [← flat_at ts j hj, List.getElem?_take, if_pos hq, List.getElem?_drop]
theorem TokH.one {h : AHeap} {v : Value} {ts : List Tok} (x : TokH h v ts) {j : Nat} (hj : j < ts.length) : ∃ i, aIdx v (.int .i64 (j : Int)) 4 = some (ptr i (j * 4)) ∧ aLd1 h (ptr i (j * 4)) = some (.int .i64 ts[j].k) ∧ aLd1 h (ptr i (j * 4 + 2)) = some (.string ts[j].text) := by
  rcases x with ⟨rfl, rfl⟩ | ⟨i, rfl, hr⟩
  · simp at hj
  · refine ⟨i, by simp [aIdx, slc, hj], hr.row.ld1 (by rw [show j * 4 = j * 4 + 0 by omega, flat_one hj (by omega)]; rfl), hr.row.ld1 (by rw [flat_one hj (by omega)]; rfl)⟩
end Go.Proofs.Ytadmoackacickaa
/- The parser: blocks and statements. -/
set_option linter.unusedSimpArgs false
namespace Go.Proofs.Ytadmoackacickaa
open Go Go.AH

end Go.Proofs.Ytadmoackacickaa
