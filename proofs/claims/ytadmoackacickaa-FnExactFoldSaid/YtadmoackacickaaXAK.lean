import Derived.Test.YtadmoackacickaaXAD
import Derived.KernelRfl
import Derived.Test.YtadmoackacickaaProg
import Derived.Test.YtadmoackacickaaXAJ
set_option linter.unusedVariables false
namespace Go.Proofs.Ytadmoackacickaa
open Go Go.AH
/-! 132 (*loop.example/g00101/impl.printer).inner -/
noncomputable def F132_0 (hk : Hk (Value × AHeap)) (C : ACall) (N : Nat) : Nx (Value × AHeap) := evSt hk Try.prog C M132 N Try.f132 [1, 1, 2, 1, 5, 1, 5, 1, 5, 1, 1] []
noncomputable def s132_0 (hk : Hk (Value × AHeap)) (C : ACall) (N : Nat) (x0 : Value) (x3 : Value) (x5 : ByteArray) (h : AHeap) := hk 8 (⟨90, [(0, x0), (3, x3), (5, .string x5)]⟩) h (F132_0 hk C N)
theorem e132 (hk : Hk (Value × AHeap)) (C : ACall) (N : Nat) (x0 : Value) (x1 : Value) (h : AHeap) : evFn hk Try.prog C M132 N Try.f132 [x0, x1] h =
    (aCells x1).bind fun c1 => aNew h 73 c1 fun p2 h3 => (aOff p2 0).bind fun v4 => (aLd1 h3 v4).bind fun v5 => (asI .i64 v5).bind fun n6 => bif n6 == 6 then (aOff p2 3).bind fun v7 => (aLd1 h3 v7).bind fun v8 => (aLen v8).bind fun v9 => (asI .i64 v9).bind fun n10 => aNewS h3 9 [.string (⟨#[102, 110]⟩), .string (⟨#[40]⟩)] 2 fun p11 h12 => (C 129 [x0, p11] h12).bind fun r13 => (aOff p2 3).bind fun v14 => (aLd1 r13.2 v14).bind fun v15 => (aSub r13.2 3 v15 none (some (.int .i64 (IntKind.i64.wrap (n10 - 1)))) 1).bind fun v16 => (C 131 [x0, v16] r13.2).bind fun r17 => aNewS r17.2 9 [.string (⟨#[41]⟩)] 1 fun p18 h19 => (C 129 [x0, p18] h19).bind fun r20 => (aOff p2 3).bind fun v21 => (aLd1 r20.2 v21).bind fun v22 => (aIdx v22 (.int .i64 (IntKind.i64.wrap (n10 - 1))) 1).bind fun v23 => (aLd1 r20.2 v23).bind fun v24 => (asI .i64 v24).bind fun n25 => (C 81 [x0, .int .i64 n25] r20.2).bind fun r26 => some (.tuple (List.toArray []), r26.2) else bif n6 == 7 then aNewS h3 9 [.string (⟨#[123]⟩)] 1 fun p27 h28 => (C 129 [x0, p27] h28).bind fun r29 => (aOff p2 3).bind fun v30 => (aLd1 r29.2 v30).bind fun v31 => (C 131 [x0, v31] r29.2).bind fun r32 => aNewS r32.2 9 [.string (⟨#[125]⟩)] 1 fun p33 h34 => (C 129 [x0, p33] h34).bind fun r35 => some (.tuple (List.toArray []), r35.2) else bif n6 == 11 then aNewS h3 9 [.string (⟨#[45]⟩), .string (⟨#[110, 111, 116]⟩), .string (⟨#[35]⟩)] 3 fun p36 h37 => (aOff p2 2).bind fun v38 => (aLd1 h37 v38).bind fun v39 => (asI .i64 v39).bind fun n40 => (aIdx p36 (.int .i64 (IntKind.i64.wrap (n40 - 1))) 1).bind fun v41 => (aLd1 h37 v41).bind fun v42 => (asS v42).bind fun t43 => aNewS h37 9 [.string t43] 1 fun p44 h45 => (C 129 [x0, p44] h45).bind fun r46 => (aOff p2 3).bind fun v47 => (aLd1 r46.2 v47).bind fun v48 => (aIdx v48 (.int .i64 0) 1).bind fun v49 => (aLd1 r46.2 v49).bind fun v50 => (asI .i64 v50).bind fun n51 => (C 81 [x0, .int .i64 n51] r46.2).bind fun r52 => some (.tuple (List.toArray []), r52.2) else (aOff p2 0).bind fun v53 => (aLd1 h3 v53).bind fun v54 => (asI .i64 v54).bind fun n55 => bif n55 == 10 then (aOff p2 2).bind fun v56 => (aLd1 h3 v56).bind fun v57 => (asI .i64 v57).bind fun n58 => (C 172 [] h3).bind fun r59 => ((aLd1 r59.2 v56).bind fun v60 => (asI .i64 v60).bind fun n61 => some (vbeq (.int .i64 n61) (.int .i64 n58))).bind fun b62 => bif b62 then (aIdx r59.1 (.int .i64 (IntKind.i64.wrap (n58 - 1))) 1).bind fun v63 => (aLd1 r59.2 v63).bind fun v64 => (asS v64).bind fun t65 => s132_0 hk C N x0 p2 t65 r59.2 else none else bif n55 == 13 then s132_0 hk C N x0 p2 (⟨#[111, 114]⟩) h3 else s132_0 hk C N x0 p2 (⟨#[97, 110, 100]⟩) h3 := by kernel_rfl
theorem s132_0_j (C : ACall) (N : Nat) (x0 : Value) (x3 : Value) (x5 : ByteArray) (h : AHeap) : s132_0 hk0 C N x0 x3 x5 h = F132_0 hk0 C N (⟨90, [(0, x0), (3, x3), (5, .string x5)]⟩) h := by delta s132_0; exact hk0_app _ _ _ _
theorem s132_0_eq (hk : Hk (Value × AHeap)) (C : ACall) (N : Nat) (x0 : Value) (x3 : Value) (x5 : ByteArray) (h : AHeap) : F132_0 hk C N (⟨90, [(0, x0), (3, x3), (5, .string x5)]⟩) h =
    (aOff x3 3).bind fun v66 => (aLd1 h v66).bind fun v67 => (aIdx v67 (.int .i64 0) 1).bind fun v68 => (aLd1 h v68).bind fun v69 => (asI .i64 v69).bind fun n70 => (C 81 [x0, .int .i64 n70] h).bind fun r71 => aNewS r71.2 9 [.string x5] 1 fun p72 h73 => (C 129 [x0, p72] h73).bind fun r74 => (aOff x3 3).bind fun v75 => (aLd1 r74.2 v75).bind fun v76 => (aIdx v76 (.int .i64 1) 1).bind fun v77 => (aLd1 r74.2 v77).bind fun v78 => (asI .i64 v78).bind fun n79 => (C 81 [x0, .int .i64 n79] r74.2).bind fun r80 => some (.tuple (List.toArray []), r80.2) := by kernel_rfl
theorem c132 (d : Nat) (args : List Value) (h : AHeap) : call Try.prog Ms (d + 1) 132 args h = evFn hk0 Try.prog (call Try.prog Ms d) M132 d Try.f132 args h := by kernel_rfl

/-! 133 (*loop.example/g00101/impl.printer).statement -/
noncomputable def F133_0 (hk : Hk (Value × AHeap)) (C : ACall) (N : Nat) (n1 : Nat) : Nx (Value × AHeap) := evSt hk Try.prog C M133 N Try.f133 [1, 1, 2, 1, 5, 1, 5, 1, 5, 1, 5, 1, 5, 1, 5, 1, 5, 1, 0, 1, 2, 6] [n1]
noncomputable def s133_0 (hk : Hk (Value × AHeap)) (C : ACall) (N : Nat) (n1 : Nat) (x0 : Value) (x12 : Value) (x13 : Int) (x14 : Int) (h : AHeap) := F133_0 hk C N n1 (⟨158, [(0, x0), (12, x12), (13, .int .i64 x13), (14, .int .i64 x14)]⟩) h
theorem e133 (hk : Hk (Value × AHeap)) (C : ACall) (N : Nat) (x0 : Value) (x1 : Value) (h : AHeap) : evFn hk Try.prog C M133 N Try.f133 [x0, x1] h =
    (aCells x1).bind fun c1 => aNew h 73 c1 fun p2 h3 => (aOff p2 0).bind fun v4 => (aLd1 h3 v4).bind fun v5 => (asI .i64 v5).bind fun n6 => bif n6 == 14 then (aOff p2 1).bind fun v7 => (aLd1 h3 v7).bind fun v8 => (asS v8).bind fun t9 => aNewS h3 9 [.string (⟨#[108, 111, 99, 97, 108]⟩), .string t9, .string (⟨#[61]⟩)] 3 fun p10 h11 => (C 129 [x0, p10] h11).bind fun r12 => (aOff p2 3).bind fun v13 => (aLd1 r12.2 v13).bind fun v14 => (aIdx v14 (.int .i64 0) 1).bind fun v15 => (aLd1 r12.2 v15).bind fun v16 => (asI .i64 v16).bind fun n17 => (C 81 [x0, .int .i64 n17] r12.2).bind fun r18 => aNewS r18.2 9 [.string (⟨#[59]⟩)] 1 fun p19 h20 => (C 129 [x0, p19] h20).bind fun r21 => some (.tuple (List.toArray []), r21.2) else bif n6 == 15 then (aOff p2 1).bind fun v22 => (aLd1 h3 v22).bind fun v23 => (asS v23).bind fun t24 => aNewS h3 9 [.string t24, .string (⟨#[61]⟩)] 2 fun p25 h26 => (C 129 [x0, p25] h26).bind fun r27 => (aOff p2 3).bind fun v28 => (aLd1 r27.2 v28).bind fun v29 => (aIdx v29 (.int .i64 0) 1).bind fun v30 => (aLd1 r27.2 v30).bind fun v31 => (asI .i64 v31).bind fun n32 => (C 81 [x0, .int .i64 n32] r27.2).bind fun r33 => aNewS r33.2 9 [.string (⟨#[59]⟩)] 1 fun p34 h35 => (C 129 [x0, p34] h35).bind fun r36 => some (.tuple (List.toArray []), r36.2) else bif n6 == 16 then (aOff p2 3).bind fun v37 => (aLd1 h3 v37).bind fun v38 => (aIdx v38 (.int .i64 0) 1).bind fun v39 => (aLd1 h3 v39).bind fun v40 => (asI .i64 v40).bind fun n41 => (C 81 [x0, .int .i64 n41] h3).bind fun r42 => aNewS r42.2 9 [.string (⟨#[91]⟩)] 1 fun p43 h44 => (C 129 [x0, p43] h44).bind fun r45 => (aOff p2 3).bind fun v46 => (aLd1 r45.2 v46).bind fun v47 => (aIdx v47 (.int .i64 1) 1).bind fun v48 => (aLd1 r45.2 v48).bind fun v49 => (asI .i64 v49).bind fun n50 => (C 81 [x0, .int .i64 n50] r45.2).bind fun r51 => aNewS r51.2 9 [.string (⟨#[93]⟩), .string (⟨#[61]⟩)] 2 fun p52 h53 => (C 129 [x0, p52] h53).bind fun r54 => (aOff p2 3).bind fun v55 => (aLd1 r54.2 v55).bind fun v56 => (aIdx v56 (.int .i64 2) 1).bind fun v57 => (aLd1 r54.2 v57).bind fun v58 => (asI .i64 v58).bind fun n59 => (C 81 [x0, .int .i64 n59] r54.2).bind fun r60 => aNewS r60.2 9 [.string (⟨#[59]⟩)] 1 fun p61 h62 => (C 129 [x0, p61] h62).bind fun r63 => some (.tuple (List.toArray []), r63.2) else bif n6 == 19 then aNewS h3 9 [.string (⟨#[114, 101, 116, 117, 114, 110]⟩)] 1 fun p64 h65 => (C 129 [x0, p64] h65).bind fun r66 => (aOff p2 3).bind fun v67 => (aLd1 r66.2 v67).bind fun v68 => (aIdx v68 (.int .i64 0) 1).bind fun v69 => (aLd1 r66.2 v69).bind fun v70 => (asI .i64 v70).bind fun n71 => (C 81 [x0, .int .i64 n71] r66.2).bind fun r72 => aNewS r72.2 9 [.string (⟨#[59]⟩)] 1 fun p73 h74 => (C 129 [x0, p73] h74).bind fun r75 => some (.tuple (List.toArray []), r75.2) else bif n6 == 20 then (aOff p2 3).bind fun v76 => (aLd1 h3 v76).bind fun v77 => (aIdx v77 (.int .i64 0) 1).bind fun v78 => (aLd1 h3 v78).bind fun v79 => (asI .i64 v79).bind fun n80 => (C 81 [x0, .int .i64 n80] h3).bind fun r81 => aNewS r81.2 9 [.string (⟨#[59]⟩)] 1 fun p82 h83 => (C 129 [x0, p82] h83).bind fun r84 => some (.tuple (List.toArray []), r84.2) else bif n6 == 18 then aNewS h3 9 [.string (⟨#[119, 104, 105, 108, 101]⟩)] 1 fun p85 h86 => (C 129 [x0, p85] h86).bind fun r87 => (aOff p2 3).bind fun v88 => (aLd1 r87.2 v88).bind fun v89 => (aIdx v89 (.int .i64 0) 1).bind fun v90 => (aLd1 r87.2 v90).bind fun v91 => (asI .i64 v91).bind fun n92 => (C 81 [x0, .int .i64 n92] r87.2).bind fun r93 => (aOff p2 3).bind fun v94 => (aLd1 r93.2 v94).bind fun v95 => (aIdx v95 (.int .i64 1) 1).bind fun v96 => (aLd1 r93.2 v96).bind fun v97 => (asI .i64 v97).bind fun n98 => (C 81 [x0, .int .i64 n98] r93.2).bind fun r99 => some (.tuple (List.toArray []), r99.2) else bif n6 == 17 then aNewS h3 9 [.string (⟨#[105, 102]⟩)] 1 fun p100 h101 => (C 129 [x0, p100] h101).bind fun r102 => (aOff p2 3).bind fun v103 => (aLd1 r102.2 v103).bind fun v104 => (aIdx v104 (.int .i64 0) 1).bind fun v105 => (aLd1 r102.2 v105).bind fun v106 => (asI .i64 v106).bind fun n107 => (C 81 [x0, .int .i64 n107] r102.2).bind fun r108 => (aOff p2 3).bind fun v109 => (aLd1 r108.2 v109).bind fun v110 => (aIdx v110 (.int .i64 1) 1).bind fun v111 => (aLd1 r108.2 v111).bind fun v112 => (asI .i64 v112).bind fun n113 => (C 81 [x0, .int .i64 n113] r108.2).bind fun r114 => (aOff p2 3).bind fun v115 => (aLd1 r114.2 v115).bind fun v116 => (aLen v116).bind fun v117 => (asI .i64 v117).bind fun n118 => bif decide (n118 > 2) then aNewS r114.2 9 [.string (⟨#[101, 108, 115, 101]⟩)] 1 fun p119 h120 => (C 129 [x0, p119] h120).bind fun r121 => (aOff p2 3).bind fun v122 => (aLd1 r121.2 v122).bind fun v123 => (aIdx v123 (.int .i64 2) 1).bind fun v124 => (aLd1 r121.2 v124).bind fun v125 => (asI .i64 v125).bind fun n126 => (C 81 [x0, .int .i64 n126] r121.2).bind fun r127 => some (.tuple (List.toArray []), r127.2) else some (.tuple (List.toArray []), r114.2) else aNewS h3 9 [.string (⟨#[123]⟩)] 1 fun p128 h129 => (C 129 [x0, p128] h129).bind fun r130 => (aOff p2 3).bind fun v131 => (aLd1 r130.2 v131).bind fun v132 => (aLen v132).bind fun v133 => (asI .i64 v133).bind fun n134 => s133_0 hk C N N x0 v132 n134 0 r130.2 := by kernel_rfl
theorem s133_0_eq (hk : Hk (Value × AHeap)) (C : ACall) (N : Nat) (n1 : Nat) (x0 : Value) (x12 : Value) (x13 : Int) (x14 : Int) (h : AHeap) : s133_0 hk C N (n1 + 1) x0 x12 x13 x14 h =
    bif decide (x14 < x13) then (aIdx x12 (.int .i64 x14) 1).bind fun v135 => (aLd1 h v135).bind fun v136 => (asI .i64 v136).bind fun n137 => (C 81 [x0, .int .i64 n137] h).bind fun r138 => s133_0 hk C N n1 x0 x12 x13 (IntKind.i64.wrap (x14 + 1)) r138.2 else aNewS h 9 [.string (⟨#[125]⟩)] 1 fun p139 h140 => (C 129 [x0, p139] h140).bind fun r141 => some (.tuple (List.toArray []), r141.2) := by kernel_rfl
theorem c133 (d : Nat) (args : List Value) (h : AHeap) : call Try.prog Ms (d + 1) 133 args h = evFn hk0 Try.prog (call Try.prog Ms d) M133 d Try.f133 args h := by kernel_rfl

/-! 169 loop.example/g00101/spec.l9Digits -/
noncomputable def F169_0 (hk : Hk (Value × AHeap)) (C : ACall) (N : Nat) (n1 : Nat) : Nx (Value × AHeap) := evSt hk Try.prog C M169 N Try.f169 [1, 1, 1, 1, 0, 2, 6] [n1]
noncomputable def s169_0 (hk : Hk (Value × AHeap)) (C : ACall) (N : Nat) (n1 : Nat) (x0 : Int) (x3 : ByteArray) (x4 : Bool) (h : AHeap) := F169_0 hk C N n1 (⟨31, [(0, .int .i64 x0), (3, .string x3), (4, .bool x4)]⟩) h
noncomputable def F169_1 (hk : Hk (Value × AHeap)) (C : ACall) (N : Nat) (n1 : Nat) : Nx (Value × AHeap) := evSt hk Try.prog C M169 N Try.f169 [1, 1, 1, 1, 0, 2, 3, 1, 2, 1, 1] [n1]
noncomputable def s169_1 (hk : Hk (Value × AHeap)) (C : ACall) (N : Nat) (n1 : Nat) (x0 : Int) (x3 : ByteArray) (x4 : Bool) (x5 : Int) (h : AHeap) := hk 9 (⟨31, [(0, .int .i64 x0), (3, .string x3), (4, .bool x4), (5, .int .i64 x5)]⟩) h (F169_1 hk C N n1)
theorem e169 (hk : Hk (Value × AHeap)) (C : ACall) (N : Nat) (x0 : Int) (h : AHeap) : evFn hk Try.prog C M169 N Try.f169 [.int .i64 x0] h =
    bif x0 == 0 then some (.string (⟨#[48]⟩), h) else s169_0 hk C N N x0 ⟨#[]⟩ (decide (x0 < 0)) h := by kernel_rfl
theorem s169_0_eq (hk : Hk (Value × AHeap)) (C : ACall) (N : Nat) (n1 : Nat) (x0 : Int) (x3 : ByteArray) (x4 : Bool) (h : AHeap) : s169_0 hk C N (n1 + 1) x0 x3 x4 h =
    bif x0 != 0 then bif decide ((Int.tmod x0 10) < 0) then s169_1 hk C N n1 x0 x3 x4 (IntKind.i64.wrap (0 - (Int.tmod x0 10))) h else s169_1 hk C N n1 x0 x3 x4 (Int.tmod x0 10) h else bif x4 then (aBin .add (.string (⟨#[45]⟩)) (.string x3)).bind fun v1 => (asS v1).bind fun t2 => some (.string t2, h) else some (.string x3, h) := by kernel_rfl
theorem s169_1_j (C : ACall) (N : Nat) (n1 : Nat) (x0 : Int) (x3 : ByteArray) (x4 : Bool) (x5 : Int) (h : AHeap) : s169_1 hk0 C N n1 x0 x3 x4 x5 h = F169_1 hk0 C N n1 (⟨31, [(0, .int .i64 x0), (3, .string x3), (4, .bool x4), (5, .int .i64 x5)]⟩) h := by delta s169_1; exact hk0_app _ _ _ _
theorem s169_1_eq (hk : Hk (Value × AHeap)) (C : ACall) (N : Nat) (n1 : Nat) (x0 : Int) (x3 : ByteArray) (x4 : Bool) (x5 : Int) (h : AHeap) : F169_1 hk C N n1 (⟨31, [(0, .int .i64 x0), (3, .string x3), (4, .bool x4), (5, .int .i64 x5)]⟩) h =
    aNewS h 5 [.int .u8 (IntKind.u8.wrap (IntKind.i64.wrap (48 + x5)))] 1 fun p3 h4 => (aCvStr h4 p3).bind fun v5 => (asS v5).bind fun t6 => (aBin .add (.string t6) (.string x3)).bind fun v7 => (asS v7).bind fun t8 => s169_0 hk C N n1 (IntKind.i64.wrap (Int.tdiv x0 10)) t8 x4 h4 := by kernel_rfl
theorem c169 (d : Nat) (args : List Value) (h : AHeap) : call Try.prog Ms (d + 1) 169 args h = evFn hk0 Try.prog (call Try.prog Ms d) M169 d Try.f169 args h := by kernel_rfl

/-! 170 loop.example/g00101/spec.l9Commas -/
noncomputable def F170_0 (hk : Hk (Value × AHeap)) (C : ACall) (N : Nat) (n1 : Nat) : Nx (Value × AHeap) := evSt hk Try.prog C M170 N Try.f170 [1, 1, 0, 1, 2, 6] [n1]
noncomputable def s170_0 (hk : Hk (Value × AHeap)) (C : ACall) (N : Nat) (n1 : Nat) (x1 : Value) (x2 : Value) (x5 : Value) (x6 : Int) (h : AHeap) := F170_0 hk C N n1 (⟨28, [(1, x1), (2, x2), (5, x5), (6, .int .i64 x6)]⟩) h
noncomputable def F170_1 (hk : Hk (Value × AHeap)) (C : ACall) (N : Nat) (n1 : Nat) : Nx (Value × AHeap) := evSt hk Try.prog C M170 N Try.f170 [1, 1, 0, 1, 2, 3, 1, 0, 2, 1] [n1]
noncomputable def s170_1 (hk : Hk (Value × AHeap)) (C : ACall) (N : Nat) (n1 : Nat) (x1 : Value) (x2 : Value) (x5 : Value) (x6 : Int) (h : AHeap) := hk 7 (⟨28, [(1, x1), (2, x2), (5, x5), (6, .int .i64 x6)]⟩) h (F170_1 hk C N n1)
theorem e170 (hk : Hk (Value × AHeap)) (C : ACall) (N : Nat) (x0 : Value) (x1 : Value) (h : AHeap) : evFn hk Try.prog C M170 N Try.f170 [x0, x1] h =
    (aCells x0).bind fun c1 => aNew h 35 c1 fun p2 h3 => aNewS h3 9 [] 0 fun p4 h5 => s170_0 hk C N N x1 p2 p4 0 h5 := by kernel_rfl
theorem s170_0_eq (hk : Hk (Value × AHeap)) (C : ACall) (N : Nat) (n1 : Nat) (x1 : Value) (x2 : Value) (x5 : Value) (x6 : Int) (h : AHeap) : s170_0 hk C N (n1 + 1) x1 x2 x5 x6 h =
    (aLen x1).bind fun v6 => (asI .i64 v6).bind fun n7 => bif decide (x6 < n7) then bif decide (x6 > 0) then aNewS h 9 [.string (⟨#[44]⟩)] 1 fun p8 h9 => (aApp h9 9 1 16 x5 p8).bind fun r10 => s170_1 hk C N n1 x1 x2 r10.1 x6 r10.2 else s170_1 hk C N n1 x1 x2 x5 x6 h else some (x5, h) := by kernel_rfl
theorem s170_1_j (C : ACall) (N : Nat) (n1 : Nat) (x1 : Value) (x2 : Value) (x5 : Value) (x6 : Int) (h : AHeap) : s170_1 hk0 C N n1 x1 x2 x5 x6 h = F170_1 hk0 C N n1 (⟨28, [(1, x1), (2, x2), (5, x5), (6, .int .i64 x6)]⟩) h := by delta s170_1; exact hk0_app _ _ _ _
theorem s170_1_eq (hk : Hk (Value × AHeap)) (C : ACall) (N : Nat) (n1 : Nat) (x1 : Value) (x2 : Value) (x5 : Value) (x6 : Int) (h : AHeap) : F170_1 hk C N n1 (⟨28, [(1, x1), (2, x2), (5, x5), (6, .int .i64 x6)]⟩) h =
    (aLdN h x2 2).bind fun v11 => (aIdx x1 (.int .i64 x6) 1).bind fun v12 => (aLd1 h v12).bind fun v13 => (asI .i64 v13).bind fun n14 => (C 80 [v11, .int .i64 n14] h).bind fun r15 => (aApp r15.2 9 1 16 x5 r15.1).bind fun r16 => s170_0 hk C N n1 x1 x2 r16.1 (IntKind.i64.wrap (x6 + 1)) r16.2 := by kernel_rfl
theorem c170 (d : Nat) (args : List Value) (h : AHeap) : call Try.prog Ms (d + 1) 170 args h = evFn hk0 Try.prog (call Try.prog Ms d) M170 d Try.f170 args h := by kernel_rfl

/-! 171 loop.example/g00101/spec.l9Ops -/
theorem e171 (hk : Hk (Value × AHeap)) (C : ACall) (N : Nat) (h : AHeap) : evFn hk Try.prog C M171 N Try.f171 [] h =
    aNewS h 9 [.string ⟨#[]⟩, .string (⟨#[43]⟩), .string (⟨#[45]⟩), .string (⟨#[42]⟩), .string (⟨#[47]⟩), .string (⟨#[37]⟩), .string (⟨#[46, 46]⟩), .string (⟨#[61, 61]⟩), .string (⟨#[126, 61]⟩), .string (⟨#[60]⟩), .string (⟨#[60, 61]⟩)] 11 fun p1 h2 => some (p1, h2) := by kernel_rfl
theorem c171 (d : Nat) (args : List Value) (h : AHeap) : call Try.prog Ms (d + 1) 171 args h = evFn hk0 Try.prog (call Try.prog Ms d) M171 d Try.f171 args h := by kernel_rfl

/-! 9 loop.example/g00101/laws.FnExactFreeNames -/
noncomputable def F9_0 (hk : Hk (Value × AHeap)) (C : ACall) (N : Nat) : Nx (Value × AHeap) := evSt hk Try.prog C M9 N Try.f9 [1, 1, 1, 1, 1, 1, 1, 1, 1, 1, 1, 0, 1] []
noncomputable def s9_0 (hk : Hk (Value × AHeap)) (C : ACall) (N : Nat) (x1 : Value) (x4 : Value) (x6 : Value) (x42 : Bool) (h : AHeap) := hk 100015 (⟨69, [(1, x1), (4, x4), (6, x6), (42, .bool x42)]⟩) h (F9_0 hk C N)
noncomputable def F9_1 (hk : Hk (Value × AHeap)) (C : ACall) (N : Nat) : Nx (Value × AHeap) := evSt hk Try.prog C M9 N Try.f9 [1, 1, 1, 1, 1, 1, 1, 1, 1, 1, 1, 1] []
noncomputable def s9_1 (hk : Hk (Value × AHeap)) (C : ACall) (N : Nat) (x1 : Value) (x4 : Value) (x6 : Value) (h : AHeap) := hk 16 (⟨69, [(1, x1), (4, x4), (6, x6)]⟩) h (F9_1 hk C N)
theorem e9 (hk : Hk (Value × AHeap)) (C : ACall) (N : Nat) (x0 : Value) (h : AHeap) : evFn hk Try.prog C M9 N Try.f9 [x0] h =
    (aCells x0).bind fun c1 => aNew h 30 c1 fun p2 h3 => (aLdN h3 p2 2).bind fun v4 => (C 19 [v4, .int .i64 1048576] h3).bind fun r5 => (asI .i64 r5.1).bind fun n6 => bif decide (n6 < 0) then some (.bool true, r5.2) else (aLdN r5.2 p2 2).bind fun v7 => (C 21 [v7] r5.2).bind fun r8 => (C 37 [r8.1] r8.2).bind fun r9 => (aLdN r9.2 p2 2).bind fun v10 => (C 21 [v10] r9.2).bind fun r11 => aNew r11.2 35 [.slice none 0 0, .int .i64 0] fun p12 h13 => (aSt h13 p12 r11.1 2).bind fun h14 => (aLdN h14 p12 2).bind fun v15 => (C 38 [v15] h14).bind fun r16 => (C 39 [r16.1, r9.1] r16.2).bind fun r17 => (asB r17.1).bind fun b18 => bif !b18 then some (.bool false, r17.2) else (aLdN r17.2 p12 2).bind fun v19 => (aLdN r17.2 p2 2).bind fun v20 => (C 21 [v20] r17.2).bind fun r21 => ((aLdN r21.2 p12 2).bind fun v22 => some (vbeq v22 v19)).bind fun b23 => bif b23 then (C 23 [v19, r21.1] r21.2).bind fun r24 => (asB r24.1).bind fun b25 => bif !b25 then some (.bool false, r24.2) else (aLdN r24.2 p12 2).bind fun v26 => (C 33 [v26, .int .i64 1] r24.2).bind fun r27 => (asI .i64 r27.1).bind fun n28 => bif decide (n28 < 0) then s9_0 hk C N p2 r9.1 r16.1 true r27.2 else (C 39 [r16.1, r9.1] r27.2).bind fun r29 => (asB r29.1).bind fun b30 => s9_0 hk C N p2 r9.1 r16.1 (!b30) r29.2 else none := by kernel_rfl
theorem s9_0_j (C : ACall) (N : Nat) (x1 : Value) (x4 : Value) (x6 : Value) (x42 : Bool) (h : AHeap) : s9_0 hk0 C N x1 x4 x6 x42 h = F9_0 hk0 C N (⟨69, [(1, x1), (4, x4), (6, x6), (42, .bool x42)]⟩) h := by delta s9_0; exact hk0_app _ _ _ _
theorem s9_0_eq (hk : Hk (Value × AHeap)) (C : ACall) (N : Nat) (x1 : Value) (x4 : Value) (x6 : Value) (x42 : Bool) (h : AHeap) : F9_0 hk C N (⟨69, [(1, x1), (4, x4), (6, x6), (42, .bool x42)]⟩) h =
    bif x42 then some (.bool false, h) else s9_1 hk C N x1 x4 x6 h := by kernel_rfl
theorem s9_1_j (C : ACall) (N : Nat) (x1 : Value) (x4 : Value) (x6 : Value) (h : AHeap) : s9_1 hk0 C N x1 x4 x6 h = F9_1 hk0 C N (⟨69, [(1, x1), (4, x4), (6, x6)]⟩) h := by delta s9_1; exact hk0_app _ _ _ _
theorem s9_1_eq (hk : Hk (Value × AHeap)) (C : ACall) (N : Nat) (x1 : Value) (x4 : Value) (x6 : Value) (h : AHeap) : F9_1 hk C N (⟨69, [(1, x1), (4, x4), (6, x6)]⟩) h =
    (C 40 [x6, .int .i64 1] h).bind fun r31 => (asI .i64 r31.1).bind fun n32 => (C 41 [x6, .int .i64 1] r31.2).bind fun r33 => (asI .i64 r33.1).bind fun n34 => bif decide (n34 < 0) then some (.bool false, r33.2) else bif n34 != n32 then some (.bool false, r33.2) else (aLdN r33.2 x1 2).bind fun v35 => (C 21 [v35] r33.2).bind fun r36 => (C 38 [r36.1] r36.2).bind fun r37 => (C 39 [r37.1, x4] r37.2).bind fun r38 => (asB r38.1).bind fun b39 => bif !b39 then some (.bool false, r38.2) else (C 41 [x6, .int .i64 1] r38.2).bind fun r40 => (asI .i64 r40.1).bind fun n41 => bif decide (n41 < 0) then some (.bool false, r40.2) else bif n41 != n32 then some (.bool false, r40.2) else some (.bool true, r40.2) := by kernel_rfl
theorem c9 (d : Nat) (args : List Value) (h : AHeap) : call Try.prog Ms (d + 1) 9 args h = evFn hk0 Try.prog (call Try.prog Ms d) M9 d Try.f9 args h := by kernel_rfl

/-! 37 loop.example/g00101/spec.FreeNames -/
theorem e37 (hk : Hk (Value × AHeap)) (C : ACall) (N : Nat) (x0 : Value) (h : AHeap) : evFn hk Try.prog C M37 N Try.f37 [x0] h =
    (aCells x0).bind fun c1 => aNew h 35 c1 fun p2 h3 => (aLdN h3 p2 2).bind fun v4 => (C 20 [v4] h3).bind fun r5 => (asB r5.1).bind fun b6 => bif !b6 then some ((.slice none 0 0), r5.2) else (aLdN r5.2 p2 2).bind fun v7 => (aOff p2 1).bind fun v8 => (aLd1 r5.2 v8).bind fun v9 => (asI .i64 v9).bind fun n10 => (C 73 [v7, .int .i64 n10, (.slice none 0 0), (.slice none 0 0)] r5.2).bind fun r11 => (aExt r11.1 0).bind fun v12 => (aExt r11.1 1).bind fun v13 => some (v13, r11.2) := by kernel_rfl
theorem c37 (d : Nat) (args : List Value) (h : AHeap) : call Try.prog Ms (d + 1) 37 args h = evFn hk0 Try.prog (call Try.prog Ms d) M37 d Try.f37 args h := by kernel_rfl

/-! 38 loop.example/g00101/impl.FreeNames -/
noncomputable def F38_0 (hk : Hk (Value × AHeap)) (C : ACall) (N : Nat) (n1 : Nat) : Nx (Value × AHeap) := evSt hk Try.prog C M38 N Try.f38 [1, 1, 1, 1, 0, 1, 2, 6] [n1]
noncomputable def s38_0 (hk : Hk (Value × AHeap)) (C : ACall) (N : Nat) (n1 : Nat) (x3 : Value) (x4 : Value) (x14 : Value) (x15 : Int) (x16 : Int) (h : AHeap) := F38_0 hk C N n1 (⟨53, [(3, x3), (4, x4), (14, x14), (15, .int .i64 x15), (16, .int .i64 x16)]⟩) h
noncomputable def F38_1 (hk : Hk (Value × AHeap)) (C : ACall) (N : Nat) (n1 : Nat) : Nx (Value × AHeap) := evSt hk Try.prog C M38 N Try.f38 [1, 1, 1, 1, 0, 1, 2, 3, 1, 1, 0, 2, 1, 1] [n1]
noncomputable def s38_1 (hk : Hk (Value × AHeap)) (C : ACall) (N : Nat) (n1 : Nat) (x3 : Value) (x4 : Value) (x6 : Value) (x14 : Value) (x15 : Int) (x16 : Int) (x45 : Bool) (h : AHeap) := hk 100009 (⟨53, [(3, x3), (4, x4), (6, x6), (14, x14), (15, .int .i64 x15), (16, .int .i64 x16), (45, .bool x45)]⟩) h (F38_1 hk C N n1)
theorem e38 (hk : Hk (Value × AHeap)) (C : ACall) (N : Nat) (x0 : Value) (h : AHeap) : evFn hk Try.prog C M38 N Try.f38 [x0] h =
    (aCells x0).bind fun c1 => aNew h 35 c1 fun p2 h3 => aNewS h3 9 [] 0 fun p4 h5 => (aLdN h5 p2 2).bind fun v6 => (C 22 [v6] h5).bind fun r7 => (asB r7.1).bind fun b8 => bif !b8 then some (p4, r7.2) else (C 74 [p2] r7.2).bind fun r9 => (aOff p2 0).bind fun v10 => (aLd1 r9.2 v10).bind fun v11 => (aLen v11).bind fun v12 => (asI .i64 v12).bind fun n13 => s38_0 hk C N N p4 r9.1 v11 n13 0 r9.2 := by kernel_rfl
theorem s38_0_eq (hk : Hk (Value × AHeap)) (C : ACall) (N : Nat) (n1 : Nat) (x3 : Value) (x4 : Value) (x14 : Value) (x15 : Int) (x16 : Int) (h : AHeap) : s38_0 hk C N (n1 + 1) x3 x4 x14 x15 x16 h =
    bif decide (x16 < x15) then (aIdx x14 (.int .i64 x16) 4).bind fun v14 => (aLdN h v14 4).bind fun v15 => aNew h 73 [.int .i64 0, .string ⟨#[]⟩, .int .i64 0, .slice none 0 0] fun p16 h17 => (aSt h17 p16 v15 4).bind fun h18 => (aOff p16 0).bind fun v19 => (aLd1 h18 v19).bind fun v20 => (asI .i64 v20).bind fun n21 => bif n21 == 5 then (aNil x4).bind fun v22 => (aOff v22 1).bind fun v23 => (aLd1 h18 v23).bind fun v24 => (aIdx v24 (.int .i64 x16) 1).bind fun v25 => (aLd1 h18 v25).bind fun v26 => (asI .i64 v26).bind fun n27 => bif decide (n27 < 0) then (aOff p16 1).bind fun v28 => (aLd1 h18 v28).bind fun v29 => (asS v29).bind fun t30 => (C 75 [x3, .string t30] h18).bind fun r31 => (asB r31.1).bind fun b32 => s38_1 hk C N n1 x3 x4 p16 x14 x15 x16 (!b32) r31.2 else s38_1 hk C N n1 x3 x4 p16 x14 x15 x16 false h18 else (aOff p16 0).bind fun v33 => (aLd1 h18 v33).bind fun v34 => (asI .i64 v34).bind fun n35 => bif n35 == 15 then (aNil x4).bind fun v36 => (aOff v36 1).bind fun v37 => (aLd1 h18 v37).bind fun v38 => (aIdx v38 (.int .i64 x16) 1).bind fun v39 => (aLd1 h18 v39).bind fun v40 => (asI .i64 v40).bind fun n41 => bif decide (n41 < 0) then (aOff p16 1).bind fun v42 => (aLd1 h18 v42).bind fun v43 => (asS v43).bind fun t44 => (C 75 [x3, .string t44] h18).bind fun r45 => (asB r45.1).bind fun b46 => s38_1 hk C N n1 x3 x4 p16 x14 x15 x16 (!b46) r45.2 else s38_1 hk C N n1 x3 x4 p16 x14 x15 x16 false h18 else s38_1 hk C N n1 x3 x4 p16 x14 x15 x16 false h18 else some (x3, h) := by kernel_rfl
theorem s38_1_j (C : ACall) (N : Nat) (n1 : Nat) (x3 : Value) (x4 : Value) (x6 : Value) (x14 : Value) (x15 : Int) (x16 : Int) (x45 : Bool) (h : AHeap) : s38_1 hk0 C N n1 x3 x4 x6 x14 x15 x16 x45 h = F38_1 hk0 C N n1 (⟨53, [(3, x3), (4, x4), (6, x6), (14, x14), (15, .int .i64 x15), (16, .int .i64 x16), (45, .bool x45)]⟩) h := by delta s38_1; exact hk0_app _ _ _ _
theorem s38_1_eq (hk : Hk (Value × AHeap)) (C : ACall) (N : Nat) (n1 : Nat) (x3 : Value) (x4 : Value) (x6 : Value) (x14 : Value) (x15 : Int) (x16 : Int) (x45 : Bool) (h : AHeap) : F38_1 hk C N n1 (⟨53, [(3, x3), (4, x4), (6, x6), (14, x14), (15, .int .i64 x15), (16, .int .i64 x16), (45, .bool x45)]⟩) h =
    bif x45 then (aOff x6 1).bind fun v47 => (aLd1 h v47).bind fun v48 => (asS v48).bind fun t49 => aNewS h 9 [.string t49] 1 fun p50 h51 => (aApp h51 9 1 16 x3 p50).bind fun r52 => s38_0 hk C N n1 r52.1 x4 x14 x15 (IntKind.i64.wrap (x16 + 1)) r52.2 else s38_0 hk C N n1 x3 x4 x14 x15 (IntKind.i64.wrap (x16 + 1)) h := by kernel_rfl
theorem c38 (d : Nat) (args : List Value) (h : AHeap) : call Try.prog Ms (d + 1) 38 args h = evFn hk0 Try.prog (call Try.prog Ms d) M38 d Try.f38 args h := by kernel_rfl

/-! 39 loop.example/g00101/laws.eqStringS -/
noncomputable def F39_0 (hk : Hk (Value × AHeap)) (C : ACall) (N : Nat) (n1 : Nat) : Nx (Value × AHeap) := evSt hk Try.prog C M39 N Try.f39 [1, 1, 0, 1, 2, 6] [n1]
noncomputable def s39_0 (hk : Hk (Value × AHeap)) (C : ACall) (N : Nat) (n1 : Nat) (x0 : Value) (x1 : Value) (x5 : Int) (h : AHeap) := F39_0 hk C N n1 (⟨26, [(0, x0), (1, x1), (5, .int .i64 x5)]⟩) h
theorem e39 (hk : Hk (Value × AHeap)) (C : ACall) (N : Nat) (x0 : Value) (x1 : Value) (h : AHeap) : evFn hk Try.prog C M39 N Try.f39 [x0, x1] h =
    (aLen x0).bind fun v1 => (asI .i64 v1).bind fun n2 => (aLen x1).bind fun v3 => (asI .i64 v3).bind fun n4 => bif n2 != n4 then some (.bool false, h) else s39_0 hk C N N x0 x1 0 h := by kernel_rfl
theorem s39_0_eq (hk : Hk (Value × AHeap)) (C : ACall) (N : Nat) (n1 : Nat) (x0 : Value) (x1 : Value) (x5 : Int) (h : AHeap) : s39_0 hk C N (n1 + 1) x0 x1 x5 h =
    (aLen x0).bind fun v5 => (asI .i64 v5).bind fun n6 => bif decide (x5 < n6) then (aIdx x0 (.int .i64 x5) 1).bind fun v7 => (aLd1 h v7).bind fun v8 => (asS v8).bind fun t9 => (aIdx x1 (.int .i64 x5) 1).bind fun v10 => (aLd1 h v10).bind fun v11 => (asS v11).bind fun t12 => bif !(t9.toList == t12.toList) then some (.bool false, h) else s39_0 hk C N n1 x0 x1 (IntKind.i64.wrap (x5 + 1)) h else some (.bool true, h) := by kernel_rfl
theorem c39 (d : Nat) (args : List Value) (h : AHeap) : call Try.prog Ms (d + 1) 39 args h = evFn hk0 Try.prog (call Try.prog Ms d) M39 d Try.f39 args h := by kernel_rfl

/-! 40 loop.example/g00101/laws.markStringS -/
noncomputable def F40_0 (hk : Hk (Value × AHeap)) (C : ACall) (N : Nat) (n1 : Nat) : Nx (Value × AHeap) := evSt hk Try.prog C M40 N Try.f40 [1, 0, 1, 2, 6] [n1]
noncomputable def s40_0 (hk : Hk (Value × AHeap)) (C : ACall) (N : Nat) (n1 : Nat) (x0 : Value) (x1 : Int) (x5 : Int) (h : AHeap) := F40_0 hk C N n1 (⟨20, [(0, x0), (1, .int .i64 x1), (5, .int .i64 x5)]⟩) h
theorem e40 (hk : Hk (Value × AHeap)) (C : ACall) (N : Nat) (x0 : Value) (x1 : Int) (h : AHeap) : evFn hk Try.prog C M40 N Try.f40 [x0, .int .i64 x1] h =
    s40_0 hk C N N x0 x1 0 h := by kernel_rfl
theorem s40_0_eq (hk : Hk (Value × AHeap)) (C : ACall) (N : Nat) (n1 : Nat) (x0 : Value) (x1 : Int) (x5 : Int) (h : AHeap) : s40_0 hk C N (n1 + 1) x0 x1 x5 h =
    (aLen x0).bind fun v1 => (asI .i64 v1).bind fun n2 => bif decide (x5 < n2) then (C 55 [.int .i64 x1] h).bind fun r3 => (asS r3.1).bind fun t4 => (aIdx x0 (.int .i64 x5) 1).bind fun v5 => (aSt r3.2 v5 (.string t4) 1).bind fun h6 => s40_0 hk C N n1 x0 (IntKind.i64.wrap (x1 + 1)) (IntKind.i64.wrap (x5 + 1)) h6 else some (.int .i64 x1, h) := by kernel_rfl
theorem c40 (d : Nat) (args : List Value) (h : AHeap) : call Try.prog Ms (d + 1) 40 args h = evFn hk0 Try.prog (call Try.prog Ms d) M40 d Try.f40 args h := by kernel_rfl

/-! 41 loop.example/g00101/laws.heldStringS -/
noncomputable def F41_0 (hk : Hk (Value × AHeap)) (C : ACall) (N : Nat) (n1 : Nat) : Nx (Value × AHeap) := evSt hk Try.prog C M41 N Try.f41 [1, 0, 1, 2, 6] [n1]
noncomputable def s41_0 (hk : Hk (Value × AHeap)) (C : ACall) (N : Nat) (n1 : Nat) (x0 : Value) (x1 : Int) (x5 : Int) (h : AHeap) := F41_0 hk C N n1 (⟨22, [(0, x0), (1, .int .i64 x1), (5, .int .i64 x5)]⟩) h
theorem e41 (hk : Hk (Value × AHeap)) (C : ACall) (N : Nat) (x0 : Value) (x1 : Int) (h : AHeap) : evFn hk Try.prog C M41 N Try.f41 [x0, .int .i64 x1] h =
    s41_0 hk C N N x0 x1 0 h := by kernel_rfl
theorem s41_0_eq (hk : Hk (Value × AHeap)) (C : ACall) (N : Nat) (n1 : Nat) (x0 : Value) (x1 : Int) (x5 : Int) (h : AHeap) : s41_0 hk C N (n1 + 1) x0 x1 x5 h =
    (aLen x0).bind fun v1 => (asI .i64 v1).bind fun n2 => bif decide (x5 < n2) then (aIdx x0 (.int .i64 x5) 1).bind fun v3 => (aLd1 h v3).bind fun v4 => (asS v4).bind fun t5 => (C 55 [.int .i64 x1] h).bind fun r6 => (asS r6.1).bind fun t7 => ((aLd1 r6.2 v3).bind fun v8 => (asS v8).bind fun t9 => some (vbeq (.string t9) (.string t5))).bind fun b10 => bif b10 then bif !(t5.toList == t7.toList) then some (.int .i64 (-1), r6.2) else s41_0 hk C N n1 x0 (IntKind.i64.wrap (x1 + 1)) (IntKind.i64.wrap (x5 + 1)) r6.2 else none else some (.int .i64 x1, h) := by kernel_rfl
theorem c41 (d : Nat) (args : List Value) (h : AHeap) : call Try.prog Ms (d + 1) 41 args h = evFn hk0 Try.prog (call Try.prog Ms d) M41 d Try.f41 args h := by kernel_rfl

/-! 73 loop.example/g00101/spec.l19Free -/
noncomputable def F73_0 (hk : Hk (Value × AHeap)) (C : ACall) (N : Nat) (n1 : Nat) : Nx (Value × AHeap) := evSt hk Try.prog C M73 N Try.f73 [1, 1, 1, 0, 1, 2, 6] [n1]
noncomputable def s73_0 (hk : Hk (Value × AHeap)) (C : ACall) (N : Nat) (n1 : Nat) (x2 : Value) (x3 : Value) (x4 : Value) (x10 : Value) (x11 : Value) (x12 : Int) (h : AHeap) := F73_0 hk C N n1 (⟨80, [(2, x2), (3, x3), (4, x4), (10, x10), (11, x11), (12, .int .i64 x12)]⟩) h
noncomputable def F73_1 (hk : Hk (Value × AHeap)) (C : ACall) (N : Nat) : Nx (Value × AHeap) := evSt hk Try.prog C M73 N Try.f73 [1, 1, 1, 1, 0, 1, 2, 1] []
noncomputable def s73_1 (hk : Hk (Value × AHeap)) (C : ACall) (N : Nat) (x2 : Value) (x3 : Value) (x10 : Value) (x11 : Value) (x39 : Int) (x40 : Bool) (h : AHeap) := hk 100010 (⟨80, [(2, x2), (3, x3), (10, x10), (11, x11), (39, .int .i64 x39), (40, .bool x40)]⟩) h (F73_1 hk C N)
noncomputable def F73_2 (hk : Hk (Value × AHeap)) (C : ACall) (N : Nat) : Nx (Value × AHeap) := evSt hk Try.prog C M73 N Try.f73 [1, 1, 1, 1, 0, 1, 2, 1, 4, 1] []
noncomputable def s73_2 (hk : Hk (Value × AHeap)) (C : ACall) (N : Nat) (x2 : Value) (x3 : Value) (x10 : Value) (x54 : Bool) (h : AHeap) := hk 100011 (⟨80, [(2, x2), (3, x3), (10, x10), (54, .bool x54)]⟩) h (F73_2 hk C N)
noncomputable def F73_3 (hk : Hk (Value × AHeap)) (C : ACall) (N : Nat) : Nx (Value × AHeap) := evSt hk Try.prog C M73 N Try.f73 [1, 1, 1, 1, 0, 1, 2, 1, 5, 1] []
noncomputable def s73_3 (hk : Hk (Value × AHeap)) (C : ACall) (N : Nat) (x2 : Value) (x3 : Value) (x10 : Value) (x11 : Value) (x39 : Int) (x62 : Bool) (h : AHeap) := hk 100014 (⟨80, [(2, x2), (3, x3), (10, x10), (11, x11), (39, .int .i64 x39), (62, .bool x62)]⟩) h (F73_3 hk C N)
noncomputable def F73_4 (hk : Hk (Value × AHeap)) (C : ACall) (N : Nat) : Nx (Value × AHeap) := evSt hk Try.prog C M73 N Try.f73 [1, 1, 1, 1, 0, 1, 2, 1, 5, 1, 5, 1] []
noncomputable def s73_4 (hk : Hk (Value × AHeap)) (C : ACall) (N : Nat) (x2 : Value) (x3 : Value) (x11 : Value) (x73 : Bool) (h : AHeap) := hk 100017 (⟨80, [(2, x2), (3, x3), (11, x11), (73, .bool x73)]⟩) h (F73_4 hk C N)
theorem e73 (hk : Hk (Value × AHeap)) (C : ACall) (N : Nat) (x0 : Value) (x1 : Int) (x2 : Value) (x3 : Value) (h : AHeap) : evFn hk Try.prog C M73 N Try.f73 [x0, .int .i64 x1, x2, x3] h =
    (aCells x0).bind fun c1 => aNew h 35 c1 fun p2 h3 => (aOff p2 0).bind fun v4 => (aLd1 h3 v4).bind fun v5 => (aIdx v5 (.int .i64 x1) 4).bind fun v6 => (aLdN h3 v6 4).bind fun v7 => aNew h3 73 [.int .i64 0, .string ⟨#[]⟩, .int .i64 0, .slice none 0 0] fun p8 h9 => (aSt h9 p8 v7 4).bind fun h10 => s73_0 hk C N N x2 x3 p2 p8 x2 0 h10 := by kernel_rfl
theorem s73_0_eq (hk : Hk (Value × AHeap)) (C : ACall) (N : Nat) (n1 : Nat) (x2 : Value) (x3 : Value) (x4 : Value) (x10 : Value) (x11 : Value) (x12 : Int) (h : AHeap) : s73_0 hk C N (n1 + 1) x2 x3 x4 x10 x11 x12 h =
    (aOff x10 3).bind fun v11 => (aLd1 h v11).bind fun v12 => (aLen v12).bind fun v13 => (asI .i64 v13).bind fun n14 => bif decide (x12 < n14) then (aLdN h x4 2).bind fun v15 => (aOff x10 3).bind fun v16 => (aLd1 h v16).bind fun v17 => (aIdx v17 (.int .i64 x12) 1).bind fun v18 => (aLd1 h v18).bind fun v19 => (asI .i64 v19).bind fun n20 => (C 73 [v15, .int .i64 n20, x2, x3] h).bind fun r21 => (aExt r21.1 0).bind fun v22 => (aExt r21.1 1).bind fun v23 => s73_0 hk C N n1 v22 v23 x4 x10 x11 (IntKind.i64.wrap (x12 + 1)) r21.2 else (aOff x10 0).bind fun v24 => (aLd1 h v24).bind fun v25 => (asI .i64 v25).bind fun n26 => bif n26 == 5 then s73_1 hk C N x2 x3 x10 x11 n26 (n26 == 5) h else s73_1 hk C N x2 x3 x10 x11 n26 (n26 == 15) h := by kernel_rfl
theorem s73_1_j (C : ACall) (N : Nat) (x2 : Value) (x3 : Value) (x10 : Value) (x11 : Value) (x39 : Int) (x40 : Bool) (h : AHeap) : s73_1 hk0 C N x2 x3 x10 x11 x39 x40 h = F73_1 hk0 C N (⟨80, [(2, x2), (3, x3), (10, x10), (11, x11), (39, .int .i64 x39), (40, .bool x40)]⟩) h := by delta s73_1; exact hk0_app _ _ _ _
theorem s73_1_eq (hk : Hk (Value × AHeap)) (C : ACall) (N : Nat) (x2 : Value) (x3 : Value) (x10 : Value) (x11 : Value) (x39 : Int) (x40 : Bool) (h : AHeap) : F73_1 hk C N (⟨80, [(2, x2), (3, x3), (10, x10), (11, x11), (39, .int .i64 x39), (40, .bool x40)]⟩) h =
    bif x40 then (aOff x10 1).bind fun v27 => (aLd1 h v27).bind fun v28 => (asS v28).bind fun t29 => (C 118 [x2, .string t29] h).bind fun r30 => (asB r30.1).bind fun b31 => bif !b31 then (aOff x10 1).bind fun v32 => (aLd1 r30.2 v32).bind fun v33 => (asS v33).bind fun t34 => (C 118 [x3, .string t34] r30.2).bind fun r35 => (asB r35.1).bind fun b36 => s73_2 hk C N x2 x3 x10 (!b36) r35.2 else s73_2 hk C N x2 x3 x10 false r30.2 else bif x39 == 14 then s73_3 hk C N x2 x3 x10 x11 x39 (x39 == 14) h else s73_3 hk C N x2 x3 x10 x11 x39 (x39 == 22) h := by kernel_rfl
theorem s73_2_j (C : ACall) (N : Nat) (x2 : Value) (x3 : Value) (x10 : Value) (x54 : Bool) (h : AHeap) : s73_2 hk0 C N x2 x3 x10 x54 h = F73_2 hk0 C N (⟨80, [(2, x2), (3, x3), (10, x10), (54, .bool x54)]⟩) h := by delta s73_2; exact hk0_app _ _ _ _
theorem s73_2_eq (hk : Hk (Value × AHeap)) (C : ACall) (N : Nat) (x2 : Value) (x3 : Value) (x10 : Value) (x54 : Bool) (h : AHeap) : F73_2 hk C N (⟨80, [(2, x2), (3, x3), (10, x10), (54, .bool x54)]⟩) h =
    bif x54 then aNewS h 9 [] 0 fun p37 h38 => (aOff x10 1).bind fun v39 => (aLd1 h38 v39).bind fun v40 => (asS v40).bind fun t41 => aNewS h38 9 [.string t41] 1 fun p42 h43 => (aApp h43 9 1 16 p37 x3).bind fun r44 => ((aLd1 r44.2 v39).bind fun v45 => (asS v45).bind fun t46 => some (vbeq (.string t46) (.string t41))).bind fun b47 => bif b47 then (aApp r44.2 9 1 16 r44.1 p42).bind fun r48 => bif List.all [x2, r48.1] isS2 then some (.tuple (List.toArray [x2, r48.1]), r48.2) else none else none else bif List.all [x2, x3] isS2 then some (.tuple (List.toArray [x2, x3]), h) else none := by kernel_rfl
theorem s73_3_j (C : ACall) (N : Nat) (x2 : Value) (x3 : Value) (x10 : Value) (x11 : Value) (x39 : Int) (x62 : Bool) (h : AHeap) : s73_3 hk0 C N x2 x3 x10 x11 x39 x62 h = F73_3 hk0 C N (⟨80, [(2, x2), (3, x3), (10, x10), (11, x11), (39, .int .i64 x39), (62, .bool x62)]⟩) h := by delta s73_3; exact hk0_app _ _ _ _
theorem s73_3_eq (hk : Hk (Value × AHeap)) (C : ACall) (N : Nat) (x2 : Value) (x3 : Value) (x10 : Value) (x11 : Value) (x39 : Int) (x62 : Bool) (h : AHeap) : F73_3 hk C N (⟨80, [(2, x2), (3, x3), (10, x10), (11, x11), (39, .int .i64 x39), (62, .bool x62)]⟩) h =
    bif x62 then aNewS h 9 [] 0 fun p49 h50 => (aOff x10 1).bind fun v51 => (aLd1 h50 v51).bind fun v52 => (asS v52).bind fun t53 => aNewS h50 9 [.string t53] 1 fun p54 h55 => (aApp h55 9 1 16 p49 x2).bind fun r56 => ((aLd1 r56.2 v51).bind fun v57 => (asS v57).bind fun t58 => some (vbeq (.string t58) (.string t53))).bind fun b59 => bif b59 then (aApp r56.2 9 1 16 r56.1 p54).bind fun r60 => bif List.all [r60.1, x3] isS2 then some (.tuple (List.toArray [r60.1, x3]), r60.2) else none else none else bif x39 == 21 then s73_4 hk C N x2 x3 x11 (x39 == 21) h else s73_4 hk C N x2 x3 x11 (x39 == 6) h := by kernel_rfl
theorem s73_4_j (C : ACall) (N : Nat) (x2 : Value) (x3 : Value) (x11 : Value) (x73 : Bool) (h : AHeap) : s73_4 hk0 C N x2 x3 x11 x73 h = F73_4 hk0 C N (⟨80, [(2, x2), (3, x3), (11, x11), (73, .bool x73)]⟩) h := by delta s73_4; exact hk0_app _ _ _ _
theorem s73_4_eq (hk : Hk (Value × AHeap)) (C : ACall) (N : Nat) (x2 : Value) (x3 : Value) (x11 : Value) (x73 : Bool) (h : AHeap) : F73_4 hk C N (⟨80, [(2, x2), (3, x3), (11, x11), (73, .bool x73)]⟩) h =
    bif x73 then bif List.all [x11, x3] isS2 then some (.tuple (List.toArray [x11, x3]), h) else none else bif List.all [x2, x3] isS2 then some (.tuple (List.toArray [x2, x3]), h) else none := by kernel_rfl
theorem c73 (d : Nat) (args : List Value) (h : AHeap) : call Try.prog Ms (d + 1) 73 args h = evFn hk0 Try.prog (call Try.prog Ms d) M73 d Try.f73 args h := by kernel_rfl
end Go.Proofs.Ytadmoackacickaa
/- Frames by kinds of rows; rows of strings; steps of a walk. -/
set_option linter.unusedSimpArgs false
namespace Go.Proofs.Ytadmoackacickaa
open Go Go.AH

/-- What was there stays, but for bytes (5) and the printer (110). -/
def SF (h g : AHeap) : Prop := h.size ≤ g.size ∧ ∀ j o, h.at? j = some o → o.elem ≠ 5 → o.elem ≠ 110 → g.at? j = some o
/-- What was there stays, but for bytes (5), strings (9) and the printer (110). -/
def LF (h g : AHeap) : Prop := h.size ≤ g.size ∧ ∀ j o, h.at? j = some o → o.elem ≠ 5 → o.elem ≠ 9 → o.elem ≠ 110 → g.at? j = some o
theorem SF.refl (h : AHeap) : SF h h := ⟨Nat.le_refl _, fun _ _ a _ _ => a⟩
theorem SF.trans {h g k : AHeap} (x : SF h g) (y : SF g k) : SF h k := ⟨Nat.le_trans x.1 y.1, fun j o a b c => y.2 j o (x.2 j o a b c) b c⟩
theorem LF.refl (h : AHeap) : LF h h := ⟨Nat.le_refl _, fun _ _ a _ _ _ => a⟩
theorem LF.trans {h g k : AHeap} (x : LF h g) (y : LF g k) : LF h k := ⟨Nat.le_trans x.1 y.1, fun j o a b c d => y.2 j o (x.2 j o a b c d) b c d⟩
theorem SF.lf {h g : AHeap} (x : SF h g) : LF h g := ⟨x.1, fun j o a b _ c => x.2 j o a b c⟩
theorem SF.ext {h g : AHeap} (x : Ext h.size h g) : SF h g := ⟨x.size, fun j o a _ _ => x.at? (at?_obj a).2.1 a⟩
theorem RowE.lf {h g : AHeap} {i : Nat} {e : TypeId} {cs : List Value} (x : RowE h i e cs) (k : LF h g) (h1 : e ≠ 5) (h2 : e ≠ 9) (h3 : e ≠ 110) : RowE g i e cs := let ⟨o, a, b, c⟩ := x; ⟨o, k.2 i o a (by rw [b]; exact h1) (by rw [b]; exact h2) (by rw [b]; exact h3), b, c⟩
theorem RowE.sf {h g : AHeap} {i : Nat} {e : TypeId} {cs : List Value} (x : RowE h i e cs) (k : SF h g) (h1 : e ≠ 5) (h3 : e ≠ 110) : RowE g i e cs := let ⟨o, a, b, c⟩ := x; ⟨o, k.2 i o a (by rw [b]; exact h1) (by rw [b]; exact h3), b, c⟩
theorem ISl.lf {c : Nat} {h g : AHeap} {v : Value} {xs : List Int} (x : ISl c h v xs) (k : LF h g) : ISl c g v xs := by
  rcases x with x | x | ⟨i, o, h1, h2, h3, h4, h5⟩
  · exact .inl x
  · exact .inr (.inl x)
  · exact .inr (.inr ⟨i, o, h1, k.2 i o h2 (by rw [h3]; decide) (by rw [h3]; decide) (by rw [h3]; decide), h3, h4, h5⟩)
/-- A slice of nodes, with the kind of its row. -/
def KSe (c : Nat) (h : AHeap) (v : Value) (ns : List Kn) : Prop :=
  (v = .slice none 0 0 ∧ ns = []) ∨ (∃ a n, v = .slice (some a) 0 n ∧ ns = []) ∨
  ∃ i o, v = slc i 0 ns.length ∧ h.at? i = some o ∧ o.elem = 73 ∧ i < c ∧ o.cells.length = ns.length * 4 ∧ ∀ (j : Nat) (n : Kn), ns[j]? = some n → ∃ kv, (o.cells.drop (j * 4)).take 4 = knCells n kv ∧ ISl c h kv n.ks
theorem KSe.ksl {c : Nat} {h : AHeap} {v : Value} {ns : List Kn} (x : KSe c h v ns) : KSl c h v ns := by
  rcases x with x | x | ⟨i, o, h1, h2, _, h3, h4, h5⟩
  · exact .inl x
  · exact .inr (.inl x)
  · exact .inr (.inr ⟨i, o, h1, h2, h3, h4, h5⟩)
theorem KSe.lf {c : Nat} {h g : AHeap} {v : Value} {ns : List Kn} (x : KSe c h v ns) (k : LF h g) : KSe c g v ns := by
  rcases x with x | x | ⟨i, o, h1, h2, h6, h3, h4, h5⟩
  · exact .inl x
  · exact .inr (.inl x)
  · exact .inr (.inr ⟨i, o, h1, k.2 i o h2 (by rw [h6]; decide) (by rw [h6]; decide) (by rw [h6]; decide), h6, h3, h4, fun j n hn => let ⟨kv, a, b⟩ := h5 j n hn; ⟨kv, a, b.lf k⟩⟩)
theorem KSe.mono {c d : Nat} {h : AHeap} {v : Value} {ns : List Kn} (x : KSe c h v ns) (hd : c ≤ d) : KSe d h v ns := by
  rcases x with x | x | ⟨i, o, h1, h2, h6, h3, h4, h5⟩
  · exact .inl x
  · exact .inr (.inl x)
  · exact .inr (.inr ⟨i, o, h1, h2, h6, Nat.lt_of_lt_of_le h3 hd, h4, fun j n hn => let ⟨kv, a, b⟩ := h5 j n hn; ⟨kv, a, b.mono hd⟩⟩)
theorem KOwn.kse {b : Nat} {h : AHeap} {v : Value} {ns : List Kn} (x : KOwn b h v ns) : KSe h.size h v ns := by
  obtain ⟨r, cells, h1, h2, h3, h4⟩ := x
  obtain ⟨rn, ep, z1, z2⟩ := h2
  refine .inr (.inr ⟨r, _, h1, z1, rfl, (at?_obj z1).2.1, h3, fun i n hn => ?_⟩)
  obtain ⟨kv, a, c⟩ := h4 i n (List.getElem?_eq_some_iff.1 hn).1 hn
  exact ⟨kv, a, c.isl⟩
/-- Where a number of a slice lies. -/
def ixP (v : Value) (j : Nat) : Value := (aIdx v (.int .i64 (j : Int)) 1).getD junk
theorem ISl.ix {c : Nat} {h : AHeap} {v : Value} {xs : List Int} (x : ISl c h v xs) {j : Nat} (hj : j < xs.length) : aIdx v (.int .i64 (j : Int)) 1 = some (ixP v j) ∧ aLd1 h (ixP v j) = some (.int .i64 xs[j]) := by
  obtain ⟨p, a, b⟩ := x.at hj
  have : ixP v j = p := by unfold ixP; rw [a]; rfl
  rw [this]; exact ⟨a, b⟩

/-! ### strings -/
def strs (xs : List ByteArray) : List Value := xs.map Value.string
structure SSrc (h : AHeap) (v : Value) (xs : List ByteArray) : Prop where
  len : aLen v = some (.int .i64 xs.length)
  src : ∀ g, SF h g → aSrc g 1 v = some (xs.length, strs xs)
  at' : ∀ (j : Nat) (hj : j < xs.length), aIdx v (.int .i64 (j : Int)) 1 = some (ixP v j) ∧ ∀ g, SF h g → aLd1 g (ixP v j) = some (.string xs[j])
theorem SSrc.sf {h g : AHeap} {v : Value} {xs : List ByteArray} (x : SSrc h v xs) (k : SF h g) : SSrc g v xs := ⟨x.len, fun g' e => x.src g' (k.trans e), fun j hj => ⟨(x.at' j hj).1, fun g' e => (x.at' j hj).2 g' (k.trans e)⟩⟩
theorem SSrc.of {h : AHeap} {i : Nat} {xs : List ByteArray} (x : RowE h i 9 (strs xs)) : SSrc h (slc i 0 xs.length) xs := by
  have hx : ∀ j, j < xs.length → aIdx (slc i 0 xs.length) (.int .i64 (j : Int)) 1 = some (ptr i j) := fun j hj => by simp [aIdx, slc, hj]
  refine ⟨rfl, fun g e => ?_, fun j hj => ⟨?_, fun g e => ?_⟩⟩
  · have r := (x.sf e (by decide) (by decide)).row
    have := r.src (off := 0) (n := xs.length) (esz := 1) (by simp [strs])
    rw [this, Nat.mul_one, List.drop_zero, List.take_of_length_le (by simp [strs])]
  · rw [hx j hj]; unfold ixP; rw [hx j hj]; rfl
  · have r := (x.sf e (by decide) (by decide)).row
    unfold ixP; rw [hx j hj]
    exact r.ld1 (by simp [strs, hj])
theorem SSrc.nil (h : AHeap) : SSrc h (.slice none 0 0) [] := ⟨rfl, fun _ _ => rfl, fun j hj => by simp at hj⟩
def SOwn (b : Nat) (h : AHeap) (v : Value) (xs : List ByteArray) : Prop := ∃ i, v = slc i 0 xs.length ∧ Own b h i 9 (strs xs)
theorem SOwn.src {b : Nat} {h : AHeap} {v : Value} {xs : List ByteArray} (x : SOwn b h v xs) : SSrc h v xs := let ⟨i, e, o⟩ := x; e ▸ SSrc.of (Own.rowE o)
theorem SOwn.mono {b c : Nat} {h : AHeap} {v : Value} {xs : List ByteArray} (x : SOwn b h v xs) (hc : c ≤ b) : SOwn c h v xs := let ⟨i, e, o⟩ := x; ⟨i, e, o.mono hc⟩
theorem SOwn.ext {b : Nat} {h g : AHeap} {v : Value} {xs : List ByteArray} (x : SOwn b h v xs) (e : Ext h.size h g) : SOwn b g v xs := let ⟨i, q, o⟩ := x; ⟨i, q, o.ext e o.lt.2⟩
theorem SOwn.new {h : AHeap} (xs : List ByteArray) : SOwn h.size (h.new 9 (strs xs)) (slc h.size 0 xs.length) xs := ⟨h.size, rfl, Own.new (Nat.le_refl _) 9 (strs xs)⟩
theorem SOwn.app {b : Nat} {h : AHeap} {v x : Value} {xs ys : List ByteArray} (o : SOwn b h v xs) (hb : b ≤ h.size) (y : SSrc h x ys) (hl : xs.length + ys.length ≤ 1000000000000) :
    ∃ v' h', aApp h 9 1 16 v x = some (v', h') ∧ Ext b h h' ∧ SOwn b h' v' (xs ++ ys) ∧ LF h h' := by
  obtain ⟨i, rfl, r, ep, ha, hr⟩ := o
  refine ⟨slc h.size 0 (xs.length + ys.length), h.app ⟨r, ep, false, 9, strs xs⟩ xs.length (strs xs ++ strs ys), ?_, Ext.app hb hr _ _, ⟨h.size, by simp, r, _, by rw [show strs (xs ++ ys) = strs xs ++ strs ys by simp [strs]]; exact at?_app_same ha _ _, hr⟩, by simp [AHeap.app], fun j o hj _ h9 _ => at?_app_old hj _ fun e => absurd e.1 h9⟩
  have h1 : xs.length + ys.length ≤ most := by unfold most; omega
  have h2 : (xs.length + ys.length) * 16 ≤ most := by unfold most; omega
  have h3 : (List.map Value.string xs).take xs.length = List.map Value.string xs := List.take_of_length_le (by simp)
  simp [aApp, aAppG, slc, ha, y.src h (SF.refl _), strs, h1, h2, h3]

/-! ### steps of a walk -/
theorem eb {α R : Type} {o : Option α} {k : α → Option R} {v : α} {r : Option R} (e : o = some v) (hk : k v = r) : o.bind k = r := by rw [e]; exact hk
theorem ecf {R : Type} {c : Bool} {a b r : Option R} (e : c = false) (hk : b = r) : (bif c then a else b) = r := by rw [e]; exact hk
theorem ect {R : Type} {c : Bool} {a b r : Option R} (e : c = true) (hk : a = r) : (bif c then a else b) = r := by rw [e]; exact hk

section
variable {P : Option (Value × AHeap) → Prop}
/-- A row of strings is made. -/
theorem lit_step {h : AHeap} {cells : List Value} {n : Nat} {k : Value → AHeap → Option (Value × AHeap)} (xs : List ByteArray) (hc : cells = strs xs) (hn : n = xs.length)
    (hk : ∀ v g, Ext h.size h g → SOwn h.size g v xs → P (k v g)) : P (aNewS h 9 cells n k) := by
  subst hc; subst hn
  exact hk _ _ (Ext.new (Nat.le_refl _) _ _) (SOwn.new xs)
theorem bind_step {o : Option (Value × AHeap)} {k : Value × AHeap → Option (Value × AHeap)} {Q : Value → AHeap → Prop} (ho : ∃ v g, o = some (v, g) ∧ Q v g) (hk : ∀ v g, Q v g → P (k (v, g))) : P (o.bind k) := by
  obtain ⟨v, g, rfl, q⟩ := ho
  exact hk v g q
/-- A new struct. -/
theorem new_step {h : AHeap} {e : TypeId} {cells : List Value} {k : Value → AHeap → Option (Value × AHeap)} (hk : ∀ p g, Ext h.size h g → Own h.size g p e cells → p = h.size → P (k (ptr p 0) g)) : P (aNew h e cells k) :=
  hk _ _ (Ext.new (Nat.le_refl _) _ _) (Own.new (Nat.le_refl _) e cells) rfl
/-- A new struct that is filled at once. -/
theorem newSt_step {h : AHeap} {e : TypeId} {zs vs : List Value} {v : Value} {n : Nat} {k : Value → AHeap → Option (Value × AHeap)} (hv : aCells v = some vs) (hz : zs.length = n) (hn : vs.length = n)
    (hk : ∀ p g, Ext h.size h g → Own h.size g p e vs → p = h.size → P (k (ptr p 0) g)) : P (aNew h e zs fun p g => (aSt g p v n).bind fun g' => k p g') := by
  obtain ⟨g', a, x, o⟩ := Own.stN (Own.new (Nat.le_refl h.size) e zs) hv hn hz
  show P ((aSt (h.new e zs) (ptr h.size 0) v n).bind fun g' => k (ptr h.size 0) g')
  rw [a, Option.bind_some]
  exact hk _ g' ((Ext.new (Nat.le_refl _) _ _).trans x) o.1 rfl
end
/-- An answer: a fresh row of strings. -/
def RS (h : AHeap) (xs : List ByteArray) (o : Option (Value × AHeap)) : Prop := ∃ v g, o = some (v, g) ∧ Ext h.size h g ∧ SOwn h.size g v xs
theorem RS.of {h g : AHeap} {xs : List ByteArray} {v : Value} (e : Ext h.size h g) (o : SOwn g.size g v xs ∨ SOwn h.size g v xs) : RS h xs (some (v, g)) := ⟨v, g, rfl, e, o.elim (fun o => o.mono e.size) id⟩
theorem Ext.tr {h g k : AHeap} (x : Ext h.size h g) (y : Ext g.size g k) : Ext h.size h k := x.trans (y.mono x.size)
/-- l9Around -/
theorem l128 {d : Nat} {h : AHeap} {a m b : Value} {xs ys zs : List ByteArray} (x : SSrc h a xs) (y : SSrc h m ys) (z : SSrc h b zs) (hl : xs.length + ys.length + zs.length ≤ 1000000000000) :
    RS h (xs ++ ys ++ zs) (call Try.prog Ms (d + 1) 128 [a, m, b] h) := by
  rw [c128, e128]
  refine lit_step (P := RS h (xs ++ ys ++ zs)) [] rfl rfl fun v g e o => ?_
  have s := SF.ext e
  obtain ⟨v1, g1, c1, e1, o1, _⟩ := o.app e.size (x.sf s) (by simp; omega)
  rw [c1, Option.bind_some]
  have E1 : Ext h.size h g1 := e.trans e1
  obtain ⟨v2, g2, c2, e2, o2, _⟩ := o1.app E1.size (y.sf (SF.ext E1)) (by simp; omega)
  rw [c2, Option.bind_some]
  have E2 : Ext h.size h g2 := E1.trans e2
  obtain ⟨v3, g3, c3, e3, o3, _⟩ := o2.app E2.size (z.sf (SF.ext E2)) (by simp; omega)
  rw [c3, Option.bind_some]
  exact RS.of (E2.trans e3) (.inr (by simpa using o3))
end Go.Proofs.Ytadmoackacickaa
/- What is printed of a node, plainly; small steps. -/
set_option linter.unusedSimpArgs false
namespace Go.Proofs.Ytadmoackacickaa
open Go Go.AH

abbrev BA := ByteArray
def dgt (n : Int) : BA := ⟨#[UInt8.ofNat (48 + n).toNat]⟩
/-- Decimal digits of a number that is not below 0, ahead of a text. -/
def dg : Nat → Int → BA → BA
  | 0, _, t => t
  | f + 1, n, t => if n < 10 then dgt n ++ t else dg f (n / 10) (dgt (n % 10) ++ t)
def digs (n : Int) : BA := dg 20 n ⟨#[]⟩
/-- Nodes with commas between. -/
def cm (F : Int → List BA) : Nat → List Int → List BA
  | _, [] => []
  | 0, k :: ks => F k ++ cm F 1 ks
  | j + 1, k :: ks => [(⟨#[44]⟩ : BA)] ++ F k ++ cm F (j + 2) ks
def opW : List BA := [⟨#[]⟩, ⟨#[43]⟩, ⟨#[45]⟩, ⟨#[42]⟩, ⟨#[47]⟩, ⟨#[37]⟩, ⟨#[46, 46]⟩, ⟨#[61, 61]⟩, ⟨#[126, 61]⟩, ⟨#[60]⟩, ⟨#[60, 61]⟩]
def turnW : List BA := [⟨#[]⟩, ⟨#[45]⟩, ⟨#[110, 111, 116]⟩, ⟨#[35]⟩]
def boolW : List BA := [⟨#[102, 97, 108, 115, 101]⟩, ⟨#[116, 114, 117, 101]⟩]
def Kn.kd (n : Kn) (j : Nat) : Int := n.ks.getD j 0
/-- The tokens of a node. -/
def ntoks (F : Int → List BA) (n : Kn) : List BA :=
  if n.k = 1 then [⟨#[110, 105, 108]⟩]
  else if n.k = 2 then [boolW.getD n.i.toNat ⟨#[]⟩]
  else if n.k = 3 then [digs n.i]
  else if n.k = 4 then [(⟨#[34]⟩ : BA) ++ n.t ++ ⟨#[34]⟩]
  else if n.k = 6 then [⟨#[40]⟩, ⟨#[102, 110]⟩, ⟨#[40]⟩] ++ cm F 0 n.ks.dropLast ++ [⟨#[41]⟩] ++ F (n.kd (n.ks.length - 1)) ++ [⟨#[41]⟩]
  else if n.k = 7 then [⟨#[40]⟩, ⟨#[123]⟩] ++ cm F 0 n.ks ++ [⟨#[125]⟩, ⟨#[41]⟩]
  else if n.k = 8 then F (n.kd 0) ++ [⟨#[91]⟩] ++ F (n.kd 1) ++ [⟨#[93]⟩]
  else if n.k = 9 then F (n.kd 0) ++ [⟨#[40]⟩] ++ cm F 0 n.ks.tail ++ [⟨#[41]⟩]
  else if n.k = 10 then [⟨#[40]⟩] ++ F (n.kd 0) ++ [opW.getD n.i.toNat ⟨#[]⟩] ++ F (n.kd 1) ++ [⟨#[41]⟩]
  else if n.k = 11 then [⟨#[40]⟩, turnW.getD n.i.toNat ⟨#[]⟩] ++ F (n.kd 0) ++ [⟨#[41]⟩]
  else if n.k = 12 then [⟨#[40]⟩] ++ F (n.kd 0) ++ [⟨#[97, 110, 100]⟩] ++ F (n.kd 1) ++ [⟨#[41]⟩]
  else if n.k = 13 then [⟨#[40]⟩] ++ F (n.kd 0) ++ [⟨#[111, 114]⟩] ++ F (n.kd 1) ++ [⟨#[41]⟩]
  else if n.k = 14 then [⟨#[108, 111, 99, 97, 108]⟩, n.t, ⟨#[61]⟩] ++ F (n.kd 0) ++ [⟨#[59]⟩]
  else if n.k = 15 then [n.t, ⟨#[61]⟩] ++ F (n.kd 0) ++ [⟨#[59]⟩]
  else if n.k = 16 then F (n.kd 0) ++ [⟨#[91]⟩] ++ F (n.kd 1) ++ [⟨#[93]⟩, ⟨#[61]⟩] ++ F (n.kd 2) ++ [⟨#[59]⟩]
  else if n.k = 17 then [⟨#[105, 102]⟩] ++ F (n.kd 0) ++ F (n.kd 1) ++ (if n.ks.length = 3 then [⟨#[101, 108, 115, 101]⟩] ++ F (n.kd 2) else [])
  else if n.k = 18 then [⟨#[119, 104, 105, 108, 101]⟩] ++ F (n.kd 0) ++ F (n.kd 1)
  else if n.k = 19 then [⟨#[114, 101, 116, 117, 114, 110]⟩] ++ F (n.kd 0) ++ [⟨#[59]⟩]
  else if n.k = 20 then F (n.kd 0) ++ [⟨#[59]⟩]
  else if n.k = 21 then [⟨#[123]⟩] ++ n.ks.flatMap F ++ [⟨#[125]⟩]
  else if n.k = 23 then F (n.kd 0)
  else if n.k = 24 then [⟨#[91]⟩] ++ F (n.kd 0) ++ [⟨#[93]⟩, ⟨#[61]⟩] ++ F (n.kd 1)
  else [n.t]
def toks (T : List Kn) : Nat → Int → List BA
  | 0, _ => []
  | f + 1, i => match T[i.toNat]? with
    | some n => ntoks (toks T f) n
    | none => []

/-! ### kids that can be read -/
structure IRd (g : AHeap) (v : Value) (xs : List Int) : Prop where
  len : aLen v = some (.int .i64 xs.length)
  at' : ∀ (j : Nat), j < xs.length → aIdx v (.int .i64 (j : Int)) 1 = some (ixP v j) ∧ ∀ g', LF g g' → aLd1 g' (ixP v j) = some (.int .i64 (xs.getD j 0))
theorem IRd.lf {g g' : AHeap} {v : Value} {xs : List Int} (x : IRd g v xs) (e : LF g g') : IRd g' v xs := ⟨x.len, fun j hj => ⟨(x.at' j hj).1, fun k ek => (x.at' j hj).2 k (e.trans ek)⟩⟩
theorem ISl.ird {c : Nat} {g : AHeap} {v : Value} {xs : List Int} (x : ISl c g v xs) : IRd g v xs := by
  refine ⟨x.len, fun j hj => ⟨(x.ix hj).1, fun g' e => ?_⟩⟩
  have := ((x.lf e).ix hj).2
  rw [this]; simp [hj]
/-- A node in hand: the tree, and the node, in structs of their own. -/
structure Env (g : AHeap) (p2 p5 : Nat) (nv : Value) (top : Int) (T : List Kn) (n : Kn) (kv : Value) : Prop where
  r2 : RowE g p2 35 [nv, .int .i64 top]
  r5 : RowE g p5 73 (knCells n kv)
  ksl : KSe g.size g nv T
  isl : ISl g.size g kv n.ks
section
variable {g : AHeap} {p2 p5 : Nat} {nv : Value} {top : Int} {T : List Kn} {n : Kn} {kv : Value}
theorem Env.lf {g' : AHeap} (y : Env g p2 p5 nv top T n kv) (e : LF g g') : Env g' p2 p5 nv top T n kv :=
  ⟨y.r2.lf e (by decide) (by decide) (by decide), y.r5.lf e (by decide) (by decide) (by decide), (y.ksl.lf e).mono e.1, (y.isl.lf e).mono e.1⟩
theorem Env.ext {g' : AHeap} (y : Env g p2 p5 nv top T n kv) (e : Ext g.size g g') : Env g' p2 p5 nv top T n kv := y.lf (SF.ext e).lf
theorem Env.t (y : Env g p2 p5 nv top T n kv) : aLdN g (ptr p2 0) 2 = some (trVal nv top) := (ld2 y.r2.row).2.2
theorem Env.f0 (y : Env g p2 p5 nv top T n kv) : aLd1 g (ptr p5 0) = some (.int .i64 n.k) := (ld4 y.r5.row).1
theorem Env.f1 (y : Env g p2 p5 nv top T n kv) : aLd1 g (ptr p5 1) = some (.string n.t) := (ld4 y.r5.row).2.1
theorem Env.f2 (y : Env g p2 p5 nv top T n kv) : aLd1 g (ptr p5 2) = some (.int .i64 n.i) := (ld4 y.r5.row).2.2.1
theorem Env.f3 (y : Env g p2 p5 nv top T n kv) : aLd1 g (ptr p5 3) = some kv := (ld4 y.r5.row).2.2.2.1
theorem Env.all (y : Env g p2 p5 nv top T n kv) : aLdN g (ptr p5 0) 4 = some (knVal n kv) := (ld4 y.r5.row).2.2.2.2
theorem Env.q0 (y : Env g p2 p5 nv top T n kv) (h : 0 < n.ks.length) : aIdx kv (.int .i64 0) 1 = some (ixP kv 0) := (y.isl.ird.at' 0 h).1
theorem Env.q1 (y : Env g p2 p5 nv top T n kv) (h : 1 < n.ks.length) : aIdx kv (.int .i64 1) 1 = some (ixP kv 1) := (y.isl.ird.at' 1 h).1
theorem Env.q2 (y : Env g p2 p5 nv top T n kv) (h : 2 < n.ks.length) : aIdx kv (.int .i64 2) 1 = some (ixP kv 2) := (y.isl.ird.at' 2 h).1
theorem Env.r (y : Env g p2 p5 nv top T n kv) {j : Nat} (h : j < n.ks.length) : aLd1 g (ixP kv j) = some (.int .i64 (n.kd j)) := (y.isl.ird.at' j h).2 g (LF.refl _)
theorem Env.len (y : Env g p2 p5 nv top T n kv) : aLen kv = some (.int .i64 n.ks.length) := y.isl.len
theorem Env.vb (y : Env g p2 p5 nv top T n kv) : vbeq kv kv = true := y.isl.vbeq
theorem Env.vt (y : Env g p2 p5 nv top T n kv) : vbeq (trVal nv top) (trVal nv top) = true := tr_vbeq y.ksl.ksl top
end
theorem Env.s {g : AHeap} {p2 p5 : Nat} {nv : Value} {top : Int} {T : List Kn} {n : Kn} {kv : Value} (y : Env g p2 p5 nv top T n kv) : aLdN g (ptr p2 0) 2 = some (trVal nv top) ∧ aLd1 g (ptr p5 0) = some (.int .i64 n.k) ∧ aLd1 g (ptr p5 1) = some (.string n.t) ∧ aLd1 g (ptr p5 2) = some (.int .i64 n.i) ∧ aLd1 g (ptr p5 3) = some kv ∧
    aLdN g (ptr p5 0) 4 = some (knVal n kv) ∧ aLen kv = some (.int .i64 n.ks.length) ∧ vbeq kv kv = true ∧ vbeq (trVal nv top) (trVal nv top) = true := ⟨y.t, y.f0, y.f1, y.f2, y.f3, y.all, y.len, y.vb, y.vt⟩
theorem Env.b0 {g : AHeap} {p2 p5 : Nat} {nv : Value} {top : Int} {T : List Kn} {n : Kn} {kv : Value} (y : Env g p2 p5 nv top T n kv) (h : 0 < n.ks.length) : aIdx kv (.int .i64 0) 1 = some (ixP kv 0) ∧ aLd1 g (ixP kv 0) = some (.int .i64 (n.kd 0)) := ⟨y.q0 h, y.r h⟩
theorem Env.b1 {g : AHeap} {p2 p5 : Nat} {nv : Value} {top : Int} {T : List Kn} {n : Kn} {kv : Value} (y : Env g p2 p5 nv top T n kv) (h : 1 < n.ks.length) : aIdx kv (.int .i64 1) 1 = some (ixP kv 1) ∧ aLd1 g (ixP kv 1) = some (.int .i64 (n.kd 1)) := ⟨y.q1 h, y.r h⟩
theorem Env.b2 {g : AHeap} {p2 p5 : Nat} {nv : Value} {top : Int} {T : List Kn} {n : Kn} {kv : Value} (y : Env g p2 p5 nv top T n kv) (h : 2 < n.ks.length) : aIdx kv (.int .i64 2) 1 = some (ixP kv 2) ∧ aLd1 g (ixP kv 2) = some (.int .i64 (n.kd 2)) := ⟨y.q2 h, y.r h⟩
theorem Env.ql {g : AHeap} {p2 p5 : Nat} {nv : Value} {top : Int} {T : List Kn} {n : Kn} {kv : Value} (y : Env g p2 p5 nv top T n kv) (h : 0 < n.ks.length) {i : Int} (hi : i = ((n.ks.length - 1 : Nat) : Int)) : aIdx kv (.int .i64 i) 1 = some (ixP kv (n.ks.length - 1)) := by rw [hi]; exact (y.isl.ird.at' _ (by omega)).1
theorem ag1 {o : Option Value} {v w : Value} (e : o = some v) : (o.bind fun x => some (vbeq x w)) = some (vbeq v w) := by rw [e]; rfl
theorem ag2 {o : Option Value} {n m : Int} (e : o = some (.int .i64 n)) : (o.bind fun x => (asI .i64 x).bind fun q => some (vbeq (.int .i64 q) (.int .i64 m))) = some (vbeq (.int .i64 n) (.int .i64 m)) := by rw [e]; rfl
theorem ag2s {o : Option Value} {n m : ByteArray} (e : o = some (.string n)) : (o.bind fun x => (asS x).bind fun q => some (vbeq (.string q) (.string m))) = some (vbeq (.string n) (.string m)) := by rw [e]; rfl
theorem vbI (k : IntKind) (x : Int) : vbeq (.int k x) (.int k x) = true := by simp [vbeq, vbeq1]
theorem opsW (d : Nat) (h : AHeap) : RS h opW (call Try.prog Ms (d + 1) 171 [] h) := by
  rw [c171, e171]
  exact lit_step (P := RS h opW) opW rfl rfl fun v g e o => RS.of e (.inr o)
/-- What is told of a node. -/
def TokOk (nv : Value) (top : Int) (T : List Kn) (F : Int → List BA) (e : Nat) (k : Int) : Prop := (F k).length ≤ 100000 ∧ ∀ g, KSe g.size g nv T → RS g (F k) (call Try.prog Ms e 80 [trVal nv top, .int .i64 k] g)
theorem cm_len {F : Int → List BA} : ∀ (ks : List Int) (j : Nat), (∀ k ∈ ks, (F k).length ≤ 100000) → (cm F j ks).length ≤ ks.length * 100001
  | [], j, _ => by simp [cm]
  | k :: ks, 0, h => by
    have := cm_len ks 1 fun k hk => h k (List.mem_cons_of_mem _ hk)
    have := h k (by simp)
    simp [cm]; omega
  | k :: ks, j + 1, h => by
    have := cm_len ks (j + 2) fun k hk => h k (List.mem_cons_of_mem _ hk)
    have := h k (by simp)
    simp [cm]; omega
theorem drop_get {xs : List Int} {j : Nat} (hj : j < xs.length) : xs.drop j = xs.getD j 0 :: xs.drop (j + 1) := by
  rw [List.drop_eq_getElem_cons hj]; simp [hj]
/-- l9Commas, its loop. -/
theorem commas_loop {e : Nat} {nv v : Value} {top : Int} {T : List Kn} {F : Int → List BA} {xs : List Int} {h0 : AHeap} {p2 N : Nat} (hl : xs.length ≤ 1048576) (hF : ∀ k ∈ xs, TokOk nv top T F e k) :
    ∀ (k j m : Nat) (g : AHeap) (ov : Value) (out : List BA), xs.length - j = k → j ≤ xs.length → k < m → Ext h0.size h0 g → RowE g p2 35 [nv, .int .i64 top] → KSe g.size g nv T → IRd g v xs → SOwn h0.size g ov out → out.length ≤ j * 100001 →
    RS h0 (out ++ cm F j (xs.drop j)) (s170_0 hk0 (call Try.prog Ms e) N m v (ptr p2 0) ov (j : Int) g) := by
  intro k
  induction k with
  | zero =>
    intro j m g ov out hk hj hm E r2 ks ir o hol
    obtain ⟨m, rfl⟩ : ∃ q, m = q + 1 := ⟨m - 1, by omega⟩
    have : ¬ ((j : Int) < (xs.length : Int)) := by omega
    rw [s170_0_eq, ir.len, Option.bind_some]
    simp only [asI, if_true, Option.bind_some, decide_eq_false this, cond_false]
    have : xs.drop j = [] := List.drop_eq_nil_of_le (by omega)
    rw [this]
    exact RS.of E (.inr (by cases j <;> simpa [cm] using o))
  | succ k ih =>
    intro j m g ov out hk hj hm E r2 ks ir o hol
    obtain ⟨m, rfl⟩ : ∃ q, m = q + 1 := ⟨m - 1, by omega⟩
    have hI : ((j : Int) < (xs.length : Int)) := by omega
    have hjl : j < xs.length := by omega
    have wj : IntKind.i64.wrap ((j : Int) + 1) = ((j + 1 : Nat) : Int) := by rw [wr (by omega) (by omega)]; omega
    have hmem : xs.getD j 0 ∈ xs := by simp [hjl]
    obtain ⟨hb, hc⟩ := hF _ hmem
    have step : ∀ (g : AHeap) (ov : Value) (out2 : List BA), out2.length ≤ j * 100001 + 1 → Ext h0.size h0 g → RowE g p2 35 [nv, .int .i64 top] → KSe g.size g nv T → IRd g v xs → SOwn h0.size g ov out2 →
        RS h0 (out2 ++ F (xs.getD j 0) ++ cm F (j + 1) (xs.drop (j + 1))) (s170_1 hk0 (call Try.prog Ms e) N m v (ptr p2 0) ov (j : Int) g) := by
      intro g ov out2 hol E r2 ks ir o
      rw [s170_1_j, s170_1_eq, (ld2 r2.row).2.2, Option.bind_some, (ir.at' j hjl).1, Option.bind_some, (ir.at' j hjl).2 g (LF.refl _), Option.bind_some]
      simp only [asI, if_true, Option.bind_some]
      refine bind_step (P := RS h0 _) (hc g ks) fun v1 g1 ⟨x1, o1⟩ => ?_
      obtain ⟨v2, g2, c2, x2, o2, L2⟩ := (o.ext x1).app (Nat.le_trans E.size x1.size) o1.src (by omega)
      simp only []
      rw [c2, Option.bind_some, wj]
      have L := (SF.ext x1).lf.trans L2
      exact ih (j + 1) m g2 v2 _ (by omega) (by omega) (by omega) ((Ext.tr E x1).trans x2) (r2.lf L (by decide) (by decide) (by decide)) ((ks.lf L).mono L.1) (ir.lf L) o2 (by rw [List.length_append]; omega)
    rw [s170_0_eq, ir.len, Option.bind_some]
    simp only [asI, if_true, Option.bind_some, decide_eq_true hI, cond_true]
    rw [drop_get hjl]
    cases j with
    | zero =>
      rw [show decide (((0 : Nat) : Int) > 0) = false from rfl, cond_false]
      have := step g ov out (by omega) E r2 ks ir o
      simpa only [cm, List.append_assoc] using this
    | succ j =>
      rw [show decide (((j + 1 : Nat) : Int) > 0) = true by simp, cond_true]
      refine lit_step (P := RS h0 _) [(⟨#[44]⟩ : BA)] rfl rfl fun v1 g1 x1 o1 => ?_
      obtain ⟨v2, g2, c2, x2, o2, L2⟩ := (o.ext x1).app (Nat.le_trans E.size x1.size) o1.src (by simp; omega)
      rw [c2, Option.bind_some]
      have L := (SF.ext x1).lf.trans L2
      have := step g2 v2 _ (by rw [List.length_append]; simp; omega) ((Ext.tr E x1).trans x2) (r2.lf L (by decide) (by decide) (by decide)) ((ks.lf L).mono L.1) (ir.lf L) o2
      simpa only [cm, List.append_assoc] using this
theorem l170 {e : Nat} {nv v : Value} {top : Int} {T : List Kn} {F : Int → List BA} {xs : List Int} {h : AHeap} (he : 1048577 < e) (hl : xs.length ≤ 1048576) (hF : ∀ k ∈ xs, TokOk nv top T F e k) (ks : KSe h.size h nv T) (ir : IRd h v xs) :
    RS h (cm F 0 xs) (call Try.prog Ms (e + 1) 170 [trVal nv top, v] h) := by
  rw [c170, e170, tr_aCells ks.ksl, Option.bind_some]
  refine new_step (P := RS h _) fun p g1 x1 o1 hp => ?_
  refine lit_step (P := RS h _) [] rfl rfl fun v2 g2 x2 o2 => ?_
  have E2 := Ext.tr x1 x2
  have L1 := (SF.ext x1).lf
  have L2 := (SF.ext x2).lf
  have := commas_loop (N := e) hl hF xs.length 0 e g2 v2 [] (by omega) (by omega) (by omega) E2 ((Own.rowE o1).lf L2 (by decide) (by decide) (by decide)) ((ks.lf (L1.trans L2)).mono (L1.trans L2).1) (ir.lf (L1.trans L2)) (o2.mono x1.size) (by simp)
  simpa using this
/-- Digits: the reference's. -/
theorem dgt_str (n : Int) (h0 : 0 ≤ n) (h1 : n < 10) : ∀ (g : AHeap), aCvStr (g.new 5 [.int .u8 (IntKind.u8.wrap (IntKind.i64.wrap (48 + n)))]) (slc g.size 0 1) = some (.string (dgt n)) := by
  intro g
  have hw : IntKind.u8.wrap (IntKind.i64.wrap (48 + n)) = 48 + n := by
    rw [wr (by omega) (by omega)]
    unfold IntKind.wrap
    simp [IntKind.bits, IntKind.signed]
    omega
  rw [hw]
  have r := (Own.new (Nat.le_refl g.size) 5 [Value.int .u8 (48 + n)]).row
  have := r.rd (off := 0) (n := 1) (by simp)
  simp [aCvStr, slc, this, bytesOf, dgt]
theorem sAdd {a b : ByteArray} (h : a.size + b.size ≤ 100000000000000) : aBin .add (.string a) (.string b) = some (.string (a ++ b)) := by
  show (if a.size + b.size ≤ most then some (Value.string (a ++ b)) else none) = _
  rw [if_pos (by show a.size + b.size ≤ 140737488355328; omega)]

/-! ### cuts of kids -/
def cutL : Value → Value
  | .slice a n _ => .slice a (n - 1) (n - 1)
  | v => v
def cutT : Value → Value
  | .slice (some ⟨i, off, s⟩) n _ => .slice (some ⟨i, off + 1, s⟩) (n - 1) (n - 1)
  | v => v
theorem isl_row {c : Nat} {g : AHeap} {v : Value} {xs : List Int} (x : ISl c g v xs) (hx : 0 < xs.length) : ∃ i o, v = slc i 0 xs.length ∧ g.at? i = some o ∧ o.elem = 3 ∧ o.cells = ints xs := by
  rcases x with ⟨rfl, rfl⟩ | ⟨a, n, rfl, rfl⟩ | ⟨i, o, h1, h2, h3, h4, _⟩
  · simp at hx
  · simp at hx
  · exact ⟨i, o, h1, h2, h3, h4⟩
theorem ISl.ctL {c : Nat} {g : AHeap} {v : Value} {xs : List Int} (x : ISl c g v xs) (hx : 0 < xs.length) :
    aSub g 3 v none (some (.int .i64 ((xs.length - 1 : Nat) : Int))) 1 = some (cutL v) ∧ IRd g (cutL v) xs.dropLast ∧ Go.AH.vbeq (cutL v) (cutL v) = true := by
  obtain ⟨i, o, rfl, h2, h3, h4⟩ := isl_row x hx
  have hd : xs.dropLast.length = xs.length - 1 := by simp
  have hix : ∀ j, j < xs.length - 1 → aIdx (cutL (slc i 0 xs.length)) (.int .i64 (j : Int)) 1 = some (ptr i j) := fun j hj => by simp [cutL, slc, aIdx, hj]
  refine ⟨?_, ⟨?_, fun j hj => ⟨?_, fun g' e => ?_⟩⟩, ?_⟩
  · have hb : aBound (.int .i64 ((xs.length - 1 : Nat) : Int)) xs.length = some (xs.length - 1) := by
      show (if 0 ≤ ((xs.length - 1 : Nat) : Int) ∧ ((xs.length - 1 : Nat) : Int) ≤ xs.length then some (((xs.length - 1 : Nat) : Int)).toNat else none) = _
      rw [if_pos ⟨by omega, by omega⟩]; simp
    show (if (g.at? i).map (·.elem) = some 3 then (aBound (.int .i64 ((xs.length - 1 : Nat) : Int)) xs.length).bind fun h => (some 0).bind fun l => some (Value.slice (some ⟨i, 0 + l * 1, none⟩) (h - l) (h - l)) else none) = _
    rw [if_pos (by rw [h2]; simp [h3]), hb]; rfl
  · rw [hd]; rfl
  · rw [hd] at hj; rw [hix j hj]; unfold ixP; rw [hix j hj]; rfl
  · rw [hd] at hj
    unfold ixP; rw [hix j hj]
    have r : Row g' i (ints xs) := ⟨o, e.2 i o h2 (by rw [h3]; decide) (by rw [h3]; decide) (by rw [h3]; decide), h4⟩
    show aLd1 g' (ptr i j) = _
    rw [r.ld1 (v := .int .i64 xs[j]) (by simp [ints, show j < xs.length by omega])]
    have : j < xs.dropLast.length := by simp; omega
    simp [List.getD_eq_getElem?_getD, List.getElem?_eq_getElem this, List.getElem_dropLast]
  · exact vbeq1_self (.slice (some ⟨i, 0, none⟩) (xs.length - 1) (xs.length - 1)) rfl (fun _ _ _ h => by cases h)
theorem ISl.ctT {c : Nat} {g : AHeap} {v : Value} {xs : List Int} (x : ISl c g v xs) (hx : 0 < xs.length) :
    aSub g 3 v (some (.int .i64 1)) none 1 = some (cutT v) ∧ IRd g (cutT v) xs.tail ∧ Go.AH.vbeq (cutT v) (cutT v) = true := by
  obtain ⟨i, o, rfl, h2, h3, h4⟩ := isl_row x hx
  have hd : xs.tail.length = xs.length - 1 := by simp
  have hix : ∀ j, j < xs.length - 1 → aIdx (cutT (slc i 0 xs.length)) (.int .i64 (j : Int)) 1 = some (ptr i (1 + j)) := fun j hj => by simp [cutT, slc, aIdx, hj]
  refine ⟨?_, ⟨?_, fun j hj => ⟨?_, fun g' e => ?_⟩⟩, ?_⟩
  · have hb : aBound (.int .i64 1) xs.length = some 1 := by
      show (if 0 ≤ (1 : Int) ∧ (1 : Int) ≤ xs.length then some (1 : Int).toNat else none) = _
      rw [if_pos ⟨by omega, by omega⟩]; rfl
    show (if (g.at? i).map (·.elem) = some 3 then (some xs.length).bind fun h => (aBound (.int .i64 1) h).bind fun l => some (Value.slice (some ⟨i, 0 + l * 1, none⟩) (h - l) (h - l)) else none) = _
    rw [if_pos (by rw [h2]; simp [h3]), Option.bind_some, hb]; rfl
  · rw [hd]; rfl
  · rw [hd] at hj; rw [hix j hj]; unfold ixP; rw [hix j hj]; rfl
  · rw [hd] at hj
    unfold ixP; rw [hix j hj]
    have r : Row g' i (ints xs) := ⟨o, e.2 i o h2 (by rw [h3]; decide) (by rw [h3]; decide) (by rw [h3]; decide), h4⟩
    show aLd1 g' (ptr i (1 + j)) = _
    rw [r.ld1 (v := .int .i64 (xs[1 + j]'(by omega))) (by simp [ints, show 1 + j < xs.length by omega])]
    have : j < xs.tail.length := by simp; omega
    simp [List.getD_eq_getElem?_getD, List.getElem?_eq_getElem this, Nat.add_comm]
  · exact vbeq1_self (.slice (some ⟨i, 0 + 1, none⟩) (xs.length - 1) (xs.length - 1)) rfl (fun _ _ _ h => by cases h)
theorem Env.cl {g : AHeap} {p2 p5 : Nat} {nv : Value} {top : Int} {T : List Kn} {n : Kn} {kv : Value} (y : Env g p2 p5 nv top T n kv) (h : 0 < n.ks.length) {i : Int} (hi : i = ((n.ks.length - 1 : Nat) : Int)) : aSub g 3 kv none (some (.int .i64 i)) 1 = some (cutL kv) := by rw [hi]; exact (y.isl.ctL h).1
theorem kd_mem {n : Kn} {j : Nat} (h : j < n.ks.length) : n.kd j ∈ n.ks := by simp [Kn.kd, h]
theorem SSrc.atI {g : AHeap} {v : Value} {xs : List BA} {i : Int} (x : SSrc g v xs) (h0 : 0 ≤ i) (h1 : i.toNat < xs.length) : aIdx v (.int .i64 i) 1 = some (ixP v i.toNat) ∧ ∀ g', SF g g' → aLd1 g' (ixP v i.toNat) = some (.string (xs.getD i.toNat ⟨#[]⟩)) := by
  obtain ⟨a, b⟩ := x.at' i.toNat h1
  rw [Int.toNat_of_nonneg h0] at a
  refine ⟨a, fun g' e => ?_⟩
  rw [b g' e]; simp [h1]
theorem dg_size : ∀ (f : Nat) (n : Int) (t : BA), (dg f n t).size ≤ f + t.size
  | 0, _, t => by simp [dg]
  | f + 1, n, t => by
    have h1 : ∀ m, (dgt m ++ t).size = 1 + t.size := fun m => by rw [ByteArray.size_append]; rfl
    rw [dg]
    split
    · rw [h1]; omega
    · have := dg_size f (n / 10) (dgt (n % 10) ++ t)
      rw [h1] at this; omega
/-- The reference's loop over digits. -/
theorem digit_loop {C : ACall} {N : Nat} {b : Bool} (hb : b = false) : ∀ (f m : Nat) (n : Int) (t : BA) (g : AHeap), 0 < n → n ≤ 1000000000000000 → n < 10 ^ f → f < m → f + t.size ≤ 1000 → ∃ g', s169_0 hk0 C N m n t b g = some (.string (dg f n t), g') ∧ Ext g.size g g' := by
  subst hb
  intro f
  induction f with
  | zero => intro m n t g h0 _ h1; simp at h1; omega
  | succ f ih =>
    intro m n t g h0 hB h1 hm ht
    obtain ⟨m, rfl⟩ : ∃ q, m = q + 1 := ⟨m - 1, by omega⟩
    have hmod : Int.tmod n 10 = n % 10 := Int.tmod_eq_emod_of_nonneg (by omega)
    have hdiv : Int.tdiv n 10 = n / 10 := Int.tdiv_eq_ediv_of_nonneg (by omega)
    have hne : (n != 0) = true := by simp; omega
    have hneg : decide (n % 10 < 0) = false := by simp; omega
    rw [s169_0_eq, hne, cond_true, hmod, hneg, cond_false, s169_1_j, s169_1_eq]
    simp only [aNewS]
    have e1 := Ext.new (Nat.le_refl g.size) 5 [.int .u8 (IntKind.u8.wrap (IntKind.i64.wrap (48 + n % 10)))]
    have hs : (dgt (n % 10) ++ t).size = 1 + t.size := by rw [ByteArray.size_append]; rfl
    rw [dgt_str (n % 10) (by omega) (by omega) g, Option.bind_some]
    simp only [asS, Option.bind_some]
    rw [sAdd (by have : (dgt (n % 10)).size = 1 := rfl; omega), Option.bind_some]
    simp only [asS, Option.bind_some]
    by_cases hlt : n < 10
    · have hz : n / 10 = 0 := by omega
      have hnn : n % 10 = n := by omega
      obtain ⟨m, rfl⟩ : ∃ q, m = q + 1 := ⟨m - 1, by omega⟩
      have hw : IntKind.i64.wrap (Int.tdiv n 10) = 0 := by rw [hdiv, hz]; rfl
      rw [hw, s169_0_eq, show ((0 : Int) != 0) = false from rfl, cond_false, cond_false, dg, if_pos hlt, hnn]
      exact ⟨_, rfl, by rw [hnn] at e1; exact e1⟩
    · have hpos : 0 < n / 10 := by omega
      have hsm : n / 10 < 10 ^ f := by
        have : (10 : Int) ^ (f + 1) = 10 ^ f * 10 := Int.pow_succ _ _
        omega
      have hw : IntKind.i64.wrap (Int.tdiv n 10) = n / 10 := by
        rw [hdiv, wr (by omega) (by omega)]
      rw [hw, dg, if_neg hlt]
      obtain ⟨g', a, b⟩ := ih m (n / 10) (dgt (n % 10) ++ t) _ hpos (by omega) hsm (by omega) (by omega)
      exact ⟨g', a, Ext.tr e1 b⟩
theorem l169 {d : Nat} (hd : 1000 < d) {n : Int} (h0 : 0 ≤ n) (h1 : n ≤ 999999999999999) (g : AHeap) : ∃ g', call Try.prog Ms (d + 1) 169 [.int .i64 n] g = some (.string (digs n), g') ∧ Ext g.size g g' := by
  rw [c169, e169]
  by_cases hz : n = 0
  · subst hz; exact ⟨g, rfl, Ext.refl _ _⟩
  · have : (n == 0) = false := beq_eq_false_iff_ne.2 hz
    rw [this, cond_false]
    exact digit_loop (by simp; omega) 20 d n ⟨#[]⟩ g (by omega) (by omega) (by omega) (by omega) (by show 20 + 0 ≤ 1000; omega)
section
variable {h : AHeap} {T : List BA}
theorem RS.b {α : Type} {o : Option α} {k : α → Option (Value × AHeap)} {v : α} (e : o = some v) (hk : RS h T (k v)) : RS h T (o.bind k) := by rw [e]; exact hk
theorem RS.cf {c : Bool} {a b : Option (Value × AHeap)} (e : c = false) (hk : RS h T b) : RS h T (bif c then a else b) := by rw [e]; exact hk
theorem RS.ct {c : Bool} {a b : Option (Value × AHeap)} (e : c = true) (hk : RS h T a) : RS h T (bif c then a else b) := by rw [e]; exact hk
theorem RS.lit {g : AHeap} {cells : List Value} {n : Nat} {k : Value → AHeap → Option (Value × AHeap)} (xs : List ByteArray) (hc : cells = strs xs) (hn : n = xs.length)
    (hk : ∀ v g', Ext g.size g g' → SOwn g.size g' v xs → RS h T (k v g')) : RS h T (aNewS g 9 cells n k) := lit_step (P := RS h T) xs hc hn hk
theorem RS.c {o : Option (Value × AHeap)} {k : Value × AHeap → Option (Value × AHeap)} {Q : Value → AHeap → Prop} (ho : ∃ v g, o = some (v, g) ∧ Q v g) (hk : ∀ v g, Q v g → RS h T (k (v, g))) : RS h T (o.bind k) := bind_step (P := RS h T) ho hk
end
theorem RS.fin {h g : AHeap} {b : Nat} {xs ys : List BA} {v : Value} (e : Ext h.size h g) (o : SOwn b g v xs) (hb : h.size ≤ b) (hx : xs = ys) : RS h ys (some (v, g)) := ⟨v, g, rfl, e, hx ▸ o.mono hb⟩
/-- How many kids a right node has. -/
theorem Good.len {T : List Kn} {j : Nat} {n : Kn} (g : Good T j n) : (shape n.k n.ks.length).length = n.ks.length := by
  have := g.shp
  unfold shP at this
  simp only [Bool.and_eq_true, decide_eq_true_eq, List.length_map] at this
  exact this.1
end Go.Proofs.Ytadmoackacickaa
/- Right trees; nodes in the heap. -/
set_option linter.unusedSimpArgs false
namespace Go.Proofs.Ytadmoackacickaa
open Go Go.AH

theorem knotAt {g : AHeap} {nv : Value} {T : List Kn} {i : Nat} {n : Kn} (ks : KSe g.size g nv T) (hi : T[i]? = some n) : ∃ q kv, aIdx nv (.int .i64 (i : Int)) 4 = some q ∧ aLdN g q 4 = some (knVal n kv) ∧ ISl g.size g kv n.ks := by
  obtain ⟨hlt, rfl⟩ := List.getElem?_eq_some_iff.1 hi
  obtain ⟨q, kv, a, b, c⟩ := ks.ksl.at hlt
  exact ⟨_, kv, a, (c g (Ext.refl _ _)).1, b⟩
structure Right (T : List Kn) (top : Int) : Prop where
  len : T.length ≤ 3000
  pos : 0 < T.length
  top : top = (T.length : Int) - 1
  good : ∀ (j : Nat) (n : Kn), T[j]? = some n → Good T j n
  num : numP T (T.length + 1) ((T.length : Int) - 1) 0 = (T.length : Int)
  blk : kd T ((T.length : Int) - 1) = 21
theorem right_of {T : List Kn} {top : Int} (h : specOk T top = true) : Right T top := by
  have h2 : implOk T top = true := by rw [← ok_same]; exact h
  unfold implOk at h2
  by_cases hc : T.length > 3000 ∨ T.length = 0 ∨ top ≠ (T.length : Int) - 1 ∨ kd T ((T.length : Int) - 1) ≠ 21
  · rw [if_pos hc] at h2; cases h2
  · rw [if_neg hc, Bool.and_eq_true] at h2
    have c1 : ¬ T.length > 3000 := fun e => hc (.inl e)
    have c2 : ¬ T.length = 0 := fun e => hc (.inr (.inl e))
    have c3 : top = (T.length : Int) - 1 := Classical.byContradiction fun e => hc (.inr (.inr (.inl e)))
    have c4 : kd T ((T.length : Int) - 1) = 21 := Classical.byContradiction fun e => hc (.inr (.inr (.inr e)))
    refine ⟨by omega, by omega, c3, fun j n hn => ?_, by simpa using h2.2, c4⟩
    have hj : j < T.length := (List.getElem?_eq_some_iff.1 hn).1
    have := (okFrom_all _ _).1 h2.1 j (by omega) (by omega)
    unfold nodeOkI at this
    rw [hn] at this
    exact good_iff.1 this
theorem kids_lo {T : List Kn} {top : Int} (R : Right T top) : ∀ (j : Nat) (n : Kn), T[j]? = some n → ∀ k ∈ n.ks, 0 ≤ k ∧ k < j := fun j n hn => (R.good j n hn).rng
theorem KSg.ext {e : TypeId} {c : Nat} {h g : AHeap} {v : Value} {ns : List Kn} (x : KSg e c h v ns) (k : Ext c h g) : KSg e c g v ns := by
  rcases x with x | x | ⟨i, o, a1, a2, a6, a3, a4, a5⟩
  · exact .inl x
  · exact .inr (.inl x)
  · exact .inr (.inr ⟨i, o, a1, k.at? a3 a2, a6, a3, a4, fun j n hn => let ⟨kv, a, b⟩ := a5 j n hn; ⟨kv, a, b.ext k⟩⟩)
theorem RowE.ext' {h g : AHeap} {i : Nat} {e : TypeId} {cs : List Value} (x : RowE h i e cs) (k : Ext h.size h g) : RowE g i e cs := let ⟨o, a, b, c⟩ := x; ⟨o, k.at? (at?_obj a).2.1 a, b, c⟩
theorem has2 {n : Kn} (h : hasP n = true) (hk : n.k = 2) : 0 ≤ n.i ∧ n.i ≤ 1 := by
  have : hasP n = (emp n.t && inR n.i 0 1) := by unfold hasP; rw [hk]; rfl
  rw [this] at h; simp [inR] at h; omega
end Go.Proofs.Ytadmoackacickaa
/- Fold: the model of the folded nodes. -/
set_option linter.unusedSimpArgs false
namespace Go.Proofs.Ytadmoackacickaa
open Go Go.AH

/-- What a node is folded to: a node of its own, or one of the tree's. -/
inductive RT where
  | c (n : Kn)
  | o (j : Nat)
def kN (T : List Kn) (j : Nat) : Kn := T.getD j ⟨0, ⟨#[]⟩, 0, []⟩
def RT.nd (T : List Kn) : RT → Kn
  | .c n => n
  | .o j => kN T j
def isC (k : Int) : Bool := if 1 ≤ k then decide (k ≤ 4) else false
def tru (n : Kn) : Bool := if n.k = 1 then false else if n.k = 2 then n.i != 0 else true
def boolK (b : Bool) : Kn := ⟨2, ⟨#[]⟩, if b then 1 else 0, []⟩
def quoI (x : Int) : Int := IntKind.i64.wrap ((999999999999999 : Int).tdiv x)
def rngK (v : Int) : Option Kn := if inR v 0 999999999999999 = true then some ⟨3, ⟨#[]⟩, v, []⟩ else none
def arC (op x y : Int) : Option Kn :=
  if op = 1 then rngK (IntKind.i64.wrap (x + y)) else if op = 2 then rngK (IntKind.i64.wrap (x - y))
  else if op = 3 then (if x ≠ 0 ∧ y > quoI x then none else rngK (IntKind.i64.wrap (x * y)))
  else if op = 7 then some (boolK (x == y)) else if op = 8 then some (boolK (x != y)) else if op = 9 then some (boolK (decide (x < y))) else if op = 10 then some (boolK (decide (x ≤ y))) else none
def lenOk (a b : Kn) : Bool := decide (IntKind.i64.wrap ((a.t.size : Int) + (b.t.size : Int)) ≤ 160)
def binC (op : Int) (a b : Kn) : Option Kn :=
  if a.k = 3 ∧ b.k = 3 then arC op a.i b.i
  else if op = 6 ∧ a.k = 4 ∧ b.k = 4 ∧ lenOk a b = true then some ⟨4, a.t ++ b.t, 0, []⟩ else none
def foldN (T : List Kn) (n : Kn) (j : Nat) (R : Int → RT) : RT :=
  if n.k = 10 then (match binC n.i ((R (n.kd 0)).nd T) ((R (n.kd 1)).nd T) with | some c => .c c | none => .o j)
  else if n.k = 11 then (if n.i = 2 ∧ isC ((R (n.kd 0)).nd T).k = true then .c (boolK (!tru ((R (n.kd 0)).nd T))) else .o j)
  else if (n.k = 12 ∨ n.k = 13) ∧ isC ((R (n.kd 0)).nd T).k = true then (if tru ((R (n.kd 0)).nd T) = (n.k == 13) then R (n.kd 0) else R (n.kd 1))
  else .o j
def res (T : List Kn) : Nat → Int → RT
  | 0, i => .o i.toNat
  | f + 1, i => match T[i.toNat]? with
    | some n => foldN T n i.toNat (res T f)
    | none => .o i.toNat
def RR (T : List Kn) (i : Int) : RT := res T (T.length + 1) i
section
variable {T : List Kn}
theorem foldN_congr {n : Kn} {j : Nat} {R S : Int → RT} (h0 : n.k = 10 ∨ n.k = 11 ∨ n.k = 12 ∨ n.k = 13 → R (n.kd 0) = S (n.kd 0)) (h1 : n.k = 10 ∨ n.k = 12 ∨ n.k = 13 → R (n.kd 1) = S (n.kd 1)) : foldN T n j R = foldN T n j S := by
  unfold foldN
  by_cases k0 : n.k = 10
  · rw [if_pos k0, if_pos k0, h0 (by omega), h1 (by omega)]
  · rw [if_neg k0, if_neg k0]
    by_cases k1 : n.k = 11
    · rw [if_pos k1, if_pos k1, h0 (by omega)]
    · rw [if_neg k1, if_neg k1]
      by_cases k2 : n.k = 12 ∨ n.k = 13
      · rw [h0 (by omega), h1 (by omega)]
      · rw [if_neg (fun e => k2 e.1), if_neg (fun e => k2 e.1)]
structure Tg (T : List Kn) : Prop where
  good : ∀ (j : Nat) (n : Kn), T[j]? = some n → Good T j n
  len : T.length ≤ 3000
  txt : ∀ n ∈ T, n.t.size ≤ 1048576 ∧ n.ks.length ≤ 1048576
theorem Good.two {j : Nat} {n : Kn} (g : Good T j n) (h : n.k = 10 ∨ n.k = 12 ∨ n.k = 13) : n.ks.length = 2 := by
  have := g.len
  rcases h with h | h | h <;> (rw [h] at this; exact this.symm)
theorem Good.one {j : Nat} {n : Kn} (g : Good T j n) (h : n.k = 11) : n.ks.length = 1 := by
  have := g.len
  rw [h] at this; exact this.symm
theorem Good.kd0 {j : Nat} {n : Kn} (g : Good T j n) (h : n.k = 10 ∨ n.k = 11 ∨ n.k = 12 ∨ n.k = 13) : 0 ≤ n.kd 0 ∧ n.kd 0 < j := g.rng _ (kd_mem (by
  by_cases h1 : n.k = 11
  · rw [g.one h1]; decide
  · rw [g.two (by omega)]; decide))
theorem Good.kd1 {j : Nat} {n : Kn} (g : Good T j n) (h : n.k = 10 ∨ n.k = 12 ∨ n.k = 13) : 0 ≤ n.kd 1 ∧ n.kd 1 < j := g.rng _ (kd_mem (by rw [g.two h]; decide))
theorem res_eq (K : Tg T) : ∀ (f g : Nat) (i : Int), 0 ≤ i → i < f → i < g → res T f i = res T g i := by
  intro f
  induction f with
  | zero => intro g i h0 h1 _; omega
  | succ f ih =>
    intro g i h0 h1 h2
    obtain ⟨g, rfl⟩ : ∃ q, g = q + 1 := ⟨g - 1, by omega⟩
    rw [res, res]
    cases hn : T[i.toNat]? with
    | none => rfl
    | some n =>
      have G := K.good _ _ hn
      exact foldN_congr (fun h => by have := G.kd0 h; exact ih g _ this.1 (by omega) (by omega)) (fun h => by have := G.kd1 h; exact ih g _ this.1 (by omega) (by omega))
theorem RR_eq (K : Tg T) {j : Nat} {n : Kn} (hn : T[j]? = some n) : RR T (j : Int) = foldN T n j (RR T) := by
  have hj : j < T.length := (List.getElem?_eq_some_iff.1 hn).1
  have G := K.good _ _ hn
  unfold RR
  rw [res, Int.toNat_natCast, hn]
  exact foldN_congr (fun h => by have := G.kd0 h; exact res_eq K _ _ _ this.1 (by omega) (by omega)) (fun h => by have := G.kd1 h; exact res_eq K _ _ _ this.1 (by omega) (by omega))
def RtOk (T : List Kn) (i : Nat) : RT → Prop
  | .c n => n.ks = [] ∧ n.t.size ≤ 1048576 ∧ (n.k = 2 → n.i = 0 ∨ n.i = 1)
  | .o j => j ≤ i
theorem RtOk.mono {i j : Nat} {r : RT} (x : RtOk T i r) (h : i ≤ j) : RtOk T j r := by
  cases r with
  | c n => exact x
  | o q => exact Nat.le_trans x h
theorem kN_get {j : Nat} {n : Kn} (h : T[j]? = some n) : kN T j = n := by unfold kN; rw [List.getD_eq_getElem?_getD, h]; rfl
theorem RtOk.txt (K : Tg T) {i : Nat} {r : RT} (x : RtOk T i r) (hi : i < T.length) : (r.nd T).t.size ≤ 1048576 := by
  cases r with
  | c n => exact x.2.1
  | o q =>
    have hq : q < T.length := Nat.lt_of_le_of_lt x hi
    have : T[q]? = some T[q] := by simp [hq]
    show (kN T q).t.size ≤ _
    rw [kN_get this]; exact (K.txt _ (List.getElem_mem hq)).1
theorem boolK_ok (i : Nat) (b : Bool) : RtOk T i (.c (boolK b)) := ⟨rfl, by show (0 : Nat) ≤ _; decide, fun _ => by cases b; exact .inl rfl; exact .inr rfl⟩
theorem rngK_ok {i : Nat} {v : Int} {c : Kn} (h : rngK v = some c) : RtOk T i (.c c) := by
  unfold rngK at h
  split at h
  · cases h; exact ⟨rfl, by show (0 : Nat) ≤ _; decide, fun h => absurd h (by show (3 : Int) ≠ 2; decide)⟩
  · cases h
theorem arC_ok {i : Nat} {op x y : Int} {c : Kn} (h : arC op x y = some c) : RtOk T i (.c c) := by
  unfold arC at h
  split at h
  · exact rngK_ok h
  · split at h
    · exact rngK_ok h
    · split at h
      · split at h
        · cases h
        · exact rngK_ok h
      · split at h
        · cases h; exact boolK_ok _ _
        · split at h
          · cases h; exact boolK_ok _ _
          · split at h
            · cases h; exact boolK_ok _ _
            · split at h
              · cases h; exact boolK_ok _ _
              · cases h
theorem binC_ok {i : Nat} {op : Int} {a b c : Kn} (ha : a.t.size ≤ 1048576) (hb : b.t.size ≤ 1048576) (h : binC op a b = some c) : RtOk T i (.c c) := by
  unfold binC at h
  split at h
  · exact arC_ok h
  · split at h
    · rename_i h2
      cases h
      refine ⟨rfl, ?_, fun h => absurd h (by show (4 : Int) ≠ 2; decide)⟩
      show (a.t ++ b.t).size ≤ _
      have h3 := of_decide_eq_true h2.2.2.2
      rw [wr (by omega) (by omega)] at h3
      rw [ByteArray.size_append]; omega
    · cases h
theorem RR_ok (K : Tg T) : ∀ (i : Nat), i < T.length → RtOk T i (RR T (i : Int)) := by
  intro i
  induction i using Nat.strongRecOn with
  | _ i ih =>
    intro hi
    have hn : T[i]? = some T[i] := by simp [hi]
    have G := K.good _ _ hn
    rw [RR_eq K hn]
    have q0 : T[i].k = 10 ∨ T[i].k = 11 ∨ T[i].k = 12 ∨ T[i].k = 13 → RtOk T i (RR T (T[i].kd 0)) := fun h => by
      have := G.kd0 h
      have z := ih (T[i].kd 0).toNat (by omega) (by omega)
      rw [show (((T[i].kd 0).toNat : Nat) : Int) = T[i].kd 0 by omega] at z
      exact z.mono (by omega)
    have q1 : T[i].k = 10 ∨ T[i].k = 12 ∨ T[i].k = 13 → RtOk T i (RR T (T[i].kd 1)) := fun h => by
      have := G.kd1 h
      have z := ih (T[i].kd 1).toNat (by omega) (by omega)
      rw [show (((T[i].kd 1).toNat : Nat) : Int) = T[i].kd 1 by omega] at z
      exact z.mono (by omega)
    unfold foldN
    by_cases k0 : T[i].k = 10
    · rw [if_pos k0]
      cases e : binC T[i].i ((RR T (T[i].kd 0)).nd T) ((RR T (T[i].kd 1)).nd T) with
      | none => exact Nat.le_refl i
      | some c => exact binC_ok ((q0 (by omega)).txt K hi) ((q1 (by omega)).txt K hi) e
    · rw [if_neg k0]
      by_cases k1 : T[i].k = 11
      · rw [if_pos k1]
        split
        · exact boolK_ok _ _
        · exact Nat.le_refl i
      · rw [if_neg k1]
        split
        · rename_i h2
          split
          · exact q0 (by omega)
          · exact q1 (by omega)
        · exact Nat.le_refl i
/-! ### the nodes, one behind the other -/
def flK (F : Int → Nat → List Kn) : List Int → Nat → List Kn × List Int
  | [], _ => ([], [])
  | k :: ks, b => ((F k b) ++ (flK F ks (b + (F k b).length)).1, (((b + (F k b).length : Nat) : Int) - 1) :: (flK F ks (b + (F k b).length)).2)
def fl (T : List Kn) : Nat → RT → Nat → List Kn
  | 0, _, _ => []
  | _ + 1, .c n, _ => [{ n with ks := [] }]
  | f + 1, .o j, b => let r := flK (fun k b => fl T f (RR T k) b) (kN T j).ks b; r.1 ++ [{ kN T j with ks := r.2 }]
def FL (T : List Kn) (r : RT) (b : Nat) : List Kn := fl T (T.length + 1) r b
theorem flK_congr {F G : Int → Nat → List Kn} : ∀ (ks : List Int) (b : Nat), (∀ k ∈ ks, ∀ b, F k b = G k b) → flK F ks b = flK G ks b
  | [], _, _ => rfl
  | k :: ks, b, h => by
    rw [flK, flK, h k (by simp) b, flK_congr ks _ (fun q hq => h q (by simp [hq]))]
theorem fl_eq (K : Tg T) : ∀ (f g : Nat) (r : RT) (i b : Nat), RtOk T i r → i < T.length → i < f → i < g → fl T f r b = fl T g r b := by
  intro f
  induction f with
  | zero => intro g r i b _ _ h; omega
  | succ f ih =>
    intro g r i b hr hi h1 h2
    obtain ⟨g, rfl⟩ : ∃ q, g = q + 1 := ⟨g - 1, by omega⟩
    cases r with
    | c n => rfl
    | o j =>
      have hj : j < T.length := Nat.lt_of_le_of_lt hr hi
      have hji : j ≤ i := hr
      have hn : T[j]? = some T[j] := by simp [hj]
      have G := K.good _ _ hn
      rw [fl, fl, kN_get hn, flK_congr (G := fun k b => fl T g (RR T k) b) T[j].ks b (fun k hk b => by
        have := G.rng k hk
        have z := RR_ok K k.toNat (by omega)
        rw [show ((k.toNat : Nat) : Int) = k by omega] at z
        exact ih g (RR T k) k.toNat b z (by omega) (by omega) (by omega))]
theorem FL_c (n : Kn) (b : Nat) : FL T (.c n) b = [{ n with ks := [] }] := rfl
theorem FL_o (K : Tg T) {j : Nat} {n : Kn} (hn : T[j]? = some n) (b : Nat) : FL T (.o j) b = (flK (fun k b => FL T (RR T k) b) n.ks b).1 ++ [{ n with ks := (flK (fun k b => FL T (RR T k) b) n.ks b).2 }] := by
  have hj : j < T.length := (List.getElem?_eq_some_iff.1 hn).1
  have G := K.good _ _ hn
  show fl T (T.length + 1) (.o j) b = _
  rw [fl, kN_get hn, flK_congr (G := fun k b => FL T (RR T k) b) n.ks b (fun k hk b => by
    have := G.rng k hk
    have z := RR_ok K k.toNat (by omega)
    rw [show ((k.toNat : Nat) : Int) = k by omega] at z
    exact fl_eq K _ _ _ k.toNat b z (by omega) (by omega) (by omega))]
theorem flK_len (F : Int → Nat → List Kn) : ∀ (ks : List Int) (b : Nat), (flK F ks b).2.length = ks.length
  | [], _ => rfl
  | k :: ks, b => by rw [flK]; show _ + 1 = _ + 1; rw [flK_len F ks]
/-- The last node. -/
theorem FL_last (K : Tg T) {i : Nat} {r : RT} (hr : RtOk T i r) (hi : i < T.length) (b : Nat) : ∃ L n, FL T r b = L ++ [n] ∧ n.k = (r.nd T).k ∧ n.t = (r.nd T).t ∧ n.i = (r.nd T).i := by
  cases r with
  | c n => exact ⟨[], _, FL_c n b, rfl, rfl, rfl⟩
  | o j =>
    have hj : j < T.length := Nat.lt_of_le_of_lt hr hi
    have hn : T[j]? = some T[j] := by simp [hj]
    have e : RT.nd T (.o j) = T[j] := kN_get hn
    rw [e]
    exact ⟨_, _, FL_o K hn b, rfl, rfl, rfl⟩
theorem foldN_o {n : Kn} {j q : Nat} {R : Int → RT} (h : foldN T n j R = .o q) : q = j ∨ R (n.kd 0) = .o q ∨ R (n.kd 1) = .o q := by
  unfold foldN at h
  split at h
  · split at h
    · cases h
    · cases h; exact .inl rfl
  · split at h
    · split at h
      · cases h
      · cases h; exact .inl rfl
    · split at h
      · split at h
        · exact .inr (.inl h)
        · exact .inr (.inr h)
      · cases h; exact .inl rfl
def FlLen (T : List Kn) (k fr : Int) : Prop := ∀ b, 1 ≤ (FL T (RR T k) b).length ∧ ((FL T (RR T k) b).length : Int) ≤ k + 1 - fr
theorem flK_bound {G : Int → Int → Int} {i : Int} {F : Int → Nat → List Kn} : ∀ (l : List Int) (fr : Int) (b : Nat), (∀ k fr, k ∈ l → 0 ≤ fr → 0 ≤ G k fr → G k fr = k + 1 ∧ ∀ b, ((F k b).length : Int) ≤ k + 1 - fr) → 0 ≤ fr → 0 ≤ numGo' G i l fr → ((flK F l b).1.length : Int) ≤ i - fr
  | [], fr, b, _, hfr, hnum => by
    unfold numGo' at hnum
    by_cases h : i = fr
    · subst h; show ((0 : Nat) : Int) ≤ _; omega
    · rw [if_neg h] at hnum; omega
  | k :: l, fr, b, hF, hfr, hnum => by
    rw [numGo'] at hnum
    by_cases hn : G k fr < 0
    · rw [if_pos hn] at hnum; omega
    rw [if_neg hn] at hnum
    obtain ⟨g1, g2⟩ := hF k fr (by simp) hfr (by omega)
    rw [g1] at hnum
    have z := flK_bound (G := G) (i := i) (F := F) l (k + 1) (b + (F k b).length) (fun q fr hq => hF q fr (by simp [hq])) (by omega) hnum
    have := g2 b
    rw [flK, List.length_append]; omega
theorem mem_bound {G : Int → Int → Int} {i : Int} : ∀ (l : List Int) (fr k : Int), (∀ k fr, k ∈ l → 0 ≤ fr → 0 ≤ G k fr → G k fr = k + 1 ∧ fr ≤ k) → k ∈ l → 0 ≤ fr → 0 ≤ numGo' G i l fr → ∃ fr', fr ≤ fr' ∧ 0 ≤ G k fr'
  | [], _, _, _, hk, _, _ => by simp at hk
  | a :: l, fr, k, hF, hk, hfr, hnum => by
    rw [numGo'] at hnum
    by_cases hn : G a fr < 0
    · rw [if_pos hn] at hnum; omega
    rw [if_neg hn] at hnum
    rcases List.mem_cons.1 hk with rfl | hk
    · exact ⟨fr, Int.le_refl _, by omega⟩
    · obtain ⟨g1, g2⟩ := hF a fr (by simp) hfr (by omega)
      rw [g1] at hnum
      obtain ⟨fr', a1, a2⟩ := mem_bound l (a + 1) k (fun q fr hq => hF q fr (by simp [hq])) hk (by omega) hnum
      exact ⟨fr', by omega, a2⟩
theorem fl_bound (K : Tg T) : ∀ (f : Nat) (i fr : Int), 0 ≤ i → i < T.length → 0 ≤ fr → 0 ≤ numP T f i fr → FlLen T i fr := by
  intro f
  induction f with
  | zero => intro i fr _ _ _ h; exact absurd h (by show ¬ (0:Int) ≤ -1; decide)
  | succ f ih =>
    intro i fr hi hi2 hfr hnum
    obtain ⟨i, rfl⟩ : ∃ q : Nat, i = q := ⟨i.toNat, by omega⟩
    have hlt : i < T.length := by omega
    have hget : T[i]? = some T[i] := by simp [hlt]
    have G := K.good _ _ hget
    have nl := num_le T (f + 1) (i : Int) fr hnum hfr
    have hnum' : 0 ≤ numGo' (numP T f) (i : Int) T[i].ks fr := by
      have : numP T (f + 1) (i : Int) fr = numGo' (numP T f) (i : Int) T[i].ks fr := by
        show (match T[(i : Int).toNat]? with | some n => numGo' (numP T f) (i : Int) n.ks fr | none => -1) = _
        rw [Int.toNat_natCast, hget]
      omega
    have hF : ∀ k fr', k ∈ T[i].ks → 0 ≤ fr' → 0 ≤ numP T f k fr' → numP T f k fr' = k + 1 ∧ fr' ≤ k ∧ FlLen T k fr' := fun k fr' hk h0 h1 => by
      have := G.rng k hk
      have nl := num_le T f k fr' h1 h0
      exact ⟨nl.1, nl.2, ih k fr' this.1 (by omega) h0 h1⟩
    have kid : ∀ k, k ∈ T[i].ks → ∀ b, 1 ≤ (FL T (RR T k) b).length ∧ ((FL T (RR T k) b).length : Int) ≤ (i : Int) + 1 - fr := fun k hk b => by
      have := G.rng k hk
      obtain ⟨fr', a1, a2⟩ := mem_bound T[i].ks fr k (fun k fr hk h0 h1 => let z := hF k fr hk h0 h1; ⟨z.1, z.2.1⟩) hk hfr hnum'
      have := (hF k fr' hk (by omega) a2).2.2 b
      omega
    have self : ∀ b, 1 ≤ (FL T (.o i) b).length ∧ ((FL T (.o i) b).length : Int) ≤ (i : Int) + 1 - fr := fun b => by
      have := flK_bound (F := fun k b => FL T (RR T k) b) T[i].ks fr b (fun k fr hk h0 h1 => let z := hF k fr hk h0 h1; ⟨z.1, fun b => (z.2.2 b).2⟩) hfr hnum'
      rw [FL_o K hget, List.length_append]
      simp only [List.length_cons, List.length_nil]
      omega
    intro b
    rw [RR_eq K hget]
    have cst : ∀ c, 1 ≤ (FL T (.c c) b).length ∧ ((FL T (.c c) b).length : Int) ≤ (i : Int) + 1 - fr := fun c => by
      rw [FL_c]; simp only [List.length_cons, List.length_nil]; omega
    have m0 : T[i].k = 10 ∨ T[i].k = 11 ∨ T[i].k = 12 ∨ T[i].k = 13 → T[i].kd 0 ∈ T[i].ks := fun h => kd_mem (by
      by_cases h1 : T[i].k = 11
      · rw [G.one h1]; decide
      · rw [G.two (by omega)]; decide)
    have m1 : T[i].k = 10 ∨ T[i].k = 12 ∨ T[i].k = 13 → T[i].kd 1 ∈ T[i].ks := fun h => kd_mem (by rw [G.two h]; decide)
    unfold foldN
    split
    · split
      · exact cst _
      · exact self b
    · split
      · split
        · exact cst _
        · exact self b
      · split
        · rename_i h2
          split
          · exact kid _ (m0 (by omega)) b
          · exact kid _ (m1 (by omega)) b
        · exact self b
end
end Go.Proofs.Ytadmoackacickaa
