import Derived.Test.YtadmoackacickaaXAD
import Derived.KernelRfl
import Derived.Test.YtadmoackacickaaProg
import Derived.Test.YtadmoackacickaaXAK
set_option linter.unusedVariables false
namespace Go.Proofs.Ytadmoackacickaa
open Go Go.AH
/-! 74 loop.example/g00101/impl.bound -/
theorem e74 (hk : Hk (Value × AHeap)) (C : ACall) (N : Nat) (x0 : Value) (h : AHeap) : evFn hk Try.prog C M74 N Try.f74 [x0] h =
    (aNil x0).bind fun v1 => (aOff v1 0).bind fun v2 => (aLd1 h v2).bind fun v3 => (aLen v3).bind fun v4 => (asI .i64 v4).bind fun n5 => (aMk h 3 [.int .i64 0] 8 (.int .i64 n5) (.int .i64 n5)).bind fun r6 => (aMk r6.2 4 [.bool false] 1 (.int .i64 n5) (.int .i64 n5)).bind fun r7 => (aMk r7.2 3 [.int .i64 0] 8 (.int .i64 n5) (.int .i64 n5)).bind fun r8 => (aFill [.pointer none, .slice none 0 0, .slice none 0 0, .slice none 0 0, .slice none 0 0] [(0, 1, x0), (1, 1, r6.1), (2, 1, r7.1), (3, 1, r8.1)]).bind fun c9 => (aCells (.agg (List.toArray c9))).bind fun c10 => aNew r8.2 98 c10 fun p11 h12 => (aNil x0).bind fun v13 => (aOff v13 1).bind fun v14 => (aLd1 h12 v14).bind fun v15 => (asI .i64 v15).bind fun n16 => (C 119 [p11, .int .i64 n16, .int .i64 (-1)] h12).bind fun r17 => some (p11, r17.2) := by kernel_rfl
theorem c74 (d : Nat) (args : List Value) (h : AHeap) : call Try.prog Ms (d + 1) 74 args h = evFn hk0 Try.prog (call Try.prog Ms d) M74 d Try.f74 args h := by kernel_rfl

/-! 75 slices.Contains[[]string,string] -/
theorem e75 (hk : Hk (Value × AHeap)) (C : ACall) (N : Nat) (x0 : Value) (x1 : ByteArray) (h : AHeap) : evFn hk Try.prog C M75 N Try.f75 [x0, .string x1] h =
    (C 120 [x0, .string x1] h).bind fun r1 => (asI .i64 r1.1).bind fun n2 => some (.bool (decide (n2 ≥ 0)), r1.2) := by kernel_rfl
theorem c75 (d : Nat) (args : List Value) (h : AHeap) : call Try.prog Ms (d + 1) 75 args h = evFn hk0 Try.prog (call Try.prog Ms d) M75 d Try.f75 args h := by kernel_rfl

/-! 119 (*loop.example/g00101/impl.binder).walk -/
noncomputable def F119_0 (hk : Hk (Value × AHeap)) (C : ACall) (N : Nat) : Nx (Value × AHeap) := evSt hk Try.prog C M119 N Try.f119 [1, 1, 1, 1] []
noncomputable def s119_0 (hk : Hk (Value × AHeap)) (C : ACall) (N : Nat) (x0 : Value) (x1 : Int) (x2 : Int) (x6 : Value) (x7 : Int) (x8 : Int) (h : AHeap) := hk 5 (⟨84, [(0, x0), (1, .int .i64 x1), (2, .int .i64 x2), (6, x6), (7, .int .i64 x7), (8, .int .i64 x8)]⟩) h (F119_0 hk C N)
noncomputable def F119_1 (hk : Hk (Value × AHeap)) (C : ACall) (N : Nat) (n1 : Nat) : Nx (Value × AHeap) := evSt hk Try.prog C M119 N Try.f119 [1, 1, 1, 1, 0, 1, 2, 6] [n1]
noncomputable def s119_1 (hk : Hk (Value × AHeap)) (C : ACall) (N : Nat) (n1 : Nat) (x0 : Value) (x1 : Int) (x2 : Int) (x6 : Value) (x7 : Int) (x8 : Int) (x32 : Value) (x33 : Int) (x34 : Int) (h : AHeap) := F119_1 hk C N n1 (⟨84, [(0, x0), (1, .int .i64 x1), (2, .int .i64 x2), (6, x6), (7, .int .i64 x7), (8, .int .i64 x8), (32, x32), (33, .int .i64 x33), (34, .int .i64 x34)]⟩) h
noncomputable def F119_2 (hk : Hk (Value × AHeap)) (C : ACall) (N : Nat) : Nx (Value × AHeap) := evSt hk Try.prog C M119 N Try.f119 [1, 1, 1, 1, 1, 1, 2, 1] []
noncomputable def s119_2 (hk : Hk (Value × AHeap)) (C : ACall) (N : Nat) (x0 : Value) (x1 : Int) (x2 : Int) (x7 : Int) (x44 : Int) (x45 : Bool) (h : AHeap) := hk 100013 (⟨84, [(0, x0), (1, .int .i64 x1), (2, .int .i64 x2), (7, .int .i64 x7), (44, .int .i64 x44), (45, .bool x45)]⟩) h (F119_2 hk C N)
noncomputable def F119_3 (hk : Hk (Value × AHeap)) (C : ACall) (N : Nat) : Nx (Value × AHeap) := evSt hk Try.prog C M119 N Try.f119 [1, 1, 1, 1, 1, 1, 2, 1, 5, 1] []
noncomputable def s119_3 (hk : Hk (Value × AHeap)) (C : ACall) (N : Nat) (x0 : Value) (x1 : Int) (x2 : Int) (x7 : Int) (x44 : Int) (x52 : Bool) (h : AHeap) := hk 100016 (⟨84, [(0, x0), (1, .int .i64 x1), (2, .int .i64 x2), (7, .int .i64 x7), (44, .int .i64 x44), (52, .bool x52)]⟩) h (F119_3 hk C N)
noncomputable def F119_4 (hk : Hk (Value × AHeap)) (C : ACall) (N : Nat) : Nx (Value × AHeap) := evSt hk Try.prog C M119 N Try.f119 [1, 1, 1, 1, 1, 1, 2, 1, 5, 1, 5, 1] []
noncomputable def s119_4 (hk : Hk (Value × AHeap)) (C : ACall) (N : Nat) (x0 : Value) (x7 : Int) (x72 : Bool) (h : AHeap) := hk 100020 (⟨84, [(0, x0), (7, .int .i64 x7), (72, .bool x72)]⟩) h (F119_4 hk C N)
theorem e119 (hk : Hk (Value × AHeap)) (C : ACall) (N : Nat) (x0 : Value) (x1 : Int) (x2 : Int) (h : AHeap) : evFn hk Try.prog C M119 N Try.f119 [x0, .int .i64 x1, .int .i64 x2] h =
    (aNil x0).bind fun v1 => (aOff v1 0).bind fun v2 => (aLd1 h v2).bind fun v3 => (aNil v3).bind fun v4 => (aOff v4 0).bind fun v5 => (aLd1 h v5).bind fun v6 => (aIdx v6 (.int .i64 x1) 4).bind fun v7 => (aLdN h v7 4).bind fun v8 => aNew h 73 [.int .i64 0, .string ⟨#[]⟩, .int .i64 0, .slice none 0 0] fun p9 h10 => (aSt h10 p9 v8 4).bind fun h11 => (aNil x0).bind fun v12 => (aOff v12 4).bind fun v13 => (aLd1 h11 v13).bind fun v14 => (aLen v14).bind fun v15 => (asI .i64 v15).bind fun n16 => (aOff p9 0).bind fun v17 => (aLd1 h11 v17).bind fun v18 => (asI .i64 v18).bind fun n19 => bif n19 == 6 then s119_0 hk C N x0 x1 x2 p9 n16 x1 h11 else s119_0 hk C N x0 x1 x2 p9 n16 x2 h11 := by kernel_rfl
theorem s119_0_j (C : ACall) (N : Nat) (x0 : Value) (x1 : Int) (x2 : Int) (x6 : Value) (x7 : Int) (x8 : Int) (h : AHeap) : s119_0 hk0 C N x0 x1 x2 x6 x7 x8 h = F119_0 hk0 C N (⟨84, [(0, x0), (1, .int .i64 x1), (2, .int .i64 x2), (6, x6), (7, .int .i64 x7), (8, .int .i64 x8)]⟩) h := by delta s119_0; exact hk0_app _ _ _ _
theorem s119_0_eq (hk : Hk (Value × AHeap)) (C : ACall) (N : Nat) (x0 : Value) (x1 : Int) (x2 : Int) (x6 : Value) (x7 : Int) (x8 : Int) (h : AHeap) : F119_0 hk C N (⟨84, [(0, x0), (1, .int .i64 x1), (2, .int .i64 x2), (6, x6), (7, .int .i64 x7), (8, .int .i64 x8)]⟩) h =
    (aOff x6 3).bind fun v20 => (aLd1 h v20).bind fun v21 => (aLen v21).bind fun v22 => (asI .i64 v22).bind fun n23 => s119_1 hk C N N x0 x1 x2 x6 x7 x8 v21 n23 0 h := by kernel_rfl
theorem s119_1_eq (hk : Hk (Value × AHeap)) (C : ACall) (N : Nat) (n1 : Nat) (x0 : Value) (x1 : Int) (x2 : Int) (x6 : Value) (x7 : Int) (x8 : Int) (x32 : Value) (x33 : Int) (x34 : Int) (h : AHeap) : s119_1 hk C N (n1 + 1) x0 x1 x2 x6 x7 x8 x32 x33 x34 h =
    bif decide (x34 < x33) then (aIdx x32 (.int .i64 x34) 1).bind fun v24 => (aLd1 h v24).bind fun v25 => (asI .i64 v25).bind fun n26 => (C 119 [x0, .int .i64 n26, .int .i64 x8] h).bind fun r27 => s119_1 hk C N n1 x0 x1 x2 x6 x7 x8 x32 x33 (IntKind.i64.wrap (x34 + 1)) r27.2 else (aOff x6 0).bind fun v28 => (aLd1 h v28).bind fun v29 => (asI .i64 v29).bind fun n30 => bif n30 == 5 then s119_2 hk C N x0 x1 x2 x7 n30 (n30 == 5) h else s119_2 hk C N x0 x1 x2 x7 n30 (n30 == 15) h := by kernel_rfl
theorem s119_2_j (C : ACall) (N : Nat) (x0 : Value) (x1 : Int) (x2 : Int) (x7 : Int) (x44 : Int) (x45 : Bool) (h : AHeap) : s119_2 hk0 C N x0 x1 x2 x7 x44 x45 h = F119_2 hk0 C N (⟨84, [(0, x0), (1, .int .i64 x1), (2, .int .i64 x2), (7, .int .i64 x7), (44, .int .i64 x44), (45, .bool x45)]⟩) h := by delta s119_2; exact hk0_app _ _ _ _
theorem s119_2_eq (hk : Hk (Value × AHeap)) (C : ACall) (N : Nat) (x0 : Value) (x1 : Int) (x2 : Int) (x7 : Int) (x44 : Int) (x45 : Bool) (h : AHeap) : F119_2 hk C N (⟨84, [(0, x0), (1, .int .i64 x1), (2, .int .i64 x2), (7, .int .i64 x7), (44, .int .i64 x44), (45, .bool x45)]⟩) h =
    bif x45 then (C 163 [x0, .int .i64 x1, .int .i64 x2] h).bind fun r31 => some (.tuple (List.toArray []), r31.2) else bif x44 == 14 then s119_3 hk C N x0 x1 x2 x7 x44 (x44 == 14) h else s119_3 hk C N x0 x1 x2 x7 x44 (x44 == 22) h := by kernel_rfl
theorem s119_3_j (C : ACall) (N : Nat) (x0 : Value) (x1 : Int) (x2 : Int) (x7 : Int) (x44 : Int) (x52 : Bool) (h : AHeap) : s119_3 hk0 C N x0 x1 x2 x7 x44 x52 h = F119_3 hk0 C N (⟨84, [(0, x0), (1, .int .i64 x1), (2, .int .i64 x2), (7, .int .i64 x7), (44, .int .i64 x44), (52, .bool x52)]⟩) h := by delta s119_3; exact hk0_app _ _ _ _
theorem s119_3_eq (hk : Hk (Value × AHeap)) (C : ACall) (N : Nat) (x0 : Value) (x1 : Int) (x2 : Int) (x7 : Int) (x44 : Int) (x52 : Bool) (h : AHeap) : F119_3 hk C N (⟨84, [(0, x0), (1, .int .i64 x1), (2, .int .i64 x2), (7, .int .i64 x7), (44, .int .i64 x44), (52, .bool x52)]⟩) h =
    bif x52 then (aNil x0).bind fun v32 => (aOff v32 3).bind fun v33 => (aLd1 h v33).bind fun v34 => (aIdx v34 (.int .i64 x1) 1).bind fun v35 => (aSt h v35 (.int .i64 x2) 1).bind fun h36 => (aNil x0).bind fun v37 => (aOff v37 4).bind fun v38 => (aLd1 h36 v38).bind fun v39 => aNewS h36 3 [.int .i64 x1] 1 fun p40 h41 => (aApp h41 3 1 8 v39 p40).bind fun r42 => (aNil x0).bind fun v43 => (aOff v43 4).bind fun v44 => (aSt r42.2 v44 r42.1 1).bind fun h45 => some (.tuple (List.toArray []), h45) else bif x44 == 21 then s119_4 hk C N x0 x7 (x44 == 21) h else s119_4 hk C N x0 x7 (x44 == 6) h := by kernel_rfl
theorem s119_4_j (C : ACall) (N : Nat) (x0 : Value) (x7 : Int) (x72 : Bool) (h : AHeap) : s119_4 hk0 C N x0 x7 x72 h = F119_4 hk0 C N (⟨84, [(0, x0), (7, .int .i64 x7), (72, .bool x72)]⟩) h := by delta s119_4; exact hk0_app _ _ _ _
theorem s119_4_eq (hk : Hk (Value × AHeap)) (C : ACall) (N : Nat) (x0 : Value) (x7 : Int) (x72 : Bool) (h : AHeap) : F119_4 hk C N (⟨84, [(0, x0), (7, .int .i64 x7), (72, .bool x72)]⟩) h =
    bif x72 then (aNil x0).bind fun v46 => (aOff v46 4).bind fun v47 => (aLd1 h v47).bind fun v48 => (aSub h 3 v48 none (some (.int .i64 x7)) 1).bind fun v49 => (aNil x0).bind fun v50 => (aOff v50 4).bind fun v51 => (aSt h v51 v49 1).bind fun h52 => some (.tuple (List.toArray []), h52) else some (.tuple (List.toArray []), h) := by kernel_rfl
theorem c119 (d : Nat) (args : List Value) (h : AHeap) : call Try.prog Ms (d + 1) 119 args h = evFn hk0 Try.prog (call Try.prog Ms d) M119 d Try.f119 args h := by kernel_rfl

/-! 163 (*loop.example/g00101/impl.binder).names -/
noncomputable def F163_0 (hk : Hk (Value × AHeap)) (C : ACall) (N : Nat) (n1 : Nat) : Nx (Value × AHeap) := evSt hk Try.prog C M163 N Try.f163 [1, 1, 2, 6] [n1]
noncomputable def s163_0 (hk : Hk (Value × AHeap)) (C : ACall) (N : Nat) (n1 : Nat) (x0 : Value) (x1 : Int) (x2 : Int) (x6 : Int) (h : AHeap) := F163_0 hk C N n1 (⟨85, [(0, x0), (1, .int .i64 x1), (2, .int .i64 x2), (6, .int .i64 x6)]⟩) h
theorem e163 (hk : Hk (Value × AHeap)) (C : ACall) (N : Nat) (x0 : Value) (x1 : Int) (x2 : Int) (h : AHeap) : evFn hk Try.prog C M163 N Try.f163 [x0, .int .i64 x1, .int .i64 x2] h =
    (aNil x0).bind fun v1 => (aOff v1 1).bind fun v2 => (aLd1 h v2).bind fun v3 => (aIdx v3 (.int .i64 x1) 1).bind fun v4 => (aSt h v4 (.int .i64 (-1)) 1).bind fun h5 => (aNil x0).bind fun v6 => (aOff v6 4).bind fun v7 => (aLd1 h5 v7).bind fun v8 => (aLen v8).bind fun v9 => (asI .i64 v9).bind fun n10 => s163_0 hk C N N x0 x1 x2 (IntKind.i64.wrap (n10 - 1)) h5 := by kernel_rfl
theorem s163_0_eq (hk : Hk (Value × AHeap)) (C : ACall) (N : Nat) (n1 : Nat) (x0 : Value) (x1 : Int) (x2 : Int) (x6 : Int) (h : AHeap) : s163_0 hk C N (n1 + 1) x0 x1 x2 x6 h =
    bif decide (x6 ≥ 0) then (aNil x0).bind fun v11 => (aOff v11 4).bind fun v12 => (aLd1 h v12).bind fun v13 => (aIdx v13 (.int .i64 x6) 1).bind fun v14 => (aLd1 h v14).bind fun v15 => (asI .i64 v15).bind fun n16 => (aNil x0).bind fun v17 => (aOff v17 0).bind fun v18 => (aLd1 h v18).bind fun v19 => (aNil v19).bind fun v20 => (aOff v20 0).bind fun v21 => (aLd1 h v21).bind fun v22 => (aIdx v22 (.int .i64 n16) 4).bind fun v23 => (aOff v23 1).bind fun v24 => (aLd1 h v24).bind fun v25 => (asS v25).bind fun t26 => (aNil x0).bind fun v27 => (aOff v27 0).bind fun v28 => (aLd1 h v28).bind fun v29 => (aNil v29).bind fun v30 => (aOff v30 0).bind fun v31 => (aLd1 h v31).bind fun v32 => (aIdx v32 (.int .i64 x1) 4).bind fun v33 => (aOff v33 1).bind fun v34 => (aLd1 h v34).bind fun v35 => (asS v35).bind fun t36 => bif t26.toList == t36.toList then (aNil x0).bind fun v37 => (aOff v37 1).bind fun v38 => (aLd1 h v38).bind fun v39 => (aIdx v39 (.int .i64 x1) 1).bind fun v40 => (aSt h v40 (.int .i64 n16) 1).bind fun h41 => (aNil x0).bind fun v42 => (aOff v42 2).bind fun v43 => (aLd1 h41 v43).bind fun v44 => (aNil x0).bind fun v45 => (aOff v45 2).bind fun v46 => (aLd1 h41 v46).bind fun v47 => (aIdx v47 (.int .i64 n16) 1).bind fun v48 => (aLd1 h41 v48).bind fun v49 => (asB v49).bind fun b50 => bif b50 then (aIdx v44 (.int .i64 n16) 1).bind fun v51 => (aSt h41 v51 (.bool true) 1).bind fun h52 => some (.tuple (List.toArray []), h52) else (aNil x0).bind fun v53 => (aOff v53 3).bind fun v54 => (aLd1 h41 v54).bind fun v55 => (aIdx v55 (.int .i64 n16) 1).bind fun v56 => (aLd1 h41 v56).bind fun v57 => (asI .i64 v57).bind fun n58 => (aIdx v44 (.int .i64 n16) 1).bind fun v59 => (aSt h41 v59 (.bool (n58 != x2)) 1).bind fun h60 => some (.tuple (List.toArray []), h60) else s163_0 hk C N n1 x0 x1 x2 (IntKind.i64.wrap (x6 - 1)) h else some (.tuple (List.toArray []), h) := by kernel_rfl
theorem c163 (d : Nat) (args : List Value) (h : AHeap) : call Try.prog Ms (d + 1) 163 args h = evFn hk0 Try.prog (call Try.prog Ms d) M163 d Try.f163 args h := by kernel_rfl
end Go.Proofs.Ytadmoackacickaa
/- Slices of strings that stay; what looks for a string; marks on strings. -/
set_option linter.unusedSimpArgs false
namespace Go.Proofs.Ytadmoackacickaa
open Go Go.AH

/-- A slice of strings that can be read; its row lies below c. -/
def SSl (c : Nat) (h : AHeap) (v : Value) (xs : List BA) : Prop :=
  (v = .slice none 0 0 ∧ xs = []) ∨ ∃ i o, v = slc i 0 xs.length ∧ h.at? i = some o ∧ o.elem = 9 ∧ o.cells = strs xs ∧ i < c
section
variable {c d : Nat} {h g : AHeap} {v : Value} {xs : List BA}
theorem SSl.ext (x : SSl c h v xs) (e : Ext c h g) : SSl c g v xs := by
  rcases x with x | ⟨i, o, h1, h2, h3, h4, h5⟩
  · exact .inl x
  · exact .inr ⟨i, o, h1, e.at? h5 h2, h3, h4, h5⟩
theorem SSl.mono (x : SSl c h v xs) (hd : c ≤ d) : SSl d h v xs := by
  rcases x with x | ⟨i, o, h1, h2, h3, h4, h5⟩
  · exact .inl x
  · exact .inr ⟨i, o, h1, h2, h3, h4, by omega⟩
theorem SSl.up (x : SSl h.size h v xs) (e : Ext h.size h g) : SSl g.size g v xs := (x.ext e).mono e.size
theorem SSl.src (x : SSl c h v xs) : SSrc h v xs := by
  rcases x with ⟨rfl, rfl⟩ | ⟨i, o, rfl, h2, h3, h4, _⟩
  · exact SSrc.nil h
  · exact SSrc.of ⟨o, h2, h3, h4⟩
theorem SSl.s2 (x : SSl c h v xs) : isS2 v = true := by
  rcases x with ⟨rfl, _⟩ | ⟨i, o, rfl, _⟩ <;> rfl
theorem SOwn.ssl {b : Nat} (x : SOwn b h v xs) : SSl h.size h v xs := by
  obtain ⟨i, e, r, ep, a, _⟩ := x
  exact .inr ⟨i, _, e, a, rfl, rfl, (at?_obj a).2.1⟩
end
theorem SSrc.ld {h : AHeap} {v : Value} {xs : List BA} (x : SSrc h v xs) {j : Nat} (hj : j < xs.length) : aLd1 h (ixP v j) = some (.string xs[j]) := (x.at' j hj).2 h (SF.refl _)
def hasB (xs : List BA) (t : BA) : Bool := xs.any fun u => u.toList == t.toList
theorem has_loop {C : ACall} {N : Nat} {v : Value} {xs : List BA} {t : BA} {h : AHeap} (s : SSrc h v xs) (hl : xs.length ≤ 1000000) : ∀ (k j m : Nat), xs.length - j = k → j ≤ xs.length → k < m →
    s118_0 hk0 C N m v t (j : Int) h = some (.bool (hasB (xs.drop j) t), h) := by
  intro k
  induction k with
  | zero =>
    intro j m hk hj hm
    obtain ⟨m, rfl⟩ : ∃ q, m = q + 1 := ⟨m - 1, by omega⟩
    have : ¬ ((j : Int) < (xs.length : Int)) := by omega
    rw [s118_0_eq, List.drop_eq_nil_of_le (by omega)]
    exact eb s.len (eb rfl (ecf (decide_eq_false this) rfl))
  | succ k ih =>
    intro j m hk hj hm
    obtain ⟨m, rfl⟩ : ∃ q, m = q + 1 := ⟨m - 1, by omega⟩
    have hI : ((j : Int) < (xs.length : Int)) := by omega
    have hjl : j < xs.length := by omega
    have wj : IntKind.i64.wrap ((j : Int) + 1) = ((j + 1 : Nat) : Int) := by rw [wr (by omega) (by omega)]; omega
    have z := ih (j + 1) m (by omega) (by omega) (by omega)
    rw [s118_0_eq, List.drop_eq_getElem_cons hjl]
    refine eb s.len (eb rfl (ect (decide_eq_true hI) (eb (s.at' j hjl).1 (eb (s.ld hjl) (eb rfl ?_)))))
    unfold hasB at z ⊢
    rw [List.any_cons]
    cases e : (xs[j].toList == t.toList) with
    | true => rw [cond_true, Bool.true_or]
    | false => rw [cond_false, Bool.false_or, wj]; exact z
theorem l118 {d : Nat} {v : Value} {xs : List BA} {t : BA} {h : AHeap} (hd : 1048577 < d) (s : SSrc h v xs) (hl : xs.length ≤ 1000000) : call Try.prog Ms (d + 1) 118 [v, .string t] h = some (.bool (hasB xs t), h) := by
  rw [c118, e118]
  exact has_loop s hl xs.length 0 d (by omega) (by omega) (by omega)
def ixB (t : BA) (xs : List BA) : Option Nat := xs.findIdx? fun u => t.toList == u.toList
theorem ixB_loop {C : ACall} {N : Nat} {v : Value} {xs : List BA} {t : BA} {h : AHeap} (s : SSrc h v xs) (hl : xs.length ≤ 1000000) : ∀ (k j m : Nat), xs.length - j = k → j ≤ xs.length → k < m →
    s120_0 hk0 C N m v t (xs.length : Int) (j : Int) h = some (.int .i64 (match ixB t (xs.drop j) with | some q => ((j + q : Nat) : Int) | none => -1), h) := by
  intro k
  induction k with
  | zero =>
    intro j m hk hj hm
    obtain ⟨m, rfl⟩ : ∃ q, m = q + 1 := ⟨m - 1, by omega⟩
    have : ¬ ((j : Int) < (xs.length : Int)) := by omega
    rw [s120_0_eq, List.drop_eq_nil_of_le (by omega)]
    exact ecf (decide_eq_false this) rfl
  | succ k ih =>
    intro j m hk hj hm
    obtain ⟨m, rfl⟩ : ∃ q, m = q + 1 := ⟨m - 1, by omega⟩
    have hI : ((j : Int) < (xs.length : Int)) := by omega
    have hjl : j < xs.length := by omega
    have wj : IntKind.i64.wrap ((j : Int) + 1) = ((j + 1 : Nat) : Int) := by rw [wr (by omega) (by omega)]; omega
    have z := ih (j + 1) m (by omega) (by omega) (by omega)
    rw [s120_0_eq, List.drop_eq_getElem_cons hjl]
    refine ect (decide_eq_true hI) (eb (s.at' j hjl).1 (eb (s.ld hjl) (eb rfl ?_)))
    unfold ixB at z ⊢
    rw [List.findIdx?_cons]
    cases e : (t.toList == xs[j].toList) with
    | true => rw [cond_true]; simp
    | false =>
      rw [cond_false, wj, z]
      simp only [Bool.false_eq_true, if_false]
      cases List.findIdx? (fun u => t.toList == u.toList) (xs.drop (j + 1)) with
      | none => rfl
      | some q => simp; omega
theorem l120s {d : Nat} {v : Value} {xs : List BA} {t : BA} {h : AHeap} (hd : 1048577 < d) (s : SSrc h v xs) (hl : xs.length ≤ 1000000) : call Try.prog Ms (d + 1) 120 [v, .string t] h = some (.int .i64 (match ixB t xs with | some q => ((q : Nat) : Int) | none => -1), h) := by
  rw [c120, e120]
  refine eb s.len (eb rfl ?_)
  have := ixB_loop (C := call Try.prog Ms d) (N := d) s hl (t := t) xs.length 0 d (by omega) (by omega) (by omega)
  simpa using this
theorem ixB_has (t : BA) (xs : List BA) : (ixB t xs).isSome = hasB xs t := by
  unfold ixB hasB
  rw [List.findIdx?_isSome]
  congr 1; funext u
  exact Bool.beq_comm
theorem l75 {d : Nat} {v : Value} {xs : List BA} {t : BA} {h : AHeap} (hd : 1048577 < d) (s : SSrc h v xs) (hl : xs.length ≤ 1000000) : call Try.prog Ms (d + 2) 75 [v, .string t] h = some (.bool (hasB xs t), h) := by
  rw [c75, e75]
  refine eb (l120s hd s hl) (eb rfl ?_)
  rw [← ixB_has]
  cases ixB t xs with
  | none => rfl
  | some q => simp
/-! ### alike -/
theorem eqS_loop {C : ACall} {N : Nat} {v v' : Value} {xs : List BA} {h : AHeap} (hl : xs.length ≤ 1000000) (s : SSrc h v xs) (s' : SSrc h v' xs) : ∀ (k j m : Nat), xs.length - j = k → j ≤ xs.length → k < m → s39_0 hk0 C N m v v' (j : Int) h = some (.bool true, h) := by
  intro k
  induction k with
  | zero =>
    intro j m hk hj hm
    obtain ⟨m, rfl⟩ : ∃ q, m = q + 1 := ⟨m - 1, by omega⟩
    have : ¬ ((j : Int) < (xs.length : Int)) := by omega
    rw [s39_0_eq]
    exact eb s.len (eb rfl (ecf (decide_eq_false this) rfl))
  | succ k ih =>
    intro j m hk hj hm
    obtain ⟨m, rfl⟩ : ∃ q, m = q + 1 := ⟨m - 1, by omega⟩
    have hI : ((j : Int) < (xs.length : Int)) := by omega
    have hjl : j < xs.length := by omega
    have wj : IntKind.i64.wrap ((j : Int) + 1) = ((j + 1 : Nat) : Int) := by rw [wr (by omega) (by omega)]; omega
    have z := ih (j + 1) m (by omega) (by omega) (by omega)
    rw [← wj] at z
    rw [s39_0_eq]
    exact eb s.len (eb rfl (ect (decide_eq_true hI) (eb (s.at' j hjl).1 (eb (s.ld hjl) (eb rfl (eb (s'.at' j hjl).1 (eb (s'.ld hjl) (eb rfl (ecf (by simp) z)))))))))
theorem l39 {d : Nat} (hd : 1048577 < d) {v v' : Value} {xs : List BA} {h : AHeap} (hl : xs.length ≤ 1000000) (s : SSrc h v xs) (s' : SSrc h v' xs) : call Try.prog Ms (d + 1) 39 [v, v'] h = some (.bool true, h) := by
  rw [c39, e39]
  exact eb s.len (eb rfl (eb s'.len (eb rfl (ecf (by simp) (eqS_loop hl s s' xs.length 0 d (by omega) (by omega) (by omega))))))
/-! ### marks -/
def mkS (k : Int) (n : Nat) : List BA := (List.range n).map fun i : Nat => markT (k + (i : Int))
/-- Rows of strings of one family turn, all else stays. -/
def Ks (e : TypeId) (root : Nat) (h h' : AHeap) : Prop := ∀ j o, h.at? j = some o → (o.elem ≠ e ∨ o.root ≠ root) → h'.at? j = some o
theorem Ks.refl (e : TypeId) (root : Nat) (h : AHeap) : Ks e root h h := fun _ _ h _ => h
theorem Ks.trans {e : TypeId} {root : Nat} {h h' h'' : AHeap} (x : Ks e root h h') (y : Ks e root h' h'') : Ks e root h h'' := fun j o a b => y j o (x j o a b) b
theorem Ks.ext {e : TypeId} {root : Nat} {h h' : AHeap} (x : Ext h.size h h') : Ks e root h h' := fun j o a _ => x.at? (at?_obj a).2.1 a
/-- A cell of a row of one's own is written. -/
theorem stOwn {b : Nat} {h : AHeap} {r rt j : Nat} {e : TypeId} {cs : List Value} {v : Value} (o : OwnR h r rt e cs) (hb : b ≤ rt) (hj : j < cs.length) (hv : isCell v = true) :
    ∃ h', aSt h (ptr r j) v 1 = some h' ∧ Ext b h h' ∧ Ks e rt h h' ∧ OwnR h' r rt e (cs.set j v) ∧ h'.size = h.size := by
  obtain ⟨ep, ha⟩ := o
  have hsp : splice cs j [v] = cs.set j v := by
    unfold splice
    rw [List.set_eq_take_append_cons_drop, if_pos hj]; simp
  refine ⟨h.put r ⟨rt, ep, false, e, cs⟩ (cs.set j v), ?_, Ext.put (Nat.le_trans hb (at?_obj ha).2.2.1) hb _, fun k o hk hf => ?_, ⟨_, at?_put_same ha _⟩, rfl⟩
  · have : j + 1 ≤ cs.length := hj
    simp [aSt, ptr, ha, aCells_one hv, this, hsp]
  · refine at?_put_other hk (fun e' => ?_) _ (fun x => hf.elim (fun f => f x.1) fun f => f x.2)
    subst e'; rw [ha] at hk; cases hk
    exact hf.elim (fun f => f rfl) fun f => f rfl
theorem markS_loop {d N b r rt L : Nat} {k0 : Int} (hd : 3000 < d) (hb : b ≤ rt) (hL : L ≤ 1000000) (h0 : 0 ≤ k0) (h1 : k0 ≤ 1000000000) : ∀ (k j m : Nat) (ys : List BA) (h : AHeap), L - j = k → j ≤ L → k < m → ys.length = L → OwnR h r rt 9 (strs ys) → b ≤ h.size → ys.take j = mkS k0 j →
    ∃ h', s40_0 hk0 (call Try.prog Ms (d + 1)) N m (slc r 0 L) (k0 + j) (j : Int) h = some (.int .i64 (k0 + L), h') ∧ Ext b h h' ∧ Ks 9 rt h h' ∧ OwnR h' r rt 9 (strs (mkS k0 L)) := by
  intro k
  induction k with
  | zero =>
    intro j m ys h hk hj hm hy o hbs hlo
    obtain ⟨m, rfl⟩ : ∃ q, m = q + 1 := ⟨m - 1, by omega⟩
    obtain rfl : j = L := by omega
    have : ¬ ((j : Int) < (j : Int)) := by omega
    have hyy : ys = mkS k0 j := by rw [← hlo, ← hy, List.take_length]
    refine ⟨h, ?_, Ext.refl _ _, Ks.refl _ _ _, hyy ▸ o⟩
    rw [s40_0_eq]
    exact eb rfl (eb rfl (ecf (decide_eq_false this) rfl))
  | succ k ih =>
    intro j m ys h hk hj hm hy o hbs hlo
    obtain ⟨m, rfl⟩ : ∃ q, m = q + 1 := ⟨m - 1, by omega⟩
    have hI : ((j : Int) < (L : Int)) := by omega
    have hjl : j < ys.length := by omega
    have hix : aIdx (slc r 0 L) (.int .i64 (j : Int)) 1 = some (ptr r j) := by simp [aIdx, slc]; omega
    have wj : IntKind.i64.wrap ((j : Int) + 1) = ((j + 1 : Nat) : Int) := by rw [wr (by omega) (by omega)]; omega
    have wk : IntKind.i64.wrap (k0 + (j : Int) + 1) = k0 + ((j + 1 : Nat) : Int) := by rw [wr (by omega) (by omega)]; omega
    obtain ⟨h2, c2, x2⟩ := l55 hd (x := k0 + j) (Int.lt_of_le_of_lt (b := 100000000000) (by omega) (by decide)) h
    obtain ⟨ep, ha⟩ := o
    have o2 : OwnR h2 r rt 9 (strs ys) := ⟨ep, x2.at? (at?_obj ha).2.1 ha⟩
    obtain ⟨h3, c3, x3, k3, o3, s3⟩ := stOwn o2 hb (j := j) (v := .string (markT (k0 + j))) (by simp [strs]; omega) rfl
    have e3 : (strs ys).set j (.string (markT (k0 + j))) = strs (ys.set j (markT (k0 + j))) := by simp [strs, List.map_set]
    rw [e3] at o3
    have hsz := x2.size
    obtain ⟨h4, c4, x4, k4, o4⟩ := ih (j + 1) m (ys.set j (markT (k0 + j))) h3 (by omega) (by omega) (by omega) (by simp [hy]) o3 (by omega) (by
      have : mkS k0 (j + 1) = mkS k0 j ++ [markT (k0 + j)] := by simp [mkS, List.range_succ]
      rw [this, ← hlo, List.take_set]
      rw [List.take_add_one, List.getElem?_eq_getElem hjl, Option.toList_some]
      rw [List.set_append_right _ _ (by simp; omega)]
      simp [show j - min j ys.length = 0 by omega])
    refine ⟨h4, ?_, (x2.mono hbs).trans (x3.trans x4), ((Ks.ext x2).trans k3).trans k4, o4⟩
    rw [s40_0_eq]
    refine eb rfl (eb rfl (ect (decide_eq_true hI) (eb c2 (eb rfl (eb hix (eb c3 ?_))))))
    rw [wj, wk]; exact c4
theorem l40 {d b r rt : Nat} (hd : 1048577 < d) {ys : List BA} {k0 : Int} {h : AHeap} (hb : b ≤ rt) (hbs : b ≤ h.size) (hL : ys.length ≤ 1000000) (h0 : 0 ≤ k0) (h1 : k0 ≤ 1000000000) (o : OwnR h r rt 9 (strs ys)) :
    ∃ h', call Try.prog Ms (d + 2) 40 [slc r 0 ys.length, .int .i64 k0] h = some (.int .i64 (k0 + ys.length), h') ∧ Ext b h h' ∧ Ks 9 rt h h' ∧ OwnR h' r rt 9 (strs (mkS k0 ys.length)) := by
  obtain ⟨h', c, x⟩ := markS_loop (d := d) (N := d + 1) (by omega) hb hL h0 h1 ys.length 0 (d + 1) ys h (by omega) (by omega) (by omega) rfl o hbs (by simp [mkS])
  refine ⟨h', ?_, x⟩
  rw [c40, e40]
  have c' : s40_0 hk0 (call Try.prog Ms (d + 1)) (d + 1) (d + 1) (slc r 0 ys.length) (k0 + 0) 0 h = _ := c
  rw [Int.add_zero] at c'
  exact c'
theorem heldS_loop {d N : Nat} {v : Value} {L : Nat} {k0 : Int} (hd : 3000 < d) (hL : L ≤ 1000000) (h0 : 0 ≤ k0) (h1 : k0 ≤ 1000000000) : ∀ (k j m : Nat) (h : AHeap), SSl h.size h v (mkS k0 L) → L - j = k → j ≤ L → k < m →
    ∃ h', s41_0 hk0 (call Try.prog Ms (d + 1)) N m v (k0 + j) (j : Int) h = some (.int .i64 (k0 + L), h') ∧ Ext h.size h h' := by
  have hlen : (mkS k0 L).length = L := by simp [mkS]
  intro k
  induction k with
  | zero =>
    intro j m h s hk hj hm
    obtain ⟨m, rfl⟩ : ∃ q, m = q + 1 := ⟨m - 1, by omega⟩
    obtain rfl : j = L := by omega
    have : ¬ ((j : Int) < ((mkS k0 j).length : Int)) := by omega
    refine ⟨h, ?_, Ext.refl _ _⟩
    rw [s41_0_eq]
    exact eb s.src.len (eb rfl (ecf (decide_eq_false this) rfl))
  | succ k ih =>
    intro j m h s hk hj hm
    obtain ⟨m, rfl⟩ : ∃ q, m = q + 1 := ⟨m - 1, by omega⟩
    have hI : ((j : Int) < ((mkS k0 L).length : Int)) := by omega
    have hjl : j < (mkS k0 L).length := by omega
    have wj : IntKind.i64.wrap ((j : Int) + 1) = ((j + 1 : Nat) : Int) := by rw [wr (by omega) (by omega)]; omega
    have wk : IntKind.i64.wrap (k0 + (j : Int) + 1) = k0 + ((j + 1 : Nat) : Int) := by rw [wr (by omega) (by omega)]; omega
    have hel : (mkS k0 L)[j] = markT (k0 + j) := by simp [mkS]
    obtain ⟨h2, c2, x2⟩ := l55 hd (x := k0 + j) (Int.lt_of_le_of_lt (b := 100000000000) (by omega) (by decide)) h
    have s2 := s.up x2
    obtain ⟨h3, c3, x3⟩ := ih (j + 1) m h2 s2 (by omega) (by omega) (by omega)
    refine ⟨h3, ?_, Ext.tr x2 x3⟩
    have ld := s.src.ld hjl
    have ld2 := s2.src.ld hjl
    rw [hel] at ld ld2
    rw [s41_0_eq]
    refine eb s.src.len (eb rfl (ect (decide_eq_true hI) (eb (s.src.at' j hjl).1 (eb ld (eb rfl (eb c2 (eb rfl (eb (ag2s ld2) (ect (vbeq_str _) (ecf (by simp) ?_))))))))))
    rw [wj, wk]; exact c3
theorem l41 {d : Nat} (hd : 1048577 < d) {v : Value} {L : Nat} {k0 : Int} {h : AHeap} (hL : L ≤ 1000000) (h0 : 0 ≤ k0) (h1 : k0 ≤ 1000000000) (s : SSl h.size h v (mkS k0 L)) :
    ∃ h', call Try.prog Ms (d + 2) 41 [v, .int .i64 k0] h = some (.int .i64 (k0 + L), h') ∧ Ext h.size h h' := by
  obtain ⟨h', c, x⟩ := heldS_loop (d := d) (N := d + 1) (by omega) hL h0 h1 L 0 (d + 1) h s (by omega) (by omega) (by omega)
  refine ⟨h', ?_, x⟩
  rw [c41, e41]
  have c' : s41_0 hk0 (call Try.prog Ms (d + 1)) (d + 1) (d + 1) v (k0 + 0) 0 h = _ := c
  rw [Int.add_zero] at c'
  exact c'
end Go.Proofs.Ytadmoackacickaa
/- Right trees; nodes in the heap. -/
set_option linter.unusedSimpArgs false
namespace Go.Proofs.Ytadmoackacickaa
open Go Go.AH

theorem knotAt {g : AHeap} {nv : Value} {T : List Kn} {i : Nat} {n : Kn} (ks : KSe g.size g nv T) (hi : T[i]? = some n) : ∃ q kv, aIdx nv (.int .i64 (i : Int)) 4 = some q ∧ aLdN g q 4 = some (knVal n kv) ∧ ISl g.size g kv n.ks := by
  obtain ⟨hlt, rfl⟩ := List.getElem?_eq_some_iff.1 hi
  obtain ⟨q, kv, a, b, c⟩ := ks.ksl.at hlt
  exact ⟨_, kv, a, (c g (Ext.refl _ _)).1, b⟩
structure Right (T : List Kn) (top : Int) : Prop where
  len : T.length ≤ 3000
  pos : 0 < T.length
  top : top = (T.length : Int) - 1
  good : ∀ (j : Nat) (n : Kn), T[j]? = some n → Good T j n
  num : numP T (T.length + 1) ((T.length : Int) - 1) 0 = (T.length : Int)
  blk : kd T ((T.length : Int) - 1) = 21
theorem right_of {T : List Kn} {top : Int} (h : specOk T top = true) : Right T top := by
  have h2 : implOk T top = true := by rw [← ok_same]; exact h
  unfold implOk at h2
  by_cases hc : T.length > 3000 ∨ T.length = 0 ∨ top ≠ (T.length : Int) - 1 ∨ kd T ((T.length : Int) - 1) ≠ 21
  · rw [if_pos hc] at h2; cases h2
  · rw [if_neg hc, Bool.and_eq_true] at h2
    have c1 : ¬ T.length > 3000 := fun e => hc (.inl e)
    have c2 : ¬ T.length = 0 := fun e => hc (.inr (.inl e))
    have c3 : top = (T.length : Int) - 1 := Classical.byContradiction fun e => hc (.inr (.inr (.inl e)))
    have c4 : kd T ((T.length : Int) - 1) = 21 := Classical.byContradiction fun e => hc (.inr (.inr (.inr e)))
    refine ⟨by omega, by omega, c3, fun j n hn => ?_, by simpa using h2.2, c4⟩
    have hj : j < T.length := (List.getElem?_eq_some_iff.1 hn).1
    have := (okFrom_all _ _).1 h2.1 j (by omega) (by omega)
    unfold nodeOkI at this
    rw [hn] at this
    exact good_iff.1 this
theorem kids_lo {T : List Kn} {top : Int} (R : Right T top) : ∀ (j : Nat) (n : Kn), T[j]? = some n → ∀ k ∈ n.ks, 0 ≤ k ∧ k < j := fun j n hn => (R.good j n hn).rng
theorem KSg.ext {e : TypeId} {c : Nat} {h g : AHeap} {v : Value} {ns : List Kn} (x : KSg e c h v ns) (k : Ext c h g) : KSg e c g v ns := by
  rcases x with x | x | ⟨i, o, a1, a2, a6, a3, a4, a5⟩
  · exact .inl x
  · exact .inr (.inl x)
  · exact .inr (.inr ⟨i, o, a1, k.at? a3 a2, a6, a3, a4, fun j n hn => let ⟨kv, a, b⟩ := a5 j n hn; ⟨kv, a, b.ext k⟩⟩)
theorem RowE.ext' {h g : AHeap} {i : Nat} {e : TypeId} {cs : List Value} (x : RowE h i e cs) (k : Ext h.size h g) : RowE g i e cs := let ⟨o, a, b, c⟩ := x; ⟨o, k.at? (at?_obj a).2.1 a, b, c⟩
end Go.Proofs.Ytadmoackacickaa
/- The reference's free names. -/
set_option linter.unusedSimpArgs false
namespace Go.Proofs.Ytadmoackacickaa
open Go Go.AH

def frEnd (n : Kn) (had nm out : List BA) : List BA × List BA :=
  if n.k = 5 ∨ n.k = 15 then (nm, if hasB nm n.t = false ∧ hasB out n.t = false then out ++ [n.t] else out)
  else if n.k = 14 ∨ n.k = 22 then (nm ++ [n.t], out)
  else if n.k = 21 ∨ n.k = 6 then (had, out) else (nm, out)
def frK (F : Int → List BA → List BA → List BA × List BA) : List Int → List BA × List BA → List BA × List BA
  | [], a => a
  | k :: ks, a => frK F ks (F k a.1 a.2)
/-- What is seen and what is free behind a node. -/
def frP (T : List Kn) : Nat → Int → List BA → List BA → List BA × List BA
  | 0, _, nm, out => (nm, out)
  | f + 1, i, nm, out => match T[i.toNat]? with
    | some n => let r := frK (frP T f) n.ks (nm, out); frEnd n nm r.1 r.2
    | none => (nm, out)
def FrOk (nv : Value) (top : Int) (T : List Kn) (F : Int → List BA → List BA → List BA × List BA) (e : Nat) (k fr : Int) : Prop :=
  ∀ (h : AHeap) (a b : Value) (nm out : List BA), KSe h.size h nv T → SSl h.size h a nm → SSl h.size h b out → (nm.length : Int) ≤ fr → (out.length : Int) ≤ fr →
    ∃ v1 v2 g, call Try.prog Ms e 73 [trVal nv top, .int .i64 k, a, b] h = some (.tuple (List.toArray [v1, v2]), g) ∧ Ext h.size h g ∧ SSl g.size g v1 (F k nm out).1 ∧ SSl g.size g v2 (F k nm out).2 ∧
      ((F k nm out).1.length : Int) ≤ k + 1 ∧ ((F k nm out).2.length : Int) ≤ k + 1
/-- An answer of two. -/
def FR (h : AHeap) (r : List BA × List BA) (q : Int) (o : Option (Value × AHeap)) : Prop :=
  ∃ v1 v2 g, o = some (.tuple (List.toArray [v1, v2]), g) ∧ Ext h.size h g ∧ SSl g.size g v1 r.1 ∧ SSl g.size g v2 r.2 ∧ (r.1.length : Int) ≤ q ∧ (r.2.length : Int) ≤ q
theorem FR.of {h g : AHeap} {r : List BA × List BA} {q : Int} {a b : Value} (E : Ext h.size h g) (x : SSl g.size g a r.1) (y : SSl g.size g b r.2) (h1 : (r.1.length : Int) ≤ q) (h2 : (r.2.length : Int) ≤ q) :
    FR h r q (bif List.all [a, b] isS2 then some (.tuple (List.toArray [a, b]), g) else none) := by
  have : List.all [a, b] isS2 = true := by simp [x.s2, y.s2]
  rw [this]
  exact ⟨a, b, g, rfl, E, x, y, h1, h2⟩
theorem FR.b {h : AHeap} {r : List BA × List BA} {q : Int} {α : Type} {o : Option α} {k : α → Option (Value × AHeap)} {v : α} (e : o = some v) (hk : FR h r q (k v)) : FR h r q (o.bind k) := by rw [e]; exact hk
theorem FR.cf {h : AHeap} {r : List BA × List BA} {q : Int} {c : Bool} {a b : Option (Value × AHeap)} (e : c = false) (hk : FR h r q b) : FR h r q (bif c then a else b) := by rw [e]; exact hk
theorem FR.ct {h : AHeap} {r : List BA × List BA} {q : Int} {c : Bool} {a b : Option (Value × AHeap)} (e : c = true) (hk : FR h r q a) : FR h r q (bif c then a else b) := by rw [e]; exact hk
theorem FR.c {h : AHeap} {r : List BA × List BA} {q : Int} {o : Option (Value × AHeap)} {k : Value × AHeap → Option (Value × AHeap)} {g0 : AHeap} {r1 : List BA × List BA} {q1 : Int} (ho : FR g0 r1 q1 o)
    (hk : ∀ a b g, Ext g0.size g0 g → SSl g.size g a r1.1 → SSl g.size g b r1.2 → (r1.1.length : Int) ≤ q1 → (r1.2.length : Int) ≤ q1 → FR h r q (k (.tuple (List.toArray [a, b]), g))) : FR h r q (o.bind k) := by
  obtain ⟨a, b, g, rfl, x⟩ := ho
  exact hk a b g x.1 x.2.1 x.2.2.1 x.2.2.2.1 x.2.2.2.2
theorem fr_had (n : Kn) (had nm out : List BA) : n.k ≠ 5 → n.k ≠ 15 → n.k ≠ 14 → n.k ≠ 22 → frEnd n had nm out = if n.k = 21 ∨ n.k = 6 then (had, out) else (nm, out) := by
  intro a b c d
  unfold frEnd
  rw [if_neg (by simp [a, b]), if_neg (by simp [c, d])]
/-- A name behind a list, in memory of its own. -/
theorem fr_add {g : AHeap} {x : Value} {xs : List BA} {t : BA} (s : SSl g.size g x xs) (hl : xs.length ≤ 1000000) {C : Option (Value × AHeap) → Prop} {v : Value}
    (hv : ∀ g', LF g g' → aLd1 g' v = some (.string t)) (k : Value × AHeap → Option (Value × AHeap)) (hC : ∀ w g', Ext g.size g g' → SOwn g.size g' w (xs ++ [t]) → C (k (w, g'))) :
    C (aNewS g 9 [] 0 fun p h38 => (some v).bind fun v39 => (aLd1 h38 v39).bind fun v40 => (asS v40).bind fun t41 => aNewS h38 9 [.string t41] 1 fun p42 h43 => (aApp h43 9 1 16 p x).bind fun r44 => ((aLd1 r44.2 v39).bind fun v45 => (asS v45).bind fun t46 => some (vbeq (.string t46) (.string t41))).bind fun b47 => bif b47 then (aApp r44.2 9 1 16 r44.1 p42).bind k else none) := by
  show C ((some v).bind fun v39 => (aLd1 (g.new 9 []) v39).bind _)
  have e1 := Ext.new (Nat.le_refl g.size) 9 ([] : List Value)
  have o1 := OwnR.new g 9 ([] : List Value)
  have s1 : (g.new 9 ([] : List Value)).size = g.size + 1 := rfl
  generalize g.new 9 [] = g1 at e1 o1 s1 ⊢
  rw [Option.bind_some, hv g1 (SF.ext e1).lf, Option.bind_some]
  show C ((aApp (g1.new 9 [.string t]) 9 1 16 (slc g.size 0 0) x).bind fun r44 => ((aLd1 r44.2 v).bind fun v45 => (asS v45).bind fun t46 => some (vbeq (.string t46) (.string t))).bind fun b47 => bif b47 then (aApp r44.2 9 1 16 r44.1 (slc g1.size 0 1)).bind k else none)
  have e2 := Ext.new (Nat.le_refl g1.size) 9 [Value.string t]
  have o2 := OwnR.new g1 9 [Value.string t]
  have s2 : (g1.new 9 [Value.string t]).size = g1.size + 1 := rfl
  generalize g1.new 9 [.string t] = g2 at e2 o2 s2 ⊢
  have E2 := Ext.tr e1 e2
  have o12 : OwnR g2 g.size g.size 9 [] := by obtain ⟨ep, a⟩ := o1; exact ⟨ep, e2.at? (at?_obj a).2.1 a⟩
  have src : aSrc g2 1 x = some (xs.length, strs xs) := by simpa [strs] using (s.up E2).src.src g2 (SF.refl _)
  obtain ⟨g3, c3, e3, o3, s3, k3⟩ := o12.app (b := g.size) (n := 0) (esz := 1) (bytes := 16) (Nat.le_refl _) (by omega) src rfl (by unfold most; omega) (by unfold most; omega)
  have E3 : Ext g.size g g3 := E2.trans e3
  rw [c3, Option.bind_some]
  have hld := hv g3 (((SF.ext E2).lf).trans ⟨by omega, fun j o hj _ h9 _ => k3 j o hj (.inl h9)⟩)
  show C (((aLd1 g3 v).bind fun v45 => (asS v45).bind fun t46 => some (vbeq (.string t46) (.string t))).bind fun b47 => bif b47 then (aApp g3 9 1 16 (slc g2.size 0 (0 + xs.length)) (slc g1.size 0 1)).bind k else none)
  rw [ag2s hld, Option.bind_some, vbeq_str, cond_true]
  have r23 : RowE g3 g1.size 9 (strs [t]) := by obtain ⟨ep, a⟩ := o2; exact ⟨_, k3 _ _ a (.inr (by show g1.size ≠ g.size; omega)), rfl, rfl⟩
  obtain ⟨w2, g4, c4, e4, o4, _⟩ := SOwn.app (b := g.size) (xs := xs) (ys := [t]) (v := slc g2.size 0 (0 + xs.length)) ⟨g2.size, by rw [Nat.zero_add], Own.mono (o3.own (Nat.le_refl _)) (Nat.le_refl _)⟩ (by omega) (SSrc.of r23) (by simp; omega)
  have c4' : aApp g3 9 1 16 (slc g2.size 0 (0 + xs.length)) (slc g1.size 0 1) = some (w2, g4) := c4
  rw [c4', Option.bind_some]
  exact hC w2 g4 (E3.trans e4) o4
theorem frEnd_len (n : Kn) (had nm out : List BA) (B : Int) (h0 : (had.length : Int) ≤ B) (h1 : (nm.length : Int) ≤ B) (h2 : (out.length : Int) ≤ B) : ((frEnd n had nm out).1.length : Int) ≤ B + 1 ∧ ((frEnd n had nm out).2.length : Int) ≤ B + 1 := by
  unfold frEnd
  (repeat' split) <;> simp only [List.length_append, List.length_cons, List.length_nil] <;> omega
theorem orB {R : Type} (x a b : Int) (f : Bool → R) : (bif x == a then f (x == a) else f (x == b)) = f (decide (x = a ∨ x = b)) := by
  by_cases h : x = a
  · have : (x == a) = true := by simp [h]
    rw [this, cond_true]; congr 1; simp [h]
  · have : (x == a) = false := by simp [h]
    rw [this, cond_false]; congr 1
    by_cases h' : x = b
    · rw [decide_eq_true (.inr h')]; simp [h']
    · rw [decide_eq_false (fun e => e.elim h h')]; simp [h']
theorem fr_end {e N : Nat} (he : 1048577 < e) {g g0 : AHeap} {p2 p5 : Nat} {nv : Value} {top : Int} {T : List Kn} {n : Kn} {kv a b c : Value} {had nm out : List BA} {B : Int} (E : Ext g0.size g0 g) (y : Env g p2 p5 nv top T n kv)
    (sa : SSl g.size g a nm) (sb : SSl g.size g b out) (sc : SSl g.size g c had) (hB : B ≤ 100000) (h0 : (had.length : Int) ≤ B) (h1 : (nm.length : Int) ≤ B) (h2 : (out.length : Int) ≤ B) :
    FR g0 (frEnd n had nm out) (B + 1) (bif n.k == 5 then s73_1 hk0 (call Try.prog Ms (e + 1)) N a b (ptr p5 0) c n.k (n.k == 5) g else s73_1 hk0 (call Try.prog Ms (e + 1)) N a b (ptr p5 0) c n.k (n.k == 15) g) := by
  have hlen := frEnd_len n had nm out B h0 h1 h2
  have hf : ∀ g', LF g g' → aLd1 g' (ptr p5 1) = some (.string n.t) := fun g' l => (y.lf l).f1
  have E1 : ∀ f : Bool → Option (Value × AHeap), (bif n.k == 5 then f (n.k == 5) else f (n.k == 15)) = f (decide (n.k = 5 ∨ n.k = 15)) := fun f => orB _ _ _ f
  rw [E1 (fun t => s73_1 hk0 (call Try.prog Ms (e + 1)) N a b (ptr p5 0) c n.k t g), s73_1_j, s73_1_eq]
  by_cases k1 : n.k = 5 ∨ n.k = 15
  · have fe : frEnd n had nm out = (nm, if hasB nm n.t = false ∧ hasB out n.t = false then out ++ [n.t] else out) := by unfold frEnd; rw [if_pos k1]
    rw [fe] at hlen ⊢
    refine FR.ct (decide_eq_true k1) (FR.b rfl (FR.b y.f1 (FR.b rfl (FR.b (l118 he sa.src (by omega)) (FR.b rfl ?_)))))
    have plain : ∀ r : List BA × List BA, r = (nm, out) → FR g0 r (B + 1) (s73_2 hk0 (call Try.prog Ms (e + 1)) N a b (ptr p5 0) false g) := by
      rintro _ rfl
      rw [s73_2_j, s73_2_eq]
      exact FR.cf rfl (FR.of E sa sb (by show (nm.length : Int) ≤ _; omega) (by show (out.length : Int) ≤ _; omega))
    cases q1 : hasB nm n.t with
    | true =>
      rw [q1] at hlen
      refine FR.cf rfl (plain _ ?_)
      simp
    | false =>
      rw [q1] at hlen
      refine FR.ct rfl (FR.b rfl (FR.b y.f1 (FR.b rfl (FR.b (l118 he sb.src (by omega)) (FR.b rfl ?_)))))
      cases q2 : hasB out n.t with
      | true => exact plain _ (by simp)
      | false =>
        rw [q2] at hlen
        simp only [and_self, if_true] at hlen ⊢
        rw [s73_2_j, s73_2_eq]
        refine FR.ct rfl ?_
        refine fr_add (C := FR g0 (nm, out ++ [n.t]) (B + 1)) sb (by omega) hf _ fun w g' x o => ?_
        exact FR.of (Ext.tr E x) (sa.up x) o.ssl hlen.1 hlen.2
  · refine FR.cf (decide_eq_false k1) ?_
    have E2 : ∀ f : Bool → Option (Value × AHeap), (bif n.k == 14 then f (n.k == 14) else f (n.k == 22)) = f (decide (n.k = 14 ∨ n.k = 22)) := fun f => orB _ _ _ f
    rw [E2 (fun t => s73_3 hk0 (call Try.prog Ms (e + 1)) N a b (ptr p5 0) c n.k t g), s73_3_j, s73_3_eq]
    by_cases k2 : n.k = 14 ∨ n.k = 22
    · have fe : frEnd n had nm out = (nm ++ [n.t], out) := by unfold frEnd; rw [if_neg k1, if_pos k2]
      rw [fe] at hlen ⊢
      refine FR.ct (decide_eq_true k2) ?_
      refine fr_add (C := FR g0 (nm ++ [n.t], out) (B + 1)) sa (by omega) hf _ fun w g' x o => ?_
      exact FR.of (Ext.tr E x) o.ssl (sb.up x) hlen.1 hlen.2
    · refine FR.cf (decide_eq_false k2) ?_
      have E3 : ∀ f : Bool → Option (Value × AHeap), (bif n.k == 21 then f (n.k == 21) else f (n.k == 6)) = f (decide (n.k = 21 ∨ n.k = 6)) := fun f => orB _ _ _ f
      rw [E3 (fun t => s73_4 hk0 (call Try.prog Ms (e + 1)) N a b c t g), s73_4_j, s73_4_eq]
      by_cases k3 : n.k = 21 ∨ n.k = 6
      · have fe : frEnd n had nm out = (had, out) := by unfold frEnd; rw [if_neg k1, if_neg k2, if_pos k3]
        rw [fe] at hlen ⊢
        exact FR.ct (decide_eq_true k3) (FR.of E sc sb hlen.1 hlen.2)
      · have fe : frEnd n had nm out = (nm, out) := by unfold frEnd; rw [if_neg k1, if_neg k2, if_neg k3]
        rw [fe] at hlen ⊢
        exact FR.cf (decide_eq_false k3) (FR.of E sa sb hlen.1 hlen.2)
theorem fr_loop {e N : Nat} (he : 1048577 < e) {g0 : AHeap} {p2 p5 : Nat} {nv : Value} {top : Int} {T : List Kn} {n : Kn} {kv c : Value} {had : List BA} {F : Int → List BA → List BA → List BA × List BA} {G : Int → Int → Int} {i : Int} (hi : i ≤ 10000)
    (hF : ∀ k fr : Int, k ∈ n.ks → 0 ≤ fr → 0 ≤ G k fr → G k fr = k + 1 ∧ fr ≤ k ∧ FrOk nv top T F (e + 1) k fr) (hl : n.ks.length ≤ 1048576) :
    ∀ (k j m : Nat) (fr : Int) (g : AHeap) (a b : Value) (nm out : List BA), n.ks.length - j = k → j ≤ n.ks.length → k < m → 0 ≤ fr → 0 ≤ numGo' G i (n.ks.drop j) fr → Ext g0.size g0 g → Env g p2 p5 nv top T n kv →
      SSl g.size g a nm → SSl g.size g b out → SSl g.size g c had → (had.length : Int) ≤ fr → (nm.length : Int) ≤ fr → (out.length : Int) ≤ fr →
      FR g0 (let r := frK F (n.ks.drop j) (nm, out); frEnd n had r.1 r.2) (i + 1) (s73_0 hk0 (call Try.prog Ms (e + 1)) N m a b (ptr p2 0) (ptr p5 0) c (j : Int) g) := by
  intro k
  induction k with
  | zero =>
    intro j m fr g a b nm out hk hj hm hfr hnum E y sa sb sc l0 l1 l2
    obtain ⟨m, rfl⟩ : ∃ q, m = q + 1 := ⟨m - 1, by omega⟩
    have : ¬ ((j : Int) < (n.ks.length : Int)) := by omega
    rw [List.drop_eq_nil_of_le (by omega)] at hnum ⊢
    have hfi : fr = i := by
      unfold numGo' at hnum
      by_cases h : i = fr
      · exact h.symm
      · rw [if_neg h] at hnum; omega
    subst hfi
    rw [s73_0_eq]
    exact FR.b rfl (FR.b y.f3 (FR.b y.len (FR.b rfl (FR.cf (decide_eq_false this) (FR.b rfl (FR.b y.f0 (FR.b rfl (fr_end he E y sa sb sc (by omega) l0 l1 l2))))))))
  | succ k ih =>
    intro j m fr g a b nm out hk hj hm hfr hnum E y sa sb sc l0 l1 l2
    obtain ⟨m, rfl⟩ : ∃ q, m = q + 1 := ⟨m - 1, by omega⟩
    have hI : ((j : Int) < (n.ks.length : Int)) := by omega
    have hlt : j < n.ks.length := by omega
    have wj : IntKind.i64.wrap ((j : Int) + 1) = ((j + 1 : Nat) : Int) := by rw [wr (by omega) (by omega)]; omega
    rw [drop_get hlt] at hnum ⊢
    have hkd : n.ks.getD j 0 = n.kd j := rfl
    rw [hkd] at hnum ⊢
    rw [numGo'] at hnum
    by_cases hn : G (n.kd j) fr < 0
    · rw [if_pos hn] at hnum; omega
    rw [if_neg hn] at hnum
    obtain ⟨g1, g2, g3⟩ := hF (n.kd j) fr (kd_mem hlt) hfr (by omega)
    rw [s73_0_eq]
    refine FR.b rfl (FR.b y.f3 (FR.b y.len (FR.b rfl (FR.ct (decide_eq_true hI) (FR.b y.t (FR.b rfl (FR.b y.f3 (FR.b (y.isl.ird.at' j hlt).1 (FR.b (y.r hlt) (FR.b rfl ?_))))))))))
    obtain ⟨a', b', g', c', x', sa', sb', l1', l2'⟩ := g3 g a b nm out y.ksl sa sb l1 l2
    refine FR.b c' (FR.b rfl (FR.b rfl ?_))
    rw [wj, frK]
    rw [g1] at hnum
    exact ih (j + 1) m (n.kd j + 1) g' a' b' _ _ (by omega) (by omega) (by omega) (by omega) hnum (Ext.tr E x') (y.ext x') sa' sb' (sc.up x') (by omega) l1' l2'
theorem l73 {d : Nat} (hd : 1048577 < d) {nv : Value} {top : Int} {T : List Kn} (hT : T.length ≤ 3000) (hN : ∀ n ∈ T, n.t.size ≤ 1048576 ∧ n.ks.length ≤ 1048576) (hG : ∀ (j : Nat) (n : Kn), T[j]? = some n → ∀ k ∈ n.ks, 0 ≤ k ∧ k < j) :
    ∀ (f e : Nat) (i fr : Int), d + f + 2 ≤ e → 0 ≤ i → i < T.length → 0 ≤ fr → 0 ≤ numP T f i fr → FrOk nv top T (frP T f) e i fr := by
  intro f
  induction f with
  | zero => intro e i fr _ _ _ _ h; exact absurd h (by show ¬ (0:Int) ≤ -1; decide)
  | succ f ih =>
    intro e i fr he hi hi2 hfr hnum h a b nm out ks sa sb l1 l2
    obtain ⟨e, rfl⟩ : ∃ q, e = q + 2 := ⟨e - 2, by omega⟩
    obtain ⟨i, rfl⟩ : ∃ q : Nat, i = q := ⟨i.toNat, by omega⟩
    have hlt : i < T.length := by omega
    have hget : T[i]? = some T[i] := by simp [hlt]
    obtain ⟨q, kv, q1, q2, is⟩ := knotAt ks hget
    have hnl := (hN _ (List.getElem_mem hlt)).2
    have hv : frP T (f + 1) (i : Int) nm out = (let r := frK (frP T f) T[i].ks (nm, out); frEnd T[i] nm r.1 r.2) := by
      show (match T[(i : Int).toNat]? with | some n => let r := frK (frP T f) n.ks (nm, out); frEnd n nm r.1 r.2 | none => (nm, out)) = _
      rw [Int.toNat_natCast, hget]
    have hnum' : 0 ≤ numGo' (numP T f) (i : Int) T[i].ks fr := by
      have : numP T (f + 1) (i : Int) fr = numGo' (numP T f) (i : Int) T[i].ks fr := by
        show (match T[(i : Int).toNat]? with | some n => numGo' (numP T f) (i : Int) n.ks fr | none => -1) = _
        rw [Int.toNat_natCast, hget]
      omega
    rw [hv]
    show FR h _ ((i : Int) + 1) _
    rw [c73, e73]
    refine FR.b (tr_aCells ks.ksl top) ?_
    refine new_step (P := FR h _ ((i : Int) + 1)) fun p2 h1 x1 o1 _ => ?_
    have ks1 := (ks.lf (SF.ext x1).lf).mono x1.size
    obtain ⟨q', kv', q1', q2', is'⟩ := knotAt ks1 hget
    refine FR.b rfl (FR.b (ld2 (Own.rowE o1).row).1 (FR.b q1' (FR.b q2' ?_)))
    refine newSt_step (P := FR h _ ((i : Int) + 1)) (kn_aCells is') rfl rfl fun p5 g0 x2 o2 _ => ?_
    have E0 := Ext.tr x1 x2
    have y0 : Env g0 p2 p5 nv top T T[i] kv' := ⟨(Own.rowE o1).lf (SF.ext x2).lf (by decide) (by decide) (by decide), Own.rowE o2, (ks1.lf (SF.ext x2).lf).mono x2.size, (is'.lf (SF.ext x2).lf).mono x2.size⟩
    exact fr_loop (e := e) (by omega) (G := numP T f) (i := (i : Int)) (by omega) (fun k fr' hk h0 h1 => by
      obtain ⟨k0, k1⟩ := hG i _ hget k hk
      have nl := num_le T f k fr' h1 h0
      exact ⟨nl.1, nl.2, ih (e + 1) k fr' (by omega) k0 (by omega) h0 h1⟩) hnl T[i].ks.length 0 (e + 1) fr g0 a b nm out (by omega) (by omega) (by omega) hfr (by simpa using hnum') E0 y0 (sa.up E0) (sb.up E0) (sa.up E0) l1 l1 l2
end Go.Proofs.Ytadmoackacickaa
/- The reference's FreeNames. -/
set_option linter.unusedSimpArgs false
namespace Go.Proofs.Ytadmoackacickaa
open Go Go.AH

def freeS (T : List Kn) (top : Int) : List BA := if specOk T top = true then (frP T (T.length + 1) top [] []).2 else []
theorem l37 {d : Nat} (hd : 1048577 < d) {nv : Value} {T : List Kn} {top : Int} {h : AHeap} (x : KSe h.size h nv T) (hb : T.length ≤ 1048576) (hN : ∀ n ∈ T, n.t.size ≤ 1048576 ∧ n.ks.length ≤ 1048576) :
    ∃ v h', call Try.prog Ms (d + 13010 + 8) 37 [trVal nv top] h = some (v, h') ∧ Ext h.size h h' ∧ SSl h'.size h' v (freeS T top) ∧ (freeS T top).length ≤ 3001 := by
  have hcall : call Try.prog Ms (d + 13010 + 8) 37 [trVal nv top] h = evFn hk0 Try.prog (call Try.prog Ms (d + 13010 + 7)) M37 (d + 13010 + 7) Try.f37 [trVal nv top] h := c37 _ _ _
  rw [hcall, e37]
  have e1 := Ext.new (Nat.le_refl h.size) 35 [nv, .int .i64 top]
  have r1 := RowE.new h 35 [nv, .int .i64 top]
  have x1 := (x.lf (SF.ext e1).lf).mono e1.size
  suffices S : ∃ v h', ((aLdN (h.new 35 [nv, .int .i64 top]) (ptr h.size 0) 2).bind fun v4 => (call Try.prog Ms (d + 13010 + 7) 20 [v4] (h.new 35 [nv, .int .i64 top])).bind fun r5 => (asB r5.1).bind fun b6 => bif !b6 then some ((.slice none 0 0), r5.2) else (aLdN r5.2 (ptr h.size 0) 2).bind fun v7 => (aOff (ptr h.size 0) 1).bind fun v8 => (aLd1 r5.2 v8).bind fun v9 => (asI .i64 v9).bind fun n10 => (call Try.prog Ms (d + 13010 + 7) 73 [v7, .int .i64 n10, (.slice none 0 0), (.slice none 0 0)] r5.2).bind fun r11 => (aExt r11.1 0).bind fun v12 => (aExt r11.1 1).bind fun v13 => some (v13, r11.2)) = some (v, h') ∧ Ext h.size h h' ∧ SSl h'.size h' v (freeS T top) ∧ (freeS T top).length ≤ 3001 by
    obtain ⟨v, h', c, q⟩ := S
    exact ⟨v, h', eb (tr_aCells x.ksl top) c, q⟩
  generalize h.new 35 [nv, .int .i64 top] = h1 at e1 r1 x1 ⊢
  obtain ⟨a0, a1, aN⟩ := ld2 r1.row
  have aN' : aLdN h1 (ptr h.size 0) 2 = some (trVal nv top) := aN
  obtain ⟨h2, c2, e2⟩ := l20 (d := d + 10000) (by omega) (top := top) x1.ksl (Nat.le_refl _) hb hN
  have c2' : call Try.prog Ms (d + 13010 + 7) 20 [trVal nv top] h1 = some (.bool (specOk T top), h2) := by rw [show d + 13010 + 7 = d + 10000 + 3010 + 7 by omega]; exact c2
  cases hok : specOk T top with
  | false =>
    rw [hok] at c2'
    refine ⟨.slice none 0 0, h2, eb aN' (eb c2' (eb rfl (ect rfl rfl))), Ext.tr e1 e2, .inl ⟨rfl, ?_⟩, ?_⟩ <;> unfold freeS <;> rw [hok] <;> simp
  | true =>
    rw [hok] at c2'
    have R := right_of hok
    have hT := R.top
    subst hT
    have L2 := (SF.ext e2).lf
    have r2 := r1.lf L2 (by decide) (by decide) (by decide)
    have x2 := (x1.lf L2).mono L2.1
    obtain ⟨b0, b1, bN⟩ := ld2 r2.row
    have bN' : aLdN h2 (ptr h.size 0) 2 = some (trVal nv ((T.length : Int) - 1)) := bN
    have hpos := R.pos
    have hlen := R.len
    have hnum : 0 ≤ numP T (T.length + 1) ((T.length : Int) - 1) 0 := by rw [R.num]; omega
    obtain ⟨v1, v2, g, c3, e3, s1, s2, n1, n2⟩ := l73 (d := 1048578) (by decide) R.len hN (kids_lo R) (T.length + 1) (d + 13010 + 7) ((T.length : Int) - 1) 0 (by omega) (by omega) (by omega) (by omega) hnum h2 (.slice none 0 0) (.slice none 0 0) [] [] x2 (.inl ⟨rfl, rfl⟩) (.inl ⟨rfl, rfl⟩) (Int.le_refl _) (Int.le_refl _)
    have hfs : freeS T ((T.length : Int) - 1) = (frP T (T.length + 1) ((T.length : Int) - 1) [] []).2 := by unfold freeS; rw [if_pos hok]
    refine ⟨v2, g, eb aN' (eb c2' (eb rfl (ecf rfl (eb bN' (eb rfl (eb b1 (eb rfl (eb c3 (eb rfl (eb rfl rfl)))))))))), Ext.tr (Ext.tr e1 e2) e3, ?_, ?_⟩ <;> rw [hfs]
    · exact s2
    · omega
end Go.Proofs.Ytadmoackacickaa
/- The program's binder: its state, and what turns it. -/
set_option linter.unusedSimpArgs false
namespace Go.Proofs.Ytadmoackacickaa
open Go Go.AH

structure Bd where
  bd : List Int
  bx : List Bool
  ow : List Int
  sn : List Int
def bls (xs : List Bool) : List Value := xs.map Value.bool
def tx (T : List Kn) (i : Int) : BA := match T[i.toNat]? with | some n => n.t | none => ⟨#[]⟩
def findL (T : List Kn) (t : BA) (xs : List Int) : Option Int := xs.find? fun q => (tx T q).toList == t.toList
def bdNameQ (T : List Kn) (i : Nat) (fn : Int) (xs : List Int) (s : Bd) : Bd :=
  match findL T (tx T i) xs with
  | none => s
  | some q => { s with bd := s.bd.set i q, bx := s.bx.set q.toNat (if s.bx.getD q.toNat false then true else s.ow.getD q.toNat 0 != fn) }
def bdName (T : List Kn) (i : Nat) (fn : Int) (s : Bd) : Bd := bdNameQ T i fn s.sn.reverse { s with bd := s.bd.set i (-1) }
def bdEnd (T : List Kn) (n : Kn) (i : Nat) (fn : Int) (had : Nat) (s : Bd) : Bd :=
  if n.k = 5 ∨ n.k = 15 then bdName T i fn s
  else if n.k = 14 ∨ n.k = 22 then { s with ow := s.ow.set i fn, sn := s.sn ++ [(i : Int)] }
  else if n.k = 21 ∨ n.k = 6 then { s with sn := s.sn.take had } else s
def walkP (T : List Kn) : Nat → Int → Int → Bd → Bd
  | 0, _, _, s => s
  | f + 1, i, fn, s => match T[i.toNat]? with
    | some n => bdEnd T n i.toNat fn s.sn.length (n.ks.foldl (fun s k => walkP T f k (if n.k = 6 then i else fn) s) s)
    | none => s
/-- What binding leaves. -/
def BX (b : Nat) (h h' : AHeap) : Prop := Ext b h h' ∧ ∀ j o, h.at? j = some o → o.elem ≠ 3 → o.elem ≠ 4 → o.elem ≠ 98 → h'.at? j = some o
theorem BX.trans {b : Nat} {h h' h'' : AHeap} (x : BX b h h') (y : BX b h' h'') : BX b h h'' := ⟨x.1.trans y.1, fun j o a q r t => y.2 j o (x.2 j o a q r t) q r t⟩
theorem BX.refl (b : Nat) (h : AHeap) : BX b h h := ⟨Ext.refl _ _, fun _ _ a _ _ _ => a⟩
theorem BX.ext {b : Nat} {h h' : AHeap} (x : Ext h.size h h') (hb : b ≤ h.size) : BX b h h' := ⟨x.mono hb, fun j o a _ _ _ => x.at? (at?_obj a).2.1 a⟩
theorem BX.ks {b : Nat} {h h' : AHeap} {e : TypeId} {rt : Nat} (x : Ext b h h') (k : Ks e rt h h') (he : e = 3 ∨ e = 4 ∨ e = 98) : BX b h h' :=
  ⟨x, fun j o a q r t => k j o a (.inl (by rcases he with rfl | rfl | rfl <;> assumption))⟩
theorem OwnR.ks {h h' : AHeap} {i root rt : Nat} {e e' : TypeId} {cs : List Value} (x : OwnR h i root e cs) (k : Ks e' rt h h') (hr : e ≠ e' ∨ root ≠ rt) : OwnR h' i root e cs := let ⟨ep, a⟩ := x; ⟨ep, k i _ a hr⟩
theorem OwnR.ext {h h' : AHeap} {i root : Nat} {e : TypeId} {cs : List Value} (x : OwnR h i root e cs) (k : Ext h.size h h') : OwnR h' i root e cs := let ⟨ep, a⟩ := x; ⟨ep, k.at? (at?_obj a).2.1 a⟩
/-- The stack of locals. -/
def SnR (b rb ro : Nat) (h : AHeap) (v : Value) (sn : List Int) : Prop :=
  (v = .slice none 0 0 ∧ sn = []) ∨ ∃ r rt cells, v = slc r 0 sn.length ∧ OwnR h r rt 3 cells ∧ cells.take sn.length = ints sn ∧ b ≤ rt ∧ rt ≠ rb ∧ rt ≠ ro
section
variable {b rb ro : Nat} {h g : AHeap} {v : Value} {sn : List Int}
theorem SnR.ks {e : TypeId} {rt : Nat} (x : SnR b rb ro h v sn) (k : Ks e rt h g) (he : e ≠ 3 ∨ rt = rb ∨ rt = ro) : SnR b rb ro g v sn := by
  rcases x with x | ⟨r, rt', cells, h1, h2, h3, h4, h5, h6⟩
  · exact .inl x
  · refine .inr ⟨r, rt', cells, h1, h2.ks k ?_, h3, h4, h5, h6⟩
    rcases he with he | rfl | rfl
    · exact .inl (Ne.symm he)
    · exact .inr h5
    · exact .inr h6
theorem SnR.ext (x : SnR b rb ro h v sn) (k : Ext h.size h g) : SnR b rb ro g v sn := by
  rcases x with x | ⟨r, rt', cells, h1, h2, h3, h4, h5, h6⟩
  · exact .inl x
  · exact .inr ⟨r, rt', cells, h1, h2.ext k, h3, h4, h5, h6⟩
theorem SnR.len (x : SnR b rb ro h v sn) : aLen v = some (.int .i64 (sn.length : Int)) := by
  rcases x with ⟨rfl, rfl⟩ | ⟨r, rt', cells, rfl, _⟩ <;> rfl
theorem SnR.at (x : SnR b rb ro h v sn) {j : Nat} (hj : j < sn.length) : ∃ q, aIdx v (.int .i64 (j : Int)) 1 = some q ∧ aLd1 h q = some (.int .i64 sn[j]) := by
  rcases x with ⟨_, rfl⟩ | ⟨r, rt', cells, rfl, h2, h3, _⟩
  · simp at hj
  · refine ⟨ptr r j, by simp [aIdx, slc]; omega, h2.row.ld1 ?_⟩
    have h7 : (ints sn)[j]? = some (.int .i64 sn[j]) := by simp [ints, hj]
    rw [← h3, List.getElem?_take, if_pos hj] at h7
    exact h7
theorem SnR.cut (x : SnR b rb ro h v sn) {n : Nat} (hn : n ≤ sn.length) : ∃ v', aSub h 3 v none (some (.int .i64 (n : Int))) 1 = some v' ∧ SnR b rb ro h v' (sn.take n) := by
  rcases x with ⟨rfl, rfl⟩ | ⟨r, rt', cells, rfl, h2, h3, h4, h5, h6⟩
  · obtain rfl : n = 0 := by simpa using hn
    exact ⟨.slice none 0 0, rfl, .inl ⟨rfl, rfl⟩⟩
  · have hl : (sn.take n).length = n := by simp; omega
    refine ⟨slc r 0 n, ?_, .inr ⟨r, rt', cells, by rw [hl], h2, ?_, h4, h5, h6⟩⟩
    · obtain ⟨ep, a⟩ := h2
      have : (n : Int) ≤ (sn.length : Int) := by omega
      simp [aSub, slc, a, aBound, this]
    · rw [hl]
      have := congrArg (List.take n) h3
      rw [List.take_take, Nat.min_eq_left hn] at this
      rw [this]; simp [ints, List.map_take]
theorem SnR.push (x : SnR b rb ro h v sn) (hb : b ≤ h.size) (hr : rb < h.size) (hr2 : ro < h.size) (hl : sn.length ≤ 1000000) (y : Int) :
    ∃ v' h', aApp (h.new 3 [.int .i64 y]) 3 1 8 v (slc h.size 0 1) = some (v', h') ∧ BX b h h' ∧ SnR b rb ro h' v' (sn ++ [y]) ∧ (∀ i rt e cs, OwnR h i rt e cs → e ≠ 3 ∨ rt = rb ∨ rt = ro → OwnR h' i rt e cs) := by
  have e1 := Ext.new (Nat.le_refl h.size) 3 [Value.int .i64 y]
  have w := (Own.new (b := 0) (Nat.zero_le h.size) 3 [Value.int .i64 y]).row
  have hS : (h.new 3 [Value.int .i64 y]).size = h.size + 1 := rfl
  have hsrc : aSrc (h.new 3 [Value.int .i64 y]) 1 (slc h.size 0 1) = some (1, [Value.int .i64 y]) := w.src (n := 1) (esz := 1) (by show 0 + 1 * 1 ≤ 1; omega)
  have hk : ∀ i rt e cs, OwnR h i rt e cs → OwnR (h.new 3 [Value.int .i64 y]) i rt e cs := fun i rt e cs o => o.ext e1
  generalize h.new 3 [Value.int .i64 y] = g1 at e1 w hS hsrc hk ⊢
  rcases x with ⟨rfl, rfl⟩ | ⟨r, rt', cells, rfl, h2, h3, h4, h5, h6⟩
  · have e2 := Ext.new (Nat.le_refl g1.size) 3 [Value.int .i64 y]
    refine ⟨slc g1.size 0 1, g1.new 3 [.int .i64 y], ?_, BX.ext (Ext.tr e1 e2) hb, .inr ⟨g1.size, g1.size, [.int .i64 y], rfl, OwnR.new _ _ _, rfl, by omega, by omega, by omega⟩, fun i rt e cs o _ => (hk i rt e cs o).ext e2⟩
    have q1 : (1 : Nat) ≤ most ∧ 1 * 8 ≤ most := by unfold most; omega
    have : aApp g1 3 1 8 (.slice none 0 0) (slc h.size 0 1) = ((some (1, [Value.int .i64 y])).bind fun my : Nat × List Value => if my.1 = 0 then some (.slice none 0 0, g1) else if my.1 ≤ most ∧ my.1 * 8 ≤ most then some (slc g1.size 0 my.1, g1.new 3 my.2) else none) := by rw [← hsrc]; rfl
    rw [this, Option.bind_some, if_neg (show ¬ (1:Nat) = 0 by decide), if_pos q1]
  · obtain ⟨ep, a⟩ := hk _ _ _ _ h2
    have hcl : sn.length ≤ cells.length := by
      have := congrArg List.length h3
      rw [List.length_take] at this
      simp [ints] at this; omega
    have q1 : sn.length + 1 ≤ most ∧ (sn.length + 1) * 8 ≤ most := by unfold most; omega
    have hcall : aApp g1 3 1 8 (slc r 0 sn.length) (slc h.size 0 1) = some (slc g1.size 0 (sn.length + 1), g1.app ⟨rt', ep, false, 3, cells⟩ sn.length (ints sn ++ [.int .i64 y])) := by
      have : aApp g1 3 1 8 (slc r 0 sn.length) (slc h.size 0 1) = aAppG g1 3 1 8 (slc r 0 sn.length) (some (1, [Value.int .i64 y])) := by rw [← hsrc]; rfl
      rw [this]
      simp [aAppG, slc, a, hcl, q1, h3]
    have kk : Ks 3 rt' g1 (g1.app ⟨rt', ep, false, 3, cells⟩ sn.length (ints sn ++ [.int .i64 y])) := fun j o' ho hkk => at?_app_old ho _ (fun hh => hkk.elim (fun q => absurd hh.1 q) (fun q => absurd hh.2 q))
    refine ⟨_, _, hcall, (BX.ext e1 hb).trans (BX.ks (Ext.app (by omega) h4 _ _) kk (.inl rfl)), .inr ⟨g1.size, rt', ints (sn ++ [y]), by simp, ⟨_, by rw [show ints (sn ++ [y]) = ints sn ++ [.int .i64 y] by simp [ints]]; exact at?_app_same a _ _⟩, by rw [List.take_of_length_le (by simp [ints])], h4, h5, h6⟩, fun i rt e cs o he => (hk i rt e cs o).ks kk ?_⟩
    rcases he with he | rfl | rfl
    · exact .inl he
    · exact .inr (Ne.symm h5)
    · exact .inr (Ne.symm h6)
end
structure Bq (b p t0 rb rx ro N : Nat) (h : AHeap) (s : Bd) : Prop where
  lp : b ≤ p
  lb : b ≤ rb
  lx : b ≤ rx
  lo : b ≤ ro
  nbo : rb ≠ ro
  nB : s.bd.length = N
  nX : s.bx.length = N
  nO : s.ow.length = N
  st : ∃ sv, OwnR h p p 98 [ptr t0 0, slc rb 0 N, slc rx 0 N, slc ro 0 N, sv] ∧ SnR b rb ro h sv s.sn
  ob : OwnR h rb rb 3 (ints s.bd)
  ox : OwnR h rx rx 4 (bls s.bx)
  oo : OwnR h ro ro 3 (ints s.ow)
  pos : ∀ q ∈ s.sn, 0 ≤ q ∧ q < N
section
variable {b p t0 rb rx ro N : Nat} {h g : AHeap} {s : Bd}
theorem Bq.sz (x : Bq b p t0 rb rx ro N h s) : b ≤ h.size := by have := x.lp; obtain ⟨sv, o, _⟩ := x.st; have := o.lt; omega
theorem Bq.ext (x : Bq b p t0 rb rx ro N h s) (e : Ext h.size h g) : Bq b p t0 rb rx ro N g s :=
  { x with st := let ⟨sv, o, z⟩ := x.st; ⟨sv, o.ext e, z.ext e⟩, ob := x.ob.ext e, ox := x.ox.ext e, oo := x.oo.ext e }
theorem Bq.f0 (x : Bq b p t0 rb rx ro N h s) : aLd1 h (ptr p 0) = some (ptr t0 0) := by obtain ⟨sv, o, _⟩ := x.st; exact o.row.ld1 rfl
theorem Bq.f1 (x : Bq b p t0 rb rx ro N h s) : aLd1 h (ptr p 1) = some (slc rb 0 N) := by obtain ⟨sv, o, _⟩ := x.st; exact o.row.ld1 rfl
theorem Bq.f2 (x : Bq b p t0 rb rx ro N h s) : aLd1 h (ptr p 2) = some (slc rx 0 N) := by obtain ⟨sv, o, _⟩ := x.st; exact o.row.ld1 rfl
theorem Bq.f3 (x : Bq b p t0 rb rx ro N h s) : aLd1 h (ptr p 3) = some (slc ro 0 N) := by obtain ⟨sv, o, _⟩ := x.st; exact o.row.ld1 rfl
theorem Bq.f4 (x : Bq b p t0 rb rx ro N h s) : ∃ sv, aLd1 h (ptr p 4) = some sv ∧ SnR b rb ro h sv s.sn := by obtain ⟨sv, o, z⟩ := x.st; exact ⟨sv, o.row.ld1 rfl, z⟩
theorem Bq.setB (x : Bq b p t0 rb rx ro N h s) {i : Nat} (hi : i < N) (v : Int) : ∃ h', aSt h (ptr rb i) (.int .i64 v) 1 = some h' ∧ BX b h h' ∧ Bq b p t0 rb rx ro N h' { s with bd := s.bd.set i v } := by
  obtain ⟨h', c, e, k, o, _⟩ := stOwn x.ob x.lb (j := i) (v := .int .i64 v) (by simp [ints, x.nB, hi]) rfl
  refine ⟨h', c, BX.ks e k (.inl rfl), { x with nB := by simp [x.nB], st := let ⟨sv, o, z⟩ := x.st; ⟨sv, o.ks k (.inl (by decide)), z.ks k (.inr (.inl rfl))⟩, ob := ?_, ox := x.ox.ks k (.inl (by decide)), oo := x.oo.ks k (.inr (Ne.symm x.nbo)) }⟩
  rw [show ints (s.bd.set i v) = (ints s.bd).set i (.int .i64 v) by simp [ints, List.map_set]]; exact o
theorem Bq.setO (x : Bq b p t0 rb rx ro N h s) {i : Nat} (hi : i < N) (v : Int) : ∃ h', aSt h (ptr ro i) (.int .i64 v) 1 = some h' ∧ BX b h h' ∧ Bq b p t0 rb rx ro N h' { s with ow := s.ow.set i v } := by
  obtain ⟨h', c, e, k, o, _⟩ := stOwn x.oo x.lo (j := i) (v := .int .i64 v) (by simp [ints, x.nO, hi]) rfl
  refine ⟨h', c, BX.ks e k (.inl rfl), { x with nO := by simp [x.nO], st := let ⟨sv, o, z⟩ := x.st; ⟨sv, o.ks k (.inl (by decide)), z.ks k (.inr (.inr rfl))⟩, oo := ?_, ox := x.ox.ks k (.inl (by decide)), ob := x.ob.ks k (.inr x.nbo) }⟩
  rw [show ints (s.ow.set i v) = (ints s.ow).set i (.int .i64 v) by simp [ints, List.map_set]]; exact o
theorem Bq.setX (x : Bq b p t0 rb rx ro N h s) {i : Nat} (hi : i < N) (v : Bool) : ∃ h', aSt h (ptr rx i) (.bool v) 1 = some h' ∧ BX b h h' ∧ Bq b p t0 rb rx ro N h' { s with bx := s.bx.set i v } := by
  obtain ⟨h', c, e, k, o, _⟩ := stOwn x.ox x.lx (j := i) (v := .bool v) (by simp [bls, x.nX, hi]) rfl
  refine ⟨h', c, BX.ks e k (.inr (.inl rfl)), { x with nX := by simp [x.nX], st := let ⟨sv, o, z⟩ := x.st; ⟨sv, o.ks k (.inl (by decide)), z.ks k (.inl (by decide))⟩, ox := ?_, oo := x.oo.ks k (.inl (by decide)), ob := x.ob.ks k (.inl (by decide)) }⟩
  rw [show bls (s.bx.set i v) = (bls s.bx).set i (.bool v) by simp [bls, List.map_set]]; exact o
theorem Bq.setS (x : Bq b p t0 rb rx ro N h s) {v : Value} {sn : List Int} (z : SnR b rb ro h v sn) (hv : isCell v = true) (hp : ∀ q ∈ sn, 0 ≤ q ∧ q < N) : ∃ h', aSt h (ptr p 4) v 1 = some h' ∧ BX b h h' ∧ Bq b p t0 rb rx ro N h' { s with sn := sn } := by
  obtain ⟨sv, o, _⟩ := x.st
  obtain ⟨h', c, e, k, o, _⟩ := stOwn o x.lp (j := 4) (v := v) (by show 4 < 5; decide) hv
  exact ⟨h', c, BX.ks e k (.inr (.inr rfl)), { x with st := ⟨v, o, z.ks k (.inl (by decide))⟩, ox := x.ox.ks k (.inl (by decide)), oo := x.oo.ks k (.inl (by decide)), ob := x.ob.ks k (.inl (by decide)), pos := hp }⟩
theorem SnR.cell {b rb ro : Nat} {h : AHeap} {v : Value} {sn : List Int} (x : SnR b rb ro h v sn) : isCell v = true := by
  rcases x with ⟨rfl, rfl⟩ | ⟨r, rt', cells, rfl, _⟩ <;> rfl
theorem slc_ix {r n : Nat} {i : Int} (h0 : 0 ≤ i) (h1 : i < n) : aIdx (slc r 0 n) (.int .i64 i) 1 = some (ptr r i.toNat) := by simp [aIdx, slc, h0, h1]
end
end Go.Proofs.Ytadmoackacickaa
/- The program's binder: a name, a node, a tree. -/
set_option linter.unusedSimpArgs false
namespace Go.Proofs.Ytadmoackacickaa
open Go Go.AH

def unitV : Value := .tuple (List.toArray [])
/-- An answer of nothing: the binder turned. -/
def BW (b p t0 rb rx ro N : Nat) (h0 : AHeap) (s : Bd) (o : Option (Value × AHeap)) : Prop := ∃ g, o = some (.tuple (List.toArray []), g) ∧ BX b h0 g ∧ Bq b p t0 rb rx ro N g s
section
variable {b0 p t0 rb rx ro N : Nat} {h0 : AHeap} {s : Bd}
theorem BW.b {α : Type} {o : Option α} {k : α → Option (Value × AHeap)} {v : α} (e : o = some v) (hk : BW b0 p t0 rb rx ro N h0 s (k v)) : BW b0 p t0 rb rx ro N h0 s (o.bind k) := by rw [e]; exact hk
theorem BW.cf {c : Bool} {x y : Option (Value × AHeap)} (e : c = false) (hk : BW b0 p t0 rb rx ro N h0 s y) : BW b0 p t0 rb rx ro N h0 s (bif c then x else y) := by rw [e]; exact hk
theorem BW.ct {c : Bool} {x y : Option (Value × AHeap)} (e : c = true) (hk : BW b0 p t0 rb rx ro N h0 s x) : BW b0 p t0 rb rx ro N h0 s (bif c then x else y) := by rw [e]; exact hk
theorem BW.fin {g : AHeap} (x : BX b0 h0 g) (y : Bq b0 p t0 rb rx ro N g s) : BW b0 p t0 rb rx ro N h0 s (some (.tuple (List.toArray []), g)) := ⟨g, rfl, x, y⟩
end
theorem Bq.push {b p t0 rb rx ro N : Nat} {h : AHeap} {s : Bd} (x : Bq b p t0 rb rx ro N h s) (hl : s.sn.length ≤ 1000000) {i : Int} (h0 : 0 ≤ i) (h1 : i < N) :
    ∃ sv, aLd1 h (ptr p 4) = some sv ∧ ∃ v2 h2, aApp (h.new 3 [.int .i64 i]) 3 1 8 sv (slc h.size 0 1) = some (v2, h2) ∧ ∃ h3, aSt h2 (ptr p 4) v2 1 = some h3 ∧ BX b h h3 ∧ Bq b p t0 rb rx ro N h3 { s with sn := s.sn ++ [i] } := by
  obtain ⟨sv, o, z⟩ := x.st
  obtain ⟨v2, h2, c2, x2, z2, k2⟩ := z.push x.sz x.ob.lt.2 x.oo.lt.2 hl i
  obtain ⟨h3, c3, e, k, o3, _⟩ := stOwn (k2 _ _ _ _ o (.inl (by decide))) x.lp (j := 4) (v := v2) (by show 4 < 5; decide) z2.cell
  refine ⟨sv, o.row.ld1 rfl, v2, h2, c2, h3, c3, x2.trans (BX.ks e k (.inr (.inr rfl))), { x with st := ⟨v2, o3, z2.ks k (.inl (by decide))⟩, ox := (k2 _ _ _ _ x.ox (.inl (by decide))).ks k (.inl (by decide)), oo := (k2 _ _ _ _ x.oo (.inr (.inr rfl))).ks k (.inl (by decide)), ob := (k2 _ _ _ _ x.ob (.inr (.inl rfl))).ks k (.inl (by decide)), pos := fun q hq => ?_ }⟩
  rcases List.mem_append.1 hq with hq | hq
  · exact x.pos q hq
  · rw [List.mem_singleton.1 hq]; exact ⟨h0, h1⟩
theorem tx_at {b : Nat} {g : AHeap} {nv : Value} {T : List Kn} (ks : KSl b g nv T) {q : Int} (h0 : 0 ≤ q) (h1 : q < T.length) : ∃ r, aIdx nv (.int .i64 q) 4 = some r ∧ aLdN g r 4 = aLdN g r 4 ∧ ∃ u, aOff r 1 = some u ∧ aLd1 g u = some (.string (tx T q)) := by
  obtain ⟨j, rfl⟩ : ∃ j : Nat, q = j := ⟨q.toNat, by omega⟩
  have hj : j < T.length := by omega
  obtain ⟨i, kv, a, _, c⟩ := ks.at hj
  refine ⟨_, a, rfl, _, rfl, ?_⟩
  have : tx T (j : Int) = T[j].t := by unfold tx; simp [hj]
  rw [this]; exact (c g (Ext.refl _ _)).2.2.1
section
variable {b p t0 rb rx ro : Nat} {nv : Value} {top : Int} {T : List Kn}
theorem name_loop {C : ACall} {M i : Nat} {fn : Int} {h0 g : AHeap} {s : Bd} (X : BX b h0 g) (y : Bq b p t0 rb rx ro T.length g s) (ks : KSl b g nv T) (r2 : RowE g t0 35 [nv, .int .i64 top]) (hT : T.length ≤ 3000) (hi : i < T.length) :
    ∀ (j m : Nat), j ≤ s.sn.length → j < m → s.sn.length ≤ 1000000 →
    BW b p t0 rb rx ro T.length h0 (bdNameQ T i fn (s.sn.take j).reverse s) (s163_0 hk0 C M m (ptr p 0) (i : Int) fn ((j : Int) - 1) g) := by
  intro j
  induction j with
  | zero =>
    intro m hj hm hl
    obtain ⟨m, rfl⟩ : ∃ q, m = q + 1 := ⟨m - 1, by omega⟩
    have : ¬ (((0 : Nat) : Int) - 1 ≥ 0) := by omega
    rw [s163_0_eq]
    exact BW.cf (decide_eq_false this) (BW.fin X y)
  | succ j ih =>
    intro m hj hm hl
    obtain ⟨m, rfl⟩ : ∃ q, m = q + 1 := ⟨m - 1, by omega⟩
    have z := ih m (by omega) (by omega) hl
    have hlt : j < s.sn.length := by omega
    have hI : (((j + 1 : Nat) : Int) - 1 ≥ 0) := by omega
    have ej : ((j + 1 : Nat) : Int) - 1 = (j : Int) := by omega
    have wj : IntKind.i64.wrap ((j : Int) - 1) = (j : Int) - 1 := wr (by omega) (by omega)
    have hrev : (s.sn.take (j + 1)).reverse = s.sn[j] :: (s.sn.take j).reverse := by
      rw [List.take_add_one, List.getElem?_eq_getElem hlt]; simp
    obtain ⟨q0, q1⟩ := y.pos _ (List.getElem_mem hlt)
    obtain ⟨sv, v4, sr⟩ := y.f4
    obtain ⟨w, w1, w2⟩ := sr.at hlt
    obtain ⟨r, r1, _, u, u1, u2⟩ := tx_at ks q0 q1
    obtain ⟨r', r1', _, u', u1', u2'⟩ := tx_at ks (q := (i : Int)) (by omega) (by omega)
    have a0 := (ld2 r2.row).1
    rw [s163_0_eq, hrev, ej]
    refine BW.ct (decide_eq_true (by omega)) (BW.b rfl (BW.b rfl (BW.b v4 (BW.b w1 (BW.b w2 (BW.b rfl (BW.b rfl (BW.b rfl (BW.b y.f0 (BW.b rfl (BW.b rfl (BW.b a0 (BW.b r1 (BW.b u1 (BW.b u2 (BW.b rfl (BW.b rfl (BW.b rfl (BW.b y.f0 (BW.b rfl (BW.b rfl (BW.b a0 (BW.b r1' (BW.b u1' (BW.b u2' (BW.b rfl ?_))))))))))))))))))))))))))
    unfold bdNameQ findL at z ⊢
    rw [List.find?_cons]
    cases e : ((tx T s.sn[j]).toList == (tx T (i : Int)).toList) with
    | false =>
      rw [wj]
      exact BW.cf rfl z
    | true =>
      generalize hq : s.sn[j] = q at q0 q1 w2 r1 u2 e ⊢
      obtain ⟨h1, c1, x1, y1⟩ := y.setB hi q
      have hqn : q.toNat < T.length := by omega
      have bxg : aLd1 h1 (ptr rx q.toNat) = some (.bool (s.bx.getD q.toNat false)) := by
        have := y1.ox.row.ld1 (off := q.toNat) (v := .bool (s.bx.getD q.toNat false)) (by simp [bls, show q.toNat < s.bx.length by rw [y.nX]; exact hqn])
        exact this
      have owg : aLd1 h1 (ptr ro q.toNat) = some (.int .i64 (s.ow.getD q.toNat 0)) := by
        have := y1.oo.row.ld1 (off := q.toNat) (v := .int .i64 (s.ow.getD q.toNat 0)) (by simp [ints, show q.toNat < s.ow.length by rw [y.nO]; exact hqn])
        exact this
      have ixi : aIdx (slc rb 0 T.length) (.int .i64 (i : Int)) 1 = some (ptr rb i) := by rw [slc_ix (by omega) (by omega)]; simp
      have ixx : aIdx (slc rx 0 T.length) (.int .i64 q) 1 = some (ptr rx q.toNat) := slc_ix q0 q1
      have ixo : aIdx (slc ro 0 T.length) (.int .i64 q) 1 = some (ptr ro q.toNat) := slc_ix q0 q1
      refine BW.ct rfl (BW.b rfl (BW.b rfl (BW.b y.f1 (BW.b ixi (BW.b c1 (BW.b rfl (BW.b rfl (BW.b y1.f2 (BW.b rfl (BW.b rfl (BW.b y1.f2 (BW.b ixx (BW.b bxg (BW.b rfl ?_))))))))))))))
      cases hb : s.bx.getD q.toNat false with
      | true =>
        obtain ⟨h2, c2, x2, y2⟩ := y1.setX hqn true
        refine BW.ct rfl (BW.b ixx (BW.b c2 (BW.fin (X.trans (x1.trans x2)) ?_)))
        simp only [hb, if_true]; exact y2
      | false =>
        obtain ⟨h2, c2, x2, y2⟩ := y1.setX hqn (s.ow.getD q.toNat 0 != fn)
        refine BW.cf rfl (BW.b rfl (BW.b rfl (BW.b y1.f3 (BW.b ixo (BW.b owg (BW.b rfl (BW.b ixx (BW.b c2 (BW.fin (X.trans (x1.trans x2)) ?_)))))))))
        simp only [hb, Bool.false_eq_true, if_false]; exact y2
theorem l163 {d i : Nat} {fn : Int} {g : AHeap} {s : Bd} (hd : 1048577 < d) (y : Bq b p t0 rb rx ro T.length g s) (ks : KSl b g nv T) (r2 : RowE g t0 35 [nv, .int .i64 top]) (hT : T.length ≤ 3000) (ht0 : t0 < b) (hi : i < T.length) (hl : s.sn.length ≤ 1000000) :
    BW b p t0 rb rx ro T.length g (bdName T i fn s) (call Try.prog Ms (d + 1) 163 [ptr p 0, .int .i64 (i : Int), .int .i64 fn] g) := by
  rw [c163, e163]
  obtain ⟨h1, c1, x1, y1⟩ := y.setB hi (-1)
  obtain ⟨sv, v4, sr⟩ := y1.f4
  have ixi : aIdx (slc rb 0 T.length) (.int .i64 (i : Int)) 1 = some (ptr rb i) := by rw [slc_ix (by omega) (by omega)]; simp
  refine BW.b rfl (BW.b rfl (BW.b y.f1 (BW.b ixi (BW.b c1 (BW.b rfl (BW.b rfl (BW.b v4 (BW.b sr.len (BW.b rfl ?_)))))))))
  have hl' : ({ s with bd := s.bd.set i (-1) } : Bd).sn.length = s.sn.length := rfl
  have w : IntKind.i64.wrap ((({ s with bd := s.bd.set i (-1) } : Bd).sn.length : Int) - 1) = (s.sn.length : Int) - 1 := by rw [hl']; exact wr (by omega) (by omega)
  rw [w]
  have r2' : RowE h1 t0 35 [nv, .int .i64 top] := let ⟨o, a, q1, q2⟩ := r2; ⟨o, x1.1.at? ht0 a, q1, q2⟩
  have z := name_loop (C := call Try.prog Ms d) (M := d) (fn := fn) x1 y1 (ks.ext x1.1) r2' hT hi s.sn.length d (Nat.le_refl _) (by omega) hl
  unfold bdName
  rw [show (({ s with bd := s.bd.set i (-1) } : Bd).sn.take s.sn.length) = s.sn from List.take_length] at z
  exact z
theorem bd_end {e M : Nat} (he : 1048577 < e) {h0 g : AHeap} {s : Bd} {i had : Nat} {fn : Int} {n : Kn} (X : BX b h0 g) (y : Bq b p t0 rb rx ro T.length g s) (ks : KSl b g nv T) (r2 : RowE g t0 35 [nv, .int .i64 top]) (hT : T.length ≤ 3000) (ht0 : t0 < b) (hi : i < T.length)
    (hl : s.sn.length ≤ 100000) (hh : had ≤ s.sn.length) :
    BW b p t0 rb rx ro T.length h0 (bdEnd T n i fn had s) (bif n.k == 5 then s119_2 hk0 (call Try.prog Ms (e + 1)) M (ptr p 0) (i : Int) fn (had : Int) n.k (n.k == 5) g else s119_2 hk0 (call Try.prog Ms (e + 1)) M (ptr p 0) (i : Int) fn (had : Int) n.k (n.k == 15) g) := by
  rw [orB n.k 5 15 (fun t => s119_2 hk0 (call Try.prog Ms (e + 1)) M (ptr p 0) (i : Int) fn (had : Int) n.k t g), s119_2_j, s119_2_eq]
  unfold bdEnd
  by_cases k1 : n.k = 5 ∨ n.k = 15
  · rw [if_pos k1]
    obtain ⟨g', c, x', y'⟩ := l163 (d := e) (fn := fn) he y ks r2 hT ht0 hi (by omega)
    exact BW.ct (decide_eq_true k1) (BW.b c (BW.fin (X.trans x') y'))
  · rw [if_neg k1]
    refine BW.cf (decide_eq_false k1) ?_
    rw [orB n.k 14 22 (fun t => s119_3 hk0 (call Try.prog Ms (e + 1)) M (ptr p 0) (i : Int) fn (had : Int) n.k t g), s119_3_j, s119_3_eq]
    by_cases k2 : n.k = 14 ∨ n.k = 22
    · rw [if_pos k2]
      obtain ⟨h1, c1, x1, y1⟩ := y.setO hi fn
      obtain ⟨sv, v4, v2, h2, c2, h3, c3, x3, y3⟩ := y1.push (i := (i : Int)) (show s.sn.length ≤ 1000000 by omega) (by omega) (by omega)
      have ixi : aIdx (slc ro 0 T.length) (.int .i64 (i : Int)) 1 = some (ptr ro i) := by rw [slc_ix (by omega) (by omega)]; simp
      refine BW.ct (decide_eq_true k2) (BW.b rfl (BW.b rfl (BW.b y.f3 (BW.b ixi (BW.b c1 (BW.b rfl (BW.b rfl (BW.b v4 ?_))))))))
      show BW b p t0 rb rx ro T.length h0 _ ((aApp (h1.new 3 [.int .i64 (i : Int)]) 3 1 8 sv (slc h1.size 0 1)).bind _)
      exact BW.b c2 (BW.b rfl (BW.b rfl (BW.b c3 (BW.fin (X.trans (x1.trans x3)) y3))))
    · rw [if_neg k2]
      refine BW.cf (decide_eq_false k2) ?_
      rw [orB n.k 21 6 (fun t => s119_4 hk0 (call Try.prog Ms (e + 1)) M (ptr p 0) (had : Int) t g), s119_4_j, s119_4_eq]
      by_cases k3 : n.k = 21 ∨ n.k = 6
      · rw [if_pos k3]
        obtain ⟨sv, v4, sr⟩ := y.f4
        obtain ⟨v2, c2, sr2⟩ := sr.cut hh
        obtain ⟨h3, c3, x3, y3⟩ := y.setS sr2 sr2.cell (fun q hq => y.pos q (List.mem_of_mem_take hq))
        exact BW.ct (decide_eq_true k3) (BW.b rfl (BW.b rfl (BW.b v4 (BW.b c2 (BW.b rfl (BW.b rfl (BW.b c3 (BW.fin (X.trans x3) y3))))))))
      · rw [if_neg k3]
        exact BW.cf (decide_eq_false k3) (BW.fin X y)
end
end Go.Proofs.Ytadmoackacickaa
/- The program's binder: nodes. -/
set_option linter.unusedSimpArgs false
namespace Go.Proofs.Ytadmoackacickaa
open Go Go.AH

theorem bdName_sn (T : List Kn) (i : Nat) (fn : Int) (s : Bd) : (bdName T i fn s).sn = s.sn := by
  unfold bdName bdNameQ
  cases findL T (tx T i) s.sn.reverse <;> rfl
theorem bdEnd_sn (T : List Kn) (n : Kn) (i : Nat) (fn : Int) (had : Nat) (s : Bd) (h : had ≤ s.sn.length) : (bdEnd T n i fn had s).sn.length ≤ s.sn.length + 1 ∧ had ≤ (bdEnd T n i fn had s).sn.length := by
  unfold bdEnd
  split
  · rw [bdName_sn]; omega
  · split
    · show (s.sn ++ [(i : Int)]).length ≤ _ ∧ _ ≤ (s.sn ++ [(i : Int)]).length
      rw [List.length_append]; simp; omega
    · split
      · show (s.sn.take had).length ≤ _ ∧ _ ≤ (s.sn.take had).length
        rw [List.length_take]; omega
      · omega
section
variable {b p t0 rb rx ro : Nat} {nv : Value} {top : Int} {T : List Kn}
def WkOk (b p t0 rb rx ro : Nat) (nv : Value) (top : Int) (T : List Kn) (F : Int → Int → Bd → Bd) (e : Nat) (k fr : Int) : Prop :=
  ∀ (g : AHeap) (s : Bd) (fn : Int), Bq b p t0 rb rx ro T.length g s → KSl b g nv T → RowE g t0 35 [nv, .int .i64 top] → (s.sn.length : Int) ≤ fr →
    BW b p t0 rb rx ro T.length g (F k fn s) (call Try.prog Ms e 119 [ptr p 0, .int .i64 k, .int .i64 fn] g) ∧ ((F k fn s).sn.length : Int) ≤ k + 1 ∧ s.sn.length ≤ (F k fn s).sn.length
theorem BX.rowE {b : Nat} {h g : AHeap} {i : Nat} {e : TypeId} {cs : List Value} (x : BX b h g) (r : RowE h i e cs) (h3 : e ≠ 3) (h4 : e ≠ 4) (h98 : e ≠ 98) : RowE g i e cs :=
  let ⟨o, a, q1, q2⟩ := r; ⟨o, x.2 i o a (by rw [q1]; exact h3) (by rw [q1]; exact h4) (by rw [q1]; exact h98), q1, q2⟩
theorem wk_loop {e M p9 : Nat} (he : 1048577 < e) {h0 : AHeap} {n : Kn} {kv : Value} {F : Int → Int → Bd → Bd} {G : Int → Int → Int} {i had : Nat} {fn fn' : Int} (hi : i < T.length) (hT : T.length ≤ 3000) (ht0 : t0 < b)
    (hF : ∀ k fr : Int, k ∈ n.ks → 0 ≤ fr → 0 ≤ G k fr → G k fr = k + 1 ∧ fr ≤ k ∧ WkOk b p t0 rb rx ro nv top T F (e + 1) k fr) (hl : n.ks.length ≤ 1048576) :
    ∀ (k j m : Nat) (fr : Int) (g : AHeap) (s : Bd), n.ks.length - j = k → j ≤ n.ks.length → k < m → 0 ≤ fr → 0 ≤ numGo' G (i : Int) (n.ks.drop j) fr → BX b h0 g → Bq b p t0 rb rx ro T.length g s → KSl b g nv T → RowE g t0 35 [nv, .int .i64 top] →
      RowE g p9 73 (knCells n kv) → ISl b g kv n.ks → (s.sn.length : Int) ≤ fr → had ≤ s.sn.length →
      let s' := bdEnd T n i fn had ((n.ks.drop j).foldl (fun s k => F k fn' s) s)
      BW b p t0 rb rx ro T.length h0 s' (s119_1 hk0 (call Try.prog Ms (e + 1)) M m (ptr p 0) (i : Int) fn (ptr p9 0) (had : Int) fn' kv (n.ks.length : Int) (j : Int) g) ∧ (s'.sn.length : Int) ≤ (i : Int) + 1 ∧ had ≤ s'.sn.length := by
  intro k
  induction k with
  | zero =>
    intro j m fr g s hk hj hm hfr hnum X y ks r2 r9 is l1 l2
    obtain ⟨m, rfl⟩ : ∃ q, m = q + 1 := ⟨m - 1, by omega⟩
    have : ¬ ((j : Int) < (n.ks.length : Int)) := by omega
    rw [List.drop_eq_nil_of_le (by omega)] at hnum ⊢
    have hfi : (i : Int) = fr := by
      unfold numGo' at hnum
      by_cases h : (i : Int) = fr
      · exact h
      · rw [if_neg h] at hnum; omega
    have := bdEnd_sn T n i fn had s l2
    refine ⟨?_, by show ((bdEnd T n i fn had s).sn.length : Int) ≤ _; omega, this.2⟩
    rw [s119_1_eq]
    exact BW.cf (decide_eq_false (by omega)) (BW.b rfl (BW.b (ld4 r9.row).1 (BW.b rfl (bd_end he X y ks r2 hT ht0 hi (show s.sn.length ≤ 100000 by omega) l2))))
  | succ k ih =>
    intro j m fr g s hk hj hm hfr hnum X y ks r2 r9 is l1 l2
    obtain ⟨m, rfl⟩ : ∃ q, m = q + 1 := ⟨m - 1, by omega⟩
    have hI : ((j : Int) < (n.ks.length : Int)) := by omega
    have hlt : j < n.ks.length := by omega
    have wj : IntKind.i64.wrap ((j : Int) + 1) = ((j + 1 : Nat) : Int) := by rw [wr (by omega) (by omega)]; omega
    rw [drop_get hlt] at hnum ⊢
    have hkd : n.ks.getD j 0 = n.kd j := rfl
    rw [hkd] at hnum ⊢
    rw [numGo'] at hnum
    by_cases hn : G (n.kd j) fr < 0
    · rw [if_pos hn] at hnum; omega
    rw [if_neg hn] at hnum
    obtain ⟨g1, g2, g3⟩ := hF (n.kd j) fr (kd_mem hlt) hfr (by omega)
    obtain ⟨⟨g', c', x', y'⟩, l1', l2'⟩ := g3 g s fn' y ks r2 l1
    rw [g1] at hnum
    have z := ih (j + 1) m (n.kd j + 1) g' (F (n.kd j) fn' s) (by omega) (by omega) (by omega) (by omega) hnum (X.trans x') y' (ks.ext x'.1) (x'.rowE r2 (by decide) (by decide) (by decide)) (x'.rowE r9 (by decide) (by decide) (by decide)) (is.ext x'.1) l1' (by omega)
    refine ⟨?_, z.2⟩
    rw [List.foldl_cons, s119_1_eq]
    refine BW.ct (decide_eq_true hI) (BW.b (is.ird.at' j hlt).1 (BW.b ((is.ird.at' j hlt).2 g (LF.refl _)) (BW.b rfl (BW.b c' ?_))))
    rw [wj]; exact z.1
theorem l119 {d : Nat} (hd : 1048577 < d) (hT : T.length ≤ 3000) (hN : ∀ n ∈ T, n.t.size ≤ 1048576 ∧ n.ks.length ≤ 1048576) (hG : ∀ (j : Nat) (n : Kn), T[j]? = some n → ∀ k ∈ n.ks, 0 ≤ k ∧ k < j) (ht0 : t0 < b) :
    ∀ (f e : Nat) (i fr : Int), d + f + 2 ≤ e → 0 ≤ i → i < T.length → 0 ≤ fr → 0 ≤ numP T f i fr → WkOk b p t0 rb rx ro nv top T (walkP T f) e i fr := by
  intro f
  induction f with
  | zero => intro e i fr _ _ _ _ h; exact absurd h (by show ¬ (0:Int) ≤ -1; decide)
  | succ f ih =>
    intro e i fr he hi hi2 hfr hnum g s fn y ks r2 l1
    obtain ⟨e, rfl⟩ : ∃ q, e = q + 2 := ⟨e - 2, by omega⟩
    obtain ⟨i, rfl⟩ : ∃ q : Nat, i = q := ⟨i.toNat, by omega⟩
    have hlt : i < T.length := by omega
    have hget : T[i]? = some T[i] := by simp [hlt]
    have hnl := (hN _ (List.getElem_mem hlt)).2
    have hv : walkP T (f + 1) (i : Int) fn s = bdEnd T T[i] i fn s.sn.length (T[i].ks.foldl (fun s k => walkP T f k (if T[i].k = 6 then (i : Int) else fn) s) s) := by
      show (match T[(i : Int).toNat]? with | some n => bdEnd T n (i : Int).toNat fn s.sn.length (n.ks.foldl (fun s k => walkP T f k (if n.k = 6 then (i : Int) else fn) s) s) | none => s) = _
      rw [Int.toNat_natCast, hget]
    have hnum' : 0 ≤ numGo' (numP T f) (i : Int) T[i].ks fr := by
      have : numP T (f + 1) (i : Int) fr = numGo' (numP T f) (i : Int) T[i].ks fr := by
        show (match T[(i : Int).toNat]? with | some n => numGo' (numP T f) (i : Int) n.ks fr | none => -1) = _
        rw [Int.toNat_natCast, hget]
      omega
    obtain ⟨q, kv, q1, is, q2⟩ := ks.at hlt
    obtain ⟨g1, c1, x1, o1⟩ := Own.stN (Own.new (Nat.le_refl g.size) 73 [.int .i64 0, .string ⟨#[]⟩, .int .i64 0, .slice none 0 0]) (kn_aCells is) rfl rfl
    have X1 : Ext g.size g g1 := (Ext.new (Nat.le_refl _) _ _).trans x1
    have hb := y.sz
    have XB := BX.ext X1 hb
    have y1 := y.ext X1
    have r9 := Own.rowE o1.1
    have r2' := XB.rowE r2 (by decide) (by decide) (by decide)
    obtain ⟨sv, v4, sr⟩ := y1.f4
    have lp := wk_loop (M := e + 1) (e := e) (by omega) (G := numP T f) (F := walkP T f) (fn := fn) (fn' := if T[i].k = 6 then (i : Int) else fn) (i := i) (n := T[i]) (had := s.sn.length) hlt hT ht0 (fun k fr' hk h0 h1 => by
      obtain ⟨k0, k1⟩ := hG i _ hget k hk
      have nl := num_le T f k fr' h1 h0
      exact ⟨nl.1, nl.2, ih (e + 1) k fr' (by omega) k0 (by omega) h0 h1⟩) hnl T[i].ks.length 0 (e + 1) fr g1 s (by omega) (by omega) (by omega) hfr (by simpa using hnum') XB y1 (ks.ext XB.1) r2' r9 (is.ext XB.1) l1 (Nat.le_refl _)
    rw [hv]
    refine ⟨?_, lp.2⟩
    have lp1 := lp.1
    rw [c119, e119]
    refine BW.b rfl (BW.b rfl (BW.b y.f0 (BW.b rfl (BW.b rfl (BW.b (ld2 r2.row).1 (BW.b q1 (BW.b (q2 g (Ext.refl _ _)).1 ?_)))))))
    show BW b p t0 rb rx ro T.length g _ ((aSt (g.new 73 [.int .i64 0, .string ⟨#[]⟩, .int .i64 0, .slice none 0 0]) (ptr g.size 0) (knVal T[i] kv) 4).bind _)
    have fin : BW b p t0 rb rx ro T.length g (bdEnd T T[i] i fn s.sn.length (T[i].ks.foldl (fun s k => walkP T f k (if T[i].k = 6 then (i : Int) else fn) s) s)) (s119_0 hk0 (call Try.prog Ms (e + 1)) (e + 1) (ptr p 0) (i : Int) fn (ptr g.size 0) (s.sn.length : Int) (if T[i].k = 6 then (i : Int) else fn) g1) := by
      rw [s119_0_j, s119_0_eq]
      exact BW.b rfl (BW.b (ld4 r9.row).2.2.2.1 (BW.b is.len (BW.b rfl lp1)))
    refine BW.b c1 (BW.b rfl (BW.b rfl (BW.b v4 (BW.b sr.len (BW.b rfl (BW.b rfl (BW.b (ld4 r9.row).1 (BW.b rfl ?_))))))))
    by_cases k6 : T[i].k = 6
    · rw [if_pos k6] at fin ⊢
      exact BW.ct (by rw [k6]; rfl) fin
    · rw [if_neg k6] at fin ⊢
      exact BW.cf (by simp [k6]) fin
end
end Go.Proofs.Ytadmoackacickaa
/- The program's binder: a tree; the program's FreeNames. -/
set_option linter.unusedSimpArgs false
namespace Go.Proofs.Ytadmoackacickaa
open Go Go.AH

theorem rep_bls (n : Nat) : (List.replicate n [Value.bool false]).flatten = bls (List.replicate n false) := by
  induction n with
  | zero => rfl
  | succ n ih => rw [List.replicate_succ, List.flatten_cons, ih]; simp [bls, List.replicate_succ]
def bd0 (N : Nat) : Bd := ⟨List.replicate N 0, List.replicate N false, List.replicate N 0, []⟩
def boundP (T : List Kn) : Bd := walkP T (T.length + 1) ((T.length : Int) - 1) (-1) (bd0 T.length)
theorem RowE.ext {h h' : AHeap} {i : Nat} {e : TypeId} {cs : List Value} (r : RowE h i e cs) (x : Ext h.size h h') : RowE h' i e cs := let ⟨o, a, q1, q2⟩ := r; ⟨o, x.at? (at?_obj a).2.1 a, q1, q2⟩
theorem l74 {d t0 : Nat} (hd : 1048577 < d) {nv : Value} {T : List Kn} (hN : ∀ n ∈ T, n.t.size ≤ 1048576 ∧ n.ks.length ≤ 1048576) {h : AHeap} (R : Right T ((T.length : Int) - 1)) (ks : KSe h.size h nv T) (r2 : RowE h t0 35 [nv, .int .i64 ((T.length : Int) - 1)]) :
    ∃ p rb rx ro g, call Try.prog Ms (d + T.length + 4) 74 [ptr t0 0] h = some (ptr p 0, g) ∧ Ext h.size h g ∧ Bq h.size p t0 rb rx ro T.length g (boundP T) := by
  have hT := R.len
  have hpos := R.pos
  have ht0 : t0 < h.size := let ⟨o, a, _⟩ := r2; (at?_obj a).2.1
  have hcall : call Try.prog Ms (d + T.length + 4) 74 [ptr t0 0] h = evFn hk0 Try.prog (call Try.prog Ms (d + T.length + 3)) M74 (d + T.length + 3) Try.f74 [ptr t0 0] h := c74 _ _ _
  rw [hcall, e74]
  obtain ⟨a0, a1, aN⟩ := ld2 r2.row
  have e1 := Ext.new (Nat.le_refl h.size) 3 (ints (List.replicate T.length 0))
  have o1 := OwnR.new h 3 (ints (List.replicate T.length 0))
  have c1 := mk_some h 3 [.int .i64 0] 8 T.length (by omega) (by omega)
  rw [rep_ints] at c1
  have s1 : (h.new 3 (ints (List.replicate T.length 0))).size = h.size + 1 := rfl
  generalize h.new 3 (ints (List.replicate T.length 0)) = h1 at e1 o1 c1 s1
  have e2 := Ext.new (Nat.le_refl h1.size) 4 (bls (List.replicate T.length false))
  have o2 := OwnR.new h1 4 (bls (List.replicate T.length false))
  have c2 := mk_some h1 4 [.bool false] 1 T.length (by omega) (by omega)
  rw [rep_bls] at c2
  have s2 : (h1.new 4 (bls (List.replicate T.length false))).size = h1.size + 1 := rfl
  generalize h1.new 4 (bls (List.replicate T.length false)) = h2 at e2 o2 c2 s2
  have e3 := Ext.new (Nat.le_refl h2.size) 3 (ints (List.replicate T.length 0))
  have o3 := OwnR.new h2 3 (ints (List.replicate T.length 0))
  have c3 := mk_some h2 3 [.int .i64 0] 8 T.length (by omega) (by omega)
  rw [rep_ints] at c3
  have s3 : (h2.new 3 (ints (List.replicate T.length 0))).size = h2.size + 1 := rfl
  generalize h2.new 3 (ints (List.replicate T.length 0)) = h3 at e3 o3 c3 s3
  have e4 := Ext.new (Nat.le_refl h3.size) 98 [ptr t0 0, slc h.size 0 T.length, slc h1.size 0 T.length, slc h2.size 0 T.length, .slice none 0 0]
  have o4 := OwnR.new h3 98 [ptr t0 0, slc h.size 0 T.length, slc h1.size 0 T.length, slc h2.size 0 T.length, .slice none 0 0]
  have s4 : (h3.new 98 [ptr t0 0, slc h.size 0 T.length, slc h1.size 0 T.length, slc h2.size 0 T.length, .slice none 0 0]).size = h3.size + 1 := rfl
  suffices S : ∃ p rb rx ro g, ((aLd1 (h3.new 98 [ptr t0 0, slc h.size 0 T.length, slc h1.size 0 T.length, slc h2.size 0 T.length, .slice none 0 0]) (ptr t0 1)).bind fun v15 => (asI .i64 v15).bind fun n16 => (call Try.prog Ms (d + T.length + 3) 119 [ptr h3.size 0, .int .i64 n16, .int .i64 (-1)] (h3.new 98 [ptr t0 0, slc h.size 0 T.length, slc h1.size 0 T.length, slc h2.size 0 T.length, .slice none 0 0])).bind fun r17 => some (ptr h3.size 0, r17.2)) = some (ptr p 0, g) ∧ Ext h.size h g ∧ Bq h.size p t0 rb rx ro T.length g (boundP T) by
    obtain ⟨p, rb, rx, ro, g, c, q⟩ := S
    exact ⟨p, rb, rx, ro, g, eb rfl (eb rfl (eb a0 (eb ks.ksl.len (eb rfl (eb c1 (eb c2 (eb c3 (eb rfl (eb rfl c))))))))), q⟩
  generalize h3.new 98 [ptr t0 0, slc h.size 0 T.length, slc h1.size 0 T.length, slc h2.size 0 T.length, .slice none 0 0] = h4 at e4 o4 s4 ⊢
  have E4 := Ext.tr (Ext.tr (Ext.tr e1 e2) e3) e4
  have y : Bq h.size h3.size t0 h.size h1.size h2.size T.length h4 (bd0 T.length) :=
    ⟨by omega, by omega, by omega, by omega, by omega, by simp [bd0], by simp [bd0], by simp [bd0], ⟨_, o4, .inl ⟨rfl, rfl⟩⟩, ((o1.ext e2).ext e3).ext e4, (o2.ext e3).ext e4, o3.ext e4, fun q hq => by simp [bd0] at hq⟩
  have r4 := r2.ext E4
  have hnum : 0 ≤ numP T (T.length + 1) ((T.length : Int) - 1) 0 := by rw [R.num]; omega
  obtain ⟨⟨g, c, x, z⟩, _⟩ := l119 (d := d) hd R.len hN (kids_lo R) ht0 (nv := nv) (top := (T.length : Int) - 1) (b := h.size) (p := h3.size) (rb := h.size) (rx := h1.size) (ro := h2.size) (T.length + 1) (d + T.length + 3) ((T.length : Int) - 1) 0 (by omega) (by omega) (by omega) (by omega) hnum h4 (bd0 T.length) (-1) y (ks.ksl.ext (E4)) r4 (by simp [bd0])
  exact ⟨_, _, _, _, g, eb (ld2 r4.row).2.1 (eb rfl (eb c rfl)), E4.trans x.1, z⟩
end Go.Proofs.Ytadmoackacickaa
/- The program's FreeNames. -/
set_option linter.unusedSimpArgs false
namespace Go.Proofs.Ytadmoackacickaa
open Go Go.AH

def frOne (T : List Kn) (bd : List Int) (j : Nat) (out : List BA) : List BA := match T[j]? with
  | some n => if (n.k = 5 ∨ n.k = 15) ∧ bd.getD j 0 < 0 ∧ hasB out n.t = false then out ++ [n.t] else out
  | none => out
def frI (T : List Kn) (bd : List Int) : Nat → Nat → List BA → List BA
  | 0, _, out => out
  | k + 1, j, out => frI T bd k (j + 1) (frOne T bd j out)
def freeI (T : List Kn) (top : Int) : List BA := if implOk T top = true then frI T (boundP T).bd T.length 0 [] else []
/-- An answer: a row of strings of one's own. -/
def QF (b : Nat) (h0 : AHeap) (xs : List BA) (o : Option (Value × AHeap)) : Prop := ∃ v g, o = some (v, g) ∧ Ext b h0 g ∧ SOwn b g v xs
section
variable {b0 : Nat} {h0 : AHeap} {xs : List BA}
theorem QF.b {α : Type} {o : Option α} {k : α → Option (Value × AHeap)} {v : α} (e : o = some v) (hk : QF b0 h0 xs (k v)) : QF b0 h0 xs (o.bind k) := by rw [e]; exact hk
theorem QF.cf {c : Bool} {x y : Option (Value × AHeap)} (e : c = false) (hk : QF b0 h0 xs y) : QF b0 h0 xs (bif c then x else y) := by rw [e]; exact hk
theorem QF.ct {c : Bool} {x y : Option (Value × AHeap)} (e : c = true) (hk : QF b0 h0 xs x) : QF b0 h0 xs (bif c then x else y) := by rw [e]; exact hk
end
theorem OwnR.lf {h g : AHeap} {i root : Nat} {e : TypeId} {cs : List Value} (x : OwnR h i root e cs) (k : LF h g) (h1 : e ≠ 5) (h2 : e ≠ 9) (h3 : e ≠ 110) : OwnR g i root e cs := let ⟨ep, a⟩ := x; ⟨ep, k.2 i _ a h1 h2 h3⟩
theorem Bq.lf {b p t0 rb rx ro N : Nat} {h g : AHeap} {s : Bd} (x : Bq b p t0 rb rx ro N h s) (k : LF h g) : Bq b p t0 rb rx ro N g s :=
  { x with
    st := let ⟨sv, o, z⟩ := x.st
      ⟨sv, o.lf k (by decide) (by decide) (by decide), by
        rcases z with z | ⟨r, rt', cells, h1, h2, h3, h4, h5, h6⟩
        · exact .inl z
        · exact .inr ⟨r, rt', cells, h1, h2.lf k (by decide) (by decide) (by decide), h3, h4, h5, h6⟩⟩
    ob := x.ob.lf k (by decide) (by decide) (by decide), ox := x.ox.lf k (by decide) (by decide) (by decide), oo := x.oo.lf k (by decide) (by decide) (by decide) }
section
variable {b0 b p t0 rb rx ro : Nat} {nv : Value} {T : List Kn} {s : Bd}
theorem fi_loop {d M : Nat} (hd : 1048577 < d) (hT : T.length ≤ 3000) {h0 : AHeap} : ∀ (k j m : Nat) (g : AHeap) (v : Value) (out : List BA), T.length - j = k → j ≤ T.length → k < m → Ext b0 h0 g → b0 ≤ g.size → SOwn b0 g v out → out.length ≤ j →
    Bq b p t0 rb rx ro T.length g s → KSe g.size g nv T → QF b0 h0 (frI T s.bd k j out) (s38_0 hk0 (call Try.prog Ms (d + 2)) M m v (ptr p 0) nv (T.length : Int) (j : Int) g) := by
  intro k
  induction k with
  | zero =>
    intro j m g v out hk hj hm E hb o hl y ks
    obtain ⟨m, rfl⟩ : ∃ q, m = q + 1 := ⟨m - 1, by omega⟩
    rw [s38_0_eq, frI]
    exact QF.cf (decide_eq_false (by omega)) ⟨v, g, rfl, E, o⟩
  | succ k ih =>
    intro j m g v out hk hj hm E hb o hl y ks
    obtain ⟨m, rfl⟩ : ∃ q, m = q + 1 := ⟨m - 1, by omega⟩
    have hI : ((j : Int) < (T.length : Int)) := by omega
    have hlt : j < T.length := by omega
    have wj : IntKind.i64.wrap ((j : Int) + 1) = ((j + 1 : Nat) : Int) := by rw [wr (by omega) (by omega)]; omega
    have hget : T[j]? = some T[j] := by simp [hlt]
    obtain ⟨q, kv, q1, q2, is⟩ := knotAt ks hget
    rw [s38_0_eq, frI]
    refine QF.ct (decide_eq_true hI) (QF.b q1 (QF.b q2 ?_))
    refine newSt_step (P := QF b0 h0 _) (kn_aCells is) rfl rfl fun p5 g1 x1 o1 _ => ?_
    have r5 := Own.rowE o1
    have L1 := (SF.ext x1).lf
    have y1 := y.ext x1
    have ks1 := (ks.lf L1).mono L1.1
    have oo1 := o.ext x1
    have E1 := E.trans (x1.mono hb)
    have hb1 : b0 ≤ g1.size := by have := x1.size; omega
    have f0 := (ld4 r5.row).1
    have f1 := (ld4 r5.row).2.1
    have no : ∀ r, r = out → QF b0 h0 (frI T s.bd k (j + 1) r) (s38_1 hk0 (call Try.prog Ms (d + 2)) M m v (ptr p 0) (ptr p5 0) nv (T.length : Int) (j : Int) false g1) := by
      rintro _ rfl
      rw [s38_1_j, s38_1_eq, wj]
      exact QF.cf rfl (ih (j + 1) m g1 v _ (by omega) (by omega) (by omega) E1 hb1 oo1 (by omega) y1 ks1)
    have yes : ∀ r, r = out ++ [T[j].t] → QF b0 h0 (frI T s.bd k (j + 1) r) (s38_1 hk0 (call Try.prog Ms (d + 2)) M m v (ptr p 0) (ptr p5 0) nv (T.length : Int) (j : Int) true g1) := by
      rintro _ rfl
      rw [s38_1_j, s38_1_eq, wj]
      refine QF.ct rfl (QF.b rfl (QF.b f1 (QF.b rfl ?_)))
      refine lit_step (P := QF b0 h0 _) [T[j].t] rfl rfl fun p6 g2 x2 o2 => ?_
      obtain ⟨v3, g3, c3, x3, o3, l3⟩ := (oo1.ext x2).app (by have := x2.size; omega) o2.src (by simp; omega)
      have L3 := (SF.ext x2).lf.trans l3
      refine QF.b c3 (ih (j + 1) m g3 v3 _ (by omega) (by omega) (by omega) ((E1.trans (x2.mono hb1)).trans x3) (by have := x2.size; have := x3.size; omega) o3 (by simp; omega) (y1.lf L3) ((ks1.lf L3).mono L3.1))
    have ixi : aIdx (slc rb 0 T.length) (.int .i64 (j : Int)) 1 = some (ptr rb j) := by rw [slc_ix (by omega) (by omega)]; simp
    have bdg : aLd1 g1 (ptr rb j) = some (.int .i64 (s.bd.getD j 0)) := y1.ob.row.ld1 (by simp [ints, show j < s.bd.length by rw [y.nB]; exact hlt])
    have core : (T[j].k = 5 ∨ T[j].k = 15) → ∀ c : Bool, (c = decide (s.bd.getD j 0 < 0)) → QF b0 h0 (frI T s.bd k (j + 1) (frOne T s.bd j out)) (bif c then (aOff (ptr p5 0) 1).bind fun v28 => (aLd1 g1 v28).bind fun v29 => (asS v29).bind fun t30 => (call Try.prog Ms (d + 2) 75 [v, .string t30] g1).bind fun r31 => (asB r31.1).bind fun b32 => s38_1 hk0 (call Try.prog Ms (d + 2)) M m v (ptr p 0) (ptr p5 0) nv (T.length : Int) (j : Int) (!b32) r31.2 else s38_1 hk0 (call Try.prog Ms (d + 2)) M m v (ptr p 0) (ptr p5 0) nv (T.length : Int) (j : Int) false g1) := by
      intro hk5 c hc
      subst hc
      have fo : frOne T s.bd j out = if s.bd.getD j 0 < 0 ∧ hasB out T[j].t = false then out ++ [T[j].t] else out := by
        unfold frOne; rw [hget]; simp only [hk5, true_and]
      by_cases hn : s.bd.getD j 0 < 0
      · refine QF.ct (decide_eq_true hn) (QF.b rfl (QF.b f1 (QF.b rfl (QF.b (l75 hd oo1.src (by omega)) (QF.b rfl ?_)))))
        cases hh : hasB out T[j].t with
        | true => exact no _ (by rw [fo, if_neg (by simp [hh])])
        | false => exact yes _ (by rw [fo, if_pos ⟨hn, hh⟩])
      · exact QF.cf (decide_eq_false hn) (no _ (by rw [fo, if_neg (fun e => hn e.1)]))
    refine QF.b rfl (QF.b f0 (QF.b rfl ?_))
    by_cases k5 : T[j].k = 5
    · refine QF.ct (by rw [k5]; rfl) (QF.b rfl (QF.b rfl (QF.b y1.f1 (QF.b ixi (QF.b bdg (QF.b rfl ?_))))))
      exact core (.inl k5) _ rfl
    · refine QF.cf (by simp [k5]) (QF.b rfl (QF.b f0 (QF.b rfl ?_)))
      by_cases k15 : T[j].k = 15
      · refine QF.ct (by rw [k15]; rfl) (QF.b rfl (QF.b rfl (QF.b y1.f1 (QF.b ixi (QF.b bdg (QF.b rfl ?_))))))
        exact core (.inr k15) _ rfl
      · exact QF.cf (by simp [k15]) (no _ (by unfold frOne; rw [hget]; simp [k5, k15]))
end
theorem frI_len (T : List Kn) (bd : List Int) : ∀ (k j : Nat) (out : List BA), (frI T bd k j out).length ≤ out.length + k
  | 0, _, out => by rw [frI]; omega
  | k + 1, j, out => by
    have := frI_len T bd k (j + 1) (frOne T bd j out)
    have h2 : (frOne T bd j out).length ≤ out.length + 1 := by
      unfold frOne
      split
      · split
        · simp
        · omega
      · omega
    rw [frI]; omega
theorem l38 {d : Nat} (hd : 1048577 < d) {nv : Value} {T : List Kn} {top : Int} {h : AHeap} (x : KSe h.size h nv T) (hb : T.length ≤ 1048576) (hN : ∀ n ∈ T, n.t.size ≤ 1048576 ∧ n.ks.length ≤ 1048576) :
    RS h (freeI T top) (call Try.prog Ms (d + 13010 + 8) 38 [trVal nv top] h) := by
  have hcall : call Try.prog Ms (d + 13010 + 8) 38 [trVal nv top] h = evFn hk0 Try.prog (call Try.prog Ms (d + 13010 + 7)) M38 (d + 13010 + 7) Try.f38 [trVal nv top] h := c38 _ _ _
  rw [hcall, e38]
  refine RS.b (tr_aCells x.ksl top) ?_
  refine new_step (P := RS h (freeI T top)) fun t0 h1 x1 o1 _ => ?_
  refine RS.lit [] rfl rfl fun p4 h2 x2 o2 => ?_
  have E2 := Ext.tr x1 x2
  have r2 := (Own.rowE o1).ext x2
  have L2 := (SF.ext E2).lf
  have ks2 := (x.lf L2).mono L2.1
  obtain ⟨h3, c3, x3⟩ := l22 (d := d + 9998) (by omega) (top := top) ks2.ksl (Nat.le_refl _) hb hN
  have c3' : call Try.prog Ms (d + 13010 + 7) 22 [trVal nv top] h2 = some (.bool (implOk T top), h3) := by rw [show d + 13010 + 7 = d + 9998 + 3010 + 9 by omega]; exact c3
  have E3 := Ext.tr E2 x3
  have o3 := o2.ext x3
  have lh1 : h.size ≤ h1.size := x1.size
  refine RS.b (ld2 r2.row).2.2 (RS.b c3' (RS.b rfl ?_))
  cases hok : implOk T top with
  | false =>
    refine RS.ct rfl (RS.fin E3 o3 lh1 ?_)
    unfold freeI; rw [hok]; rfl
  | true =>
    have R := right_of (by rw [ok_same]; exact hok : specOk T top = true)
    have hT := R.top
    subst hT
    have r3 := r2.ext x3
    have L3 := (SF.ext x3).lf
    have ks3 := (ks2.lf L3).mono L3.1
    have hpos := R.pos
    have hlen := R.len
    obtain ⟨p, rb, rx, ro, g, c4, x4, y⟩ := l74 (d := d + 13010 + 7 - T.length - 4) (by omega) hN R ks3 r3
    have c4' : call Try.prog Ms (d + 13010 + 7) 74 [ptr t0 0] h3 = some (ptr p 0, g) := by rw [show d + 13010 + 7 = d + 13010 + 7 - T.length - 4 + T.length + 4 by omega]; exact c4
    have r4 := r3.ext x4
    have L4 := (SF.ext x4).lf
    have ks4 := (ks3.lf L4).mono L4.1
    have E4 := Ext.tr E3 x4
    refine RS.cf rfl (RS.b c4' (RS.b rfl (RS.b (ld2 r4.row).1 (RS.b ks4.ksl.len (RS.b rfl ?_)))))
    obtain ⟨v, k, q, xx, oo⟩ := fi_loop (b0 := h.size) (d := d + 13010 + 5) (M := d + 13010 + 7) (by omega) hlen T.length 0 (d + 13010 + 7) g p4 [] (by omega) (by omega) (by omega) E4 E4.size ((o3.ext x4).mono lh1) (Nat.le_refl _) y ks4
    refine ⟨v, k, ?_, xx, ?_⟩
    · exact q
    · unfold freeI; rw [if_pos hok]; exact oo
end Go.Proofs.Ytadmoackacickaa
