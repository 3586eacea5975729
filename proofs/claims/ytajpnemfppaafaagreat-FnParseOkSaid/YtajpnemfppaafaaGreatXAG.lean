import Derived.Test.YtajpnemfppaafaaGreatXAF
import Derived.Test.YtajpnemfppaafaaGreatXAD
import Derived.KernelRfl
import Derived.Test.YtajpnemfppaafaaGreatProg
set_option linter.unusedSimpArgs false
set_option linter.unusedVariables false
/- The plain law: both TreeOk say the same. -/
namespace Go.Proofs.YtajpnemfppaafaaGreat
open Go Go.AH
theorem cls_ex (x : Int) : clsOk 1 x = isEx x := by
 unfold clsOk cls isEx
 rw [if_neg (by decide)]
 cases inR x 1 13 with
 | true => rfl
 | false =>
  rw [if_neg (by simp)]
  split
  ·rfl
  ·split
   ·rfl
   ·split
    ·rfl
    ·split <;> rfl
theorem ex_not {x : Int} (h : ¬ (1 ≤ x ∧ x ≤ 13)) : inR x 1 13 = false := by unfold inR; simp; omega
theorem st_not {x : Int} (h : ¬ (14 ≤ x ∧ x ≤ 20)) : inR x 14 20 = false := by unfold inR; simp; omega
theorem cls_st (x : Int) : clsOk 2 x = isSt x := by
 unfold clsOk cls isSt
 rw [if_neg (by decide)]
 by_cases h1 : 1 ≤ x ∧ x ≤ 13
 ·have a : inR x 1 13 = true := by unfold inR; simp; omega
  rw [a, if_pos rfl, st_not (by omega)]; rfl
 ·rw [ex_not h1, if_neg (by simp)]
  cases inR x 14 20 with
  | true => rfl
  | false =>
   rw [if_neg (by simp)]
   split
   ·rfl
   ·split
    ·rfl
    ·split <;> rfl
theorem cls_n (c : Int) (hc : c = 3 ∨ c = 4) (x : Int) : clsOk c x = (x == if c = 3 then 21 else 22) := by
 have hm : cls x = if inR x 1 13 = true then 1 else if inR x 14 20 = true then 2 else if x = 21 then 3 else if x = 22 then 4 else if x = 23 ∨ x = 24 then 5 else 0 := rfl
 unfold clsOk
 by_cases h1 : 1 ≤ x ∧ x ≤ 13
 ·have a : inR x 1 13 = true := by unfold inR; simp; omega
  rw [hm, a, if_pos rfl]
  rcases hc with rfl | rfl
  ·rw [if_neg (by decide), if_pos rfl, beq_eq_false_iff_ne.2 (show x ≠ 21 by omega)]; rfl
  ·rw [if_neg (by decide), if_neg (by decide), beq_eq_false_iff_ne.2 (show x ≠ 22 by omega)]; rfl
 ·by_cases h2 : 14 ≤ x ∧ x ≤ 20
  ·have b : inR x 14 20 = true := by unfold inR; simp; omega
   rw [hm, ex_not h1, b, if_neg (c := false = true) (by simp), if_pos (c := true = true) rfl]
   rcases hc with rfl | rfl
   ·rw [if_neg (by decide), if_pos rfl, beq_eq_false_iff_ne.2 (show x ≠ 21 by omega)]; rfl
   ·rw [if_neg (by decide), if_neg (by decide), beq_eq_false_iff_ne.2 (show x ≠ 22 by omega)]; rfl
  ·rw [hm, ex_not h1, st_not h2, if_neg (c := false = true) (by simp), if_neg (c := false = true) (by simp)]
   by_cases k1 : x = 21
   ·subst k1; rcases hc with rfl | rfl <;> rfl
   ·by_cases k2 : x = 22
    ·subst k2; rcases hc with rfl | rfl <;> rfl
    ·rw [if_neg k1, if_neg k2]
     have : (if x = 23 ∨ x = 24 then (5 : Int) else 0) ≠ 3 ∧ (if x = 23 ∨ x = 24 then (5 : Int) else 0) ≠ 4 := by split <;> decide
     rcases hc with rfl | rfl
     ·rw [if_neg (by decide), beq_eq_false_iff_ne.2 this.1, if_pos rfl, beq_eq_false_iff_ne.2 k1]; rfl
     ·rw [if_neg (by decide), beq_eq_false_iff_ne.2 this.2, if_neg (by decide), beq_eq_false_iff_ne.2 k2]; rfl
theorem cls_bl (x : Int) : clsOk 3 x = isBl x := cls_n 3 (.inl rfl) x
theorem cls_pr (x : Int) : clsOk 4 x = (x == 22) := cls_n 4 (.inr rfl) x
theorem cls_fi (x : Int) : clsOk 5 x = (x == 23 || x == 24) := by
 have hm : cls x = if inR x 1 13 = true then 1 else if inR x 14 20 = true then 2 else if x = 21 then 3 else if x = 22 then 4 else if x = 23 ∨ x = 24 then 5 else 0 := rfl
 unfold clsOk
 rw [if_neg (by decide)]
 by_cases h1 : 1 ≤ x ∧ x ≤ 13
 ·have a : inR x 1 13 = true := by unfold inR; simp; omega
  rw [hm, a, if_pos rfl, beq_eq_false_iff_ne.2 (show x ≠ 23 by omega), beq_eq_false_iff_ne.2 (show x ≠ 24 by omega)]; rfl
 ·by_cases h2 : 14 ≤ x ∧ x ≤ 20
  ·have b : inR x 14 20 = true := by unfold inR; simp; omega
   rw [hm, ex_not h1, b, if_neg (c := false = true) (by simp), if_pos (c := true = true) rfl, beq_eq_false_iff_ne.2 (show x ≠ 23 by omega), beq_eq_false_iff_ne.2 (show x ≠ 24 by omega)]; rfl
  ·rw [hm, ex_not h1, st_not h2, if_neg (c := false = true) (by simp), if_neg (c := false = true) (by simp)]
   by_cases k1 : x = 21
   ·subst k1; rfl
   ·by_cases k2 : x = 22
    ·subst k2; rfl
    ·rw [if_neg k1, if_neg k2]
     by_cases k3 : x = 23
     ·subst k3; rfl
     ·by_cases k4 : x = 24
      ·subst k4; rfl
      ·rw [if_neg (fun h => h.elim k3 k4), beq_eq_false_iff_ne.2 k3, beq_eq_false_iff_ne.2 k4]; rfl
theorem cls_call (x : Int) : clsOk 6 x = (x == 9) := rfl
def shP (k : Int) (kk : List Int) : Bool := decide ((shape k kk.length).length = kk.length) && (kk.zip (shape k kk.length)).all fun p => clsOk p.2 p.1
theorem zip_rep (c : Int) : ∀ kk : List Int, ((kk.zip (List.replicate kk.length c)).all fun p => clsOk p.2 p.1) = kk.all (clsOk c)
 | [] => rfl
 | x :: kk => by rw [List.length_cons, List.replicate_succ, List.zip_cons_cons, List.all_cons, List.all_cons, zip_rep c kk]
theorem sh_rep (c : Int) (kk : List Int) : (decide ((List.replicate kk.length c).length = kk.length) && (kk.zip (List.replicate kk.length c)).all fun p => clsOk p.2 p.1) = kk.all (clsOk c) := by
 rw [zip_rep, List.length_replicate, decide_eq_true rfl, Bool.true_and]
theorem are_zip : ∀ (kk cs : List Int), ((kk.zip (cs.map clsOk)).all fun p => p.2 p.1) = ((kk.zip cs).all fun p => clsOk p.2 p.1)
 | [], _ => by simp
 | _ :: _, [] => by simp
 | x :: kk, c :: cs => by rw [List.map_cons, List.zip_cons_cons, List.zip_cons_cons, List.all_cons, List.all_cons, are_zip kk cs]
theorem sh_are (cs kk : List Int) : (decide (cs.length = kk.length) && (kk.zip cs).all fun p => clsOk p.2 p.1) = kidsAreP kk (cs.map clsOk) := by
 unfold kidsAreP
 rw [List.length_map, are_zip]
 congr 1
 rw [Bool.eq_iff_iff]; simp [eq_comm]
theorem fEx : clsOk 1 = isEx := funext cls_ex
theorem fSt : clsOk 2 = isSt := funext cls_st
theorem fBl : clsOk 3 = isBl := funext cls_bl
theorem fPr : clsOk 4 = fun x => x == 22 := funext cls_pr
theorem fFi : clsOk 5 = fun x => x == 23 || x == 24 := funext cls_fi
theorem fCa : clsOk 6 = fun x => x == 9 := funext cls_call
theorem sh_fn (kk : List Int) : (decide (0 < kk.length) && (kk.dropLast.all (· == 22) && kk.getLast? == some 21)) = (decide ((List.replicate (kk.length - 1) (4 : Int) ++ [3]).length = kk.length) && (kk.zip (List.replicate (kk.length - 1) 4 ++ [3])).all fun p => clsOk p.2 p.1) := by
 rcases List.eq_nil_or_concat kk with rfl | ⟨ys, y, rfl⟩
 ·rfl
 ·rw [List.concat_eq_append]
  have hl : (ys ++ [y]).length = ys.length + 1 := by simp
  have hr : (List.replicate ys.length (4 : Int) ++ [3]).length = ys.length + 1 := by simp
  rw [hl, Nat.add_sub_cancel, hr, decide_eq_true (show 0 < ys.length + 1 by omega), decide_eq_true (show ys.length + 1 = ys.length + 1 from rfl), Bool.true_and, Bool.true_and]
  rw [List.zip_append (by simp), List.all_append, zip_rep, fPr, List.dropLast_concat, List.getLast?_concat]
  have : (List.zip [y] [(3 : Int)]).all (fun p => clsOk p.2 p.1) = (some y == some (21 : Int)) := by
   show (clsOk 3 y && true) = _
   rw [cls_bl, Bool.and_true]; rfl
  rw [this]
theorem sh_call (kk : List Int) : (decide (0 < kk.length) && kk.all isEx) = (decide (([1] ++ List.replicate (kk.length - 1) (1 : Int)).length = kk.length) && (kk.zip ([1] ++ List.replicate (kk.length - 1) (1 : Int))).all fun p => clsOk p.2 p.1) := by
 cases kk with
 | nil => rfl
 | cons x kk =>
  rw [List.length_cons, Nat.add_sub_cancel, show [(1 : Int)] ++ List.replicate kk.length 1 = List.replicate (x :: kk).length 1 from rfl]
  have := sh_rep 1 (x :: kk)
  rw [fEx] at this
  rw [List.length_cons] at this
  rw [List.length_cons, this, decide_eq_true (show 0 < kk.length + 1 by omega), Bool.true_and]
theorem sh_if (kk : List Int) : (kidsAreP kk [isEx, isBl] || kidsAreP kk [isEx, isBl, isBl]) = (decide ((if kk.length = 3 then [(1 : Int), 3, 3] else [1, 3]).length = kk.length) && (kk.zip (if kk.length = 3 then [(1 : Int), 3, 3] else [1, 3])).all fun p => clsOk p.2 p.1) := by
 by_cases h : kk.length = 3
 ·rw [if_pos h, sh_are [1, 3, 3] kk]
  have : kidsAreP kk [isEx, isBl] = false := by unfold kidsAreP; rw [decide_eq_false (by rw [h]; decide)]; rfl
  rw [this, Bool.false_or]
  show _ = kidsAreP kk [clsOk 1, clsOk 3, clsOk 3]
  rw [fEx, fBl]
 ·rw [if_neg h, sh_are [1, 3] kk]
  have : kidsAreP kk [isEx, isBl, isBl] = false := by unfold kidsAreP; rw [decide_eq_false (by simpa using h)]; rfl
  rw [this, Bool.or_false]
  show _ = kidsAreP kk [clsOk 1, clsOk 3]
  rw [fEx, fBl]
theorem sh_nil (kk : List Int) : decide (kk.length = 0) = (decide (([] : List Int).length = kk.length) && (kk.zip ([] : List Int)).all fun p => clsOk p.2 p.1) := by
 rw [List.zip_nil_right, List.all_nil, Bool.and_true, Bool.eq_iff_iff]; simp [eq_comm]
theorem kids_shape {k : Int} (h1 : 1 ≤ k) (h2 : k ≤ 24) (kk : List Int) : kidsP k kk = shP k kk := by
 have A1 : kidsAreP kk [isEx] = (decide ([(1 : Int)].length = kk.length) && (kk.zip [(1 : Int)]).all fun p => clsOk p.2 p.1) := by rw [sh_are [1] kk]; show _ = kidsAreP kk [clsOk 1]; rw [fEx]
 have A2 : kidsAreP kk [isEx, isEx] = (decide ([(1 : Int), 1].length = kk.length) && (kk.zip [(1 : Int), 1]).all fun p => clsOk p.2 p.1) := by rw [sh_are [1, 1] kk]; show _ = kidsAreP kk [clsOk 1, clsOk 1]; rw [fEx]
 have A3 : kidsAreP kk [isEx, isEx, isEx] = (decide ([(1 : Int), 1, 1].length = kk.length) && (kk.zip [(1 : Int), 1, 1]).all fun p => clsOk p.2 p.1) := by rw [sh_are [1, 1, 1] kk]; show _ = kidsAreP kk [clsOk 1, clsOk 1, clsOk 1]; rw [fEx]
 have A4 : kidsAreP kk [isEx, isBl] = (decide ([(1 : Int), 3].length = kk.length) && (kk.zip [(1 : Int), 3]).all fun p => clsOk p.2 p.1) := by rw [sh_are [1, 3] kk]; show _ = kidsAreP kk [clsOk 1, clsOk 3]; rw [fEx, fBl]
 have A5 : kidsAreP kk [fun k => k == 9] = (decide ([(6 : Int)].length = kk.length) && (kk.zip [(6 : Int)]).all fun p => clsOk p.2 p.1) := by rw [sh_are [6] kk]; show _ = kidsAreP kk [clsOk 6]; rw [fCa]
 have B5 := sh_rep 5 kk
 rw [fFi] at B5
 have B2 := sh_rep 2 kk
 rw [fSt] at B2
 have : k = 1 ∨ k = 2 ∨ k = 3 ∨ k = 4 ∨ k = 5 ∨ k = 6 ∨ k = 7 ∨ k = 8 ∨ k = 9 ∨ k = 10 ∨ k = 11 ∨ k = 12 ∨ k = 13 ∨ k = 14 ∨ k = 15 ∨ k = 16 ∨ k = 17 ∨ k = 18 ∨ k = 19 ∨ k = 20 ∨ k = 21 ∨ k = 22 ∨ k = 23 ∨ k = 24 := by omega
 rcases this with rfl | rfl | rfl | rfl | rfl | rfl | rfl | rfl | rfl | rfl | rfl | rfl | rfl | rfl | rfl | rfl | rfl | rfl | rfl | rfl | rfl | rfl | rfl | rfl <;>
  first | exact sh_nil kk | exact sh_fn kk | exact B5.symm | exact A2 | exact sh_call kk | exact A1 | exact A3 | exact sh_if kk | exact A4 | exact A5 | exact B2.symm
structure Good (T : List Kn) (j : Nat) (n : Kn) : Prop where
  rng : ∀ k ∈ n.ks, 0 ≤ k ∧ k < j
  has : hasP n = true
  knd : 1 ≤ n.k ∧ n.k ≤ 24
  shp : shP n.k (n.ks.map (kd T)) = true
theorem kidsP_range {k : Int} {kk : List Int} (h : kidsP k kk = true) : 1 ≤ k ∧ k ≤ 24 := by
  by_cases hk : 1 ≤ k ∧ k ≤ 24
  · exact hk
  · exfalso
    have ne : ∀ c : Int, 1 ≤ c → c ≤ 24 → (k == c) = false := fun c a b => beq_eq_false_iff_ne.2 (by omega)
    unfold kidsP at h
    have l1 : leaf k = false := by unfold leaf; rw [ne 1 (by decide) (by decide), ne 2 (by decide) (by decide), ne 3 (by decide) (by decide), ne 4 (by decide) (by decide), ne 5 (by decide) (by decide), ne 22 (by decide) (by decide)]; rfl
    have l2 : two2 k = false := by unfold two2; rw [ne 8 (by decide) (by decide), ne 10 (by decide) (by decide), ne 12 (by decide) (by decide), ne 13 (by decide) (by decide), ne 24 (by decide) (by decide)]; rfl
    have l3 : one1 k = false := by unfold one1; rw [ne 11 (by decide) (by decide), ne 14 (by decide) (by decide), ne 15 (by decide) (by decide), ne 19 (by decide) (by decide), ne 23 (by decide) (by decide)]; rfl
    rw [l1, l2, l3, if_neg (by simp), if_neg (by omega), if_neg (by omega), if_neg (by simp), if_neg (by omega), if_neg (by simp), if_neg (by omega), if_neg (by omega), if_neg (by omega), if_neg (by omega), if_neg (by omega)] at h
    cases h
theorem good_iff {T : List Kn} {j : Nat} {n : Kn} : nodeOkP T j n = true ↔ Good T j n := by
  unfold nodeOkP
  simp only [Bool.and_eq_true, List.all_eq_true]
  constructor
  · rintro ⟨h1, h2, h3⟩
    have hr := kidsP_range h3
    refine ⟨fun k hk => ?_, h2, hr, by rw [← kids_shape hr.1 hr.2]; exact h3⟩
    have := h1 k hk
    unfold inR at this; simp at this; omega
  · rintro ⟨h1, h2, h3, h4⟩
    refine ⟨fun k hk => ?_, h2, by rw [kids_shape h3.1 h3.2]; exact h4⟩
    have := h1 k hk
    unfold inR; simp; omega
def OwnR (h : AHeap) (i root : Nat) (e : TypeId) (cs : List Value) : Prop := ∃ ep, h.at? i = some ⟨root, ep, false, e, cs⟩
theorem OwnR.own {h : AHeap} {i root b : Nat} {e : TypeId} {cs : List Value} (x : OwnR h i root e cs) (hb : b ≤ root) : Own b h i e cs := let ⟨ep, a⟩ := x; ⟨root, ep, a, hb⟩
theorem OwnR.lt {h : AHeap} {i root : Nat} {e : TypeId} {cs : List Value} (x : OwnR h i root e cs) : root ≤ i ∧ i < h.size := let ⟨_, a⟩ := x; ⟨(at?_obj a).2.2.1, (at?_obj a).2.1⟩
theorem OwnR.ext {h h' : AHeap} {i root : Nat} {e : TypeId} {cs : List Value} (x : OwnR h i root e cs) (k : Ext h.size h h') : OwnR h' i root e cs := let ⟨ep, a⟩ := x; ⟨ep, k.at? (at?_obj a).2.1 a⟩
theorem OwnR.new (h : AHeap) (e : TypeId) (cs : List Value) : OwnR (h.new e cs) h.size h.size e cs := ⟨_, at?_new_same h e cs⟩
theorem OwnR.row {h : AHeap} {i root : Nat} {e : TypeId} {cs : List Value} (x : OwnR h i root e cs) : Row h i cs := let ⟨_, a⟩ := x; ⟨_, a, rfl⟩
noncomputable section
variable (hk : Hk (Value × AHeap)) (C : ACall) (N : Nat)
def F430_0 : Nx (Value × AHeap) := evSt hk Tp C M430 N Tryz.f430 [1, 1, 0, 1, 1] []
def s430_0 (x0 x5 : Value) (x71 : Bool) (h : AHeap) := hk 100009 (⟨96, [(0, x0), (5, x5), (71, .bool x71)]⟩) h (F430_0 hk C N)
def F430_1 : Nx (Value × AHeap) := evSt hk Tp C M430 N Tryz.f430 [1, 1, 1] []
def s430_1 (x0 : Value) (h : AHeap) := hk 13 (⟨96, [(0, x0)]⟩) h (F430_1 hk C N)
theorem e430 (x0 : Value) (h : AHeap) : evFn hk Tp C M430 N Tryz.f430 [x0] h =
  (C 194 [x0, .string (⟨#[91]⟩)] h).bind fun r1 => (asB r1.1).bind fun b2 => bif b2 then (C 197 [x0] r1.2).bind fun r3 => (asI .i64 r3.1).bind fun n4 => (C 196 [x0, .string (⟨#[93]⟩)] r3.2).bind fun r5 => (C 196 [x0, .string (⟨#[61]⟩)] r5.2).bind fun r6 => (C 197 [x0] r6.2).bind fun r7 => (asI .i64 r7.1).bind fun n8 => aNewS r7.2 3 [.int .i64 n4, .int .i64 n8] 2 fun p9 h10 => (C 102 [x0, .int .i64 24, .string ⟨#[]⟩, .int .i64 0, p9] h10).bind fun r11 => (asI .i64 r11.1).bind fun n12 => some (.int .i64 n12, r11.2) else (C 281 [x0] r1.2).bind fun r13 => aNew r13.2 233 [.int .i64 0, .int .i64 0, .string ⟨#[]⟩, .int .i64 0] fun p14 h15 => (aSt h15 p14 r13.1 4).bind fun h16 => (aOff p14 0).bind fun v17 => (aLd1 h16 v17).bind fun v18 => (asI .i64 v18).bind fun n19 => bif n19 == 1 then (aNil x0).bind fun v20 => (aOff v20 1).bind fun v21 => (aLd1 h16 v21).bind fun v22 => (asI .i64 v22).bind fun n23 => (aNil x0).bind fun v24 => (aOff v24 0).bind fun v25 => (aLd1 h16 v25).bind fun v26 => (aLen v26).bind fun v27 => (asI .i64 v27).bind fun n28 => bif decide ((IntKind.i64.wrap (n23 + 1)) < n28) then (aNil x0).bind fun v29 => (aOff v29 0).bind fun v30 => (aLd1 h16 v30).bind fun v31 => (aNil x0).bind fun v32 => (aOff v32 1).bind fun v33 => (aLd1 h16 v33).bind fun v34 => (asI .i64 v34).bind fun n35 => (aIdx v31 (.int .i64 (IntKind.i64.wrap (n35 + 1))) 4).bind fun v36 => (aOff v36 0).bind fun v37 => (aLd1 h16 v37).bind fun v38 => (asI .i64 v38).bind fun n39 => bif n39 == 5 then (aNil x0).bind fun v40 => (aOff v40 0).bind fun v41 => (aLd1 h16 v41).bind fun v42 => (aNil x0).bind fun v43 => (aOff v43 1).bind fun v44 => (aLd1 h16 v44).bind fun v45 => (asI .i64 v45).bind fun n46 => (aIdx v42 (.int .i64 (IntKind.i64.wrap (n46 + 1))) 4).bind fun v47 => (aOff v47 2).bind fun v48 => (aLd1 h16 v48).bind fun v49 => (asS v49).bind fun t50 => s430_0 hk C N x0 p14 (t50.toList == (⟨#[61]⟩ : ByteArray).toList) h16 else s430_0 hk C N x0 p14 false h16 else s430_0 hk C N x0 p14 false h16 else s430_0 hk C N x0 p14 false h16 := by kernel_rfl
theorem s430_0_j (x0 x5 : Value) (x71 : Bool) (h : AHeap) : s430_0 hk0 C N x0 x5 x71 h = F430_0 hk0 C N (⟨96, [(0, x0), (5, x5), (71, .bool x71)]⟩) h := by delta s430_0; exact hk0_app _ _ _ _
theorem s430_0_eq (x0 x5 : Value) (x71 : Bool) (h : AHeap) : F430_0 hk C N (⟨96, [(0, x0), (5, x5), (71, .bool x71)]⟩) h =
  bif x71 then (aNil x0).bind fun v51 => (aOff v51 1).bind fun v52 => (aLd1 h v52).bind fun v53 => (asI .i64 v53).bind fun n54 => (aNil x0).bind fun v55 => (aOff v55 1).bind fun v56 => (aSt h v56 (.int .i64 (IntKind.i64.wrap (n54 + 2))) 1).bind fun h57 => (aOff x5 2).bind fun v58 => (aLd1 h57 v58).bind fun v59 => (asS v59).bind fun t60 => (C 102 [x0, .int .i64 4, .string t60, .int .i64 0, (.slice none 0 0)] h57).bind fun r61 => (asI .i64 r61.1).bind fun n62 => (C 197 [x0] r61.2).bind fun r63 => (asI .i64 r63.1).bind fun n64 => aNewS r63.2 3 [.int .i64 n62, .int .i64 n64] 2 fun p65 h66 => (C 102 [x0, .int .i64 24, .string ⟨#[]⟩, .int .i64 0, p65] h66).bind fun r67 => (asI .i64 r67.1).bind fun n68 => some (.int .i64 n68, r67.2) else s430_1 hk C N x0 h := by kernel_rfl
theorem s430_1_j (x0 : Value) (h : AHeap) : s430_1 hk0 C N x0 h = F430_1 hk0 C N (⟨96, [(0, x0)]⟩) h := by delta s430_1; exact hk0_app _ _ _ _
theorem s430_1_eq (x0 : Value) (h : AHeap) : F430_1 hk C N (⟨96, [(0, x0)]⟩) h =
  (C 197 [x0] h).bind fun r69 => (asI .i64 r69.1).bind fun n70 => aNewS r69.2 3 [.int .i64 n70] 1 fun p71 h72 => (C 102 [x0, .int .i64 23, .string ⟨#[]⟩, .int .i64 0, p71] h72).bind fun r73 => (asI .i64 r73.1).bind fun n74 => some (.int .i64 n74, r73.2) := by kernel_rfl
theorem c430 (d : Nat) (args : List Value) (h : AHeap) : call Tp Ms (d + 1) 430 args h = evFn hk0 Tp (call Tp Ms d) M430 d Tryz.f430 args h := by kernel_rfl
end
noncomputable section
variable (hk : Hk (Value × AHeap)) (C : ACall) (N : Nat)
theorem e343 (h : AHeap) : evFn hk Tp C M343 N Tryz.f343 [] h =
  aNewS h 9 [.string ⟨#[]⟩, .string (⟨#[43]⟩), .string (⟨#[45]⟩), .string (⟨#[42]⟩), .string (⟨#[47]⟩), .string (⟨#[37]⟩), .string (⟨#[46, 46]⟩), .string (⟨#[61, 61]⟩), .string (⟨#[126, 61]⟩), .string (⟨#[60]⟩), .string (⟨#[60, 61]⟩)] 11 fun p1 h2 => some (p1, h2) := by kernel_rfl
theorem c343 (d : Nat) (args : List Value) (h : AHeap) : call Tp Ms (d + 1) 343 args h = evFn hk0 Tp (call Tp Ms d) M343 d Tryz.f343 args h := by kernel_rfl
end
def SF (h g : AHeap) : Prop := h.size ≤ g.size ∧ ∀ j o, h.at? j = some o → o.elem ≠ 5 → o.elem ≠ 194 → g.at? j = some o
def LF (h g : AHeap) : Prop := h.size ≤ g.size ∧ ∀ j o, h.at? j = some o → o.elem ≠ 5 → o.elem ≠ 9 → o.elem ≠ 194 → g.at? j = some o
theorem SF.refl (h : AHeap) : SF h h := ⟨Nat.le_refl _, fun _ _ a _ _ => a⟩
theorem RowE.sf {h g : AHeap} {i : Nat} {e : TypeId} {cs : List Value} (x : RowE h i e cs) (k : SF h g) (h1 : e ≠ 5) (h3 : e ≠ 194) : RowE g i e cs := let ⟨o, a, b, c⟩ := x; ⟨o, k.2 i o a (by rw [b]; exact h1) (by rw [b]; exact h3), b, c⟩
def ixP (v : Value) (j : Nat) : Value := (aIdx v (.int .i64 (j : Int)) 1).getD junk
def strs (xs : List ByteArray) : List Value := xs.map Value.string
structure SSrc (h : AHeap) (v : Value) (xs : List ByteArray) : Prop where
 len : aLen v = some (.int .i64 xs.length)
 src : ∀ g, SF h g → aSrc g 1 v = some (xs.length, strs xs)
 at' : ∀ (j : Nat) (hj : j < xs.length), aIdx v (.int .i64 (j : Int)) 1 = some (ixP v j) ∧ ∀ g, SF h g → aLd1 g (ixP v j) = some (.string xs[j])
theorem SSrc.of {h : AHeap} {i : Nat} {xs : List ByteArray} (x : RowE h i 9 (strs xs)) : SSrc h (slc i 0 xs.length) xs := by
 have hx : ∀ j, j < xs.length → aIdx (slc i 0 xs.length) (.int .i64 (j : Int)) 1 = some (ptr i j) := fun j hj => by simp [aIdx, slc, hj]
 refine ⟨rfl, fun g e => ?_, fun j hj => ⟨?_, fun g e => ?_⟩⟩
 ·have r := (x.sf e (by decide) (by decide)).row
  have := r.src (off := 0) (n := xs.length) (esz := 1) (by simp [strs])
  rw [this, Nat.mul_one, List.drop_zero, List.take_of_length_le (by simp [strs])]
 ·rw [hx j hj]; unfold ixP; rw [hx j hj]; rfl
 ·have r := (x.sf e (by decide) (by decide)).row
  unfold ixP; rw [hx j hj]
  exact r.ld1 (by simp [strs, hj])
theorem SSrc.nil (h : AHeap) : SSrc h (.slice none 0 0) [] := ⟨rfl, fun _ _ => rfl, fun j hj => by simp at hj⟩
def SOwn (b : Nat) (h : AHeap) (v : Value) (xs : List ByteArray) : Prop := ∃ i, v = slc i 0 xs.length ∧ Own b h i 9 (strs xs)
theorem SOwn.src {b : Nat} {h : AHeap} {v : Value} {xs : List ByteArray} (x : SOwn b h v xs) : SSrc h v xs := let ⟨i, e, o⟩ := x; e ▸ SSrc.of (Own.rowE o)
theorem SOwn.ext {b : Nat} {h g : AHeap} {v : Value} {xs : List ByteArray} (x : SOwn b h v xs) (e : Ext h.size h g) : SOwn b g v xs := let ⟨i, q, o⟩ := x; ⟨i, q, o.ext e o.lt.2⟩
theorem SOwn.new {h : AHeap} (xs : List ByteArray) : SOwn h.size (h.new 9 (strs xs)) (slc h.size 0 xs.length) xs := ⟨h.size, rfl, Own.new (Nat.le_refl _) 9 (strs xs)⟩
theorem SOwn.app {b : Nat} {h : AHeap} {v x : Value} {xs ys : List ByteArray} (o : SOwn b h v xs) (hb : b ≤ h.size) (y : SSrc h x ys) (hl : xs.length + ys.length ≤ 1000000000000) :
  ∃ v' h', aApp h 9 1 16 v x = some (v', h') ∧ Ext b h h' ∧ SOwn b h' v' (xs ++ ys) ∧ LF h h' := by
 obtain ⟨i, rfl, r, ep, ha, hr⟩ := o
 refine ⟨slc h.size 0 (xs.length + ys.length), h.app ⟨r, ep, false, 9, strs xs⟩ xs.length (strs xs ++ strs ys), ?_, Ext.app hb hr _ _, ⟨h.size, by simp, r, _, by rw [show strs (xs ++ ys) = strs xs ++ strs ys by simp [strs]]; exact at?_app_same ha _ _, hr⟩, by simp [AHeap.app], fun j o hj _ h9 _ => at?_app_old hj _ fun e => absurd e.1 h9⟩
 have h1 : xs.length + ys.length ≤ most := by unfold most; omega
 have h2 : (xs.length + ys.length) * 16 ≤ most := by unfold most; omega
 have h3 : (List.map Value.string xs).take xs.length = List.map Value.string xs := List.take_of_length_le (by simp)
 simp [aApp, aAppG, slc, ha, y.src h (SF.refl _), strs, h1, h2, h3]
theorem eb {α R : Type} {o : Option α} {k : α → Option R} {v : α} {r : Option R} (e : o = some v) (hk : k v = r) : o.bind k = r := by rw [e]; exact hk
theorem ecf {R : Type} {c : Bool} {a b r : Option R} (e : c = false) (hk : b = r) : (bif c then a else b) = r := by rw [e]; exact hk
theorem ect {R : Type} {c : Bool} {a b r : Option R} (e : c = true) (hk : a = r) : (bif c then a else b) = r := by rw [e]; exact hk
section
variable {P : Option (Value × AHeap) → Prop}
end
theorem Ext.tr {h g k : AHeap} (x : Ext h.size h g) (y : Ext g.size g k) : Ext h.size h k := x.trans (y.mono x.size)
abbrev BA := ByteArray
def dgt (n : Int) : BA := ⟨#[UInt8.ofNat (48 + n).toNat]⟩
def dg : Nat → Int → BA → BA
 | 0, _, t => t
 | f + 1, n, t => if n < 10 then dgt n ++ t else dg f (n / 10) (dgt (n % 10) ++ t)
def digs (n : Int) : BA := dg 20 n ⟨#[]⟩
def cm (F : Int → List BA) : Nat → List Int → List BA
 | _, [] => []
 | 0, k :: ks => F k ++ cm F 1 ks
 | j + 1, k :: ks => [(⟨#[44]⟩ : BA)] ++ F k ++ cm F (j + 2) ks
def opW : List BA := [⟨#[]⟩, ⟨#[43]⟩, ⟨#[45]⟩, ⟨#[42]⟩, ⟨#[47]⟩, ⟨#[37]⟩, ⟨#[46, 46]⟩, ⟨#[61, 61]⟩, ⟨#[126, 61]⟩, ⟨#[60]⟩, ⟨#[60, 61]⟩]
def turnW : List BA := [⟨#[]⟩, ⟨#[45]⟩, ⟨#[110, 111, 116]⟩, ⟨#[35]⟩]
def boolW : List BA := [⟨#[102, 97, 108, 115, 101]⟩, ⟨#[116, 114, 117, 101]⟩]
def Kn.kd (n : Kn) (j : Nat) : Int := n.ks.getD j 0
def ntoks (F : Int → List BA) (n : Kn) : List BA :=
 if n.k = 1 then [⟨#[110, 105, 108]⟩]
 else if n.k = 2 then [boolW.getD n.i.toNat ⟨#[]⟩]
 else if n.k = 3 then [digs n.i]
 else if n.k = 4 then [(⟨#[34]⟩ : BA) ++ n.t ++ ⟨#[34]⟩]
 else if n.k = 6 then [⟨#[40]⟩, ⟨#[102, 110]⟩, ⟨#[40]⟩] ++ cm F 0 n.ks.dropLast ++ [⟨#[41]⟩] ++ F (n.kd (n.ks.length - 1)) ++ [⟨#[41]⟩]
 else if n.k = 7 then [⟨#[40]⟩, ⟨#[123]⟩] ++ cm F 0 n.ks ++ [⟨#[125]⟩, ⟨#[41]⟩]
 else if n.k = 8 then F (n.kd 0) ++ [⟨#[91]⟩] ++ F (n.kd 1) ++ [⟨#[93]⟩]
 else if n.k = 9 then F (n.kd 0) ++ [⟨#[40]⟩] ++ cm F 0 n.ks.tail ++ [⟨#[41]⟩]
 else if n.k = 10 then [⟨#[40]⟩] ++ F (n.kd 0) ++ [opW.getD n.i.toNat ⟨#[]⟩] ++ F (n.kd 1) ++ [⟨#[41]⟩]
 else if n.k = 11 then [⟨#[40]⟩, turnW.getD n.i.toNat ⟨#[]⟩] ++ F (n.kd 0) ++ [⟨#[41]⟩]
 else if n.k = 12 then [⟨#[40]⟩] ++ F (n.kd 0) ++ [⟨#[97, 110, 100]⟩] ++ F (n.kd 1) ++ [⟨#[41]⟩]
 else if n.k = 13 then [⟨#[40]⟩] ++ F (n.kd 0) ++ [⟨#[111, 114]⟩] ++ F (n.kd 1) ++ [⟨#[41]⟩]
 else if n.k = 14 then [⟨#[108, 111, 99, 97, 108]⟩, n.t, ⟨#[61]⟩] ++ F (n.kd 0) ++ [⟨#[59]⟩]
 else if n.k = 15 then [n.t, ⟨#[61]⟩] ++ F (n.kd 0) ++ [⟨#[59]⟩]
 else if n.k = 16 then F (n.kd 0) ++ [⟨#[91]⟩] ++ F (n.kd 1) ++ [⟨#[93]⟩, ⟨#[61]⟩] ++ F (n.kd 2) ++ [⟨#[59]⟩]
 else if n.k = 17 then [⟨#[105, 102]⟩] ++ F (n.kd 0) ++ F (n.kd 1) ++ (if n.ks.length = 3 then [⟨#[101, 108, 115, 101]⟩] ++ F (n.kd 2) else [])
 else if n.k = 18 then [⟨#[119, 104, 105, 108, 101]⟩] ++ F (n.kd 0) ++ F (n.kd 1)
 else if n.k = 19 then [⟨#[114, 101, 116, 117, 114, 110]⟩] ++ F (n.kd 0) ++ [⟨#[59]⟩]
 else if n.k = 20 then F (n.kd 0) ++ [⟨#[59]⟩]
 else if n.k = 21 then [⟨#[123]⟩] ++ n.ks.flatMap F ++ [⟨#[125]⟩]
 else if n.k = 23 then F (n.kd 0)
 else if n.k = 24 then [⟨#[91]⟩] ++ F (n.kd 0) ++ [⟨#[93]⟩, ⟨#[61]⟩] ++ F (n.kd 1)
 else [n.t]
section
variable {g : AHeap} {p2 p5 : Nat} {nv : Value} {top : Int} {T : List Kn} {n : Kn} {kv : Value}
end
theorem ag1 {o : Option Value} {v w : Value} (e : o = some v) : (o.bind fun x => some (vbeq x w)) = some (vbeq v w) := by rw [e]; rfl
theorem sAdd {a b : ByteArray} (h : a.size + b.size ≤ 100000000000000) : aBin .add (.string a) (.string b) = some (.string (a ++ b)) := by
 show (if a.size + b.size ≤ most then some (Value.string (a ++ b)) else none) = _
 rw [if_pos (by show a.size + b.size ≤ 140737488355328; omega)]
section
variable {h : AHeap} {T : List BA}
end
theorem RowE.ext' {h g : AHeap} {i : Nat} {e : TypeId} {cs : List Value} (x : RowE h i e cs) (k : Ext h.size h g) : RowE g i e cs := let ⟨o, a, b, c⟩ := x; ⟨o, k.at? (at?_obj a).2.1 a, b, c⟩
section
variable {T : List Kn}
end
noncomputable section
variable (hk : Hk (Value × AHeap)) (C : ACall) (N : Nat)
theorem e196 (x0 : Value) (x1 : ByteArray) (h : AHeap) : evFn hk Tp C M196 N Tryz.f196 [x0, .string x1] h =
  (C 194 [x0, .string x1] h).bind fun r1 => (asB r1.1).bind fun b2 => bif !b2 then (C 282 [x0, .int .i64 2] r1.2).bind fun r3 => some (.tuple (List.toArray []), r3.2) else some (.tuple (List.toArray []), r1.2) := by kernel_rfl
theorem c196 (d : Nat) (args : List Value) (h : AHeap) : call Tp Ms (d + 1) 196 args h = evFn hk0 Tp (call Tp Ms d) M196 d Tryz.f196 args h := by kernel_rfl
theorem e197 (x0 : Value) (h : AHeap) : evFn hk Tp C M197 N Tryz.f197 [x0] h =
  (C 283 [x0] h).bind fun r1 => (C 284 [x0] r1.2).bind fun r2 => (asI .i64 r2.1).bind fun n3 => (aNil x0).bind fun v4 => (aOff v4 3).bind fun v5 => (aLd1 r2.2 v5).bind fun v6 => (asI .i64 v6).bind fun n7 => (aNil x0).bind fun v8 => (aOff v8 3).bind fun v9 => (aSt r2.2 v9 (.int .i64 (IntKind.i64.wrap (n7 - 1))) 1).bind fun h10 => some (.int .i64 n3, h10) := by kernel_rfl
theorem c197 (d : Nat) (args : List Value) (h : AHeap) : call Tp Ms (d + 1) 197 args h = evFn hk0 Tp (call Tp Ms d) M197 d Tryz.f197 args h := by kernel_rfl
def F198_0 (n1 : Nat) : Nx (Value × AHeap) := evSt hk Tp C M198 N Tryz.f198 [1, 1, 1, 1, 0, 2, 6] [n1]
def s198_0 (n1 : Nat) (x0 x3 : Value) (h : AHeap) := F198_0 hk C N n1 (⟨38, [(0, x0), (3, x3)]⟩) h
def F198_1 (n1 : Nat) : Nx (Value × AHeap) := evSt hk Tp C M198 N Tryz.f198 [1, 1, 1, 1, 0, 2, 3, 1] [n1]
def s198_1 (n1 : Nat) (x0 x3 : Value) (h : AHeap) := hk 5 (⟨38, [(0, x0), (3, x3)]⟩) h (F198_1 hk C N n1)
theorem e198 (x0 : Value) (h : AHeap) : evFn hk Tp C M198 N Tryz.f198 [x0] h =
  (C 283 [x0] h).bind fun r1 => (C 196 [x0, .string (⟨#[123]⟩)] r1.2).bind fun r2 => aNewS r2.2 3 [] 0 fun p3 h4 => s198_0 hk C N N x0 p3 h4 := by kernel_rfl
theorem s198_0_eq (n1 : Nat) (x0 x3 : Value) (h : AHeap) : s198_0 hk C N (n1 + 1) x0 x3 h =
  (aNil x0).bind fun v5 => (aOff v5 5).bind fun v6 => (aLd1 h v6).bind fun v7 => (asI .i64 v7).bind fun n8 => bif n8 == 0 then (C 280 [x0, .string (⟨#[125]⟩)] h).bind fun r9 => (asB r9.1).bind fun b10 => bif !b10 then s198_1 hk C N n1 x0 x3 r9.2 else (C 196 [x0, .string (⟨#[125]⟩)] r9.2).bind fun r11 => (aNil x0).bind fun v12 => (aOff v12 3).bind fun v13 => (aLd1 r11.2 v13).bind fun v14 => (asI .i64 v14).bind fun n15 => (aNil x0).bind fun v16 => (aOff v16 3).bind fun v17 => (aSt r11.2 v17 (.int .i64 (IntKind.i64.wrap (n15 - 1))) 1).bind fun h18 => (C 102 [x0, .int .i64 21, .string ⟨#[]⟩, .int .i64 0, x3] h18).bind fun r19 => (asI .i64 r19.1).bind fun n20 => some (.int .i64 n20, r19.2) else (C 196 [x0, .string (⟨#[125]⟩)] h).bind fun r21 => (aNil x0).bind fun v22 => (aOff v22 3).bind fun v23 => (aLd1 r21.2 v23).bind fun v24 => (asI .i64 v24).bind fun n25 => (aNil x0).bind fun v26 => (aOff v26 3).bind fun v27 => (aSt r21.2 v27 (.int .i64 (IntKind.i64.wrap (n25 - 1))) 1).bind fun h28 => (C 102 [x0, .int .i64 21, .string ⟨#[]⟩, .int .i64 0, x3] h28).bind fun r29 => (asI .i64 r29.1).bind fun n30 => some (.int .i64 n30, r29.2) := by kernel_rfl
theorem s198_1_j (n1 : Nat) (x0 x3 : Value) (h : AHeap) : s198_1 hk0 C N n1 x0 x3 h = F198_1 hk0 C N n1 (⟨38, [(0, x0), (3, x3)]⟩) h := by delta s198_1; exact hk0_app _ _ _ _
theorem s198_1_eq (n1 : Nat) (x0 x3 : Value) (h : AHeap) : F198_1 hk C N n1 (⟨38, [(0, x0), (3, x3)]⟩) h =
  (C 101 [x0] h).bind fun r31 => (asI .i64 r31.1).bind fun n32 => aNewS r31.2 3 [.int .i64 n32] 1 fun p33 h34 => (aApp h34 3 1 8 x3 p33).bind fun r35 => s198_0 hk C N n1 x0 r35.1 r35.2 := by kernel_rfl
theorem c198 (d : Nat) (args : List Value) (h : AHeap) : call Tp Ms (d + 1) 198 args h = evFn hk0 Tp (call Tp Ms d) M198 d Tryz.f198 args h := by kernel_rfl
def F199_0 : Nx (Value × AHeap) := evSt hk Tp C M199 N Tryz.f199 [1, 1, 1, 1, 0, 2, 1] []
def s199_0 (x0 : Value) (x3 : Int) (x4 : Value) (x21 : Bool) (h : AHeap) := hk 100006 (⟨95, [(0, x0), (3, .int .i64 x3), (4, x4), (21, .bool x21)]⟩) h (F199_0 hk C N)
def F199_1 : Nx (Value × AHeap) := evSt hk Tp C M199 N Tryz.f199 [1, 1, 1, 1, 0, 2, 1, 5, 1] []
def s199_1 (x0 : Value) (x3 : Int) (x4 : Value) (x33 : Bool) (h : AHeap) := hk 100008 (⟨95, [(0, x0), (3, .int .i64 x3), (4, x4), (33, .bool x33)]⟩) h (F199_1 hk C N)
def F199_2 : Nx (Value × AHeap) := evSt hk Tp C M199 N Tryz.f199 [1, 1, 1, 1, 0, 2, 1, 5, 1, 5, 1] []
def s199_2 (x0 : Value) (x3 : Int) (x4 : Value) (x60 : Bool) (h : AHeap) := hk 100013 (⟨95, [(0, x0), (3, .int .i64 x3), (4, x4), (60, .bool x60)]⟩) h (F199_2 hk C N)
def F199_3 : Nx (Value × AHeap) := evSt hk Tp C M199 N Tryz.f199 [1, 1, 1, 1, 1] []
def s199_3 (x0 : Value) (h : AHeap) := hk 17 (⟨95, [(0, x0)]⟩) h (F199_3 hk C N)
theorem e199 (x0 : Value) (h : AHeap) : evFn hk Tp C M199 N Tryz.f199 [x0] h =
  (C 197 [x0] h).bind fun r1 => (asI .i64 r1.1).bind fun n2 => (aNil x0).bind fun v3 => (aOff v3 5).bind fun v4 => (aLd1 r1.2 v4).bind fun v5 => (asI .i64 v5).bind fun n6 => bif n6 != 0 then some (.int .i64 0, r1.2) else (aNil x0).bind fun v7 => (aOff v7 4).bind fun v8 => (aLd1 r1.2 v8).bind fun v9 => (aIdx v9 (.int .i64 n2) 4).bind fun v10 => (aLdN r1.2 v10 4).bind fun v11 => aNew r1.2 48 [.int .i64 0, .string ⟨#[]⟩, .int .i64 0, .slice none 0 0] fun p12 h13 => (aSt h13 p12 v11 4).bind fun h14 => (aOff p12 0).bind fun v15 => (aLd1 h14 v15).bind fun v16 => (asI .i64 v16).bind fun n17 => bif n17 == 9 then (C 194 [x0, .string (⟨#[59]⟩)] h14).bind fun r18 => (asB r18.1).bind fun b19 => s199_0 hk C N x0 n2 p12 b19 r18.2 else s199_0 hk C N x0 n2 p12 false h14 := by kernel_rfl
theorem s199_0_j (x0 : Value) (x3 : Int) (x4 : Value) (x21 : Bool) (h : AHeap) : s199_0 hk0 C N x0 x3 x4 x21 h = F199_0 hk0 C N (⟨95, [(0, x0), (3, .int .i64 x3), (4, x4), (21, .bool x21)]⟩) h := by delta s199_0; exact hk0_app _ _ _ _
theorem s199_0_eq (x0 : Value) (x3 : Int) (x4 : Value) (x21 : Bool) (h : AHeap) : F199_0 hk C N (⟨95, [(0, x0), (3, .int .i64 x3), (4, x4), (21, .bool x21)]⟩) h =
  bif x21 then aNewS h 3 [.int .i64 x3] 1 fun p20 h21 => (C 102 [x0, .int .i64 20, .string ⟨#[]⟩, .int .i64 0, p20] h21).bind fun r22 => (asI .i64 r22.1).bind fun n23 => some (.int .i64 n23, r22.2) else (aOff x4 0).bind fun v24 => (aLd1 h v24).bind fun v25 => (asI .i64 v25).bind fun n26 => bif n26 == 5 then (C 194 [x0, .string (⟨#[61]⟩)] h).bind fun r27 => (asB r27.1).bind fun b28 => s199_1 hk C N x0 x3 x4 b28 r27.2 else s199_1 hk C N x0 x3 x4 false h := by kernel_rfl
theorem s199_1_j (x0 : Value) (x3 : Int) (x4 : Value) (x33 : Bool) (h : AHeap) : s199_1 hk0 C N x0 x3 x4 x33 h = F199_1 hk0 C N (⟨95, [(0, x0), (3, .int .i64 x3), (4, x4), (33, .bool x33)]⟩) h := by delta s199_1; exact hk0_app _ _ _ _
theorem s199_1_eq (x0 : Value) (x3 : Int) (x4 : Value) (x33 : Bool) (h : AHeap) : F199_1 hk C N (⟨95, [(0, x0), (3, .int .i64 x3), (4, x4), (33, .bool x33)]⟩) h =
  bif x33 then (aNil x0).bind fun v29 => (aOff v29 4).bind fun v30 => (aLd1 h v30).bind fun v31 => (aSub h 48 v31 none (some (.int .i64 x3)) 4).bind fun v32 => (aNil x0).bind fun v33 => (aOff v33 4).bind fun v34 => (aSt h v34 v32 1).bind fun h35 => (C 197 [x0] h35).bind fun r36 => (asI .i64 r36.1).bind fun n37 => (C 196 [x0, .string (⟨#[59]⟩)] r36.2).bind fun r38 => (aOff x4 1).bind fun v39 => (aLd1 r38.2 v39).bind fun v40 => (asS v40).bind fun t41 => aNewS r38.2 3 [.int .i64 n37] 1 fun p42 h43 => (C 102 [x0, .int .i64 15, .string t41, .int .i64 0, p42] h43).bind fun r44 => (asI .i64 r44.1).bind fun n45 => some (.int .i64 n45, r44.2) else (aOff x4 0).bind fun v46 => (aLd1 h v46).bind fun v47 => (asI .i64 v47).bind fun n48 => bif n48 == 8 then (C 194 [x0, .string (⟨#[61]⟩)] h).bind fun r49 => (asB r49.1).bind fun b50 => s199_2 hk C N x0 x3 x4 b50 r49.2 else s199_2 hk C N x0 x3 x4 false h := by kernel_rfl
theorem s199_2_j (x0 : Value) (x3 : Int) (x4 : Value) (x60 : Bool) (h : AHeap) : s199_2 hk0 C N x0 x3 x4 x60 h = F199_2 hk0 C N (⟨95, [(0, x0), (3, .int .i64 x3), (4, x4), (60, .bool x60)]⟩) h := by delta s199_2; exact hk0_app _ _ _ _
theorem s199_2_eq (x0 : Value) (x3 : Int) (x4 : Value) (x60 : Bool) (h : AHeap) : F199_2 hk C N (⟨95, [(0, x0), (3, .int .i64 x3), (4, x4), (60, .bool x60)]⟩) h =
  bif x60 then (aNil x0).bind fun v51 => (aOff v51 4).bind fun v52 => (aLd1 h v52).bind fun v53 => (aSub h 48 v53 none (some (.int .i64 x3)) 4).bind fun v54 => (aNil x0).bind fun v55 => (aOff v55 4).bind fun v56 => (aSt h v56 v54 1).bind fun h57 => (C 197 [x0] h57).bind fun r58 => (asI .i64 r58.1).bind fun n59 => (C 196 [x0, .string (⟨#[59]⟩)] r58.2).bind fun r60 => (aOff x4 3).bind fun v61 => (aLd1 r60.2 v61).bind fun v62 => (aIdx v62 (.int .i64 0) 1).bind fun v63 => (aLd1 r60.2 v63).bind fun v64 => (asI .i64 v64).bind fun n65 => (aOff x4 3).bind fun v66 => (aLd1 r60.2 v66).bind fun v67 => (aIdx v67 (.int .i64 1) 1).bind fun v68 => (aLd1 r60.2 v68).bind fun v69 => (asI .i64 v69).bind fun n70 => aNewS r60.2 3 [.int .i64 n65, .int .i64 n70, .int .i64 n59] 3 fun p71 h72 => (C 102 [x0, .int .i64 16, .string ⟨#[]⟩, .int .i64 0, p71] h72).bind fun r73 => (asI .i64 r73.1).bind fun n74 => some (.int .i64 n74, r73.2) else s199_3 hk C N x0 h := by kernel_rfl
theorem s199_3_j (x0 : Value) (h : AHeap) : s199_3 hk0 C N x0 h = F199_3 hk0 C N (⟨95, [(0, x0)]⟩) h := by delta s199_3; exact hk0_app _ _ _ _
theorem s199_3_eq (x0 : Value) (h : AHeap) : F199_3 hk C N (⟨95, [(0, x0)]⟩) h =
  (C 282 [x0, .int .i64 2] h).bind fun r75 => some (.int .i64 0, r75.2) := by kernel_rfl
theorem c199 (d : Nat) (args : List Value) (h : AHeap) : call Tp Ms (d + 1) 199 args h = evFn hk0 Tp (call Tp Ms d) M199 d Tryz.f199 args h := by kernel_rfl
def F128_0 (n1 : Nat) : Nx (Value × AHeap) := evSt hk Tp C M128 N Tryz.f128 [1, 0, 1, 2, 6] [n1]
def s128_0 (n1 : Nat) (x0 : Value) (x1 : ByteArray) (x7 x8 : Int) (h : AHeap) := F128_0 hk C N n1 (⟨19, [(0, x0), (1, .string x1), (7, .int .i64 x7), (8, .int .i64 x8)]⟩) h
theorem e128 (x0 : Value) (x1 : ByteArray) (h : AHeap) : evFn hk Tp C M128 N Tryz.f128 [x0, .string x1] h =
  (aLen x0).bind fun v1 => (asI .i64 v1).bind fun n2 => s128_0 hk C N N x0 x1 n2 0 h := by kernel_rfl
theorem s128_0_eq (n1 : Nat) (x0 : Value) (x1 : ByteArray) (x7 x8 : Int) (h : AHeap) : s128_0 hk C N (n1 + 1) x0 x1 x7 x8 h =
  bif decide (x8 < x7) then (aIdx x0 (.int .i64 x8) 1).bind fun v3 => (aLd1 h v3).bind fun v4 => (asS v4).bind fun t5 => bif x1.toList == t5.toList then some (.int .i64 x8, h) else s128_0 hk C N n1 x0 x1 x7 (IntKind.i64.wrap (x8 + 1)) h else some (.int .i64 (-1), h) := by kernel_rfl
theorem c128 (d : Nat) (args : List Value) (h : AHeap) : call Tp Ms (d + 1) 128 args h = evFn hk0 Tp (call Tp Ms d) M128 d Tryz.f128 args h := by kernel_rfl
theorem e280 (x0 : Value) (x1 : ByteArray) (h : AHeap) : evFn hk Tp C M280 N Tryz.f280 [x0, .string x1] h =
  (C 281 [x0] h).bind fun r1 => aNew r1.2 233 [.int .i64 0, .int .i64 0, .string ⟨#[]⟩, .int .i64 0] fun p2 h3 => (aSt h3 p2 r1.1 4).bind fun h4 => (aOff p2 0).bind fun v5 => (aLd1 h4 v5).bind fun v6 => (asI .i64 v6).bind fun n7 => bif n7 == 5 then (aOff p2 2).bind fun v8 => (aLd1 h4 v8).bind fun v9 => (asS v9).bind fun t10 => some (.bool (t10.toList == x1.toList), h4) else (aOff p2 0).bind fun v11 => (aLd1 h4 v11).bind fun v12 => (asI .i64 v12).bind fun n13 => bif n13 == 2 then (aOff p2 2).bind fun v14 => (aLd1 h4 v14).bind fun v15 => (asS v15).bind fun t16 => some (.bool (t16.toList == x1.toList), h4) else some (.bool false, h4) := by kernel_rfl
theorem c280 (d : Nat) (args : List Value) (h : AHeap) : call Tp Ms (d + 1) 280 args h = evFn hk0 Tp (call Tp Ms d) M280 d Tryz.f280 args h := by kernel_rfl
def F281_0 : Nx (Value × AHeap) := evSt hk Tp C M281 N Tryz.f281 [1, 0, 1] []
def s281_0 (x0 x2 : Value) (x19 : Bool) (h : AHeap) := hk 100002 (⟨35, [(0, x0), (2, x2), (19, .bool x19)]⟩) h (F281_0 hk C N)
def F281_1 : Nx (Value × AHeap) := evSt hk Tp C M281 N Tryz.f281 [1, 1] []
def s281_1 (x0 x2 : Value) (h : AHeap) := hk 3 (⟨35, [(0, x0), (2, x2)]⟩) h (F281_1 hk C N)
theorem e281 (x0 : Value) (h : AHeap) : evFn hk Tp C M281 N Tryz.f281 [x0] h =
  aNew h 233 [.int .i64 0, .int .i64 0, .string ⟨#[]⟩, .int .i64 0] fun p1 h2 => (aNil x0).bind fun v3 => (aOff v3 5).bind fun v4 => (aLd1 h2 v4).bind fun v5 => (asI .i64 v5).bind fun n6 => bif n6 != 0 then s281_0 hk C N x0 p1 true h2 else (aNil x0).bind fun v7 => (aOff v7 1).bind fun v8 => (aLd1 h2 v8).bind fun v9 => (asI .i64 v9).bind fun n10 => (aNil x0).bind fun v11 => (aOff v11 0).bind fun v12 => (aLd1 h2 v12).bind fun v13 => (aLen v13).bind fun v14 => (asI .i64 v14).bind fun n15 => s281_0 hk C N x0 p1 (decide (n10 ≥ n15)) h2 := by kernel_rfl
theorem s281_0_j (x0 x2 : Value) (x19 : Bool) (h : AHeap) : s281_0 hk0 C N x0 x2 x19 h = F281_0 hk0 C N (⟨35, [(0, x0), (2, x2), (19, .bool x19)]⟩) h := by delta s281_0; exact hk0_app _ _ _ _
theorem s281_0_eq (x0 x2 : Value) (x19 : Bool) (h : AHeap) : F281_0 hk C N (⟨35, [(0, x0), (2, x2), (19, .bool x19)]⟩) h =
  bif x19 then (aNil x0).bind fun v16 => (aOff v16 2).bind fun v17 => (aLd1 h v17).bind fun v18 => (asI .i64 v18).bind fun n19 => (aSt h x2 (.agg (List.toArray [.int .i64 0, .int .i64 n19, .string ⟨#[]⟩, .int .i64 0])) 4).bind fun h20 => (aLdN h20 x2 4).bind fun v21 => some (v21, h20) else s281_1 hk C N x0 x2 h := by kernel_rfl
theorem s281_1_j (x0 x2 : Value) (h : AHeap) : s281_1 hk0 C N x0 x2 h = F281_1 hk0 C N (⟨35, [(0, x0), (2, x2)]⟩) h := by delta s281_1; exact hk0_app _ _ _ _
theorem s281_1_eq (x0 x2 : Value) (h : AHeap) : F281_1 hk C N (⟨35, [(0, x0), (2, x2)]⟩) h =
  (aNil x0).bind fun v22 => (aOff v22 0).bind fun v23 => (aLd1 h v23).bind fun v24 => (aNil x0).bind fun v25 => (aOff v25 1).bind fun v26 => (aLd1 h v26).bind fun v27 => (asI .i64 v27).bind fun n28 => (aIdx v24 (.int .i64 n28) 4).bind fun v29 => (aLdN h v29 4).bind fun v30 => (aSt h x2 v30 4).bind fun h31 => (aLdN h31 x2 4).bind fun v32 => some (v32, h31) := by kernel_rfl
theorem c281 (d : Nat) (args : List Value) (h : AHeap) : call Tp Ms (d + 1) 281 args h = evFn hk0 Tp (call Tp Ms d) M281 d Tryz.f281 args h := by kernel_rfl
theorem e282 (x0 : Value) (x1 : Int) (h : AHeap) : evFn hk Tp C M282 N Tryz.f282 [x0, .int .i64 x1] h =
  (aNil x0).bind fun v1 => (aOff v1 5).bind fun v2 => (aLd1 h v2).bind fun v3 => (asI .i64 v3).bind fun n4 => bif n4 == 0 then (C 281 [x0] h).bind fun r5 => (aPart r5.1 1 1 false).bind fun v6 => (asI .i64 v6).bind fun n7 => (aNil x0).bind fun v8 => (aOff v8 6).bind fun v9 => (aSt r5.2 v9 (.int .i64 n7) 1).bind fun h10 => (aNil x0).bind fun v11 => (aOff v11 5).bind fun v12 => (aSt h10 v12 (.int .i64 x1) 1).bind fun h13 => some (.tuple (List.toArray []), h13) else some (.tuple (List.toArray []), h) := by kernel_rfl
theorem c282 (d : Nat) (args : List Value) (h : AHeap) : call Tp Ms (d + 1) 282 args h = evFn hk0 Tp (call Tp Ms d) M282 d Tryz.f282 args h := by kernel_rfl
def F283_0 : Nx (Value × AHeap) := evSt hk Tp C M283 N Tryz.f283 [0, 1] []
def s283_0 (x0 : Value) (x12 : Bool) (h : AHeap) := hk 100001 (⟨22, [(0, x0), (12, .bool x12)]⟩) h (F283_0 hk C N)
def F283_1 : Nx (Value × AHeap) := evSt hk Tp C M283 N Tryz.f283 [1] []
def s283_1 (x0 : Value) (h : AHeap) := hk 2 (⟨22, [(0, x0)]⟩) h (F283_1 hk C N)
theorem e283 (x0 : Value) (h : AHeap) : evFn hk Tp C M283 N Tryz.f283 [x0] h =
  (C 281 [x0] h).bind fun r1 => (aPart r1.1 0 1 false).bind fun v2 => (asI .i64 v2).bind fun n3 => bif n3 != 0 then (aNil x0).bind fun v4 => (aOff v4 3).bind fun v5 => (aLd1 r1.2 v5).bind fun v6 => (asI .i64 v6).bind fun n7 => s283_0 hk C N x0 (n7 == 30) r1.2 else s283_0 hk C N x0 false r1.2 := by kernel_rfl
theorem s283_0_j (x0 : Value) (x12 : Bool) (h : AHeap) : s283_0 hk0 C N x0 x12 h = F283_0 hk0 C N (⟨22, [(0, x0), (12, .bool x12)]⟩) h := by delta s283_0; exact hk0_app _ _ _ _
theorem s283_0_eq (x0 : Value) (x12 : Bool) (h : AHeap) : F283_0 hk C N (⟨22, [(0, x0), (12, .bool x12)]⟩) h =
  bif x12 then (C 282 [x0, .int .i64 3] h).bind fun r8 => s283_1 hk C N x0 r8.2 else s283_1 hk C N x0 h := by kernel_rfl
theorem s283_1_j (x0 : Value) (h : AHeap) : s283_1 hk0 C N x0 h = F283_1 hk0 C N (⟨22, [(0, x0)]⟩) h := by delta s283_1; exact hk0_app _ _ _ _
theorem s283_1_eq (x0 : Value) (h : AHeap) : F283_1 hk C N (⟨22, [(0, x0)]⟩) h =
  (aNil x0).bind fun v9 => (aOff v9 3).bind fun v10 => (aLd1 h v10).bind fun v11 => (asI .i64 v11).bind fun n12 => (aNil x0).bind fun v13 => (aOff v13 3).bind fun v14 => (aSt h v14 (.int .i64 (IntKind.i64.wrap (n12 + 1))) 1).bind fun h15 => some (.tuple (List.toArray []), h15) := by kernel_rfl
theorem c283 (d : Nat) (args : List Value) (h : AHeap) : call Tp Ms (d + 1) 283 args h = evFn hk0 Tp (call Tp Ms d) M283 d Tryz.f283 args h := by kernel_rfl
def F284_0 (n1 : Nat) : Nx (Value × AHeap) := evSt hk Tp C M284 N Tryz.f284 [1, 1, 0, 2, 6] [n1]
def s284_0 (n1 : Nat) (x0 : Value) (x3 : Int) (h : AHeap) := F284_0 hk C N n1 (⟨17, [(0, x0), (3, .int .i64 x3)]⟩) h
theorem e284 (x0 : Value) (h : AHeap) : evFn hk Tp C M284 N Tryz.f284 [x0] h =
  (C 356 [x0] h).bind fun r1 => (asI .i64 r1.1).bind fun n2 => s284_0 hk C N N x0 n2 r1.2 := by kernel_rfl
theorem s284_0_eq (n1 : Nat) (x0 : Value) (x3 : Int) (h : AHeap) : s284_0 hk C N (n1 + 1) x0 x3 h =
  (C 194 [x0, .string (⟨#[111, 114]⟩)] h).bind fun r3 => (asB r3.1).bind fun b4 => bif b4 then (C 356 [x0] r3.2).bind fun r5 => (asI .i64 r5.1).bind fun n6 => aNewS r5.2 3 [.int .i64 x3, .int .i64 n6] 2 fun p7 h8 => (C 102 [x0, .int .i64 13, .string ⟨#[]⟩, .int .i64 0, p7] h8).bind fun r9 => (asI .i64 r9.1).bind fun n10 => s284_0 hk C N n1 x0 n10 r9.2 else some (.int .i64 x3, r3.2) := by kernel_rfl
theorem c284 (d : Nat) (args : List Value) (h : AHeap) : call Tp Ms (d + 1) 284 args h = evFn hk0 Tp (call Tp Ms d) M284 d Tryz.f284 args h := by kernel_rfl
theorem e341 (h : AHeap) : evFn hk Tp C M341 N Tryz.f341 [] h =
  aNewS h 9 [.string (⟨#[43]⟩), .string (⟨#[45]⟩), .string (⟨#[42]⟩), .string (⟨#[47]⟩), .string (⟨#[37]⟩), .string (⟨#[46, 46]⟩), .string (⟨#[61, 61]⟩), .string (⟨#[126, 61]⟩), .string (⟨#[60]⟩), .string (⟨#[60, 61]⟩)] 10 fun p1 h2 => some (p1, h2) := by kernel_rfl
theorem c341 (d : Nat) (args : List Value) (h : AHeap) : call Tp Ms (d + 1) 341 args h = evFn hk0 Tp (call Tp Ms d) M341 d Tryz.f341 args h := by kernel_rfl
def F356_0 (n1 : Nat) : Nx (Value × AHeap) := evSt hk Tp C M356 N Tryz.f356 [1, 1, 0, 2, 6] [n1]
def s356_0 (n1 : Nat) (x0 : Value) (x3 : Int) (h : AHeap) := F356_0 hk C N n1 (⟨17, [(0, x0), (3, .int .i64 x3)]⟩) h
theorem e356 (x0 : Value) (h : AHeap) : evFn hk Tp C M356 N Tryz.f356 [x0] h =
  (C 382 [x0] h).bind fun r1 => (asI .i64 r1.1).bind fun n2 => s356_0 hk C N N x0 n2 r1.2 := by kernel_rfl
theorem s356_0_eq (n1 : Nat) (x0 : Value) (x3 : Int) (h : AHeap) : s356_0 hk C N (n1 + 1) x0 x3 h =
  (C 194 [x0, .string (⟨#[97, 110, 100]⟩)] h).bind fun r3 => (asB r3.1).bind fun b4 => bif b4 then (C 382 [x0] r3.2).bind fun r5 => (asI .i64 r5.1).bind fun n6 => aNewS r5.2 3 [.int .i64 x3, .int .i64 n6] 2 fun p7 h8 => (C 102 [x0, .int .i64 12, .string ⟨#[]⟩, .int .i64 0, p7] h8).bind fun r9 => (asI .i64 r9.1).bind fun n10 => s356_0 hk C N n1 x0 n10 r9.2 else some (.int .i64 x3, r3.2) := by kernel_rfl
theorem c356 (d : Nat) (args : List Value) (h : AHeap) : call Tp Ms (d + 1) 356 args h = evFn hk0 Tp (call Tp Ms d) M356 d Tryz.f356 args h := by kernel_rfl
end
noncomputable section
variable (hk : Hk (Value × AHeap)) (C : ACall) (N : Nat)
end
section
variable {c d : Nat} {h g : AHeap} {v : Value} {xs : List BA}
end
def Ks (e : TypeId) (root : Nat) (h h' : AHeap) : Prop := ∀ j o, h.at? j = some o → (o.elem ≠ e ∨ o.root ≠ root) → h'.at? j = some o
theorem stOwn {b : Nat} {h : AHeap} {r rt j : Nat} {e : TypeId} {cs : List Value} {v : Value} (o : OwnR h r rt e cs) (hb : b ≤ rt) (hj : j < cs.length) (hv : isCell v = true) :
  ∃ h', aSt h (ptr r j) v 1 = some h' ∧ Ext b h h' ∧ Ks e rt h h' ∧ OwnR h' r rt e (cs.set j v) ∧ h'.size = h.size := by
 obtain ⟨ep, ha⟩ := o
 have hsp : splice cs j [v] = cs.set j v := by
  unfold splice
  rw [List.set_eq_take_append_cons_drop, if_pos hj]; simp
 refine ⟨h.put r ⟨rt, ep, false, e, cs⟩ (cs.set j v), ?_, Ext.put (Nat.le_trans hb (at?_obj ha).2.2.1) hb _, fun k o hk hf => ?_, ⟨_, at?_put_same ha _⟩, rfl⟩
 ·have : j + 1 ≤ cs.length := hj
  simp [aSt, ptr, ha, aCells_one hv, this, hsp]
 ·refine at?_put_other hk (fun e' => ?_) _ (fun x => hf.elim (fun f => f x.1) fun f => f x.2)
  subst e'; rw [ha] at hk; cases hk
  exact hf.elim (fun f => f rfl) fun f => f rfl
theorem OwnR.ks {h h' : AHeap} {i root rt : Nat} {e e' : TypeId} {cs : List Value} (x : OwnR h i root e cs) (k : Ks e' rt h h') (hr : e ≠ e' ∨ root ≠ rt) : OwnR h' i root e cs := let ⟨ep, a⟩ := x; ⟨ep, k i _ a hr⟩
section
variable {b p : Nat} {h g : AHeap} {v : Value} {ns : List Kn} {rts : List Nat} {rn : Nat}
end
noncomputable section
variable (hk : Hk (Value × AHeap)) (C : ACall) (N : Nat)
end
section
variable {P : Option (Value × AHeap) → Prop}
theorem pb {α : Type} {o : Option α} {k : α → Option (Value × AHeap)} {v : α} (e : o = some v) (hk : P (k v)) : P (o.bind k) := by rw [e]; exact hk
theorem pcf {c : Bool} {x y : Option (Value × AHeap)} (e : c = false) (hk : P y) : P (bif c then x else y) := by rw [e]; exact hk
theorem pct {c : Bool} {x y : Option (Value × AHeap)} (e : c = true) (hk : P x) : P (bif c then x else y) := by rw [e]; exact hk
end
noncomputable section
variable (hk : Hk (Value × AHeap)) (C : ACall) (N : Nat)
def F98_0 (n1 : Nat) : Nx (Value × AHeap) := evSt hk Tp C M98 N Tryz.f98 [1, 1, 0, 1, 2, 6] [n1]
def s98_0 (n1 : Nat) (x0 : Value) (x3 x4 : Int) (h : AHeap) := F98_0 hk C N n1 (⟨32, [(0, x0), (3, .int .i64 x3), (4, .int .i64 x4)]⟩) h
def F98_1 (n1 : Nat) : Nx (Value × AHeap) := evSt hk Tp C M98 N Tryz.f98 [1, 1, 0, 1, 2, 3, 1] [n1]
def s98_1 (n1 : Nat) (x0 : Value) (x3 x4 : Int) (h : AHeap) := hk 5 (⟨32, [(0, x0), (3, .int .i64 x3), (4, .int .i64 x4)]⟩) h (F98_1 hk C N n1)
theorem e98 (x0 : Value) (h : AHeap) : evFn hk Tp C M98 N Tryz.f98 [x0] h =
  (aLen x0).bind fun v1 => (asI .i64 v1).bind fun n2 => s98_0 hk C N N x0 (IntKind.i64.wrap (10101 + n2)) 0 h := by kernel_rfl
theorem s98_0_eq (n1 : Nat) (x0 : Value) (x3 x4 : Int) (h : AHeap) : s98_0 hk C N (n1 + 1) x0 x3 x4 h =
  (aLen x0).bind fun v3 => (asI .i64 v3).bind fun n4 => bif decide (x4 < n4) then bif decide (x4 < 4000) then s98_1 hk C N n1 x0 x3 x4 h else (aFill [.slice none 0 0, .int .i64 0, .int .i64 0] [(0, 1, x0), (2, 1, .int .i64 x3)]).bind fun c5 => (aCells (.agg (List.toArray c5))).bind fun c6 => aNew h 225 c6 fun p7 h8 => some (p7, h8) else (aFill [.slice none 0 0, .int .i64 0, .int .i64 0] [(0, 1, x0), (2, 1, .int .i64 x3)]).bind fun c9 => (aCells (.agg (List.toArray c9))).bind fun c10 => aNew h 225 c10 fun p11 h12 => some (p11, h12) := by kernel_rfl
theorem s98_1_j (n1 : Nat) (x0 : Value) (x3 x4 : Int) (h : AHeap) : s98_1 hk0 C N n1 x0 x3 x4 h = F98_1 hk0 C N n1 (⟨32, [(0, x0), (3, .int .i64 x3), (4, .int .i64 x4)]⟩) h := by delta s98_1; exact hk0_app _ _ _ _
theorem s98_1_eq (n1 : Nat) (x0 : Value) (x3 x4 : Int) (h : AHeap) : F98_1 hk C N n1 (⟨32, [(0, x0), (3, .int .i64 x3), (4, .int .i64 x4)]⟩) h =
  (aIdx x0 (.int .i64 x4) 1).bind fun v13 => (aLd1 h v13).bind fun v14 => (asI .u8 v14).bind fun n15 => s98_0 hk C N n1 x0 (IntKind.i64.wrap (BitVec.ofInt IntKind.i64.bits (IntKind.i64.wrap ((IntKind.i64.wrap ((IntKind.i64.wrap (x3 * 131)) + (IntKind.i64.wrap n15))) + 7)) &&& BitVec.ofInt IntKind.i64.bits 1073741823).toNat) (IntKind.i64.wrap (x4 + 1)) h := by kernel_rfl
theorem c98 (d : Nat) (args : List Value) (h : AHeap) : call Tp Ms (d + 1) 98 args h = evFn hk0 Tp (call Tp Ms d) M98 d Tryz.f98 args h := by kernel_rfl
theorem e99 (x0 x1 : Value) (h : AHeap) : evFn hk Tp C M99 N Tryz.f99 [x0, x1] h =
  (C 134 [x0, .int .i64 15] h).bind fun r1 => (asB r1.1).bind fun b2 => bif b2 then (C 187 [x0] r1.2).bind fun r3 => (asS r3.1).bind fun t4 => some (.string t4, r3.2) else (C 189 [x1, .int .i64 14] r1.2).bind fun r5 => (asI .i64 r5.1).bind fun n6 => (C 134 [x0, .int .i64 4] r5.2).bind fun r7 => (asB r7.1).bind fun b8 => (C 188 [x0, .int .i64 (IntKind.i64.wrap (3 + n6)), .bool b8] r7.2).bind fun r9 => (asS r9.1).bind fun t10 => (C 134 [x0, .int .i64 4] r9.2).bind fun r11 => (asB r11.1).bind fun b12 => bif b12 then (C 190 [x0, .string t10] r11.2).bind fun r13 => (asS r13.1).bind fun t14 => some (.string t14, r13.2) else some (.string t10, r11.2) := by kernel_rfl
theorem c99 (d : Nat) (args : List Value) (h : AHeap) : call Tp Ms (d + 1) 99 args h = evFn hk0 Tp (call Tp Ms d) M99 d Tryz.f99 args h := by kernel_rfl
theorem e134 (x0 : Value) (x1 : Int) (h : AHeap) : evFn hk Tp C M134 N Tryz.f134 [x0, .int .i64 x1] h =
  (C 136 [x0, .int .i64 x1] h).bind fun r1 => (asI .i64 r1.1).bind fun n2 => some (.bool (n2 == 0), r1.2) := by kernel_rfl
theorem c134 (d : Nat) (args : List Value) (h : AHeap) : call Tp Ms (d + 1) 134 args h = evFn hk0 Tp (call Tp Ms d) M134 d Tryz.f134 args h := by kernel_rfl
theorem e190 (x0 : Value) (x1 : ByteArray) (h : AHeap) : evFn hk Tp C M190 N Tryz.f190 [x0, .string x1] h =
  bif (ByteArray.size x1 : Int) == 0 then some (.string (⟨#[120]⟩), h) else (C 136 [x0, .int .i64 (ByteArray.size x1 : Int)] h).bind fun r1 => (asI .i64 r1.1).bind fun n2 => (C 136 [x0, .int .i64 4] r1.2).bind fun r3 => (asI .i64 r3.1).bind fun n4 => bif n4 == 0 then (aSubS (.string x1) none (some (.int .i64 n2))).bind fun v5 => (asS v5).bind fun t6 => some (.string t6, r3.2) else bif n4 == 1 then (aSubS (.string x1) none (some (.int .i64 n2))).bind fun v7 => (asS v7).bind fun t8 => (aSubS (.string x1) (some (.int .i64 n2)) none).bind fun v9 => (asS v9).bind fun t10 => aNewS r3.2 9 [.string (⟨#[32, 59, 32]⟩), .string (⟨#[123]⟩), .string (⟨#[125]⟩), .string (⟨#[40]⟩), .string (⟨#[32, 101, 108, 115, 101, 32]⟩), .string (⟨#[61, 61]⟩), .string (⟨#[32, 97, 32]⟩), .string (⟨#[57, 122]⟩), .string (⟨#[126]⟩), .string (⟨#[32, 108, 111, 110, 103, 108, 111, 110, 103, 108, 111, 110, 103, 110, 97, 109, 101, 32]⟩), .string (⟨#[91, 49, 93]⟩), .string (⟨#[46]⟩), .string (⟨#[34]⟩), .string (⟨#[45, 45, 32, 120]⟩)] 14 fun p11 h12 => ((aSubS (.string x1) none (some (.int .i64 n2))).bind fun v13 => (asS v13).bind fun t14 => some (vbeq (.string t14) (.string t8))).bind fun b15 => bif b15 then ((aSubS (.string x1) (some (.int .i64 n2)) none).bind fun v16 => (asS v16).bind fun t17 => some (vbeq (.string t17) (.string t10))).bind fun b18 => bif b18 then (C 159 [x0, p11] h12).bind fun r19 => (asS r19.1).bind fun t20 => ((aSubS (.string x1) none (some (.int .i64 n2))).bind fun v21 => (asS v21).bind fun t22 => some (vbeq (.string t22) (.string t8))).bind fun b23 => bif b23 then ((aSubS (.string x1) (some (.int .i64 n2)) none).bind fun v24 => (asS v24).bind fun t25 => some (vbeq (.string t25) (.string t10))).bind fun b26 => bif b26 then (aBin .add (.string t8) (.string t20)).bind fun v27 => (asS v27).bind fun t28 => (aBin .add (.string t28) (.string t10)).bind fun v29 => (asS v29).bind fun t30 => some (.string t30, r19.2) else none else none else none else none else bif n4 == 2 then (aSubS (.string x1) none (some (.int .i64 n2))).bind fun v31 => (asS v31).bind fun t32 => (aSubS (.string x1) (some (.int .i64 (IntKind.i64.wrap (n2 + 1)))) none).bind fun v33 => (asS v33).bind fun t34 => (aBin .add (.string t32) (.string t34)).bind fun v35 => (asS v35).bind fun t36 => some (.string t36, r3.2) else (aSubS (.string x1) none (some (.int .i64 n2))).bind fun v37 => (asS v37).bind fun t38 => (aSubS (.string x1) (some (.int .i64 (IntKind.i64.wrap (n2 + 1)))) none).bind fun v39 => (asS v39).bind fun t40 => aNewS r3.2 9 [.string (⟨#[61]⟩), .string (⟨#[32]⟩), .string (⟨#[60]⟩), .string (⟨#[46]⟩), .string (⟨#[48]⟩), .string (⟨#[120]⟩), .string (⟨#[35]⟩)] 7 fun p41 h42 => ((aSubS (.string x1) none (some (.int .i64 n2))).bind fun v43 => (asS v43).bind fun t44 => some (vbeq (.string t44) (.string t38))).bind fun b45 => bif b45 then ((aSubS (.string x1) (some (.int .i64 (IntKind.i64.wrap (n2 + 1)))) none).bind fun v46 => (asS v46).bind fun t47 => some (vbeq (.string t47) (.string t40))).bind fun b48 => bif b48 then (C 159 [x0, p41] h42).bind fun r49 => (asS r49.1).bind fun t50 => ((aSubS (.string x1) none (some (.int .i64 n2))).bind fun v51 => (asS v51).bind fun t52 => some (vbeq (.string t52) (.string t38))).bind fun b53 => bif b53 then ((aSubS (.string x1) (some (.int .i64 (IntKind.i64.wrap (n2 + 1)))) none).bind fun v54 => (asS v54).bind fun t55 => some (vbeq (.string t55) (.string t40))).bind fun b56 => bif b56 then (aBin .add (.string t38) (.string t50)).bind fun v57 => (asS v57).bind fun t58 => (aBin .add (.string t58) (.string t40)).bind fun v59 => (asS v59).bind fun t60 => some (.string t60, r49.2) else none else none else none else none := by kernel_rfl
theorem c190 (d : Nat) (args : List Value) (h : AHeap) : call Tp Ms (d + 1) 190 args h = evFn hk0 Tp (call Tp Ms d) M190 d Tryz.f190 args h := by kernel_rfl
def F187_0 (n1 : Nat) : Nx (Value × AHeap) := evSt hk Tp C M187 N Tryz.f187 [1, 1, 1, 0, 1, 2, 6] [n1]
def s187_0 (n1 : Nat) (x0 : Value) (x3 : Int) (x4 : ByteArray) (x5 : Int) (h : AHeap) := F187_0 hk C N n1 (⟨31, [(0, x0), (3, .int .i64 x3), (4, .string x4), (5, .int .i64 x5)]⟩) h
def F187_1 (n1 : Nat) : Nx (Value × AHeap) := evSt hk Tp C M187 N Tryz.f187 [1, 1, 1, 1, 1, 0, 1, 2, 6] [n1]
def s187_1 (n1 : Nat) (x3 : Int) (x4 : ByteArray) (x6 : Int) (h : AHeap) := F187_1 hk C N n1 (⟨31, [(3, .int .i64 x3), (4, .string x4), (6, .int .i64 x6)]⟩) h
theorem e187 (x0 : Value) (h : AHeap) : evFn hk Tp C M187 N Tryz.f187 [x0] h =
  (C 136 [x0, .int .i64 5] h).bind fun r1 => (asI .i64 r1.1).bind fun n2 => s187_0 hk C N N x0 (IntKind.i64.wrap (27 + n2)) (⟨#[108, 111, 99, 97, 108, 32, 120, 32, 61, 32]⟩) 0 r1.2 := by kernel_rfl
theorem s187_0_eq (n1 : Nat) (x0 : Value) (x3 : Int) (x4 : ByteArray) (x5 : Int) (h : AHeap) : s187_0 hk C N (n1 + 1) x0 x3 x4 x5 h =
  bif decide (x5 < x3) then aNewS h 9 [.string (⟨#[40]⟩), .string (⟨#[35]⟩), .string (⟨#[40]⟩)] 3 fun p3 h4 => (C 159 [x0, p3] h4).bind fun r5 => (asS r5.1).bind fun t6 => (aBin .add (.string x4) (.string t6)).bind fun v7 => (asS v7).bind fun t8 => s187_0 hk C N n1 x0 x3 t8 (IntKind.i64.wrap (x5 + 1)) r5.2 else (aBin .add (.string x4) (.string (⟨#[49]⟩))).bind fun v9 => (asS v9).bind fun t10 => s187_1 hk C N N x3 t10 0 h := by kernel_rfl
theorem s187_1_eq (n1 : Nat) (x3 : Int) (x4 : ByteArray) (x6 : Int) (h : AHeap) : s187_1 hk C N (n1 + 1) x3 x4 x6 h =
  bif decide (x6 < x3) then (aBin .add (.string x4) (.string (⟨#[41]⟩))).bind fun v11 => (asS v11).bind fun t12 => s187_1 hk C N n1 x3 t12 (IntKind.i64.wrap (x6 + 1)) h else (aBin .add (.string x4) (.string (⟨#[59, 32]⟩))).bind fun v13 => (asS v13).bind fun t14 => some (.string t14, h) := by kernel_rfl
theorem c187 (d : Nat) (args : List Value) (h : AHeap) : call Tp Ms (d + 1) 187 args h = evFn hk0 Tp (call Tp Ms d) M187 d Tryz.f187 args h := by kernel_rfl
def F188_0 (n1 : Nat) : Nx (Value × AHeap) := evSt hk Tp C M188 N Tryz.f188 [1, 1, 1, 1, 0, 1, 2, 6] [n1]
def s188_0 (n1 : Nat) (x0 : Value) (x2 : Bool) (x7 : Value) (x8 : ByteArray) (x9 x10 : Int) (h : AHeap) := F188_0 hk C N n1 (⟨67, [(0, x0), (2, .bool x2), (7, x7), (8, .string x8), (9, .int .i64 x9), (10, .int .i64 x10)]⟩) h
def F188_1 (n1 : Nat) : Nx (Value × AHeap) := evSt hk Tp C M188 N Tryz.f188 [1, 1, 1, 1, 1, 0, 1, 4, 1, 1, 1, 1, 2, 6] [n1]
def s188_1 (n1 : Nat) (x0 x7 : Value) (x8 : ByteArray) (x12 x13 : Int) (h : AHeap) := F188_1 hk C N n1 (⟨67, [(0, x0), (7, x7), (8, .string x8), (12, .int .i64 x12), (13, .int .i64 x13)]⟩) h
def F188_2 : Nx (Value × AHeap) := evSt hk Tp C M188 N Tryz.f188 [1, 1, 1, 1, 1, 1] []
def s188_2 (x8 : ByteArray) (h : AHeap) := hk 16 (⟨67, [(8, .string x8)]⟩) h (F188_2 hk C N)
theorem e188 (x0 : Value) (x1 : Int) (x2 : Bool) (h : AHeap) : evFn hk Tp C M188 N Tryz.f188 [x0, .int .i64 x1, .bool x2] h =
  (aCells (.agg (List.toArray [.slice none 0 0, .slice none 0 0, .int .i64 0, .int .i64 x1, .bool false, .bool x2]))).bind fun c1 => aNew h 289 c1 fun p2 h3 => (C 136 [x0, .int .i64 4] h3).bind fun r4 => (asI .i64 r4.1).bind fun n5 => s188_0 hk C N N x0 x2 p2 ⟨#[]⟩ (IntKind.i64.wrap (2 + n5)) 0 r4.2 := by kernel_rfl
theorem s188_0_eq (n1 : Nat) (x0 : Value) (x2 : Bool) (x7 : Value) (x8 : ByteArray) (x9 x10 : Int) (h : AHeap) : s188_0 hk C N (n1 + 1) x0 x2 x7 x8 x9 x10 h =
  bif decide (x10 < x9) then (C 272 [x0, x7, .int .i64 4] h).bind fun r6 => (asS r6.1).bind fun t7 => (aBin .add (.string x8) (.string t7)).bind fun v8 => (asS v8).bind fun t9 => s188_0 hk C N n1 x0 x2 x7 t9 x9 (IntKind.i64.wrap (x10 + 1)) r6.2 else bif x2 then (C 273 [x0, x7, .int .i64 3] h).bind fun r10 => (asS r10.1).bind fun t11 => (aBin .add (.string x8) (.string (⟨#[108, 111, 99, 97, 108, 32, 99, 99, 32, 61, 32, 99, 111, 40]⟩))).bind fun v12 => (asS v12).bind fun t13 => (aBin .add (.string t13) (.string t11)).bind fun v14 => (asS v14).bind fun t15 => (aBin .add (.string t15) (.string (⟨#[41, 59, 32, 112, 114, 105, 110, 116, 40, 114, 101, 115, 117, 109, 101, 40, 99, 99, 44, 32]⟩))).bind fun v16 => (asS v16).bind fun t17 => (C 274 [x0, x7, .int .i64 1] r10.2).bind fun r18 => (asS r18.1).bind fun t19 => (aBin .add (.string t17) (.string t19)).bind fun v20 => (asS v20).bind fun t21 => (aBin .add (.string t21) (.string (⟨#[41, 41, 59, 32, 112, 114, 105, 110, 116, 40, 115, 116, 97, 116, 101, 40, 99, 99, 41, 41, 59, 32]⟩))).bind fun v22 => (asS v22).bind fun t23 => (C 136 [x0, .int .i64 3] r18.2).bind fun r24 => (asI .i64 r24.1).bind fun n25 => s188_1 hk C N N x0 x7 t23 n25 0 r24.2 else s188_2 hk C N x8 h := by kernel_rfl
theorem s188_1_eq (n1 : Nat) (x0 x7 : Value) (x8 : ByteArray) (x12 x13 : Int) (h : AHeap) : s188_1 hk C N (n1 + 1) x0 x7 x8 x12 x13 h =
  bif decide (x13 < x12) then (aBin .add (.string x8) (.string (⟨#[112, 114, 105, 110, 116, 40, 112, 99, 97, 108, 108, 40, 102, 110, 40, 120, 41, 32, 123, 32, 114, 101, 116, 117, 114, 110, 32, 114, 101, 115, 117, 109, 101, 40, 99, 99, 44, 32, 120, 41, 59, 32, 125, 44, 32]⟩))).bind fun v26 => (asS v26).bind fun t27 => (C 274 [x0, x7, .int .i64 1] h).bind fun r28 => (asS r28.1).bind fun t29 => (aBin .add (.string t27) (.string t29)).bind fun v30 => (asS v30).bind fun t31 => (aBin .add (.string t31) (.string (⟨#[41, 41, 59, 32]⟩))).bind fun v32 => (asS v32).bind fun t33 => (C 272 [x0, x7, .int .i64 3] r28.2).bind fun r34 => (asS r34.1).bind fun t35 => (aBin .add (.string t33) (.string t35)).bind fun v36 => (asS v36).bind fun t37 => s188_1 hk C N n1 x0 x7 t37 x12 (IntKind.i64.wrap (x13 + 1)) r34.2 else s188_2 hk C N x8 h := by kernel_rfl
theorem s188_2_j (x8 : ByteArray) (h : AHeap) : s188_2 hk0 C N x8 h = F188_2 hk0 C N (⟨67, [(8, .string x8)]⟩) h := by delta s188_2; exact hk0_app _ _ _ _
theorem s188_2_eq (x8 : ByteArray) (h : AHeap) : F188_2 hk C N (⟨67, [(8, .string x8)]⟩) h =
  bif decide ((ByteArray.size x8 : Int) > 3000) then some (.string (⟨#[112, 114, 105, 110, 116, 40, 49, 41, 59, 32]⟩), h) else some (.string x8, h) := by kernel_rfl
theorem c188 (d : Nat) (args : List Value) (h : AHeap) : call Tp Ms (d + 1) 188 args h = evFn hk0 Tp (call Tp Ms d) M188 d Tryz.f188 args h := by kernel_rfl
theorem e189 (x0 : Value) (x1 : Int) (h : AHeap) : evFn hk Tp C M189 N Tryz.f189 [x0, .int .i64 x1] h =
  (aLen x0).bind fun v1 => (asI .i64 v1).bind fun n2 => bif decide ((IntKind.i64.wrap (2 + (IntKind.i64.wrap (Int.tdiv n2 20)))) > x1) then some (.int .i64 x1, h) else some (.int .i64 (IntKind.i64.wrap (2 + (IntKind.i64.wrap (Int.tdiv n2 20)))), h) := by kernel_rfl
theorem c189 (d : Nat) (args : List Value) (h : AHeap) : call Tp Ms (d + 1) 189 args h = evFn hk0 Tp (call Tp Ms d) M189 d Tryz.f189 args h := by kernel_rfl
theorem e136 (x0 : Value) (x1 : Int) (h : AHeap) : evFn hk Tp C M136 N Tryz.f136 [x0, .int .i64 x1] h =
  bif decide (x1 ≤ 0) then some (.int .i64 0, h) else bif decide (x1 ≤ 256) then (C 228 [x0] h).bind fun r1 => (asI .i64 r1.1).bind fun n2 => (aBin .rem (.int .i64 n2) (.int .i64 x1)).bind fun v3 => (asI .i64 v3).bind fun n4 => some (.int .i64 n4, r1.2) else (C 228 [x0] h).bind fun r5 => (asI .i64 r5.1).bind fun n6 => (C 228 [x0] r5.2).bind fun r7 => (asI .i64 r7.1).bind fun n8 => (C 228 [x0] r7.2).bind fun r9 => (asI .i64 r9.1).bind fun n10 => (C 228 [x0] r9.2).bind fun r11 => (asI .i64 r11.1).bind fun n12 => (aBin .rem (.int .i64 (IntKind.i64.wrap ((IntKind.i64.wrap ((IntKind.i64.wrap ((IntKind.i64.wrap (n6 * 16777216)) + (IntKind.i64.wrap (n8 * 65536)))) + (IntKind.i64.wrap (n10 * 256)))) + n12))) (.int .i64 x1)).bind fun v13 => (asI .i64 v13).bind fun n14 => some (.int .i64 n14, r11.2) := by kernel_rfl
theorem c136 (d : Nat) (args : List Value) (h : AHeap) : call Tp Ms (d + 1) 136 args h = evFn hk0 Tp (call Tp Ms d) M136 d Tryz.f136 args h := by kernel_rfl
theorem e159 (x0 x1 : Value) (h : AHeap) : evFn hk Tp C M159 N Tryz.f159 [x0, x1] h =
  (aLen x1).bind fun v1 => (asI .i64 v1).bind fun n2 => (C 136 [x0, .int .i64 n2] h).bind fun r3 => (asI .i64 r3.1).bind fun n4 => (aIdx x1 (.int .i64 n4) 1).bind fun v5 => (aLd1 r3.2 v5).bind fun v6 => (asS v6).bind fun t7 => some (.string t7, r3.2) := by kernel_rfl
theorem c159 (d : Nat) (args : List Value) (h : AHeap) : call Tp Ms (d + 1) 159 args h = evFn hk0 Tp (call Tp Ms d) M159 d Tryz.f159 args h := by kernel_rfl
def F272_0 : Nx (Value × AHeap) := evSt hk Tp C M272 N Tryz.f272 [1, 1, 0, 1] []
def s272_0 (x0 x1 : Value) (x2 : Int) (x35 : Bool) (h : AHeap) := hk 100003 (⟨231, [(0, x0), (1, x1), (2, .int .i64 x2), (35, .bool x35)]⟩) h (F272_0 hk C N)
def F272_1 : Nx (Value × AHeap) := evSt hk Tp C M272 N Tryz.f272 [1, 1, 1] []
def s272_1 (x0 x1 : Value) (x2 : Int) (h : AHeap) := hk 4 (⟨231, [(0, x0), (1, x1), (2, .int .i64 x2)]⟩) h (F272_1 hk C N)
def F272_2 : Nx (Value × AHeap) := evSt hk Tp C M272 N Tryz.f272 [1, 1, 1, 0, 1, 2, 1] []
def s272_2 (x0 x1 : Value) (x2 x42 : Int) (x43 : Bool) (h : AHeap) := hk 100007 (⟨231, [(0, x0), (1, x1), (2, .int .i64 x2), (42, .int .i64 x42), (43, .bool x43)]⟩) h (F272_2 hk C N)
def F272_3 : Nx (Value × AHeap) := evSt hk Tp C M272 N Tryz.f272 [1, 1, 1, 0, 1, 2, 1, 5, 1, 5, 1] []
def s272_3 (x0 x1 : Value) (x2 x42 : Int) (x68 : Bool) (h : AHeap) := hk 100014 (⟨231, [(0, x0), (1, x1), (2, .int .i64 x2), (42, .int .i64 x42), (68, .bool x68)]⟩) h (F272_3 hk C N)
def F272_5 : Nx (Value × AHeap) := evSt hk Tp C M272 N Tryz.f272 [1, 1, 1, 1] []
def s272_5 (x0 x1 : Value) (h : AHeap) := hk 46 (⟨231, [(0, x0), (1, x1)]⟩) h (F272_5 hk C N)
def F272_4 : Nx (Value × AHeap) := evSt hk Tp C M272 N Tryz.f272 [1, 1, 1, 0, 1, 2, 1, 5, 1, 5, 1, 5, 1, 5, 1, 5, 1] []
def s272_4 (x0 x1 : Value) (x2 x42 : Int) (x112 : Bool) (h : AHeap) := hk 100026 (⟨231, [(0, x0), (1, x1), (2, .int .i64 x2), (42, .int .i64 x42), (112, .bool x112)]⟩) h (F272_4 hk C N)
theorem e272 (x0 x1 : Value) (x2 : Int) (h : AHeap) : evFn hk Tp C M272 N Tryz.f272 [x0, x1, .int .i64 x2] h =
  (aNil x1).bind fun v1 => (aOff v1 3).bind fun v2 => (aLd1 h v2).bind fun v3 => (asI .i64 v3).bind fun n4 => (aNil x1).bind fun v5 => (aOff v5 3).bind fun v6 => (aSt h v6 (.int .i64 (IntKind.i64.wrap (n4 - 1))) 1).bind fun h7 => (aNil x1).bind fun v8 => (aOff v8 3).bind fun v9 => (aLd1 h7 v9).bind fun v10 => (asI .i64 v10).bind fun n11 => bif decide (n11 < 0) then s272_0 hk C N x0 x1 x2 true h7 else s272_0 hk C N x0 x1 x2 (decide (x2 ≤ 0)) h7 := by kernel_rfl
theorem s272_0_j (x0 x1 : Value) (x2 : Int) (x35 : Bool) (h : AHeap) : s272_0 hk0 C N x0 x1 x2 x35 h = F272_0 hk0 C N (⟨231, [(0, x0), (1, x1), (2, .int .i64 x2), (35, .bool x35)]⟩) h := by delta s272_0; exact hk0_app _ _ _ _
theorem s272_0_eq (x0 x1 : Value) (x2 : Int) (x35 : Bool) (h : AHeap) : F272_0 hk C N (⟨231, [(0, x0), (1, x1), (2, .int .i64 x2), (35, .bool x35)]⟩) h =
  bif x35 then (C 274 [x0, x1, .int .i64 1] h).bind fun r12 => (asS r12.1).bind fun t13 => (aBin .add (.string (⟨#[112, 114, 105, 110, 116, 40]⟩)) (.string t13)).bind fun v14 => (asS v14).bind fun t15 => (aBin .add (.string t15) (.string (⟨#[41, 59, 32]⟩))).bind fun v16 => (asS v16).bind fun t17 => some (.string t17, r12.2) else s272_1 hk C N x0 x1 x2 h := by kernel_rfl
theorem s272_1_j (x0 x1 : Value) (x2 : Int) (h : AHeap) : s272_1 hk0 C N x0 x1 x2 h = F272_1 hk0 C N (⟨231, [(0, x0), (1, x1), (2, .int .i64 x2)]⟩) h := by delta s272_1; exact hk0_app _ _ _ _
theorem s272_1_eq (x0 x1 : Value) (x2 : Int) (h : AHeap) : F272_1 hk C N (⟨231, [(0, x0), (1, x1), (2, .int .i64 x2)]⟩) h =
  (C 136 [x0, .int .i64 14] h).bind fun r18 => (asI .i64 r18.1).bind fun n19 => bif n19 == 0 then s272_2 hk C N x0 x1 x2 n19 (n19 == 0) r18.2 else s272_2 hk C N x0 x1 x2 n19 (n19 == 1) r18.2 := by kernel_rfl
theorem s272_2_j (x0 x1 : Value) (x2 x42 : Int) (x43 : Bool) (h : AHeap) : s272_2 hk0 C N x0 x1 x2 x42 x43 h = F272_2 hk0 C N (⟨231, [(0, x0), (1, x1), (2, .int .i64 x2), (42, .int .i64 x42), (43, .bool x43)]⟩) h := by delta s272_2; exact hk0_app _ _ _ _
theorem s272_2_eq (x0 x1 : Value) (x2 x42 : Int) (x43 : Bool) (h : AHeap) : F272_2 hk C N (⟨231, [(0, x0), (1, x1), (2, .int .i64 x2), (42, .int .i64 x42), (43, .bool x43)]⟩) h =
  bif x43 then (C 274 [x0, x1, .int .i64 2] h).bind fun r20 => (asS r20.1).bind fun t21 => (C 349 [x1, .int .i64 1] r20.2).bind fun r22 => (asS r22.1).bind fun t23 => (aBin .add (.string (⟨#[108, 111, 99, 97, 108, 32]⟩)) (.string t23)).bind fun v24 => (asS v24).bind fun t25 => (aBin .add (.string t25) (.string (⟨#[32, 61, 32]⟩))).bind fun v26 => (asS v26).bind fun t27 => (aBin .add (.string t27) (.string t21)).bind fun v28 => (asS v28).bind fun t29 => (aBin .add (.string t29) (.string (⟨#[59, 32]⟩))).bind fun v30 => (asS v30).bind fun t31 => some (.string t31, r22.2) else bif x42 == 2 then (C 350 [x0, x1, .int .i64 2] h).bind fun r32 => (asS r32.1).bind fun t33 => (C 349 [x1, .int .i64 2] r32.2).bind fun r34 => (asS r34.1).bind fun t35 => (aBin .add (.string (⟨#[108, 111, 99, 97, 108, 32]⟩)) (.string t35)).bind fun v36 => (asS v36).bind fun t37 => (aBin .add (.string t37) (.string (⟨#[32, 61, 32]⟩))).bind fun v38 => (asS v38).bind fun t39 => (aBin .add (.string t39) (.string t33)).bind fun v40 => (asS v40).bind fun t41 => (aBin .add (.string t41) (.string (⟨#[59, 32]⟩))).bind fun v42 => (asS v42).bind fun t43 => some (.string t43, r34.2) else bif x42 == 3 then s272_3 hk C N x0 x1 x2 x42 (x42 == 3) h else s272_3 hk C N x0 x1 x2 x42 (x42 == 4) h := by kernel_rfl
theorem s272_3_j (x0 x1 : Value) (x2 x42 : Int) (x68 : Bool) (h : AHeap) : s272_3 hk0 C N x0 x1 x2 x42 x68 h = F272_3 hk0 C N (⟨231, [(0, x0), (1, x1), (2, .int .i64 x2), (42, .int .i64 x42), (68, .bool x68)]⟩) h := by delta s272_3; exact hk0_app _ _ _ _
theorem s272_3_eq (x0 x1 : Value) (x2 x42 : Int) (x68 : Bool) (h : AHeap) : F272_3 hk C N (⟨231, [(0, x0), (1, x1), (2, .int .i64 x2), (42, .int .i64 x42), (68, .bool x68)]⟩) h =
  bif x68 then (C 351 [x0, x1, .int .i64 2] h).bind fun r44 => (asS r44.1).bind fun t45 => (C 349 [x1, .int .i64 3] r44.2).bind fun r46 => (asS r46.1).bind fun t47 => (aBin .add (.string (⟨#[108, 111, 99, 97, 108, 32]⟩)) (.string t47)).bind fun v48 => (asS v48).bind fun t49 => (aBin .add (.string t49) (.string (⟨#[32, 61, 32]⟩))).bind fun v50 => (asS v50).bind fun t51 => (aBin .add (.string t51) (.string t45)).bind fun v52 => (asS v52).bind fun t53 => (aBin .add (.string t53) (.string (⟨#[59, 32]⟩))).bind fun v54 => (asS v54).bind fun t55 => some (.string t55, r46.2) else bif x42 == 5 then (C 273 [x0, x1, .int .i64 (IntKind.i64.wrap (x2 - 1))] h).bind fun r56 => (asS r56.1).bind fun t57 => (C 349 [x1, .int .i64 4] r56.2).bind fun r58 => (asS r58.1).bind fun t59 => (aBin .add (.string (⟨#[108, 111, 99, 97, 108, 32]⟩)) (.string t59)).bind fun v60 => (asS v60).bind fun t61 => (aBin .add (.string t61) (.string (⟨#[32, 61, 32]⟩))).bind fun v62 => (asS v62).bind fun t63 => (aBin .add (.string t63) (.string t57)).bind fun v64 => (asS v64).bind fun t65 => (aBin .add (.string t65) (.string (⟨#[59, 32]⟩))).bind fun v66 => (asS v66).bind fun t67 => some (.string t67, r58.2) else bif x42 == 6 then (C 352 [x1, .int .i64 1] h).bind fun r68 => (aLen r68.1).bind fun v69 => (asI .i64 v69).bind fun n70 => bif decide (n70 > 0) then (C 159 [x0, r68.1] r68.2).bind fun r71 => (asS r71.1).bind fun t72 => (aBin .add (.string t72) (.string (⟨#[32, 61, 32]⟩))).bind fun v73 => (asS v73).bind fun t74 => (C 274 [x0, x1, .int .i64 2] r71.2).bind fun r75 => (asS r75.1).bind fun t76 => (aBin .add (.string t74) (.string t76)).bind fun v77 => (asS v77).bind fun t78 => (aBin .add (.string t78) (.string (⟨#[59, 32]⟩))).bind fun v79 => (asS v79).bind fun t80 => some (.string t80, r75.2) else s272_5 hk C N x0 x1 r68.2 else bif x42 == 7 then s272_4 hk C N x0 x1 x2 x42 (x42 == 7) h else s272_4 hk C N x0 x1 x2 x42 (x42 == 8) h := by kernel_rfl
theorem s272_5_j (x0 x1 : Value) (h : AHeap) : s272_5 hk0 C N x0 x1 h = F272_5 hk0 C N (⟨231, [(0, x0), (1, x1)]⟩) h := by delta s272_5; exact hk0_app _ _ _ _
theorem s272_5_eq (x0 x1 : Value) (h : AHeap) : F272_5 hk C N (⟨231, [(0, x0), (1, x1)]⟩) h =
  (C 353 [x0, x1, .int .i64 3] h).bind fun r81 => (asS r81.1).bind fun t82 => (aBin .add (.string (⟨#[112, 114, 105, 110, 116, 40]⟩)) (.string t82)).bind fun v83 => (asS v83).bind fun t84 => (aBin .add (.string t84) (.string (⟨#[41, 59, 32]⟩))).bind fun v85 => (asS v85).bind fun t86 => some (.string t86, r81.2) := by kernel_rfl
theorem s272_4_j (x0 x1 : Value) (x2 x42 : Int) (x112 : Bool) (h : AHeap) : s272_4 hk0 C N x0 x1 x2 x42 x112 h = F272_4 hk0 C N (⟨231, [(0, x0), (1, x1), (2, .int .i64 x2), (42, .int .i64 x42), (112, .bool x112)]⟩) h := by delta s272_4; exact hk0_app _ _ _ _
theorem s272_4_eq (x0 x1 : Value) (x2 x42 : Int) (x112 : Bool) (h : AHeap) : F272_4 hk C N (⟨231, [(0, x0), (1, x1), (2, .int .i64 x2), (42, .int .i64 x42), (112, .bool x112)]⟩) h =
  bif x112 then (C 352 [x1, .int .i64 3] h).bind fun r87 => (aLen r87.1).bind fun v88 => (asI .i64 v88).bind fun n89 => bif decide (n89 > 0) then (C 159 [x0, r87.1] r87.2).bind fun r90 => (asS r90.1).bind fun t91 => (aBin .add (.string t91) (.string (⟨#[91]⟩))).bind fun v92 => (asS v92).bind fun t93 => (C 353 [x0, x1, .int .i64 1] r90.2).bind fun r94 => (asS r94.1).bind fun t95 => (aBin .add (.string t93) (.string t95)).bind fun v96 => (asS v96).bind fun t97 => (aBin .add (.string t97) (.string (⟨#[93, 32, 61, 32]⟩))).bind fun v98 => (asS v98).bind fun t99 => (C 353 [x0, x1, .int .i64 2] r94.2).bind fun r100 => (asS r100.1).bind fun t101 => (aBin .add (.string t99) (.string t101)).bind fun v102 => (asS v102).bind fun t103 => (aBin .add (.string t103) (.string (⟨#[59, 32]⟩))).bind fun v104 => (asS v104).bind fun t105 => some (.string t105, r100.2) else s272_5 hk C N x0 x1 r87.2 else bif x42 == 9 then (C 354 [x0, x1, .int .i64 2] h).bind fun r106 => (asS r106.1).bind fun t107 => (aBin .add (.string (⟨#[105, 102, 32]⟩)) (.string t107)).bind fun v108 => (asS v108).bind fun t109 => (aBin .add (.string t109) (.string (⟨#[32]⟩))).bind fun v110 => (asS v110).bind fun t111 => (C 355 [x0, x1, .int .i64 (IntKind.i64.wrap (x2 - 1)), .bool false] r106.2).bind fun r112 => (asS r112.1).bind fun t113 => (aBin .add (.string t111) (.string t113)).bind fun v114 => (asS v114).bind fun t115 => (aBin .add (.string t115) (.string (⟨#[32]⟩))).bind fun v116 => (asS v116).bind fun t117 => (C 134 [x0, .int .i64 2] r112.2).bind fun r118 => (asB r118.1).bind fun b119 => bif b119 then (aBin .add (.string t117) (.string (⟨#[101, 108, 115, 101, 32]⟩))).bind fun v120 => (asS v120).bind fun t121 => (C 355 [x0, x1, .int .i64 (IntKind.i64.wrap (x2 - 1)), .bool false] r118.2).bind fun r122 => (asS r122.1).bind fun t123 => (aBin .add (.string t121) (.string t123)).bind fun v124 => (asS v124).bind fun t125 => (aBin .add (.string t125) (.string (⟨#[32]⟩))).bind fun v126 => (asS v126).bind fun t127 => some (.string t127, r122.2) else some (.string t117, r118.2) else bif x42 == 10 then (C 349 [x1, .int .i64 5] h).bind fun r128 => (asS r128.1).bind fun t129 => (aBin .add (.string (⟨#[108, 111, 99, 97, 108, 32]⟩)) (.string t129)).bind fun v130 => (asS v130).bind fun t131 => (aBin .add (.string t131) (.string (⟨#[32, 61, 32, 48, 59, 32, 119, 104, 105, 108, 101, 32]⟩))).bind fun v132 => (asS v132).bind fun t133 => (aBin .add (.string t133) (.string t129)).bind fun v134 => (asS v134).bind fun t135 => (aBin .add (.string t135) (.string (⟨#[32, 60, 32]⟩))).bind fun v136 => (asS v136).bind fun t137 => aNewS r128.2 9 [.string (⟨#[50]⟩), .string (⟨#[51]⟩), .string (⟨#[53]⟩)] 3 fun p138 h139 => (C 159 [x0, p138] h139).bind fun r140 => (asS r140.1).bind fun t141 => (aBin .add (.string t137) (.string t141)).bind fun v142 => (asS v142).bind fun t143 => (aBin .add (.string t143) (.string (⟨#[32, 123, 32]⟩))).bind fun v144 => (asS v144).bind fun t145 => (aBin .add (.string t145) (.string t129)).bind fun v146 => (asS v146).bind fun t147 => (aBin .add (.string t147) (.string (⟨#[32, 61, 32]⟩))).bind fun v148 => (asS v148).bind fun t149 => (aBin .add (.string t149) (.string t129)).bind fun v150 => (asS v150).bind fun t151 => (aBin .add (.string t151) (.string (⟨#[32, 43, 32, 49, 59, 32]⟩))).bind fun v152 => (asS v152).bind fun t153 => (C 272 [x0, x1, .int .i64 (IntKind.i64.wrap (x2 - 1))] r140.2).bind fun r154 => (asS r154.1).bind fun t155 => (aBin .add (.string t153) (.string t155)).bind fun v156 => (asS v156).bind fun t157 => (aBin .add (.string t157) (.string (⟨#[125, 32]⟩))).bind fun v158 => (asS v158).bind fun t159 => some (.string t159, r154.2) else bif x42 == 11 then (C 352 [x1, .int .i64 4] h).bind fun r160 => (aLen r160.1).bind fun v161 => (asI .i64 v161).bind fun n162 => bif decide (n162 > 0) then (C 159 [x0, r160.1] r160.2).bind fun r163 => (asS r163.1).bind fun t164 => (aBin .add (.string (⟨#[112, 114, 105, 110, 116, 40, 112, 99, 97, 108, 108, 40]⟩)) (.string t164)).bind fun v165 => (asS v165).bind fun t166 => (aBin .add (.string t166) (.string (⟨#[44, 32]⟩))).bind fun v167 => (asS v167).bind fun t168 => (C 353 [x0, x1, .int .i64 1] r163.2).bind fun r169 => (asS r169.1).bind fun t170 => (aBin .add (.string t168) (.string t170)).bind fun v171 => (asS v171).bind fun t172 => (aBin .add (.string t172) (.string (⟨#[41, 41, 59, 32, 112, 114, 105, 110, 116, 40, 102, 97, 105, 108, 101, 100, 40, 41, 41, 59, 32]⟩))).bind fun v173 => (asS v173).bind fun t174 => some (.string t174, r169.2) else s272_5 hk C N x0 x1 r160.2 else bif x42 == 12 then (C 352 [x1, .int .i64 3] h).bind fun r175 => (aLen r175.1).bind fun v176 => (asI .i64 v176).bind fun n177 => bif decide (n177 > 0) then (C 159 [x0, r175.1] r175.2).bind fun r178 => (asS r178.1).bind fun t179 => (aBin .add (.string (⟨#[112, 114, 105, 110, 116, 40, 110, 101, 120, 116, 40]⟩)) (.string t179)).bind fun v180 => (asS v180).bind fun t181 => (aBin .add (.string t181) (.string (⟨#[44, 32]⟩))).bind fun v182 => (asS v182).bind fun t183 => (C 353 [x0, x1, .int .i64 1] r178.2).bind fun r184 => (asS r184.1).bind fun t185 => aNewS r184.2 9 [.string (⟨#[110, 105, 108]⟩), .string (⟨#[49]⟩), .string t185] 3 fun p186 h187 => (C 159 [x0, p186] h187).bind fun r188 => (asS r188.1).bind fun t189 => (aBin .add (.string t183) (.string t189)).bind fun v190 => (asS v190).bind fun t191 => (aBin .add (.string t191) (.string (⟨#[41, 41, 59, 32]⟩))).bind fun v192 => (asS v192).bind fun t193 => some (.string t193, r188.2) else s272_5 hk C N x0 x1 r175.2 else s272_5 hk C N x0 x1 h := by kernel_rfl
theorem c272 (d : Nat) (args : List Value) (h : AHeap) : call Tp Ms (d + 1) 272 args h = evFn hk0 Tp (call Tp Ms d) M272 d Tryz.f272 args h := by kernel_rfl
theorem e273 (x0 x1 : Value) (x2 : Int) (h : AHeap) : evFn hk Tp C M273 N Tryz.f273 [x0, x1, .int .i64 x2] h =
  (aNil x1).bind fun v1 => (aOff v1 0).bind fun v2 => (aLd1 h v2).bind fun v3 => (aNil x1).bind fun v4 => (aOff v4 1).bind fun v5 => (aLd1 h v5).bind fun v6 => (aNil x1).bind fun v7 => (aOff v7 4).bind fun v8 => (aLd1 h v8).bind fun v9 => (asB v9).bind fun b10 => ((aLd1 h v5).bind fun v11 => some (vbeq v11 v6)).bind fun b12 => bif b12 then ((aLd1 h v8).bind fun v13 => (asB v13).bind fun b14 => some (vbeq (.bool b14) (.bool b10))).bind fun b15 => bif b15 then ((aLd1 h v8).bind fun v16 => (asB v16).bind fun b17 => some (vbeq (.bool b17) (.bool b10))).bind fun b18 => bif b18 then (aNil x1).bind fun v19 => (aOff v19 4).bind fun v20 => (aSt h v20 (.bool true) 1).bind fun h21 => (C 349 [x1, .int .i64 1] h21).bind fun r22 => (asS r22.1).bind fun t23 => (aBin .add (.string (⟨#[102, 110, 40]⟩)) (.string t23)).bind fun v24 => (asS v24).bind fun t25 => (aBin .add (.string t25) (.string (⟨#[41, 32]⟩))).bind fun v26 => (asS v26).bind fun t27 => (C 355 [x0, x1, .int .i64 (IntKind.i64.wrap (x2 - 1)), .bool true] r22.2).bind fun r28 => (asS r28.1).bind fun t29 => (aBin .add (.string t27) (.string t29)).bind fun v30 => (asS v30).bind fun t31 => (aNil x1).bind fun v32 => (aOff v32 0).bind fun v33 => (aSt r28.2 v33 v3 1).bind fun h34 => (aNil x1).bind fun v35 => (aOff v35 1).bind fun v36 => (aSt h34 v36 v6 1).bind fun h37 => (aNil x1).bind fun v38 => (aOff v38 4).bind fun v39 => (aSt h37 v39 (.bool b10) 1).bind fun h40 => some (.string t31, h40) else none else none else none := by kernel_rfl
theorem c273 (d : Nat) (args : List Value) (h : AHeap) : call Tp Ms (d + 1) 273 args h = evFn hk0 Tp (call Tp Ms d) M273 d Tryz.f273 args h := by kernel_rfl
end
end Go.Proofs.YtajpnemfppaafaaGreat
