import Derived.Test.YtadmoackacickaaXTreeC
/- The plain law: both TreeOk say the same. -/
set_option linter.unusedSimpArgs false
namespace Go.Proofs.Ytadmoackacickaa
open Go Go.AH

theorem cls_ex (x : Int) : clsOk 1 x = isEx x := by
  unfold clsOk cls isEx
  rw [if_neg (by decide)]
  cases inR x 1 13 with
  | true => rfl
  | false =>
    rw [if_neg (by simp)]
    split
    · rfl
    · split
      · rfl
      · split
        · rfl
        · split <;> rfl
theorem ex_not {x : Int} (h : ¬ (1 ≤ x ∧ x ≤ 13)) : inR x 1 13 = false := by unfold inR; simp; omega
theorem st_not {x : Int} (h : ¬ (14 ≤ x ∧ x ≤ 20)) : inR x 14 20 = false := by unfold inR; simp; omega
theorem cls_st (x : Int) : clsOk 2 x = isSt x := by
  unfold clsOk cls isSt
  rw [if_neg (by decide)]
  by_cases h1 : 1 ≤ x ∧ x ≤ 13
  · have a : inR x 1 13 = true := by unfold inR; simp; omega
    rw [a, if_pos rfl, st_not (by omega)]; rfl
  · rw [ex_not h1, if_neg (by simp)]
    cases inR x 14 20 with
    | true => rfl
    | false =>
      rw [if_neg (by simp)]
      split
      · rfl
      · split
        · rfl
        · split <;> rfl
theorem cls_n (c : Int) (hc : c = 3 ∨ c = 4) (x : Int) : clsOk c x = (x == if c = 3 then 21 else 22) := by
  have hm : cls x = if inR x 1 13 = true then 1 else if inR x 14 20 = true then 2 else if x = 21 then 3 else if x = 22 then 4 else if x = 23 ∨ x = 24 then 5 else 0 := rfl
  unfold clsOk
  by_cases h1 : 1 ≤ x ∧ x ≤ 13
  · have a : inR x 1 13 = true := by unfold inR; simp; omega
    rw [hm, a, if_pos rfl]
    rcases hc with rfl | rfl
    · rw [if_neg (by decide), if_pos rfl, beq_eq_false_iff_ne.2 (show x ≠ 21 by omega)]; rfl
    · rw [if_neg (by decide), if_neg (by decide), beq_eq_false_iff_ne.2 (show x ≠ 22 by omega)]; rfl
  · by_cases h2 : 14 ≤ x ∧ x ≤ 20
    · have b : inR x 14 20 = true := by unfold inR; simp; omega
      rw [hm, ex_not h1, b, if_neg (c := false = true) (by simp), if_pos (c := true = true) rfl]
      rcases hc with rfl | rfl
      · rw [if_neg (by decide), if_pos rfl, beq_eq_false_iff_ne.2 (show x ≠ 21 by omega)]; rfl
      · rw [if_neg (by decide), if_neg (by decide), beq_eq_false_iff_ne.2 (show x ≠ 22 by omega)]; rfl
    · rw [hm, ex_not h1, st_not h2, if_neg (c := false = true) (by simp), if_neg (c := false = true) (by simp)]
      by_cases k1 : x = 21
      · subst k1; rcases hc with rfl | rfl <;> rfl
      · by_cases k2 : x = 22
        · subst k2; rcases hc with rfl | rfl <;> rfl
        · rw [if_neg k1, if_neg k2]
          have : (if x = 23 ∨ x = 24 then (5 : Int) else 0) ≠ 3 ∧ (if x = 23 ∨ x = 24 then (5 : Int) else 0) ≠ 4 := by split <;> decide
          rcases hc with rfl | rfl
          · rw [if_neg (by decide), beq_eq_false_iff_ne.2 this.1, if_pos rfl, beq_eq_false_iff_ne.2 k1]; rfl
          · rw [if_neg (by decide), beq_eq_false_iff_ne.2 this.2, if_neg (by decide), beq_eq_false_iff_ne.2 k2]; rfl
theorem cls_bl (x : Int) : clsOk 3 x = isBl x := cls_n 3 (.inl rfl) x
theorem cls_pr (x : Int) : clsOk 4 x = (x == 22) := cls_n 4 (.inr rfl) x
theorem cls_fi (x : Int) : clsOk 5 x = (x == 23 || x == 24) := by
  have hm : cls x = if inR x 1 13 = true then 1 else if inR x 14 20 = true then 2 else if x = 21 then 3 else if x = 22 then 4 else if x = 23 ∨ x = 24 then 5 else 0 := rfl
  unfold clsOk
  rw [if_neg (by decide)]
  by_cases h1 : 1 ≤ x ∧ x ≤ 13
  · have a : inR x 1 13 = true := by unfold inR; simp; omega
    rw [hm, a, if_pos rfl, beq_eq_false_iff_ne.2 (show x ≠ 23 by omega), beq_eq_false_iff_ne.2 (show x ≠ 24 by omega)]; rfl
  · by_cases h2 : 14 ≤ x ∧ x ≤ 20
    · have b : inR x 14 20 = true := by unfold inR; simp; omega
      rw [hm, ex_not h1, b, if_neg (c := false = true) (by simp), if_pos (c := true = true) rfl, beq_eq_false_iff_ne.2 (show x ≠ 23 by omega), beq_eq_false_iff_ne.2 (show x ≠ 24 by omega)]; rfl
    · rw [hm, ex_not h1, st_not h2, if_neg (c := false = true) (by simp), if_neg (c := false = true) (by simp)]
      by_cases k1 : x = 21
      · subst k1; rfl
      · by_cases k2 : x = 22
        · subst k2; rfl
        · rw [if_neg k1, if_neg k2]
          by_cases k3 : x = 23
          · subst k3; rfl
          · by_cases k4 : x = 24
            · subst k4; rfl
            · rw [if_neg (fun h => h.elim k3 k4), beq_eq_false_iff_ne.2 k3, beq_eq_false_iff_ne.2 k4]; rfl
theorem cls_call (x : Int) : clsOk 6 x = (x == 9) := rfl
/-- What the reference asks of kids. -/
def shP (k : Int) (kk : List Int) : Bool := decide ((shape k kk.length).length = kk.length) && (kk.zip (shape k kk.length)).all fun p => clsOk p.2 p.1
theorem zip_rep (c : Int) : ∀ kk : List Int, ((kk.zip (List.replicate kk.length c)).all fun p => clsOk p.2 p.1) = kk.all (clsOk c)
  | [] => rfl
  | x :: kk => by rw [List.length_cons, List.replicate_succ, List.zip_cons_cons, List.all_cons, List.all_cons, zip_rep c kk]
theorem sh_rep (c : Int) (kk : List Int) : (decide ((List.replicate kk.length c).length = kk.length) && (kk.zip (List.replicate kk.length c)).all fun p => clsOk p.2 p.1) = kk.all (clsOk c) := by
  rw [zip_rep, List.length_replicate, decide_eq_true rfl, Bool.true_and]
theorem are_zip : ∀ (kk cs : List Int), ((kk.zip (cs.map clsOk)).all fun p => p.2 p.1) = ((kk.zip cs).all fun p => clsOk p.2 p.1)
  | [], _ => by simp
  | _ :: _, [] => by simp
  | x :: kk, c :: cs => by rw [List.map_cons, List.zip_cons_cons, List.zip_cons_cons, List.all_cons, List.all_cons, are_zip kk cs]
theorem sh_are (cs kk : List Int) : (decide (cs.length = kk.length) && (kk.zip cs).all fun p => clsOk p.2 p.1) = kidsAreP kk (cs.map clsOk) := by
  unfold kidsAreP
  rw [List.length_map, are_zip]
  congr 1
  rw [Bool.eq_iff_iff]; simp [eq_comm]
theorem fEx : clsOk 1 = isEx := funext cls_ex
theorem fSt : clsOk 2 = isSt := funext cls_st
theorem fBl : clsOk 3 = isBl := funext cls_bl
theorem fPr : clsOk 4 = fun x => x == 22 := funext cls_pr
theorem fFi : clsOk 5 = fun x => x == 23 || x == 24 := funext cls_fi
theorem fCa : clsOk 6 = fun x => x == 9 := funext cls_call
theorem sh_fn (kk : List Int) : (decide (0 < kk.length) && (kk.dropLast.all (· == 22) && kk.getLast? == some 21)) = (decide ((List.replicate (kk.length - 1) (4 : Int) ++ [3]).length = kk.length) && (kk.zip (List.replicate (kk.length - 1) 4 ++ [3])).all fun p => clsOk p.2 p.1) := by
  rcases List.eq_nil_or_concat kk with rfl | ⟨ys, y, rfl⟩
  · rfl
  · rw [List.concat_eq_append]
    have hl : (ys ++ [y]).length = ys.length + 1 := by simp
    have hr : (List.replicate ys.length (4 : Int) ++ [3]).length = ys.length + 1 := by simp
    rw [hl, Nat.add_sub_cancel, hr, decide_eq_true (show 0 < ys.length + 1 by omega), decide_eq_true (show ys.length + 1 = ys.length + 1 from rfl), Bool.true_and, Bool.true_and]
    rw [List.zip_append (by simp), List.all_append, zip_rep, fPr, List.dropLast_concat, List.getLast?_concat]
    have : (List.zip [y] [(3 : Int)]).all (fun p => clsOk p.2 p.1) = (some y == some (21 : Int)) := by
      show (clsOk 3 y && true) = _
      rw [cls_bl, Bool.and_true]; rfl
    rw [this]
theorem sh_call (kk : List Int) : (decide (0 < kk.length) && kk.all isEx) = (decide (([1] ++ List.replicate (kk.length - 1) (1 : Int)).length = kk.length) && (kk.zip ([1] ++ List.replicate (kk.length - 1) (1 : Int))).all fun p => clsOk p.2 p.1) := by
  cases kk with
  | nil => rfl
  | cons x kk =>
    rw [List.length_cons, Nat.add_sub_cancel, show [(1 : Int)] ++ List.replicate kk.length 1 = List.replicate (x :: kk).length 1 from rfl]
    have := sh_rep 1 (x :: kk)
    rw [fEx] at this
    rw [List.length_cons] at this
    rw [List.length_cons, this, decide_eq_true (show 0 < kk.length + 1 by omega), Bool.true_and]
theorem sh_if (kk : List Int) : (kidsAreP kk [isEx, isBl] || kidsAreP kk [isEx, isBl, isBl]) = (decide ((if kk.length = 3 then [(1 : Int), 3, 3] else [1, 3]).length = kk.length) && (kk.zip (if kk.length = 3 then [(1 : Int), 3, 3] else [1, 3])).all fun p => clsOk p.2 p.1) := by
  by_cases h : kk.length = 3
  · rw [if_pos h, sh_are [1, 3, 3] kk]
    have : kidsAreP kk [isEx, isBl] = false := by unfold kidsAreP; rw [decide_eq_false (by rw [h]; decide)]; rfl
    rw [this, Bool.false_or]
    show _ = kidsAreP kk [clsOk 1, clsOk 3, clsOk 3]
    rw [fEx, fBl]
  · rw [if_neg h, sh_are [1, 3] kk]
    have : kidsAreP kk [isEx, isBl, isBl] = false := by unfold kidsAreP; rw [decide_eq_false (by simpa using h)]; rfl
    rw [this, Bool.or_false]
    show _ = kidsAreP kk [clsOk 1, clsOk 3]
    rw [fEx, fBl]
theorem sh_nil (kk : List Int) : decide (kk.length = 0) = (decide (([] : List Int).length = kk.length) && (kk.zip ([] : List Int)).all fun p => clsOk p.2 p.1) := by
  rw [List.zip_nil_right, List.all_nil, Bool.and_true, Bool.eq_iff_iff]; simp [eq_comm]
theorem kids_shape {k : Int} (h1 : 1 ≤ k) (h2 : k ≤ 24) (kk : List Int) : kidsP k kk = shP k kk := by
  have A1 : kidsAreP kk [isEx] = (decide ([(1 : Int)].length = kk.length) && (kk.zip [(1 : Int)]).all fun p => clsOk p.2 p.1) := by rw [sh_are [1] kk]; show _ = kidsAreP kk [clsOk 1]; rw [fEx]
  have A2 : kidsAreP kk [isEx, isEx] = (decide ([(1 : Int), 1].length = kk.length) && (kk.zip [(1 : Int), 1]).all fun p => clsOk p.2 p.1) := by rw [sh_are [1, 1] kk]; show _ = kidsAreP kk [clsOk 1, clsOk 1]; rw [fEx]
  have A3 : kidsAreP kk [isEx, isEx, isEx] = (decide ([(1 : Int), 1, 1].length = kk.length) && (kk.zip [(1 : Int), 1, 1]).all fun p => clsOk p.2 p.1) := by rw [sh_are [1, 1, 1] kk]; show _ = kidsAreP kk [clsOk 1, clsOk 1, clsOk 1]; rw [fEx]
  have A4 : kidsAreP kk [isEx, isBl] = (decide ([(1 : Int), 3].length = kk.length) && (kk.zip [(1 : Int), 3]).all fun p => clsOk p.2 p.1) := by rw [sh_are [1, 3] kk]; show _ = kidsAreP kk [clsOk 1, clsOk 3]; rw [fEx, fBl]
  have A5 : kidsAreP kk [fun k => k == 9] = (decide ([(6 : Int)].length = kk.length) && (kk.zip [(6 : Int)]).all fun p => clsOk p.2 p.1) := by rw [sh_are [6] kk]; show _ = kidsAreP kk [clsOk 6]; rw [fCa]
  have B5 := sh_rep 5 kk
  rw [fFi] at B5
  have B2 := sh_rep 2 kk
  rw [fSt] at B2
  have : k = 1 ∨ k = 2 ∨ k = 3 ∨ k = 4 ∨ k = 5 ∨ k = 6 ∨ k = 7 ∨ k = 8 ∨ k = 9 ∨ k = 10 ∨ k = 11 ∨ k = 12 ∨ k = 13 ∨ k = 14 ∨ k = 15 ∨ k = 16 ∨ k = 17 ∨ k = 18 ∨ k = 19 ∨ k = 20 ∨ k = 21 ∨ k = 22 ∨ k = 23 ∨ k = 24 := by omega
  rcases this with rfl | rfl | rfl | rfl | rfl | rfl | rfl | rfl | rfl | rfl | rfl | rfl | rfl | rfl | rfl | rfl | rfl | rfl | rfl | rfl | rfl | rfl | rfl | rfl <;>
    first | exact sh_nil kk | exact sh_fn kk | exact B5.symm | exact A2 | exact sh_call kk | exact A1 | exact A3 | exact sh_if kk | exact A4 | exact A5 | exact B2.symm
end Go.Proofs.Ytadmoackacickaa
/- The plain law: both TreeOk say the same (2). -/
set_option linter.unusedSimpArgs false
namespace Go.Proofs.Ytadmoackacickaa
open Go Go.AH

structure Good (T : List Kn) (j : Nat) (n : Kn) : Prop where
  rng : ∀ k ∈ n.ks, 0 ≤ k ∧ k < j
  has : hasP n = true
  knd : 1 ≤ n.k ∧ n.k ≤ 24
  shp : shP n.k (n.ks.map (kd T)) = true
theorem kidsP_range {k : Int} {kk : List Int} (h : kidsP k kk = true) : 1 ≤ k ∧ k ≤ 24 := by
  by_cases hk : 1 ≤ k ∧ k ≤ 24
  · exact hk
  · exfalso
    have ne : ∀ c : Int, 1 ≤ c → c ≤ 24 → (k == c) = false := fun c a b => beq_eq_false_iff_ne.2 (by omega)
    unfold kidsP at h
    have l1 : leaf k = false := by unfold leaf; rw [ne 1 (by decide) (by decide), ne 2 (by decide) (by decide), ne 3 (by decide) (by decide), ne 4 (by decide) (by decide), ne 5 (by decide) (by decide), ne 22 (by decide) (by decide)]; rfl
    have l2 : two2 k = false := by unfold two2; rw [ne 8 (by decide) (by decide), ne 10 (by decide) (by decide), ne 12 (by decide) (by decide), ne 13 (by decide) (by decide), ne 24 (by decide) (by decide)]; rfl
    have l3 : one1 k = false := by unfold one1; rw [ne 11 (by decide) (by decide), ne 14 (by decide) (by decide), ne 15 (by decide) (by decide), ne 19 (by decide) (by decide), ne 23 (by decide) (by decide)]; rfl
    rw [l1, l2, l3, if_neg (by simp), if_neg (by omega), if_neg (by omega), if_neg (by simp), if_neg (by omega), if_neg (by simp), if_neg (by omega), if_neg (by omega), if_neg (by omega), if_neg (by omega), if_neg (by omega)] at h
    cases h
theorem good_iff {T : List Kn} {j : Nat} {n : Kn} : nodeOkP T j n = true ↔ Good T j n := by
  unfold nodeOkP
  simp only [Bool.and_eq_true, List.all_eq_true]
  constructor
  · rintro ⟨h1, h2, h3⟩
    have hr := kidsP_range h3
    refine ⟨fun k hk => ?_, h2, hr, by rw [← kids_shape hr.1 hr.2]; exact h3⟩
    have := h1 k hk
    unfold inR at this; simp at this; omega
  · rintro ⟨h1, h2, h3, h4⟩
    refine ⟨fun k hk => ?_, h2, by rw [kids_shape h3.1 h3.2]; exact h4⟩
    have := h1 k hk
    unfold inR; simp; omega
theorem clsOk_range {c k : Int} (h : clsOk c k = true) : 1 ≤ k ∧ k ≤ 24 := by
  by_cases hk : 1 ≤ k ∧ k ≤ 24
  · exact hk
  · exfalso
    unfold clsOk at h
    split at h
    · simp at h; omega
    · have hm : cls k = 0 := by
        have e : cls k = if inR k 1 13 = true then 1 else if inR k 14 20 = true then 2 else if k = 21 then 3 else if k = 22 then 4 else if k = 23 ∨ k = 24 then 5 else 0 := rfl
        rw [e, ex_not (by omega), st_not (by omega), if_neg (by simp), if_neg (by simp), if_neg (by omega), if_neg (by omega), if_neg (by omega)]
      rw [hm] at h
      simp at h
      exact h.2 h.1.symm
def FitA (T : List Kn) (f : Nat) : Prop := ∀ (i c next : Int) (seen : List Bool), (fitsP T f i c next seen).1.2 = true → 0 ≤ next →
  ∃ iN : Nat, i = iN ∧ iN < T.length ∧ (fitsP T f i c next seen).1.1 = i + 1 ∧ numP T f i next = i + 1 ∧ next ≤ i ∧ clsOk c (kd T i) = true ∧ ∀ j : Nat, next ≤ j → j ≤ iN → ∃ n, T[j]? = some n ∧ Good T j n
theorem kidsA {T : List Kn} {f : Nat} (hF : FitA T f) {iN : Nat} : ∀ (ks sh : List Int) (next : Int) (seen : List Bool), sh.length = ks.length → (kidsGo (fitsP T f) (iN : Int) ks sh next seen).1.2 = true → 0 ≤ next →
    (kidsGo (fitsP T f) (iN : Int) ks sh next seen).1.1 = iN + 1 ∧ numGo' (numP T f) (iN : Int) ks next = iN + 1 ∧ next ≤ iN ∧ (∀ k ∈ ks, 0 ≤ k ∧ k < iN) ∧ (((ks.map (kd T)).zip sh).all fun p => clsOk p.2 p.1) = true ∧
      ∀ j : Nat, next ≤ j → j < iN → ∃ n, T[j]? = some n ∧ Good T j n
  | [], [], next, seen, _, h, h0 => by
    simp only [kidsGo, beq_iff_eq] at h
    subst h
    refine ⟨rfl, by rw [numGo', if_pos rfl], Int.le_refl _, fun k hk => by simp at hk, rfl, fun j a b => by omega⟩
  | kid :: ks, s :: sh, next, seen, hl, h, h0 => by
    rw [kidsGo] at h ⊢
    by_cases hge : kid ≥ (iN : Int)
    · rw [if_pos hge] at h; cases h
    · rw [if_neg hge] at h ⊢
      by_cases hf : (fitsP T f kid s next seen).1.2 = true
      · rw [if_pos hf] at h ⊢
        obtain ⟨kN, a1, a2, a3, a4, a5, a6, a7⟩ := hF kid s next seen hf h0
        obtain ⟨b1, b2, b3, b4, b5, b6⟩ := kidsA hF ks sh _ _ (by simpa using hl) h (by rw [a3]; omega)
        rw [a3] at b2 b3 b6
        refine ⟨b1, ?_, by omega, fun k hk => ?_, ?_, fun j c1 c2 => ?_⟩
        · rw [numGo', a4, if_neg (by omega)]; exact b2
        · rcases List.mem_cons.1 hk with rfl | hk
          · omega
          · exact b4 k hk
        · rw [List.map_cons, List.zip_cons_cons, List.all_cons, a6, b5]; rfl
        · by_cases hj : (j : Int) ≤ kid
          · exact a7 j c1 (by omega)
          · exact b6 j (by omega) c2
      · rw [if_neg hf] at h; cases h
theorem fitA (T : List Kn) : ∀ f, FitA T f := by
  intro f
  induction f with
  | zero => intro i c next seen h; cases h
  | succ f ih =>
    intro i c next seen h h0
    unfold fitsP at h ⊢
    cases hT : T[i.toNat]? with
    | none => rw [hT] at h; cases h
    | some n =>
      rw [hT] at h
      simp only at h ⊢
      by_cases hc : 0 ≤ i ∧ seen[i.toNat]? = some false
      · rw [if_pos hc] at h ⊢
        by_cases hn : nodeFit n c = true
        · rw [if_pos hn] at h ⊢
          obtain ⟨iN, rfl⟩ : ∃ iN : Nat, i = (iN : Int) := ⟨i.toNat, by omega⟩
          have hT' : T[iN]? = some n := hT
          have hi : iN < T.length := (List.getElem?_eq_some_iff.1 hT').1
          have hkd : kd T (iN : Int) = n.k := by
            show ((T[(iN : Int).toNat]?).map Kn.k).getD 0 = n.k
            rw [hT]; rfl
          unfold nodeFit at hn
          simp only [Bool.and_eq_true, beq_iff_eq] at hn
          obtain ⟨n1, n2, n3⟩ := hn
          have hlen : (shape n.k n.ks.length).length = n.ks.length := by omega
          obtain ⟨b1, b2, b3, b4, b5, b6⟩ := kidsA ih n.ks (shape n.k n.ks.length) next _ hlen h h0
          refine ⟨iN, rfl, hi, b1, ?_, b3, by rw [hkd]; exact n1, fun j c1 c2 => ?_⟩
          · show (match T[(iN : Int).toNat]? with | some n => numGo' (numP T f) (iN : Int) n.ks next | none => -1) = _
            rw [hT]; exact b2
          · by_cases hj : j < iN
            · exact b6 j c1 hj
            · have : j = iN := by omega
              subst this
              refine ⟨n, hT', b4, n3, clsOk_range n1, ?_⟩
              unfold shP
              rw [List.length_map, hlen, decide_eq_true rfl, b5]; rfl
        · rw [if_neg hn] at h; cases h
      · rw [if_neg hc] at h; cases h
theorem numGo_le {T : List Kn} {f : Nat} (hF : ∀ k fr : Int, 0 ≤ numP T f k fr → 0 ≤ fr → numP T f k fr = k + 1 ∧ fr ≤ k) {i : Int} : ∀ (ks : List Int) (fr : Int), 0 ≤ numGo' (numP T f) i ks fr → 0 ≤ fr → numGo' (numP T f) i ks fr = i + 1 ∧ fr ≤ i
  | [], fr, h, h0 => by
    rw [numGo'] at h ⊢
    by_cases he : i = fr
    · rw [if_pos he]; omega
    · rw [if_neg he] at h; omega
  | k :: ks, fr, h, h0 => by
    rw [numGo'] at h ⊢
    by_cases hn : numP T f k fr < 0
    · rw [if_pos hn] at h; omega
    · rw [if_neg hn] at h ⊢
      have a := hF k fr (by omega) h0
      have b := numGo_le hF ks _ h (by omega)
      omega
theorem num_le (T : List Kn) : ∀ (f : Nat) (i fr : Int), 0 ≤ numP T f i fr → 0 ≤ fr → numP T f i fr = i + 1 ∧ fr ≤ i := by
  intro f
  induction f with
  | zero => intro i fr h; exact absurd h (by show ¬ (0 ≤ (-1 : Int)); decide)
  | succ f ih =>
    intro i fr h h0
    unfold numP at h ⊢
    cases hT : T[i.toNat]? with
    | none => rw [hT] at h; exact absurd h (by show ¬ (0 ≤ (-1 : Int)); decide)
    | some n => rw [hT] at h; exact numGo_le ih n.ks fr h h0
def FitB (T : List Kn) (f : Nat) : Prop := ∀ (i c next : Int) (seen : List Bool), seen.length = T.length → 0 ≤ next → 0 ≤ i → i < T.length → numP T f i next = i + 1 → clsOk c (kd T i) = true → (∀ j : Nat, next ≤ j → j ≤ i → seen[j]? = some false) →
  (fitsP T f i c next seen).1 = (i + 1, true) ∧ (fitsP T f i c next seen).2.length = T.length ∧ ∀ j : Nat, i < j → (fitsP T f i c next seen).2[j]? = seen[j]?
theorem kidsB {T : List Kn} {f : Nat} (hF : FitB T f) {iN : Nat} (hi : iN < T.length) : ∀ (ks sh : List Int) (next : Int) (seen : List Bool), sh.length = ks.length → seen.length = T.length → 0 ≤ next → (∀ k ∈ ks, 0 ≤ k ∧ k < iN) →
    numGo' (numP T f) (iN : Int) ks next = iN + 1 → (((ks.map (kd T)).zip sh).all fun p => clsOk p.2 p.1) = true → (∀ j : Nat, next ≤ j → j < iN → seen[j]? = some false) →
    (kidsGo (fitsP T f) (iN : Int) ks sh next seen).1 = ((iN : Int) + 1, true) ∧ (kidsGo (fitsP T f) (iN : Int) ks sh next seen).2.length = T.length ∧ ∀ j : Nat, iN ≤ j → (kidsGo (fitsP T f) (iN : Int) ks sh next seen).2[j]? = seen[j]?
  | [], [], next, seen, _, hs, h0, hk, hn, _, hf => by
    rw [numGo'] at hn
    by_cases he : (iN : Int) = next
    · rw [kidsGo]
      subst he
      exact ⟨by simp, hs, fun j _ => rfl⟩
    · rw [if_neg he] at hn; omega
  | kid :: ks, s :: sh, next, seen, hl, hs, h0, hk, hn, hz, hf => by
    rw [numGo'] at hn
    rw [kidsGo]
    by_cases hneg : numP T f kid next < 0
    · rw [if_pos hneg] at hn; omega
    · rw [if_neg hneg] at hn
      have hkid := hk kid (by simp)
      obtain ⟨n1, n2⟩ := num_le T f kid next (by omega) h0
      rw [List.map_cons, List.zip_cons_cons, List.all_cons, Bool.and_eq_true] at hz
      obtain ⟨a1, a2, a3⟩ := hF kid s next seen hs h0 hkid.1 (by omega) n1 hz.1 (fun j c1 c2 => hf j c1 (by omega))
      rw [if_neg (show ¬ kid ≥ (iN : Int) by omega), a1, if_pos rfl]
      rw [n1] at hn
      obtain ⟨b1, b2, b3⟩ := kidsB hF hi ks sh (kid + 1) _ (by simpa using hl) a2 (by omega) (fun k hk' => hk k (by simp [hk'])) hn hz.2 (fun j c1 c2 => by rw [a3 j (by omega)]; exact hf j (by omega) c2)
      exact ⟨b1, b2, fun j hj => by rw [b3 j hj]; exact a3 j (by omega)⟩
theorem fitB {T : List Kn} (hG : ∀ (j : Nat) (n : Kn), T[j]? = some n → Good T j n) : ∀ f, FitB T f := by
  intro f
  induction f with
  | zero => intro i c next seen _ _ h0 _ hn; exact absurd hn (by show ¬ ((-1 : Int) = i + 1); omega)
  | succ f ih =>
    intro i c next seen hs h0 hi0 hi1 hn hc hf
    obtain ⟨iN, rfl⟩ : ∃ iN : Nat, i = (iN : Int) := ⟨i.toNat, by omega⟩
    have hi : iN < T.length := by omega
    have hT : T[(iN : Int).toNat]? = some T[iN] := by simp [hi]
    have hT' : T[iN]? = some T[iN] := by simp [hi]
    have hkd : kd T (iN : Int) = T[iN].k := by
      show ((T[(iN : Int).toNat]?).map Kn.k).getD 0 = _
      rw [hT]; rfl
    have g := hG iN _ hT'
    have hle : next ≤ (iN : Int) := (num_le T (f + 1) iN next (by omega) h0).2
    unfold numP at hn
    rw [hT] at hn
    simp only at hn
    unfold fitsP
    rw [hT]
    simp only
    have hsf : seen[(iN : Int).toNat]? = some false := hf iN hle (Int.le_refl _)
    have hshp := g.shp
    unfold shP at hshp
    rw [List.length_map, Bool.and_eq_true, decide_eq_true_eq] at hshp
    have hfit : nodeFit T[iN] c = true := by
      unfold nodeFit
      rw [← hkd, hc, hkd, g.has, hshp.1]; simp
    rw [if_pos ⟨hi0, hsf⟩, if_pos hfit]
    obtain ⟨b1, b2, b3⟩ := kidsB ih hi T[iN].ks (shape T[iN].k T[iN].ks.length) next (seen.set (iN : Int).toNat true) hshp.1 (by simp [hs]) h0 g.rng hn hshp.2 (fun j c1 c2 => by
      show (seen.set iN true)[j]? = some false
      rw [List.getElem?_set_ne (by omega)]; exact hf j c1 (by omega))
    refine ⟨b1, b2, fun j hj => ?_⟩
    rw [b3 j (by omega)]
    show (seen.set iN true)[j]? = seen[j]?
    rw [List.getElem?_set_ne (by omega)]
theorem ok_same (T : List Kn) (top : Int) : specOk T top = implOk T top := by
  unfold specOk implOk
  by_cases h3 : T.length > 3000
  · rw [if_pos h3, if_pos (.inl h3)]
  rw [if_neg h3, Bool.eq_iff_iff]
  constructor
  · intro h
    rw [Bool.and_eq_true, beq_iff_eq] at h
    obtain ⟨tN, a1, a2, a3, a4, a5, a6, a7⟩ := fitA T _ top 3 0 _ h.1 (by omega)
    have ht : top = (T.length : Int) - 1 := by omega
    have hk : kd T ((T.length : Int) - 1) = 21 := by
      rw [ht] at a6
      rw [cls_bl] at a6
      unfold isBl at a6
      simpa using a6
    rw [if_neg (by rintro (a | a | a | a)
                   · exact h3 a
                   · omega
                   · exact a ht
                   · exact a hk), Bool.and_eq_true, beq_iff_eq]
    refine ⟨(okFrom_all _ _).2 fun i _ hi => ?_, ?_⟩
    · obtain ⟨n, b1, b2⟩ := a7 i (by omega) (by omega)
      unfold nodeOkI
      rw [b1]; exact good_iff.2 b2
    · rw [← ht, a4]; omega
  · intro h
    by_cases hc : T.length > 3000 ∨ T.length = 0 ∨ top ≠ (T.length : Int) - 1 ∨ kd T ((T.length : Int) - 1) ≠ 21
    · rw [if_pos hc] at h; cases h
    rw [if_neg hc, Bool.and_eq_true, beq_iff_eq] at h
    have h0 : T.length ≠ 0 := fun x => hc (.inr (.inl x))
    have ht : top = (T.length : Int) - 1 := by
      by_cases e : top = (T.length : Int) - 1
      · exact e
      · exact absurd (.inr (.inr (.inl e))) hc
    have hk : kd T ((T.length : Int) - 1) = 21 := by
      by_cases e : kd T ((T.length : Int) - 1) = 21
      · exact e
      · exact absurd (.inr (.inr (.inr e))) hc
    have hG : ∀ (j : Nat) (n : Kn), T[j]? = some n → Good T j n := fun j n hn => by
      have hj : j < T.length := (List.getElem?_eq_some_iff.1 hn).1
      have := (okFrom_all _ _).1 h.1 j (by omega) (by omega)
      unfold nodeOkI at this
      rw [hn] at this
      exact good_iff.1 this
    obtain ⟨b1, _, _⟩ := fitB hG (T.length + 1) top 3 0 (List.replicate T.length false) (by simp) (by omega) (by omega) (by omega) (by rw [ht, h.2]; omega) (by rw [ht, hk]; decide) (fun j _ hj => by rw [List.getElem?_replicate, if_pos (by omega)])
    rw [b1, ht]
    simp
end Go.Proofs.Ytadmoackacickaa
/- FnExactTreeOk, as the small evaluator runs it. -/
set_option linter.unusedSimpArgs false
namespace Go.Proofs.Ytadmoackacickaa
open Go Go.AH

theorem l4 {d : Nat} (hd : 1048577 < d) {nv : Value} {T : List Kn} {top : Int} {h : AHeap} (x : KSl h.size h nv T) (hb : T.length ≤ bigT) (hN : ∀ n ∈ T, okK n) :
    ∃ h', call Try.prog Ms (d + 3010 + 10) 4 [trVal nv top] h = some (.bool true, h') := by
  have e1 := Ext.new (Nat.le_refl h.size) 30 [nv, .int .i64 top]
  have r1 := (Own.new (b := h.size) (Nat.le_refl _) 30 [nv, .int .i64 top]).row
  have s1 : (h.new 30 [nv, .int .i64 top]).size = h.size + 1 := rfl
  have hcall : call Try.prog Ms (d + 3010 + 10) 4 [trVal nv top] h = evFn hk0 Try.prog (call Try.prog Ms (d + 3010 + 9)) M4 (d + 3010 + 9) Try.f4 [trVal nv top] h := c4 (d + 3010 + 9) _ _
  rw [hcall, e4, tr_aCells x, Option.bind_some]
  simp only [aNew]
  have x1 := (x.ext e1).mono (show h.size ≤ (h.new 30 [nv, .int .i64 top]).size by omega)
  generalize h.new 30 [nv, .int .i64 top] = h1 at e1 r1 s1 x1 ⊢
  obtain ⟨_, _, aN⟩ := ld2 r1
  have aN' : aLdN h1 (ptr h.size 0) 2 = some (trVal nv top) := aN
  obtain ⟨h2, c2, e2⟩ := l19 (d := d + 3010 + 5) (by omega) (top := top) x1 (Nat.le_refl _) hN hb
  have c2' : call Try.prog Ms (d + 3010 + 9) 19 [trVal nv top, .int .i64 1048576] h1 = _ := c2
  rw [aN', Option.bind_some, c2', Option.bind_some]
  simp only [asI, if_true, Option.bind_some]
  by_cases hs : szT T 1048576 < 0
  · rw [if_pos hs, decide_eq_true (show (-1 : Int) < 0 by decide), cond_true]; exact ⟨h2, rfl⟩
  rw [if_neg hs, decide_eq_false hs, cond_false]
  obtain ⟨hT, hK⟩ := szT_ok (ns := T) (by omega)
  have s2 := e2.size
  have r2 := r1.ext e2 (by omega)
  have x2 := (x1.ext e2).mono s2
  obtain ⟨_, _, b2⟩ := ld2 r2
  have b2' : aLdN h2 (ptr h.size 0) 2 = some (trVal nv top) := b2
  obtain ⟨na, h3, c3, e3, k3⟩ := l21 (d := d + 3010 + 5) (by omega) (top := top) x2 (Nat.le_refl _) hT hK
  have c3' : call Try.prog Ms (d + 3010 + 9) 21 [trVal nv top] h2 = _ := c3
  have s3 := e3.size
  obtain ⟨h4, c4', e4⟩ := l20 (d := d + 2) (by omega) (top := top) k3.ksl (Nat.le_refl _) hT hK
  rw [show d + 2 + 3010 + 7 = d + 3010 + 9 by omega] at c4'
  have s4 := e4.size
  have r4 := (r2.ext e3 (by omega)).ext e4 (by omega)
  obtain ⟨_, _, d4⟩ := ld2 r4
  have d4' : aLdN h4 (ptr h.size 0) 2 = some (trVal nv top) := d4
  have x4 := (((x2.ext e3).mono s3).ext e4).mono s4
  rw [b2', Option.bind_some, c3', Option.bind_some, c4', Option.bind_some]
  simp only [asB, Option.bind_some]
  obtain ⟨nb, h5, c5, e5, k5⟩ := l21 (d := d + 3010 + 5) (by omega) (top := top) x4 (Nat.le_refl _) hT hK
  have c5' : call Try.prog Ms (d + 3010 + 9) 21 [trVal nv top] h4 = _ := c5
  have s5 := e5.size
  rw [d4', Option.bind_some, c5', Option.bind_some]
  have e6 := Ext.new (Nat.le_refl h5.size) 35 [.slice none 0 0, .int .i64 0]
  have o6 := Own.new (Nat.le_refl h5.size) 35 [.slice none 0 0, .int .i64 0]
  have s6 : (h5.new 35 [.slice none 0 0, .int .i64 0]).size = h5.size + 1 := rfl
  simp only [aNew]
  have k6 := k5.ext e6
  generalize h5.new 35 [.slice none 0 0, .int .i64 0] = h6 at e6 o6 s6 k6 ⊢
  obtain ⟨h7, t7, e7, o7, s7, q7⟩ := Own.stX o6 (off := 0) (n := 2) (v := trVal nb top) (tr_aCells k6.ksl top) rfl (by show 0 + 2 ≤ 2; omega)
  have k7 := k6.keep (e := 35) (by decide) (by decide) q7
  have r7 : Row h7 h5.size [nb, .int .i64 top] := o7.row
  obtain ⟨_, _, a7⟩ := ld2 r7
  have a7' : aLdN h7 (ptr h5.size 0) 2 = some (trVal nb top) := a7
  obtain ⟨h8, c8, e8⟩ := l22 hd (top := top) k7.ksl (Nat.le_refl _) hT hK
  have c8' : call Try.prog Ms (d + 3010 + 9) 22 [trVal nb top] h7 = _ := c8
  have s8 := e8.size
  have r8 := r7.ext e8 (by omega)
  obtain ⟨_, _, a8⟩ := ld2 r8
  have a8' : aLdN h8 (ptr h5.size 0) 2 = some (trVal nb top) := a8
  have r18 := (((r4.ext e5 (by omega)).ext e6 (by omega)).ext (e7.mono (show h5.size ≤ h5.size by omega)) (by omega)).ext e8 (by omega)
  obtain ⟨_, _, d8⟩ := ld2 r18
  have d8' : aLdN h8 (ptr h.size 0) 2 = some (trVal nv top) := d8
  have x8 : KSl h4.size h8 nv T := ((((x4.ext e5).ext (e6.mono s5)).ext (e7.mono s5)).ext (e8.mono (by omega)))
  have k8 := k7.ext e8
  obtain ⟨nc, h9, c9, e9, k9⟩ := l21 (d := d + 3010 + 5) (by omega) (top := top) x8 (by omega) hT hK
  have c9' : call Try.prog Ms (d + 3010 + 9) 21 [trVal nv top] h8 = _ := c9
  have s9 := e9.size
  have r9 := r8.ext e9 (by omega)
  obtain ⟨_, _, a9⟩ := ld2 r9
  have a9' : aLdN h9 (ptr h5.size 0) 2 = some (trVal nb top) := a9
  obtain ⟨h10, c10, e10⟩ := l23 (d := d + 3010 + 5) (by omega) (top := top) (k8.ext e9).ksl k9.ksl (Nat.le_refl _) hT hK
  have c10' : call Try.prog Ms (d + 3010 + 9) 23 [trVal nb top, trVal nc top] h9 = _ := c10
  refine ⟨h10, ?_⟩
  rw [t7, Option.bind_some, a7', Option.bind_some, c8', Option.bind_some, ok_same]
  simp only [asB, Option.bind_some]
  rw [beq_self_eq_true, Bool.not_true, cond_false, a8', Option.bind_some, d8', Option.bind_some, c9', Option.bind_some]
  simp only [a9', Option.bind_some, tr_vbeq (k8.ext e9).ksl, cond_true]
  rw [c10', Option.bind_some]
  rfl
end Go.Proofs.Ytadmoackacickaa
