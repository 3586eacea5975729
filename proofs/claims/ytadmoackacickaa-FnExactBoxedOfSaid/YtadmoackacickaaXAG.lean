import Derived.Test.YtadmoackacickaaXAF
import Derived.Test.YtadmoackacickaaXAD
import Derived.KernelRfl
import Derived.Test.YtadmoackacickaaProg
set_option linter.unusedSimpArgs false
set_option linter.unusedVariables false
/- impl's TreeOk. -/
namespace Go.Proofs.Ytadmoackacickaa
open Go Go.AH
def nodeOkP (T : List Kn) (i : Int) (n : Kn) : Bool := n.ks.all (fun k => inR k 0 (i - 1)) && (hasP n && kidsP n.k (n.ks.map (kd T)))
theorem nodeOk_loop {d c : Nat} (hd : 1048577 < d) {tv : Value} {T : List Kn} (hT : T.length ≤ 3000) {iN : Nat} (hi : iN < T.length) {kv : Value} {n : Kn} (hl : n.ks.length ≤ 1048576) {h : AHeap} {q : Nat}
    (x : TreeP c h tv T) (y : ISl c h kv n.ks) (hc : c ≤ h.size) (rq : Row h q (knCells n kv)) (hq : q < h.size) :
    ∀ (k j m : Nat), n.ks.length - j = k → j ≤ n.ks.length → k < m → (∀ z ∈ n.ks.take j, 0 ≤ z ∧ z < iN) →
      ∃ h', s59_0 hk0 (call Tp Ms (d + 7)) (d + 7) m tv (iN : Int) (ptr q 0) kv (n.ks.length : Int) (j : Int) h = some (.bool ((n.ks.drop j).all (fun k => inR k 0 ((iN : Int) - 1)) && (hasP n && kidsP n.k (n.ks.map (kd T)))), h') ∧ Ext h.size h h' := by
  intro k
  induction k with
  | zero =>
    intro j m hk hj hm hpre
    obtain ⟨m, rfl⟩ : ∃ q, m = q + 1 := ⟨m - 1, by omega⟩
    have : ¬ ((j : Int) < (n.ks.length : Int)) := by omega
    have hx : ∀ z ∈ n.ks, 0 ≤ z ∧ z < T.length := fun z hz => by
      rw [List.take_of_length_le (by omega)] at hpre
      have := hpre z hz; omega
    obtain ⟨_, _, dN⟩ := nodeRow rq
    obtain ⟨h2, c2, e2⟩ := l104 (d := d + 4) (by omega) y
    have c2' : call Tp Ms (d + 7) 104 [knVal n kv] h = _ := c2
    have r2 := rq.ext e2 hq
    obtain ⟨_, _, dN2⟩ := nodeRow r2
    rw [s59_0_eq, decide_eq_false this, cond_false, dN, oBs, c2', oBs, List.drop_eq_nil_of_le (by omega), List.all_nil, Bool.true_and]
    simp only [asB, oBs]
    cases hasP n with
    | false => exact ⟨h2, rfl, e2⟩
    | true =>
      obtain ⟨h3, c3, e3⟩ := l105 hd hl hx (x.ext (e2.mono hc)) (y.ext (e2.mono hc)) (Nat.le_trans hc e2.size)
      refine ⟨h3, ?_, e2.trans (e3.mono e2.size)⟩
      rw [cond_true, dN2, oBs, c3, oBs]; rfl
  | succ k ih =>
    intro j m hk hj hm hpre
    obtain ⟨m, rfl⟩ : ∃ q, m = q + 1 := ⟨m - 1, by omega⟩
    have hlt : j < n.ks.length := by omega
    have hI : ((j : Int) < (n.ks.length : Int)) := by omega
    obtain ⟨p, e1, e2⟩ := y.at hlt
    have w : IntKind.i64.wrap ((iN : Int) - 1) = (iN : Int) - 1 := wr (by omega) (by omega)
    have wj : IntKind.i64.wrap ((j : Int) + 1) = ((j + 1 : Nat) : Int) := by rw [wr (by omega) (by omega)]; omega
    have l103' : ∀ (x a b : Int) (h : AHeap), call Tp Ms (d + 7) 103 [.int .i64 x, .int .i64 a, .int .i64 b] h = some (.bool (inR x a b), h) := l103 (d + 6)
    rw [s59_0_eq, decide_eq_true hI, cond_true, e1, oBs, e2, oBs]
    simp only [asI, if_true, oBs]
    rw [w, l103', oBs, List.drop_eq_getElem_cons hlt, List.all_cons]
    simp only [asB, oBs]
    cases hR : inR n.ks[j] 0 ((iN : Int) - 1) with
    | false =>
      rw [Bool.not_false, cond_true, Bool.false_and, Bool.false_and]
      exact ⟨h, rfl, Ext.refl _ _⟩
    | true =>
      rw [Bool.not_true, cond_false, Bool.true_and, wj]
      refine ih (j + 1) m (by omega) (by omega) (by omega) (fun z hz => ?_)
      rw [List.take_succ_eq_append_getElem hlt, List.mem_append] at hz
      rcases hz with hz | hz
      · exact hpre z hz
      · simp at hz; subst hz
        unfold inR at hR; simp at hR; omega
theorem l59 {d c : Nat} (hd : 1048577 < d) {tv : Value} {T : List Kn} (hT : T.length ≤ 3000) {iN : Nat} (hi : iN < T.length) (hN : ∀ n ∈ T, n.t.size ≤ 1048576 ∧ n.ks.length ≤ 1048576) {h : AHeap}
    (x : TreeP c h tv T) (hc : c ≤ h.size) :
    ∃ h', call Tp Ms (d + 8) 59 [tv, .int .i64 (iN : Int)] h = some (.bool (nodeOkP T iN T[iN]), h') ∧ Ext h.size h h' := by
  have hcall : call Tp Ms (d + 8) 59 [tv, .int .i64 (iN : Int)] h = evFn hk0 Tp (call Tp Ms (d + 7)) M59 (d + 7) Try.f59 [tv, .int .i64 (iN : Int)] h := c59 (d + 7) _ _
  obtain ⟨pn, nv, k1, k2, k3⟩ := x.nodes
  obtain ⟨i, kv, g1, g2, g3⟩ := k2.at hi
  obtain ⟨g4, _⟩ := g3 h (Ext.refl _ _)
  have e1 := Ext.new (Nat.le_refl h.size) 73 [.int .i64 0, .string ⟨#[]⟩, .int .i64 0, .slice none 0 0]
  have o1 := Own.new (Nat.le_refl h.size) 73 [.int .i64 0, .string ⟨#[]⟩, .int .i64 0, .slice none 0 0]
  have s1 : (h.new 73 [.int .i64 0, .string ⟨#[]⟩, .int .i64 0, .slice none 0 0]).size = h.size + 1 := rfl
  rw [hcall, e59]
  simp only [x.cells.2, oBs, k1, k3 h (Ext.refl _ _), g1, g4, aNew]
  generalize h.new 73 [.int .i64 0, .string ⟨#[]⟩, .int .i64 0, .slice none 0 0] = h1 at e1 o1 s1 ⊢
  obtain ⟨h2, t2, x2, o2, s2⟩ := Own.stN o1 (n := 4) (v := knVal T[iN] kv) (kn_aCells g2) rfl rfl
  have E2 := e1.trans x2
  have r2 : Row h2 h.size (knCells T[iN] kv) := o2.row
  obtain ⟨_, b3, _⟩ := nodeRow r2
  have y2 := g2.ext (E2.mono hc)
  obtain ⟨h3, c3, e3⟩ := nodeOk_loop hd hT hi (hN _ (List.getElem_mem hi)).2 (x.ext (E2.mono hc)) y2 (by omega) r2 (by omega) T[iN].ks.length 0 (d + 7) (by omega) (by omega) (by have := (hN _ (List.getElem_mem hi)).2; omega) (fun z hz => by simp at hz)
  refine ⟨h3, ?_, E2.trans (e3.mono (by omega))⟩
  simp only [t2, oBs, aOff_ptr, Nat.zero_add, b3, y2.len, asI, if_true]
  exact c3
def numGo' (F : Int → Int → Int) (i : Int) : List Int → Int → Int
  | [], fr => if i = fr then fr + 1 else -1
  | k :: ks, fr => if F k fr < 0 then -1 else numGo' F i ks (F k fr)
def numP (T : List Kn) : Nat → Int → Int → Int
  | 0, _, _ => -1
  | f + 1, i, fr => match T[i.toNat]? with
    | some n => numGo' (numP T f) i n.ks fr
    | none => -1
theorem num_loop {D N c : Nat} {tv : Value} {F : Int → Int → Int} {iN : Nat} (hiN : iN ≤ 3000) {xs : List Int} (hl : xs.length ≤ 1048576) {kv : Value} {h : AHeap} (y : ISl c h kv xs)
    (hF : ∀ k fr : Int, k ∈ xs → 0 ≤ fr → fr ≤ 10000 → call Tp Ms D 60 [tv, .int .i64 k, .int .i64 fr] h = some (.int .i64 (F k fr), h) ∧ (0 ≤ F k fr → F k fr = k + 1 ∧ k < iN)) :
    ∀ (k j m : Nat) (fr : Int), xs.length - j = k → j ≤ xs.length → k < m → 0 ≤ fr → fr ≤ 10000 →
      s60_0 hk0 (call Tp Ms D) N m tv (iN : Int) fr kv (xs.length : Int) (j : Int) h = some (.int .i64 (numGo' F iN (xs.drop j) fr), h) ∧ (0 ≤ numGo' F iN (xs.drop j) fr → numGo' F iN (xs.drop j) fr = iN + 1) := by
  intro k
  induction k with
  | zero =>
    intro j m fr hk hj hm h0 h1
    obtain ⟨m, rfl⟩ : ∃ q, m = q + 1 := ⟨m - 1, by omega⟩
    have : ¬ ((j : Int) < (xs.length : Int)) := by omega
    have w : IntKind.i64.wrap (fr + 1) = fr + 1 := wr (by omega) (by omega)
    rw [s60_0_eq, decide_eq_false this, cond_false, List.drop_eq_nil_of_le (by omega), numGo', w]
    by_cases he : (iN : Int) = fr
    · have : ((iN : Int) != fr) = false := by simp [he]
      rw [this, cond_false, if_pos he]
      exact ⟨rfl, fun _ => by omega⟩
    · have : ((iN : Int) != fr) = true := by simp [he]
      rw [this, cond_true, if_neg he]
      exact ⟨rfl, fun hh => by omega⟩
  | succ k ih =>
    intro j m fr hk hj hm h0 h1
    obtain ⟨m, rfl⟩ : ∃ q, m = q + 1 := ⟨m - 1, by omega⟩
    have hlt : j < xs.length := by omega
    have hI : ((j : Int) < (xs.length : Int)) := by omega
    obtain ⟨p, e1, e2⟩ := y.at hlt
    have wj : IntKind.i64.wrap ((j : Int) + 1) = ((j + 1 : Nat) : Int) := by rw [wr (by omega) (by omega)]; omega
    obtain ⟨c3, b3⟩ := hF xs[j] fr (List.getElem_mem hlt) h0 h1
    rw [s60_0_eq, decide_eq_true hI, cond_true, e1, oBs, e2, oBs, List.drop_eq_getElem_cons hlt, numGo']
    simp only [asI, if_true, oBs]
    rw [c3, oBs]
    simp only [asI, if_true, oBs]
    by_cases hn : F xs[j] fr < 0
    · rw [decide_eq_true hn, cond_true, if_pos hn]
      exact ⟨rfl, fun hh => by omega⟩
    · have hb := b3 (by omega)
      rw [decide_eq_false hn, cond_false, if_neg hn, wj]
      exact ih (j + 1) m (F xs[j] fr) (by omega) (by omega) (by omega) (by omega) (by omega)
theorem l60 {d c : Nat} (hd : 1048577 < d) {tv : Value} {T : List Kn} (hT : T.length ≤ 3000) (hN : ∀ n ∈ T, n.t.size ≤ 1048576 ∧ n.ks.length ≤ 1048576) (hG : ∀ (j : Nat) (n : Kn), T[j]? = some n → ∀ k ∈ n.ks, 0 ≤ k ∧ k < j) {h : AHeap} (x : TreeP c h tv T) :
    ∀ (f e : Nat) (i fr : Int), d + f ≤ e → 0 ≤ i → i < f → i < T.length → 0 ≤ fr → fr ≤ 10000 →
      call Tp Ms (e + 1) 60 [tv, .int .i64 i, .int .i64 fr] h = some (.int .i64 (numP T f i fr), h) ∧ (0 ≤ numP T f i fr → numP T f i fr = i + 1) := by
  intro f
  induction f with
  | zero => intro e i fr _ h0 h1; omega
  | succ f ih =>
    intro e i fr he h0 hif hit h3 h4
    obtain ⟨e, rfl⟩ : ∃ q, e = q + 1 := ⟨e - 1, by omega⟩
    obtain ⟨iN, rfl⟩ : ∃ iN : Nat, i = (iN : Int) := ⟨i.toNat, by omega⟩
    have hi : iN < T.length := by omega
    obtain ⟨pn, nv, k1, k2, k3⟩ := x.nodes
    obtain ⟨id, kv, g1, g2, g3⟩ := k2.at hi
    obtain ⟨_, _, _, _, g4⟩ := g3 h (Ext.refl _ _)
    have hTi : T[(iN : Int).toNat]? = some T[iN] := by simp [hi]
    have hTi' : T[iN]? = some T[iN] := by simp [hi]
    have hok := hN T[iN] (List.getElem_mem hi)
    have loop := num_loop (D := e + 1) (N := e + 1) (tv := tv) (F := numP T f) (iN := iN) (by omega) hok.2 g2 (fun k fr' hk a b => by
      have hk' := hG iN _ hTi' k hk
      obtain ⟨q1, q2⟩ := ih e k fr' (by omega) hk'.1 (by omega) (by omega) a b
      exact ⟨q1, fun hh => ⟨q2 hh, hk'.2⟩⟩) T[iN].ks.length 0 (e + 1) fr (by omega) (by omega) (by omega) h3 h4
    rw [List.drop_zero] at loop
    unfold numP
    rw [hTi, c60, e60]
    simp only [x.cells.2, oBs, k1, k3 h (Ext.refl _ _), g1, aOff_ptr, g4, g2.len, asI, if_true]
    exact loop
def nodeOkI (T : List Kn) (j : Nat) : Bool := match T[j]? with
  | some n => nodeOkP T j n
  | none => true
def okFrom (T : List Kn) : Nat → Nat → Bool
  | 0, _ => true
  | k + 1, j => nodeOkI T j && okFrom T k (j + 1)
theorem okFrom_all {T : List Kn} : ∀ (k j : Nat), okFrom T k j = true ↔ ∀ i, j ≤ i → i < j + k → nodeOkI T i = true
  | 0, j => ⟨fun _ i h1 h2 => by omega, fun _ => rfl⟩
  | k + 1, j => by
    rw [okFrom, Bool.and_eq_true, okFrom_all k (j + 1)]
    refine ⟨fun ⟨a, b⟩ i h1 h2 => ?_, fun H => ⟨H j (by omega) (by omega), fun i h1 h2 => H i (by omega) (by omega)⟩⟩
    by_cases he : i = j
    · subst he; exact a
    · exact b i (by omega) (by omega)
def implOk (T : List Kn) (top : Int) : Bool :=
  if T.length > 3000 ∨ T.length = 0 ∨ top ≠ (T.length : Int) - 1 ∨ kd T ((T.length : Int) - 1) ≠ 21 then false
  else okFrom T T.length 0 && numP T (T.length + 1) ((T.length : Int) - 1) 0 == (T.length : Int)
theorem ok_ranges {T : List Kn} (h : okFrom T T.length 0 = true) : ∀ (j : Nat) (n : Kn), T[j]? = some n → ∀ k ∈ n.ks, 0 ≤ k ∧ k < j := by
  intro j n hn k hk
  have hj : j < T.length := (List.getElem?_eq_some_iff.1 hn).1
  have := (okFrom_all _ _).1 h j (by omega) (by omega)
  unfold nodeOkI at this
  rw [hn] at this
  simp only [nodeOkP, Bool.and_eq_true, List.all_eq_true] at this
  have hR := this.1 k hk
  unfold inR at hR; simp at hR; omega
theorem impl_loop {d c : Nat} (hd : 1048577 < d) {T : List Kn} (hT : T.length ≤ 3000) (hN : ∀ n ∈ T, n.t.size ≤ 1048576 ∧ n.ks.length ≤ 1048576) {t : Nat} :
    ∀ (k j m : Nat) (h : AHeap), T.length - j = k → j ≤ T.length → k < m → 0 < T.length → TreeP c h (ptr t 0) T → c ≤ h.size → (∀ i, i < j → nodeOkI T i = true) →
      ∃ h', s22_2 hk0 (call Tp Ms (d + 3010 + 8)) (d + 3010 + 8) m (ptr t 0) ((T.length : Int) - 1) (T.length : Int) (j : Int) h = some (.bool (okFrom T k j && numP T (T.length + 1) ((T.length : Int) - 1) 0 == (T.length : Int)), h') ∧ Ext h.size h h' := by
  intro k
  induction k with
  | zero =>
    intro j m h hk hj hm hpos x hc hpre
    obtain ⟨m, rfl⟩ : ∃ q, m = q + 1 := ⟨m - 1, by omega⟩
    have : ¬ ((j : Int) < (T.length : Int)) := by omega
    have hall : okFrom T T.length 0 = true := (okFrom_all _ _).2 fun i _ h2 => hpre i (by omega)
    obtain ⟨pn, nv, k1, k2, k3⟩ := x.nodes
    have k3' := k3 h (Ext.refl _ _)
    obtain ⟨c3, _⟩ := l60 hd hT hN (ok_ranges hall) x (T.length + 1) (d + 3010 + 7) ((T.length : Int) - 1) 0 (by omega) (by omega) (by omega) (by omega) (by omega) (by omega)
    have c3' : call Tp Ms (d + 3010 + 8) 60 [ptr t 0, .int .i64 ((T.length : Int) - 1), .int .i64 0] h = _ := c3
    refine ⟨h, ?_, Ext.refl _ _⟩
    rw [s22_2_eq, decide_eq_false this, cond_false, k1, oBs, k3', oBs, k2.len, oBs]
    simp only [asI, if_true, oBs]
    rw [c3', oBs]
    simp only [asI, if_true, oBs, k3', k2.vbeq, cond_true, okFrom, Bool.true_and]
  | succ k ih =>
    intro j m h hk hj hm hpos x hc hpre
    obtain ⟨m, rfl⟩ : ∃ q, m = q + 1 := ⟨m - 1, by omega⟩
    have hlt : j < T.length := by omega
    have hI : ((j : Int) < (T.length : Int)) := by omega
    have wj : IntKind.i64.wrap ((j : Int) + 1) = ((j + 1 : Nat) : Int) := by rw [wr (by omega) (by omega)]; omega
    obtain ⟨h2, c2, e2⟩ := l59 (d := d + 3010) (by omega) hT hlt hN x hc
    have hI2 : nodeOkI T j = nodeOkP T j T[j] := by unfold nodeOkI; simp [hlt]
    rw [s22_2_eq, decide_eq_true hI, cond_true, c2, oBs, okFrom, hI2]
    simp only [asB, oBs]
    cases hok : nodeOkP T j T[j] with
    | false =>
      rw [Bool.not_false, cond_true, Bool.false_and, Bool.false_and]
      exact ⟨h2, rfl, e2⟩
    | true =>
      rw [Bool.not_true, cond_false, Bool.true_and, wj]
      obtain ⟨h3, c3, e3⟩ := ih (j + 1) m h2 (by omega) (by omega) (by omega) hpos (x.ext (e2.mono hc)) (Nat.le_trans hc e2.size) (fun i hi => by
        by_cases he : i = j
        · subst he; rw [hI2]; exact hok
        · exact hpre i (by omega))
      exact ⟨h3, c3, e2.trans (e3.mono e2.size)⟩
theorem l22 {d c : Nat} (hd : 1048577 < d) {nv : Value} {T : List Kn} {top : Int} {h : AHeap} (x : KSl c h nv T) (hc : c ≤ h.size) (hb : T.length ≤ 1048576) (hN : ∀ n ∈ T, n.t.size ≤ 1048576 ∧ n.ks.length ≤ 1048576) :
    ∃ h', call Tp Ms (d + 3010 + 9) 22 [trVal nv top] h = some (.bool (implOk T top), h') ∧ Ext h.size h h' := by
  have e1 := Ext.new (Nat.le_refl h.size) 35 [nv, .int .i64 top]
  have r1 := (Own.new (b := h.size) (Nat.le_refl _) 35 [nv, .int .i64 top]).row
  have s1 : (h.new 35 [nv, .int .i64 top]).size = h.size + 1 := rfl
  have hcall : call Tp Ms (d + 3010 + 9) 22 [trVal nv top] h = evFn hk0 Tp (call Tp Ms (d + 3010 + 8)) M22 (d + 3010 + 8) Try.f22 [trVal nv top] h := c22 (d + 3010 + 8) _ _
  rw [hcall, e22, tr_aCells x, oBs]
  simp only [aNew]
  have x1 := x.ext (e1.mono hc)
  generalize h.new 35 [nv, .int .i64 top] = h1 at e1 r1 s1 x1 ⊢
  obtain ⟨a0, a1, _⟩ := ld2 r1
  have w : IntKind.i64.wrap ((T.length : Int) - 1) = (T.length : Int) - 1 := wr (by omega) (by omega)
  simp only [aOff_ptr, Nat.zero_add, oBs, a0, a1, x.len, asI, if_true, w]
  have no : s22_0 hk0 (call Tp Ms (d + 3010 + 8)) (d + 3010 + 8) (ptr h.size 0) ((T.length : Int) - 1) true h1 = some (.bool false, h1) := by
    rw [s22_0_j, s22_0_eq]; rfl
  unfold implOk
  by_cases h3 : (T.length : Int) > 3000
  · rw [decide_eq_true h3, cond_true, no, if_pos (.inl (by omega))]; exact ⟨h1, rfl, e1⟩
  rw [decide_eq_false h3, cond_false]
  by_cases h4 : (T.length : Int) - 1 < 0
  · rw [decide_eq_true h4, cond_true, no, if_pos (.inr (.inl (by omega)))]; exact ⟨h1, rfl, e1⟩
  rw [decide_eq_false h4, cond_false]
  by_cases h5 : top = (T.length : Int) - 1
  · have : (top != (T.length : Int) - 1) = false := by simp [h5]
    rw [this, cond_false]
    obtain ⟨i, m1, m2⟩ := x1.kind (k := (T.length : Int) - 1) (by omega) (by omega)
    rw [m1, oBs]
    simp only [aOff_ptr, Nat.add_zero, oBs, m2 h1 (Ext.refl _ _), asI, if_true]
    by_cases h6 : kd T ((T.length : Int) - 1) = 21
    · have : (kd T ((T.length : Int) - 1) != 21) = false := by simp [h6]
      rw [this, if_neg (by rintro (a | a | a | a)
                           · omega
                           · omega
                           · exact a h5
                           · exact a h6), s22_0_j, s22_0_eq, cond_false, s22_1_j, s22_1_eq]
      simp only [aOff_ptr, Nat.zero_add, oBs, a0, x.len, asI, if_true]
      have tp : TreeP (h1.size) h1 (ptr h.size 0) T := ⟨h.size, nv, top, rfl, by omega, r1, x1.mono (by omega)⟩
      obtain ⟨h7, c7, e7⟩ := impl_loop hd (by omega) hN T.length 0 (d + 3010 + 8) h1 (by omega) (by omega) (by omega) (by omega) tp (Nat.le_refl _) (fun i hi => by omega)
      exact ⟨h7, c7, e1.trans (e7.mono (by omega))⟩
    · have : (kd T ((T.length : Int) - 1) != 21) = true := by simp [h6]
      rw [this, no, if_pos (.inr (.inr (.inr h6)))]; exact ⟨h1, rfl, e1⟩
  · have : (top != (T.length : Int) - 1) = true := by simp [h5]
    rw [this, cond_true, no, if_pos (.inr (.inr (.inl h5)))]; exact ⟨h1, rfl, e1⟩
theorem cls_ex (x : Int) : clsOk 1 x = isEx x := by
 unfold clsOk cls isEx
 rw [if_neg (by decide)]
 cases inR x 1 13 with
 | true => rfl
 | false =>
  rw [if_neg (by simp)]
  split
  ·rfl
  ·split
   ·rfl
   ·split
    ·rfl
    ·split <;> rfl
theorem ex_not {x : Int} (h : ¬ (1 ≤ x ∧ x ≤ 13)) : inR x 1 13 = false := by unfold inR; simp; omega
theorem st_not {x : Int} (h : ¬ (14 ≤ x ∧ x ≤ 20)) : inR x 14 20 = false := by unfold inR; simp; omega
theorem cls_st (x : Int) : clsOk 2 x = isSt x := by
 unfold clsOk cls isSt
 rw [if_neg (by decide)]
 by_cases h1 : 1 ≤ x ∧ x ≤ 13
 ·have a : inR x 1 13 = true := by unfold inR; simp; omega
  rw [a, if_pos rfl, st_not (by omega)]; rfl
 ·rw [ex_not h1, if_neg (by simp)]
  cases inR x 14 20 with
  | true => rfl
  | false =>
   rw [if_neg (by simp)]
   split
   ·rfl
   ·split
    ·rfl
    ·split <;> rfl
theorem cls_n (c : Int) (hc : c = 3 ∨ c = 4) (x : Int) : clsOk c x = (x == if c = 3 then 21 else 22) := by
 have hm : cls x = if inR x 1 13 = true then 1 else if inR x 14 20 = true then 2 else if x = 21 then 3 else if x = 22 then 4 else if x = 23 ∨ x = 24 then 5 else 0 := rfl
 unfold clsOk
 by_cases h1 : 1 ≤ x ∧ x ≤ 13
 ·have a : inR x 1 13 = true := by unfold inR; simp; omega
  rw [hm, a, if_pos rfl]
  rcases hc with rfl | rfl
  ·rw [if_neg (by decide), if_pos rfl, beq_eq_false_iff_ne.2 (show x ≠ 21 by omega)]; rfl
  ·rw [if_neg (by decide), if_neg (by decide), beq_eq_false_iff_ne.2 (show x ≠ 22 by omega)]; rfl
 ·by_cases h2 : 14 ≤ x ∧ x ≤ 20
  ·have b : inR x 14 20 = true := by unfold inR; simp; omega
   rw [hm, ex_not h1, b, if_neg (c := false = true) (by simp), if_pos (c := true = true) rfl]
   rcases hc with rfl | rfl
   ·rw [if_neg (by decide), if_pos rfl, beq_eq_false_iff_ne.2 (show x ≠ 21 by omega)]; rfl
   ·rw [if_neg (by decide), if_neg (by decide), beq_eq_false_iff_ne.2 (show x ≠ 22 by omega)]; rfl
  ·rw [hm, ex_not h1, st_not h2, if_neg (c := false = true) (by simp), if_neg (c := false = true) (by simp)]
   by_cases k1 : x = 21
   ·subst k1; rcases hc with rfl | rfl <;> rfl
   ·by_cases k2 : x = 22
    ·subst k2; rcases hc with rfl | rfl <;> rfl
    ·rw [if_neg k1, if_neg k2]
     have : (if x = 23 ∨ x = 24 then (5 : Int) else 0) ≠ 3 ∧ (if x = 23 ∨ x = 24 then (5 : Int) else 0) ≠ 4 := by split <;> decide
     rcases hc with rfl | rfl
     ·rw [if_neg (by decide), beq_eq_false_iff_ne.2 this.1, if_pos rfl, beq_eq_false_iff_ne.2 k1]; rfl
     ·rw [if_neg (by decide), beq_eq_false_iff_ne.2 this.2, if_neg (by decide), beq_eq_false_iff_ne.2 k2]; rfl
theorem cls_bl (x : Int) : clsOk 3 x = isBl x := cls_n 3 (.inl rfl) x
theorem cls_pr (x : Int) : clsOk 4 x = (x == 22) := cls_n 4 (.inr rfl) x
theorem cls_fi (x : Int) : clsOk 5 x = (x == 23 || x == 24) := by
 have hm : cls x = if inR x 1 13 = true then 1 else if inR x 14 20 = true then 2 else if x = 21 then 3 else if x = 22 then 4 else if x = 23 ∨ x = 24 then 5 else 0 := rfl
 unfold clsOk
 rw [if_neg (by decide)]
 by_cases h1 : 1 ≤ x ∧ x ≤ 13
 ·have a : inR x 1 13 = true := by unfold inR; simp; omega
  rw [hm, a, if_pos rfl, beq_eq_false_iff_ne.2 (show x ≠ 23 by omega), beq_eq_false_iff_ne.2 (show x ≠ 24 by omega)]; rfl
 ·by_cases h2 : 14 ≤ x ∧ x ≤ 20
  ·have b : inR x 14 20 = true := by unfold inR; simp; omega
   rw [hm, ex_not h1, b, if_neg (c := false = true) (by simp), if_pos (c := true = true) rfl, beq_eq_false_iff_ne.2 (show x ≠ 23 by omega), beq_eq_false_iff_ne.2 (show x ≠ 24 by omega)]; rfl
  ·rw [hm, ex_not h1, st_not h2, if_neg (c := false = true) (by simp), if_neg (c := false = true) (by simp)]
   by_cases k1 : x = 21
   ·subst k1; rfl
   ·by_cases k2 : x = 22
    ·subst k2; rfl
    ·rw [if_neg k1, if_neg k2]
     by_cases k3 : x = 23
     ·subst k3; rfl
     ·by_cases k4 : x = 24
      ·subst k4; rfl
      ·rw [if_neg (fun h => h.elim k3 k4), beq_eq_false_iff_ne.2 k3, beq_eq_false_iff_ne.2 k4]; rfl
theorem cls_call (x : Int) : clsOk 6 x = (x == 9) := rfl
def shP (k : Int) (kk : List Int) : Bool := decide ((shape k kk.length).length = kk.length) && (kk.zip (shape k kk.length)).all fun p => clsOk p.2 p.1
theorem zip_rep (c : Int) : ∀ kk : List Int, ((kk.zip (List.replicate kk.length c)).all fun p => clsOk p.2 p.1) = kk.all (clsOk c)
 | [] => rfl
 | x :: kk => by rw [List.length_cons, List.replicate_succ, List.zip_cons_cons, List.all_cons, List.all_cons, zip_rep c kk]
theorem sh_rep (c : Int) (kk : List Int) : (decide ((List.replicate kk.length c).length = kk.length) && (kk.zip (List.replicate kk.length c)).all fun p => clsOk p.2 p.1) = kk.all (clsOk c) := by
 rw [zip_rep, List.length_replicate, decide_eq_true rfl, Bool.true_and]
theorem are_zip : ∀ (kk cs : List Int), ((kk.zip (cs.map clsOk)).all fun p => p.2 p.1) = ((kk.zip cs).all fun p => clsOk p.2 p.1)
 | [], _ => by simp
 | _ :: _, [] => by simp
 | x :: kk, c :: cs => by rw [List.map_cons, List.zip_cons_cons, List.zip_cons_cons, List.all_cons, List.all_cons, are_zip kk cs]
theorem sh_are (cs kk : List Int) : (decide (cs.length = kk.length) && (kk.zip cs).all fun p => clsOk p.2 p.1) = kidsAreP kk (cs.map clsOk) := by
 unfold kidsAreP
 rw [List.length_map, are_zip]
 congr 1
 rw [Bool.eq_iff_iff]; simp [eq_comm]
theorem fEx : clsOk 1 = isEx := funext cls_ex
theorem fSt : clsOk 2 = isSt := funext cls_st
theorem fBl : clsOk 3 = isBl := funext cls_bl
theorem fPr : clsOk 4 = fun x => x == 22 := funext cls_pr
theorem fFi : clsOk 5 = fun x => x == 23 || x == 24 := funext cls_fi
theorem fCa : clsOk 6 = fun x => x == 9 := funext cls_call
theorem sh_fn (kk : List Int) : (decide (0 < kk.length) && (kk.dropLast.all (· == 22) && kk.getLast? == some 21)) = (decide ((List.replicate (kk.length - 1) (4 : Int) ++ [3]).length = kk.length) && (kk.zip (List.replicate (kk.length - 1) 4 ++ [3])).all fun p => clsOk p.2 p.1) := by
 rcases List.eq_nil_or_concat kk with rfl | ⟨ys, y, rfl⟩
 ·rfl
 ·rw [List.concat_eq_append]
  have hl : (ys ++ [y]).length = ys.length + 1 := by simp
  have hr : (List.replicate ys.length (4 : Int) ++ [3]).length = ys.length + 1 := by simp
  rw [hl, Nat.add_sub_cancel, hr, decide_eq_true (show 0 < ys.length + 1 by omega), decide_eq_true (show ys.length + 1 = ys.length + 1 from rfl), Bool.true_and, Bool.true_and]
  rw [List.zip_append (by simp), List.all_append, zip_rep, fPr, List.dropLast_concat, List.getLast?_concat]
  have : (List.zip [y] [(3 : Int)]).all (fun p => clsOk p.2 p.1) = (some y == some (21 : Int)) := by
   show (clsOk 3 y && true) = _
   rw [cls_bl, Bool.and_true]; rfl
  rw [this]
theorem sh_call (kk : List Int) : (decide (0 < kk.length) && kk.all isEx) = (decide (([1] ++ List.replicate (kk.length - 1) (1 : Int)).length = kk.length) && (kk.zip ([1] ++ List.replicate (kk.length - 1) (1 : Int))).all fun p => clsOk p.2 p.1) := by
 cases kk with
 | nil => rfl
 | cons x kk =>
  rw [List.length_cons, Nat.add_sub_cancel, show [(1 : Int)] ++ List.replicate kk.length 1 = List.replicate (x :: kk).length 1 from rfl]
  have := sh_rep 1 (x :: kk)
  rw [fEx] at this
  rw [List.length_cons] at this
  rw [List.length_cons, this, decide_eq_true (show 0 < kk.length + 1 by omega), Bool.true_and]
theorem sh_if (kk : List Int) : (kidsAreP kk [isEx, isBl] || kidsAreP kk [isEx, isBl, isBl]) = (decide ((if kk.length = 3 then [(1 : Int), 3, 3] else [1, 3]).length = kk.length) && (kk.zip (if kk.length = 3 then [(1 : Int), 3, 3] else [1, 3])).all fun p => clsOk p.2 p.1) := by
 by_cases h : kk.length = 3
 ·rw [if_pos h, sh_are [1, 3, 3] kk]
  have : kidsAreP kk [isEx, isBl] = false := by unfold kidsAreP; rw [decide_eq_false (by rw [h]; decide)]; rfl
  rw [this, Bool.false_or]
  show _ = kidsAreP kk [clsOk 1, clsOk 3, clsOk 3]
  rw [fEx, fBl]
 ·rw [if_neg h, sh_are [1, 3] kk]
  have : kidsAreP kk [isEx, isBl, isBl] = false := by unfold kidsAreP; rw [decide_eq_false (by simpa using h)]; rfl
  rw [this, Bool.or_false]
  show _ = kidsAreP kk [clsOk 1, clsOk 3]
  rw [fEx, fBl]
theorem sh_nil (kk : List Int) : decide (kk.length = 0) = (decide (([] : List Int).length = kk.length) && (kk.zip ([] : List Int)).all fun p => clsOk p.2 p.1) := by
 rw [List.zip_nil_right, List.all_nil, Bool.and_true, Bool.eq_iff_iff]; simp [eq_comm]
theorem kids_shape {k : Int} (h1 : 1 ≤ k) (h2 : k ≤ 24) (kk : List Int) : kidsP k kk = shP k kk := by
 have A1 : kidsAreP kk [isEx] = (decide ([(1 : Int)].length = kk.length) && (kk.zip [(1 : Int)]).all fun p => clsOk p.2 p.1) := by rw [sh_are [1] kk]; show _ = kidsAreP kk [clsOk 1]; rw [fEx]
 have A2 : kidsAreP kk [isEx, isEx] = (decide ([(1 : Int), 1].length = kk.length) && (kk.zip [(1 : Int), 1]).all fun p => clsOk p.2 p.1) := by rw [sh_are [1, 1] kk]; show _ = kidsAreP kk [clsOk 1, clsOk 1]; rw [fEx]
 have A3 : kidsAreP kk [isEx, isEx, isEx] = (decide ([(1 : Int), 1, 1].length = kk.length) && (kk.zip [(1 : Int), 1, 1]).all fun p => clsOk p.2 p.1) := by rw [sh_are [1, 1, 1] kk]; show _ = kidsAreP kk [clsOk 1, clsOk 1, clsOk 1]; rw [fEx]
 have A4 : kidsAreP kk [isEx, isBl] = (decide ([(1 : Int), 3].length = kk.length) && (kk.zip [(1 : Int), 3]).all fun p => clsOk p.2 p.1) := by rw [sh_are [1, 3] kk]; show _ = kidsAreP kk [clsOk 1, clsOk 3]; rw [fEx, fBl]
 have A5 : kidsAreP kk [fun k => k == 9] = (decide ([(6 : Int)].length = kk.length) && (kk.zip [(6 : Int)]).all fun p => clsOk p.2 p.1) := by rw [sh_are [6] kk]; show _ = kidsAreP kk [clsOk 6]; rw [fCa]
 have B5 := sh_rep 5 kk
 rw [fFi] at B5
 have B2 := sh_rep 2 kk
 rw [fSt] at B2
 have : k = 1 ∨ k = 2 ∨ k = 3 ∨ k = 4 ∨ k = 5 ∨ k = 6 ∨ k = 7 ∨ k = 8 ∨ k = 9 ∨ k = 10 ∨ k = 11 ∨ k = 12 ∨ k = 13 ∨ k = 14 ∨ k = 15 ∨ k = 16 ∨ k = 17 ∨ k = 18 ∨ k = 19 ∨ k = 20 ∨ k = 21 ∨ k = 22 ∨ k = 23 ∨ k = 24 := by omega
 rcases this with rfl | rfl | rfl | rfl | rfl | rfl | rfl | rfl | rfl | rfl | rfl | rfl | rfl | rfl | rfl | rfl | rfl | rfl | rfl | rfl | rfl | rfl | rfl | rfl <;>
  first | exact sh_nil kk | exact sh_fn kk | exact B5.symm | exact A2 | exact sh_call kk | exact A1 | exact A3 | exact sh_if kk | exact A4 | exact A5 | exact B2.symm
structure Good (T : List Kn) (j : Nat) (n : Kn) : Prop where
  rng : ∀ k ∈ n.ks, 0 ≤ k ∧ k < j
  has : hasP n = true
  knd : 1 ≤ n.k ∧ n.k ≤ 24
  shp : shP n.k (n.ks.map (kd T)) = true
theorem kidsP_range {k : Int} {kk : List Int} (h : kidsP k kk = true) : 1 ≤ k ∧ k ≤ 24 := by
  by_cases hk : 1 ≤ k ∧ k ≤ 24
  · exact hk
  · exfalso
    have ne : ∀ c : Int, 1 ≤ c → c ≤ 24 → (k == c) = false := fun c a b => beq_eq_false_iff_ne.2 (by omega)
    unfold kidsP at h
    have l1 : leaf k = false := by unfold leaf; rw [ne 1 (by decide) (by decide), ne 2 (by decide) (by decide), ne 3 (by decide) (by decide), ne 4 (by decide) (by decide), ne 5 (by decide) (by decide), ne 22 (by decide) (by decide)]; rfl
    have l2 : two2 k = false := by unfold two2; rw [ne 8 (by decide) (by decide), ne 10 (by decide) (by decide), ne 12 (by decide) (by decide), ne 13 (by decide) (by decide), ne 24 (by decide) (by decide)]; rfl
    have l3 : one1 k = false := by unfold one1; rw [ne 11 (by decide) (by decide), ne 14 (by decide) (by decide), ne 15 (by decide) (by decide), ne 19 (by decide) (by decide), ne 23 (by decide) (by decide)]; rfl
    rw [l1, l2, l3, if_neg (by simp), if_neg (by omega), if_neg (by omega), if_neg (by simp), if_neg (by omega), if_neg (by simp), if_neg (by omega), if_neg (by omega), if_neg (by omega), if_neg (by omega), if_neg (by omega)] at h
    cases h
theorem good_iff {T : List Kn} {j : Nat} {n : Kn} : nodeOkP T j n = true ↔ Good T j n := by
  unfold nodeOkP
  simp only [Bool.and_eq_true, List.all_eq_true]
  constructor
  · rintro ⟨h1, h2, h3⟩
    have hr := kidsP_range h3
    refine ⟨fun k hk => ?_, h2, hr, by rw [← kids_shape hr.1 hr.2]; exact h3⟩
    have := h1 k hk
    unfold inR at this; simp at this; omega
  · rintro ⟨h1, h2, h3, h4⟩
    refine ⟨fun k hk => ?_, h2, by rw [kids_shape h3.1 h3.2]; exact h4⟩
    have := h1 k hk
    unfold inR; simp; omega
theorem clsOk_range {c k : Int} (h : clsOk c k = true) : 1 ≤ k ∧ k ≤ 24 := by
  by_cases hk : 1 ≤ k ∧ k ≤ 24
  · exact hk
  · exfalso
    unfold clsOk at h
    split at h
    · simp at h; omega
    · have hm : cls k = 0 := by
        have e : cls k = if inR k 1 13 = true then 1 else if inR k 14 20 = true then 2 else if k = 21 then 3 else if k = 22 then 4 else if k = 23 ∨ k = 24 then 5 else 0 := rfl
        rw [e, ex_not (by omega), st_not (by omega), if_neg (by simp), if_neg (by simp), if_neg (by omega), if_neg (by omega), if_neg (by omega)]
      rw [hm] at h
      simp at h
      exact h.2 h.1.symm
def FitA (T : List Kn) (f : Nat) : Prop := ∀ (i c next : Int) (seen : List Bool), (fitsP T f i c next seen).1.2 = true → 0 ≤ next →
  ∃ iN : Nat, i = iN ∧ iN < T.length ∧ (fitsP T f i c next seen).1.1 = i + 1 ∧ numP T f i next = i + 1 ∧ next ≤ i ∧ clsOk c (kd T i) = true ∧ ∀ j : Nat, next ≤ j → j ≤ iN → ∃ n, T[j]? = some n ∧ Good T j n
theorem kidsA {T : List Kn} {f : Nat} (hF : FitA T f) {iN : Nat} : ∀ (ks sh : List Int) (next : Int) (seen : List Bool), sh.length = ks.length → (kidsGo (fitsP T f) (iN : Int) ks sh next seen).1.2 = true → 0 ≤ next →
    (kidsGo (fitsP T f) (iN : Int) ks sh next seen).1.1 = iN + 1 ∧ numGo' (numP T f) (iN : Int) ks next = iN + 1 ∧ next ≤ iN ∧ (∀ k ∈ ks, 0 ≤ k ∧ k < iN) ∧ (((ks.map (kd T)).zip sh).all fun p => clsOk p.2 p.1) = true ∧
      ∀ j : Nat, next ≤ j → j < iN → ∃ n, T[j]? = some n ∧ Good T j n
  | [], [], next, seen, _, h, h0 => by
    simp only [kidsGo, beq_iff_eq] at h
    subst h
    refine ⟨rfl, by rw [numGo', if_pos rfl], Int.le_refl _, fun k hk => by simp at hk, rfl, fun j a b => by omega⟩
  | kid :: ks, s :: sh, next, seen, hl, h, h0 => by
    rw [kidsGo] at h ⊢
    by_cases hge : kid ≥ (iN : Int)
    · rw [if_pos hge] at h; cases h
    · rw [if_neg hge] at h ⊢
      by_cases hf : (fitsP T f kid s next seen).1.2 = true
      · rw [if_pos hf] at h ⊢
        obtain ⟨kN, a1, a2, a3, a4, a5, a6, a7⟩ := hF kid s next seen hf h0
        obtain ⟨b1, b2, b3, b4, b5, b6⟩ := kidsA hF ks sh _ _ (by simpa using hl) h (by rw [a3]; omega)
        rw [a3] at b2 b3 b6
        refine ⟨b1, ?_, by omega, fun k hk => ?_, ?_, fun j c1 c2 => ?_⟩
        · rw [numGo', a4, if_neg (by omega)]; exact b2
        · rcases List.mem_cons.1 hk with rfl | hk
          · omega
          · exact b4 k hk
        · rw [List.map_cons, List.zip_cons_cons, List.all_cons, a6, b5]; rfl
        · by_cases hj : (j : Int) ≤ kid
          · exact a7 j c1 (by omega)
          · exact b6 j (by omega) c2
      · rw [if_neg hf] at h; cases h
theorem fitA (T : List Kn) : ∀ f, FitA T f := by
  intro f
  induction f with
  | zero => intro i c next seen h; cases h
  | succ f ih =>
    intro i c next seen h h0
    unfold fitsP at h ⊢
    cases hT : T[i.toNat]? with
    | none => rw [hT] at h; cases h
    | some n =>
      rw [hT] at h
      simp only at h ⊢
      by_cases hc : 0 ≤ i ∧ seen[i.toNat]? = some false
      · rw [if_pos hc] at h ⊢
        by_cases hn : nodeFit n c = true
        · rw [if_pos hn] at h ⊢
          obtain ⟨iN, rfl⟩ : ∃ iN : Nat, i = (iN : Int) := ⟨i.toNat, by omega⟩
          have hT' : T[iN]? = some n := hT
          have hi : iN < T.length := (List.getElem?_eq_some_iff.1 hT').1
          have hkd : kd T (iN : Int) = n.k := by
            show ((T[(iN : Int).toNat]?).map Kn.k).getD 0 = n.k
            rw [hT]; rfl
          unfold nodeFit at hn
          simp only [Bool.and_eq_true, beq_iff_eq] at hn
          obtain ⟨n1, n2, n3⟩ := hn
          have hlen : (shape n.k n.ks.length).length = n.ks.length := by omega
          obtain ⟨b1, b2, b3, b4, b5, b6⟩ := kidsA ih n.ks (shape n.k n.ks.length) next _ hlen h h0
          refine ⟨iN, rfl, hi, b1, ?_, b3, by rw [hkd]; exact n1, fun j c1 c2 => ?_⟩
          · show (match T[(iN : Int).toNat]? with | some n => numGo' (numP T f) (iN : Int) n.ks next | none => -1) = _
            rw [hT]; exact b2
          · by_cases hj : j < iN
            · exact b6 j c1 hj
            · have : j = iN := by omega
              subst this
              refine ⟨n, hT', b4, n3, clsOk_range n1, ?_⟩
              unfold shP
              rw [List.length_map, hlen, decide_eq_true rfl, b5]; rfl
        · rw [if_neg hn] at h; cases h
      · rw [if_neg hc] at h; cases h
theorem numGo_le {T : List Kn} {f : Nat} (hF : ∀ k fr : Int, 0 ≤ numP T f k fr → 0 ≤ fr → numP T f k fr = k + 1 ∧ fr ≤ k) {i : Int} : ∀ (ks : List Int) (fr : Int), 0 ≤ numGo' (numP T f) i ks fr → 0 ≤ fr → numGo' (numP T f) i ks fr = i + 1 ∧ fr ≤ i
  | [], fr, h, h0 => by
    rw [numGo'] at h ⊢
    by_cases he : i = fr
    · rw [if_pos he]; omega
    · rw [if_neg he] at h; omega
  | k :: ks, fr, h, h0 => by
    rw [numGo'] at h ⊢
    by_cases hn : numP T f k fr < 0
    · rw [if_pos hn] at h; omega
    · rw [if_neg hn] at h ⊢
      have a := hF k fr (by omega) h0
      have b := numGo_le hF ks _ h (by omega)
      omega
theorem num_le (T : List Kn) : ∀ (f : Nat) (i fr : Int), 0 ≤ numP T f i fr → 0 ≤ fr → numP T f i fr = i + 1 ∧ fr ≤ i := by
  intro f
  induction f with
  | zero => intro i fr h; exact absurd h (by show ¬ (0 ≤ (-1 : Int)); decide)
  | succ f ih =>
    intro i fr h h0
    unfold numP at h ⊢
    cases hT : T[i.toNat]? with
    | none => rw [hT] at h; exact absurd h (by show ¬ (0 ≤ (-1 : Int)); decide)
    | some n => rw [hT] at h; exact numGo_le ih n.ks fr h h0
def FitB (T : List Kn) (f : Nat) : Prop := ∀ (i c next : Int) (seen : List Bool), seen.length = T.length → 0 ≤ next → 0 ≤ i → i < T.length → numP T f i next = i + 1 → clsOk c (kd T i) = true → (∀ j : Nat, next ≤ j → j ≤ i → seen[j]? = some false) →
  (fitsP T f i c next seen).1 = (i + 1, true) ∧ (fitsP T f i c next seen).2.length = T.length ∧ ∀ j : Nat, i < j → (fitsP T f i c next seen).2[j]? = seen[j]?
theorem kidsB {T : List Kn} {f : Nat} (hF : FitB T f) {iN : Nat} (hi : iN < T.length) : ∀ (ks sh : List Int) (next : Int) (seen : List Bool), sh.length = ks.length → seen.length = T.length → 0 ≤ next → (∀ k ∈ ks, 0 ≤ k ∧ k < iN) →
    numGo' (numP T f) (iN : Int) ks next = iN + 1 → (((ks.map (kd T)).zip sh).all fun p => clsOk p.2 p.1) = true → (∀ j : Nat, next ≤ j → j < iN → seen[j]? = some false) →
    (kidsGo (fitsP T f) (iN : Int) ks sh next seen).1 = ((iN : Int) + 1, true) ∧ (kidsGo (fitsP T f) (iN : Int) ks sh next seen).2.length = T.length ∧ ∀ j : Nat, iN ≤ j → (kidsGo (fitsP T f) (iN : Int) ks sh next seen).2[j]? = seen[j]?
  | [], [], next, seen, _, hs, h0, hk, hn, _, hf => by
    rw [numGo'] at hn
    by_cases he : (iN : Int) = next
    · rw [kidsGo]
      subst he
      exact ⟨by simp, hs, fun j _ => rfl⟩
    · rw [if_neg he] at hn; omega
  | kid :: ks, s :: sh, next, seen, hl, hs, h0, hk, hn, hz, hf => by
    rw [numGo'] at hn
    rw [kidsGo]
    by_cases hneg : numP T f kid next < 0
    · rw [if_pos hneg] at hn; omega
    · rw [if_neg hneg] at hn
      have hkid := hk kid (by simp)
      obtain ⟨n1, n2⟩ := num_le T f kid next (by omega) h0
      rw [List.map_cons, List.zip_cons_cons, List.all_cons, Bool.and_eq_true] at hz
      obtain ⟨a1, a2, a3⟩ := hF kid s next seen hs h0 hkid.1 (by omega) n1 hz.1 (fun j c1 c2 => hf j c1 (by omega))
      rw [if_neg (show ¬ kid ≥ (iN : Int) by omega), a1, if_pos rfl]
      rw [n1] at hn
      obtain ⟨b1, b2, b3⟩ := kidsB hF hi ks sh (kid + 1) _ (by simpa using hl) a2 (by omega) (fun k hk' => hk k (by simp [hk'])) hn hz.2 (fun j c1 c2 => by rw [a3 j (by omega)]; exact hf j (by omega) c2)
      exact ⟨b1, b2, fun j hj => by rw [b3 j hj]; exact a3 j (by omega)⟩
theorem fitB {T : List Kn} (hG : ∀ (j : Nat) (n : Kn), T[j]? = some n → Good T j n) : ∀ f, FitB T f := by
  intro f
  induction f with
  | zero => intro i c next seen _ _ h0 _ hn; exact absurd hn (by show ¬ ((-1 : Int) = i + 1); omega)
  | succ f ih =>
    intro i c next seen hs h0 hi0 hi1 hn hc hf
    obtain ⟨iN, rfl⟩ : ∃ iN : Nat, i = (iN : Int) := ⟨i.toNat, by omega⟩
    have hi : iN < T.length := by omega
    have hT : T[(iN : Int).toNat]? = some T[iN] := by simp [hi]
    have hT' : T[iN]? = some T[iN] := by simp [hi]
    have hkd : kd T (iN : Int) = T[iN].k := by
      show ((T[(iN : Int).toNat]?).map Kn.k).getD 0 = _
      rw [hT]; rfl
    have g := hG iN _ hT'
    have hle : next ≤ (iN : Int) := (num_le T (f + 1) iN next (by omega) h0).2
    unfold numP at hn
    rw [hT] at hn
    simp only at hn
    unfold fitsP
    rw [hT]
    simp only
    have hsf : seen[(iN : Int).toNat]? = some false := hf iN hle (Int.le_refl _)
    have hshp := g.shp
    unfold shP at hshp
    rw [List.length_map, Bool.and_eq_true, decide_eq_true_eq] at hshp
    have hfit : nodeFit T[iN] c = true := by
      unfold nodeFit
      rw [← hkd, hc, hkd, g.has, hshp.1]; simp
    rw [if_pos ⟨hi0, hsf⟩, if_pos hfit]
    obtain ⟨b1, b2, b3⟩ := kidsB ih hi T[iN].ks (shape T[iN].k T[iN].ks.length) next (seen.set (iN : Int).toNat true) hshp.1 (by simp [hs]) h0 g.rng hn hshp.2 (fun j c1 c2 => by
      show (seen.set iN true)[j]? = some false
      rw [List.getElem?_set_ne (by omega)]; exact hf j c1 (by omega))
    refine ⟨b1, b2, fun j hj => ?_⟩
    rw [b3 j (by omega)]
    show (seen.set iN true)[j]? = seen[j]?
    rw [List.getElem?_set_ne (by omega)]
theorem ok_same (T : List Kn) (top : Int) : specOk T top = implOk T top := by
  unfold specOk implOk
  by_cases h3 : T.length > 3000
  · rw [if_pos h3, if_pos (.inl h3)]
  rw [if_neg h3, Bool.eq_iff_iff]
  constructor
  · intro h
    rw [Bool.and_eq_true, beq_iff_eq] at h
    obtain ⟨tN, a1, a2, a3, a4, a5, a6, a7⟩ := fitA T _ top 3 0 _ h.1 (by omega)
    have ht : top = (T.length : Int) - 1 := by omega
    have hk : kd T ((T.length : Int) - 1) = 21 := by
      rw [ht] at a6
      rw [cls_bl] at a6
      unfold isBl at a6
      simpa using a6
    rw [if_neg (by rintro (a | a | a | a)
                   · exact h3 a
                   · omega
                   · exact a ht
                   · exact a hk), Bool.and_eq_true, beq_iff_eq]
    refine ⟨(okFrom_all _ _).2 fun i _ hi => ?_, ?_⟩
    · obtain ⟨n, b1, b2⟩ := a7 i (by omega) (by omega)
      unfold nodeOkI
      rw [b1]; exact good_iff.2 b2
    · rw [← ht, a4]; omega
  · intro h
    by_cases hc : T.length > 3000 ∨ T.length = 0 ∨ top ≠ (T.length : Int) - 1 ∨ kd T ((T.length : Int) - 1) ≠ 21
    · rw [if_pos hc] at h; cases h
    rw [if_neg hc, Bool.and_eq_true, beq_iff_eq] at h
    have h0 : T.length ≠ 0 := fun x => hc (.inr (.inl x))
    have ht : top = (T.length : Int) - 1 := by
      by_cases e : top = (T.length : Int) - 1
      · exact e
      · exact absurd (.inr (.inr (.inl e))) hc
    have hk : kd T ((T.length : Int) - 1) = 21 := by
      by_cases e : kd T ((T.length : Int) - 1) = 21
      · exact e
      · exact absurd (.inr (.inr (.inr e))) hc
    have hG : ∀ (j : Nat) (n : Kn), T[j]? = some n → Good T j n := fun j n hn => by
      have hj : j < T.length := (List.getElem?_eq_some_iff.1 hn).1
      have := (okFrom_all _ _).1 h.1 j (by omega) (by omega)
      unfold nodeOkI at this
      rw [hn] at this
      exact good_iff.1 this
    obtain ⟨b1, _, _⟩ := fitB hG (T.length + 1) top 3 0 (List.replicate T.length false) (by simp) (by omega) (by omega) (by omega) (by rw [ht, h.2]; omega) (by rw [ht, hk]; decide) (fun j _ hj => by rw [List.getElem?_replicate, if_pos (by omega)])
    rw [b1, ht]
    simp
theorem ints_splice (ys : List Int) {j : Nat} (hj : j < ys.length) (v : Int) : splice (ints ys) j [.int .i64 v] = ints (ys.set j v) := by
 rw [← ints_set]; unfold splice
 rw [List.set_eq_take_append_cons_drop, if_pos (by simp [ints]; omega)]; simp
def OwnR (h : AHeap) (i root : Nat) (e : TypeId) (cs : List Value) : Prop := ∃ ep, h.at? i = some ⟨root, ep, false, e, cs⟩
def Kr (root : Nat) (h h' : AHeap) : Prop := ∀ j o, h.at? j = some o → (o.elem ≠ 3 ∨ o.root ≠ root) → h'.at? j = some o
theorem Kr.refl (root : Nat) (h : AHeap) : Kr root h h := fun _ _ h _ => h
theorem Kr.trans {root : Nat} {h h' h'' : AHeap} (x : Kr root h h') (y : Kr root h' h'') : Kr root h h'' := fun j o a b => y j o (x j o a b) b
theorem Kr.ext {root : Nat} {h h' : AHeap} (x : Ext h.size h h') : Kr root h h' := fun j o a _ => x.at? (at?_obj a).2.1 a
theorem OwnR.lt {h : AHeap} {i root : Nat} {e : TypeId} {cs : List Value} (x : OwnR h i root e cs) : root ≤ i ∧ i < h.size := let ⟨_, a⟩ := x; ⟨(at?_obj a).2.2.1, (at?_obj a).2.1⟩
theorem OwnR.keep {h h' : AHeap} {i root rt : Nat} {e : TypeId} {cs : List Value} (x : OwnR h i root e cs) (k : Kr rt h h') (hr : e ≠ 3 ∨ root ≠ rt) : OwnR h' i root e cs := let ⟨ep, a⟩ := x; ⟨ep, k i _ a hr⟩
theorem OwnR.ext {h h' : AHeap} {i root : Nat} {e : TypeId} {cs : List Value} (x : OwnR h i root e cs) (k : Ext h.size h h') : OwnR h' i root e cs := let ⟨ep, a⟩ := x; ⟨ep, k.at? (at?_obj a).2.1 a⟩
theorem OwnR.new (h : AHeap) (e : TypeId) (cs : List Value) : OwnR (h.new e cs) h.size h.size e cs := ⟨_, at?_new_same h e cs⟩
theorem OwnR.row {h : AHeap} {i root : Nat} {e : TypeId} {cs : List Value} (x : OwnR h i root e cs) : Row h i cs := let ⟨_, a⟩ := x; ⟨_, a, rfl⟩
theorem stR {b : Nat} {h : AHeap} {r rt j : Nat} {ys : List Int} (o : OwnR h r rt 3 (ints ys)) (hb : b ≤ rt) (hj : j < ys.length) (v : Int) :
  ∃ h', aSt h (ptr r j) (.int .i64 v) 1 = some h' ∧ Ext b h h' ∧ Kr rt h h' ∧ OwnR h' r rt 3 (ints (ys.set j v)) ∧ h'.size = h.size := by
 obtain ⟨ep, h1⟩ := o
 have hi := at?_obj h1
 have hfit : j + 1 ≤ (ints ys).length := by simp [ints]; omega
 refine ⟨h.put r ⟨rt, ep, false, 3, ints ys⟩ (splice (ints ys) j [.int .i64 v]), by simp [aSt, ptr, h1, aCells_int, hfit], Ext.put (Nat.le_trans hb hi.2.2.1) hb _, fun k o ho hk => ?_, ⟨h.ep 3 rt + 1, ?_⟩, rfl⟩
 ·exact at?_put_other ho (fun e => by subst e; rw [h1] at ho; cases ho; rcases hk with a | a <;> exact a rfl) _ (fun hh => hk.elim (fun a => a hh.1) (fun a => a hh.2))
 ·rw [← ints_splice ys hj]; exact at?_put_same h1 _
def Mk (k : Int) (ys : List Int) : Prop := ∀ i, i < ys.length → ys[i]? = some (k + i)
theorem mark_ints {C : ACall} {N b r rt L : Nat} {k0 : Int} (hb : b ≤ rt) (hL : L ≤ 100000000) (h0 : 0 ≤ k0) (h1 : k0 ≤ 4000000000000000000) : ∀ (k j m : Nat) (ys : List Int) (h : AHeap), L - j = k → j ≤ L → k < m → ys.length = L → OwnR h r rt 3 (ints ys) → (∀ i, i < j → ys[i]? = some (k0 + i)) →
  ∃ h' ys', s34_0 hk0 C N m (slc r 0 L) (k0 + j) (j : Int) h = some (.int .i64 (k0 + L), h') ∧ Ext b h h' ∧ Kr rt h h' ∧ OwnR h' r rt 3 (ints ys') ∧ ys'.length = L ∧ Mk k0 ys' ∧ h'.size = h.size := by
 intro k
 induction k with
 | zero =>
  intro j m ys h hk hj hm hy o hlo
  obtain ⟨m, rfl⟩ : ∃ q, m = q + 1 := ⟨m - 1, by omega⟩
  have : ¬ ((j : Int) < (L : Int)) := by omega
  have hlen : aLen (slc r 0 L) = some (.int .i64 (L : Int)) := rfl
  refine ⟨h, ys, ?_, Ext.refl _ _, Kr.refl _ _, o, hy, fun i hi => hlo i (by omega), rfl⟩
  rw [s34_0_eq, hlen, oBs]
  simp only [asI, if_true, oBs, decide_eq_false this, cond_false]
  rw [show j = L by omega]
 | succ k ih =>
  intro j m ys h hk hj hm hy o hlo
  obtain ⟨m, rfl⟩ : ∃ q, m = q + 1 := ⟨m - 1, by omega⟩
  have hlt : j < L := by omega
  have hI : ((j : Int) < (L : Int)) := by omega
  have hlen : aLen (slc r 0 L) = some (.int .i64 (L : Int)) := rfl
  have hix : aIdx (slc r 0 L) (.int .i64 (j : Int)) 1 = some (ptr r j) := by simp [aIdx, slc, hlt]
  obtain ⟨h2, t2, x2, k2, o2, s2⟩ := stR o hb (j := j) (by omega) (k0 + j)
  have wj : IntKind.i64.wrap ((j : Int) + 1) = ((j + 1 : Nat) : Int) := by rw [wr (by omega) (by omega)]; omega
  have wk : IntKind.i64.wrap (k0 + (j : Int) + 1) = k0 + ((j + 1 : Nat) : Int) := by rw [wr (by omega) (by omega)]; omega
  obtain ⟨h3, ys', c3, x3, k3, o3, l3, m3, s3⟩ := ih (j + 1) m (ys.set j (k0 + j)) h2 (by omega) (by omega) (by omega) (by simp [hy]) o2 (fun i hi => by
   by_cases he : i = j
   ·subst he; rw [List.getElem?_set_self (by omega)]
   ·rw [List.getElem?_set_ne (by omega)]; exact hlo i (by omega))
  refine ⟨h3, ys', ?_, x2.trans x3, k2.trans k3, o3, l3, m3, by omega⟩
  rw [s34_0_eq, hlen, oBs]
  simp only [asI, if_true, oBs, decide_eq_true hI, cond_true, hix, t2, wj, wk, c3]
theorem l34 {d b r rt : Nat} (hd : 1048577 < d) {ys : List Int} {k0 : Int} {h : AHeap} (hb : b ≤ rt) (hL : ys.length ≤ 1048576) (h0 : 0 ≤ k0) (h1 : k0 ≤ 4000000000000000000) (o : OwnR h r rt 3 (ints ys)) :
  ∃ h' ys', call Tp Ms (d + 1) 34 [slc r 0 ys.length, .int .i64 k0] h = some (.int .i64 (k0 + ys.length), h') ∧ Ext b h h' ∧ Kr rt h h' ∧ OwnR h' r rt 3 (ints ys') ∧ ys'.length = ys.length ∧ Mk k0 ys' ∧ h'.size = h.size := by
 obtain ⟨h', ys', c, x⟩ := mark_ints (C := call Tp Ms d) (N := d) hb (by omega) h0 h1 ys.length 0 d ys h (by omega) (by omega) (by omega) rfl o (fun i hi => by omega)
 refine ⟨h', ys', ?_, x⟩
 rw [c34, e34]
 have c' : s34_0 hk0 (call Tp Ms d) d d (slc r 0 ys.length) (k0 + 0) 0 h = _ := c
 rw [Int.add_zero] at c'
 exact c'
theorem held_ints {C : ACall} {N c : Nat} {v : Value} {ys : List Int} {k0 : Int} (hL : ys.length ≤ 1048576) (h0 : 0 ≤ k0) (h1 : k0 ≤ 4000000000000000000) {h : AHeap} (x : ISl c h v ys) (hm : Mk k0 ys) : ∀ (k j m : Nat), ys.length - j = k → j ≤ ys.length → k < m →
  s35_0 hk0 C N m v (k0 + j) (j : Int) h = some (.int .i64 (k0 + ys.length), h) := by
 intro k
 induction k with
 | zero =>
  intro j m hk hj hm'
  obtain ⟨m, rfl⟩ : ∃ q, m = q + 1 := ⟨m - 1, by omega⟩
  have : ¬ ((j : Int) < (ys.length : Int)) := by omega
  rw [s35_0_eq, x.len, oBs]
  simp only [asI, if_true, oBs, decide_eq_false this, cond_false]
  rw [show j = ys.length by omega]
 | succ k ih =>
  intro j m hk hj hm'
  obtain ⟨m, rfl⟩ : ∃ q, m = q + 1 := ⟨m - 1, by omega⟩
  have hlt : j < ys.length := by omega
  have hI : ((j : Int) < (ys.length : Int)) := by omega
  obtain ⟨p, e1, e2⟩ := x.at hlt
  have hv : ys[j] = k0 + j := by
   have := hm j hlt
   rw [List.getElem?_eq_getElem hlt] at this
   simpa using this
  have wj : IntKind.i64.wrap ((j : Int) + 1) = ((j + 1 : Nat) : Int) := by rw [wr (by omega) (by omega)]; omega
  have wk : IntKind.i64.wrap (k0 + (j : Int) + 1) = k0 + ((j + 1 : Nat) : Int) := by rw [wr (by omega) (by omega)]; omega
  rw [s35_0_eq, x.len, oBs]
  simp only [asI, if_true, oBs, decide_eq_true hI, cond_true, e1, e2, hv, wj, wk]
  rw [bne_self_eq_false, cond_false]
  exact ih (j + 1) m (by omega) (by omega) (by omega)
theorem l35 {d c : Nat} (hd : 1048577 < d) {v : Value} {ys : List Int} {k0 : Int} {h : AHeap} (hL : ys.length ≤ 1048576) (h0 : 0 ≤ k0) (h1 : k0 ≤ 4000000000000000000) (x : ISl c h v ys) (hm : Mk k0 ys) :
  call Tp Ms (d + 1) 35 [v, .int .i64 k0] h = some (.int .i64 (k0 + ys.length), h) := by
 have c := held_ints (C := call Tp Ms d) (N := d) hL h0 h1 x hm ys.length 0 d (by omega) (by omega) (by omega)
 rw [c35, e35]
 have c' : s35_0 hk0 (call Tp Ms d) d d v (k0 + 0) 0 h = _ := c
 rw [Int.add_zero] at c'
 exact c'
def Up (B : Nat) (h h' : AHeap) : Prop := ∀ j o, h.at? j = some o → B ≤ o.root → h'.at? j = some o
theorem Up.refl (B : Nat) (h : AHeap) : Up B h h := fun _ _ h _ => h
theorem Up.trans {B : Nat} {h h' h'' : AHeap} (x : Up B h h') (y : Up B h' h'') : Up B h h'' := fun j o a b => y j o (x j o a b) b
theorem Up.ext {B : Nat} {h h' : AHeap} (x : Ext h.size h h') : Up B h h' := fun j o a _ => x.at? (at?_obj a).2.1 a
theorem Up.kr {B rt : Nat} {h h' : AHeap} (x : Kr rt h h') (hr : rt < B) : Up B h h' := fun j o a b => x j o a (.inr (by omega))
def KidR (b B : Nat) (h : AHeap) (kv : Value) (L : Nat) : Prop := ∃ i ys, kv = slc i 0 L ∧ OwnR h i i 3 (ints ys) ∧ ys.length = L ∧ b ≤ i ∧ i < B
theorem KidR.ext {b B : Nat} {h h' : AHeap} {kv : Value} {L : Nat} (x : KidR b B h kv L) (e : Ext h.size h h') : KidR b B h' kv L := let ⟨i, ys, h1, h2, h3⟩ := x; ⟨i, ys, h1, h2.keep (Kr.ext e (root := i + 1)) (.inr (by omega)), h3⟩
def NodesR (b B : Nat) (h : AHeap) (r rn : Nat) (ns : List Kn) (j : Nat) (cells : List Value) : Prop :=
 OwnR h r rn 73 cells ∧ b ≤ rn ∧ rn < B ∧ cells.length = ns.length * 4 ∧ ∀ (i : Nat) (n : Kn), j ≤ i → ns[i]? = some n → ∃ kv, cells[i * 4 + 3]? = some kv ∧ KidR b B h kv n.ks.length
theorem st73 {b B : Nat} {h : AHeap} {r rn i : Nat} {cells : List Value} (o : OwnR h r rn 73 cells) (hb : b ≤ rn) (hB : rn < B) (hi : i < cells.length) {v : Value} (hv : aCells v = some [v]) :
  ∃ h', aSt h (ptr r i) v 1 = some h' ∧ Ext b h h' ∧ OwnR h' r rn 73 (cells.set i v) ∧ h'.size = h.size ∧ Up B h h' ∧ (∀ j o, h.at? j = some o → o.elem ≠ 73 → h'.at? j = some o) := by
 obtain ⟨ep, h1⟩ := o
 have hi' := at?_obj h1
 have hsp : splice cells i [v] = cells.set i v := by
  unfold splice
  rw [List.set_eq_take_append_cons_drop, if_pos hi]; simp
 have hne : ∀ k o, h.at? k = some o → (o.elem ≠ 73 ∨ o.root ≠ rn) → (h.put r ⟨rn, ep, false, 73, cells⟩ (splice cells i [v])).at? k = some o := fun k o ho hk =>
  at?_put_other ho (fun e => by subst e; rw [h1] at ho; cases ho; rcases hk with a | a <;> exact a rfl) _ (fun hh => hk.elim (fun a => a hh.1) (fun a => a hh.2))
 refine ⟨h.put r ⟨rn, ep, false, 73, cells⟩ (splice cells i [v]), by simp [aSt, ptr, h1, hv]; omega, Ext.put (Nat.le_trans hb hi'.2.2.1) hb _, ⟨h.ep 73 rn + 1, ?_⟩, rfl, fun k o ho hk => hne k o ho (.inr (by omega)), fun k o ho hk => hne k o ho (.inl hk)⟩
 rw [← hsp]; exact at?_put_same h1 _
theorem KidR.keep {b B : Nat} {h h' : AHeap} {kv : Value} {L : Nat} (x : KidR b B h kv L) (k : ∀ j o, h.at? j = some o → o.elem ≠ 73 → h'.at? j = some o) : KidR b B h' kv L :=
 let ⟨i, ys, h1, ⟨ep, h2⟩, h3⟩ := x; ⟨i, ys, h1, ⟨ep, k i _ h2 (by show (3 : TypeId) ≠ 73; decide)⟩, h3⟩
theorem mark_nodes {d b B r rn : Nat} (hd : 1048577 < d) {ns : List Kn} (hl : ns.length ≤ 1048576) (hN : ∀ n ∈ ns, n.t.size ≤ 1048576 ∧ n.ks.length ≤ 1048576) :
  ∀ (k j m : Nat) (k0 : Int) (cells : List Value) (h : AHeap), ns.length - j = k → j ≤ ns.length → k < m → 0 ≤ k0 → k0 + (k : Int) * 2000000 ≤ 100000000000000000 → b ≤ h.size → B ≤ h.size → NodesR b B h r rn ns j cells →
   ∃ h' k1, s68_0 hk0 (call Tp Ms (d + 1)) (d + 1) m (slc r 0 ns.length) k0 (j : Int) h = some (.int .i64 k1, h') ∧ 0 ≤ k1 ∧ Ext b h h' ∧ Up B h h' := by
 intro k
 induction k with
 | zero =>
  intro j m k0 cells h hk hj hm h0 h1 hb hB o
  obtain ⟨m, rfl⟩ : ∃ q, m = q + 1 := ⟨m - 1, by omega⟩
  have : ¬ ((j : Int) < (ns.length : Int)) := by omega
  have hlen : aLen (slc r 0 ns.length) = some (.int .i64 (ns.length : Int)) := rfl
  refine ⟨h, k0, ?_, h0, Ext.refl _ _, Up.refl _ _⟩
  rw [s68_0_eq, hlen, oBs]
  simp only [asI, if_true, oBs, decide_eq_false this, cond_false]
 | succ k ih =>
  intro j m k0 cells h hk hj hm h0 h1 hb hB o
  obtain ⟨m, rfl⟩ : ∃ q, m = q + 1 := ⟨m - 1, by omega⟩
  have hlt : j < ns.length := by omega
  have hI : ((j : Int) < (ns.length : Int)) := by omega
  have hlen : aLen (slc r 0 ns.length) = some (.int .i64 (ns.length : Int)) := rfl
  have hix : aIdx (slc r 0 ns.length) (.int .i64 (j : Int)) 4 = some (ptr r (j * 4)) := by simp [aIdx, slc, hlt]
  have hn : ns[j]? = some ns[j] := by simp [hlt]
  have hok := hN ns[j] (List.getElem_mem hlt)
  obtain ⟨o1, o2, o3, o4, o5⟩ := o
  obtain ⟨kv, g1, g2⟩ := o5 j _ (Nat.le_refl _) hn
  obtain ⟨h2, t2, x2, q2, s2, u2, f2⟩ := st73 o1 o2 o3 (i := j * 4) (by omega) (v := .int .i64 k0) rfl
  have w1 : IntKind.i64.wrap (k0 + 1) = k0 + 1 := wr (by omega) (by omega)
  have w2 : IntKind.i64.wrap (k0 + 1 + 1) = k0 + 2 := by rw [wr (by omega) (by omega)]; omega
  have w3 : IntKind.i64.wrap (k0 + 2 + 1) = k0 + 3 := by rw [wr (by omega) (by omega)]; omega
  obtain ⟨h3, c3, x3⟩ := l55 (d := d) (by omega) (x := k0 + 1) (Int.lt_of_le_of_lt (b := 100000000000000001) (by omega) (by decide)) h2
  have s3 := x3.size
  have q3 := q2.keep (Kr.ext x3 (root := rn + 1)) (.inl (by decide))
  obtain ⟨h4, t4, x4, q4, s4, u4, f4⟩ := st73 q3 o2 o3 (i := j * 4 + 1) (by simp; omega) (v := .string (markT (k0 + 1))) rfl
  obtain ⟨h5, t5, x5, q5, s5, u5, f5⟩ := st73 q4 o2 o3 (i := j * 4 + 2) (by simp; omega) (v := .int .i64 (k0 + 2)) rfl
  have hkv : (((cells.set (j * 4) (Value.int .i64 k0)).set (j * 4 + 1) (.string (markT (k0 + 1)))).set (j * 4 + 2) (.int .i64 (k0 + 2)))[j * 4 + 3]? = some kv := by
   rw [List.getElem?_set_ne (by omega), List.getElem?_set_ne (by omega), List.getElem?_set_ne (by omega)]; exact g1
  have ld : aLd1 h5 (ptr r (j * 4 + 3)) = some kv := q5.row.ld1 hkv
  have kid := fun L (kv : Value) (z : KidR b B h kv L) => (((z.keep f2).ext x3).keep f4).keep f5
  obtain ⟨id, ys, z1, z2, z3, z4, z5⟩ := kid _ _ g2
  obtain ⟨h6, ys', c6, x6, k6, q6, l6, m6, s6⟩ := l34 (d := d) hd (b := b) (k0 := k0 + 3) z4 (by rw [z3]; exact hok.2) (by omega) (by omega) z2
  rw [z3, ← z1] at c6
  have U6 : Up B h h6 := u2.trans ((Up.ext x3).trans (u4.trans (u5.trans (Up.kr k6 z5))))
  have E6 : Ext b h h6 := x2.trans ((x3.mono (by omega)).trans (x4.trans (x5.trans x6)))
  have n6 : NodesR b B h6 r rn ns (j + 1) (((cells.set (j * 4) (Value.int .i64 k0)).set (j * 4 + 1) (.string (markT (k0 + 1)))).set (j * 4 + 2) (.int .i64 (k0 + 2))) := by
   refine ⟨q5.keep k6 (.inl (by decide)), o2, o3, by simp; exact o4, fun i n hi hn' => ?_⟩
   obtain ⟨kv', y1, y2⟩ := o5 i n (by omega) hn'
   refine ⟨kv', by rw [List.getElem?_set_ne (by omega), List.getElem?_set_ne (by omega), List.getElem?_set_ne (by omega)]; exact y1, ?_⟩
   obtain ⟨id', zs, v1, v2, v3, v4, v5⟩ := kid _ _ y2
   by_cases he : id' = id
   ·subst he
    have hlen' : ys'.length = zs.length := by
     obtain ⟨ep, v2'⟩ := v2
     obtain ⟨ep', z2'⟩ := z2
     have := congrArg AObj.cells (Option.some.inj (v2'.symm.trans z2'))
     simp only at this
     have := congrArg List.length this
     simp [ints] at this
     omega
    exact ⟨id', ys', v1, q6, by omega, v4, v5⟩
   ·exact ⟨id', zs, v1, v2.keep k6 (.inr he), v3, v4, v5⟩
  have wj : IntKind.i64.wrap ((j : Int) + 1) = ((j + 1 : Nat) : Int) := by rw [wr (by omega) (by omega)]; omega
  obtain ⟨h7, k1, c7, b7, x7, u7⟩ := ih (j + 1) m (k0 + 3 + ns[j].ks.length) _ h6 (by omega) (by omega) (by omega) (by omega) (by have := hok.2; omega) (by omega) (by omega) n6
  refine ⟨h7, k1, ?_, b7, E6.trans x7, U6.trans u7⟩
  rw [s68_0_eq, hlen, oBs]
  simp only [asI, if_true, oBs, decide_eq_true hI, cond_true, hix, aOff_ptr, Nat.add_zero, t2, w1]
  rw [c3, oBs]
  simp only [asS, oBs, t4, w2, t5, ld, w3]
  rw [c6, oBs]
  simp only [asI, if_true, oBs, wj]
  exact c7
noncomputable section
variable (hk : Hk (Value × AHeap)) (C : ACall) (N : Nat)
end
noncomputable section
variable (hk : Hk (Value × AHeap)) (C : ACall) (N : Nat)
end
def SF (h g : AHeap) : Prop := h.size ≤ g.size ∧ ∀ j o, h.at? j = some o → o.elem ≠ 5 → o.elem ≠ 110 → g.at? j = some o
def LF (h g : AHeap) : Prop := h.size ≤ g.size ∧ ∀ j o, h.at? j = some o → o.elem ≠ 5 → o.elem ≠ 9 → o.elem ≠ 110 → g.at? j = some o
theorem LF.refl (h : AHeap) : LF h h := ⟨Nat.le_refl _, fun _ _ a _ _ _ => a⟩
theorem SF.lf {h g : AHeap} (x : SF h g) : LF h g := ⟨x.1, fun j o a b _ c => x.2 j o a b c⟩
theorem SF.ext {h g : AHeap} (x : Ext h.size h g) : SF h g := ⟨x.size, fun j o a _ _ => x.at? (at?_obj a).2.1 a⟩
theorem ISl.lf {c : Nat} {h g : AHeap} {v : Value} {xs : List Int} (x : ISl c h v xs) (k : LF h g) : ISl c g v xs := by
 rcases x with x | x | ⟨i, o, h1, h2, h3, h4, h5⟩
 ·exact .inl x
 ·exact .inr (.inl x)
 ·exact .inr (.inr ⟨i, o, h1, k.2 i o h2 (by rw [h3]; decide) (by rw [h3]; decide) (by rw [h3]; decide), h3, h4, h5⟩)
def KSe (c : Nat) (h : AHeap) (v : Value) (ns : List Kn) : Prop :=
 (v = .slice none 0 0 ∧ ns = []) ∨ (∃ a n, v = .slice (some a) 0 n ∧ ns = []) ∨
 ∃ i o, v = slc i 0 ns.length ∧ h.at? i = some o ∧ o.elem = 73 ∧ i < c ∧ o.cells.length = ns.length * 4 ∧ ∀ (j : Nat) (n : Kn), ns[j]? = some n → ∃ kv, (o.cells.drop (j * 4)).take 4 = knCells n kv ∧ ISl c h kv n.ks
theorem KSe.ksl {c : Nat} {h : AHeap} {v : Value} {ns : List Kn} (x : KSe c h v ns) : KSl c h v ns := by
 rcases x with x | x | ⟨i, o, h1, h2, _, h3, h4, h5⟩
 ·exact .inl x
 ·exact .inr (.inl x)
 ·exact .inr (.inr ⟨i, o, h1, h2, h3, Nat.le_of_eq h4.symm, h5⟩)
theorem KSe.lf {c : Nat} {h g : AHeap} {v : Value} {ns : List Kn} (x : KSe c h v ns) (k : LF h g) : KSe c g v ns := by
 rcases x with x | x | ⟨i, o, h1, h2, h6, h3, h4, h5⟩
 ·exact .inl x
 ·exact .inr (.inl x)
 ·exact .inr (.inr ⟨i, o, h1, k.2 i o h2 (by rw [h6]; decide) (by rw [h6]; decide) (by rw [h6]; decide), h6, h3, h4, fun j n hn => let ⟨kv, a, b⟩ := h5 j n hn; ⟨kv, a, b.lf k⟩⟩)
theorem KSe.mono {c d : Nat} {h : AHeap} {v : Value} {ns : List Kn} (x : KSe c h v ns) (hd : c ≤ d) : KSe d h v ns := by
 rcases x with x | x | ⟨i, o, h1, h2, h6, h3, h4, h5⟩
 ·exact .inl x
 ·exact .inr (.inl x)
 ·exact .inr (.inr ⟨i, o, h1, h2, h6, Nat.lt_of_lt_of_le h3 hd, h4, fun j n hn => let ⟨kv, a, b⟩ := h5 j n hn; ⟨kv, a, b.mono hd⟩⟩)
theorem KOwn.kse {b : Nat} {h : AHeap} {v : Value} {ns : List Kn} (x : KOwn b h v ns) : KSe h.size h v ns := by
 obtain ⟨r, cells, h1, h2, h3, h4⟩ := x
 obtain ⟨rn, ep, z1, z2⟩ := h2
 refine .inr (.inr ⟨r, _, h1, z1, rfl, (at?_obj z1).2.1, h3, fun i n hn => ?_⟩)
 obtain ⟨kv, a, c⟩ := h4 i n (List.getElem?_eq_some_iff.1 hn).1 hn
 exact ⟨kv, a, c.isl⟩
def ixP (v : Value) (j : Nat) : Value := (aIdx v (.int .i64 (j : Int)) 1).getD junk
theorem ISl.ix {c : Nat} {h : AHeap} {v : Value} {xs : List Int} (x : ISl c h v xs) {j : Nat} (hj : j < xs.length) : aIdx v (.int .i64 (j : Int)) 1 = some (ixP v j) ∧ aLd1 h (ixP v j) = some (.int .i64 xs[j]) := by
 obtain ⟨p, a, b⟩ := x.at hj
 have : ixP v j = p := by unfold ixP; rw [a]; rfl
 rw [this]; exact ⟨a, b⟩
def strs (xs : List ByteArray) : List Value := xs.map Value.string
theorem eb {α R : Type} {o : Option α} {k : α → Option R} {v : α} {r : Option R} (e : o = some v) (hk : k v = r) : o.bind k = r := by rw [e]; exact hk
section
variable {P : Option (Value × AHeap) → Prop}
end
theorem Ext.tr {h g k : AHeap} (x : Ext h.size h g) (y : Ext g.size g k) : Ext h.size h k := x.trans (y.mono x.size)
abbrev BA := ByteArray
def Kn.kd (n : Kn) (j : Nat) : Int := n.ks.getD j 0
structure IRd (g : AHeap) (v : Value) (xs : List Int) : Prop where
 len : aLen v = some (.int .i64 xs.length)
 at' : ∀ (j : Nat), j < xs.length → aIdx v (.int .i64 (j : Int)) 1 = some (ixP v j) ∧ ∀ g', LF g g' → aLd1 g' (ixP v j) = some (.int .i64 (xs.getD j 0))
theorem ISl.ird {c : Nat} {g : AHeap} {v : Value} {xs : List Int} (x : ISl c g v xs) : IRd g v xs := by
 refine ⟨x.len, fun j hj => ⟨(x.ix hj).1, fun g' e => ?_⟩⟩
 have := ((x.lf e).ix hj).2
 rw [this]; simp [hj]
section
variable {g : AHeap} {p2 p5 : Nat} {nv : Value} {top : Int} {T : List Kn} {n : Kn} {kv : Value}
end
theorem drop_get {xs : List Int} {j : Nat} (hj : j < xs.length) : xs.drop j = xs.getD j 0 :: xs.drop (j + 1) := by
 rw [List.drop_eq_getElem_cons hj]; simp [hj]
theorem kd_mem {n : Kn} {j : Nat} (h : j < n.ks.length) : n.kd j ∈ n.ks := by simp [Kn.kd, h]
section
variable {h : AHeap} {T : List BA}
end
noncomputable section
variable (hk : Hk (Value × AHeap)) (C : ACall) (N : Nat)
def F120_0 (n1 : Nat) : Nx (Value × AHeap) := evSt hk Tp C M120 N Try.f120 [1, 0, 1, 2, 6] [n1]
def s120_0 (n1 : Nat) (x0 : Value) (x1 : ByteArray) (x7 x8 : Int) (h : AHeap) := F120_0 hk C N n1 (⟨19, [(0, x0), (1, .string x1), (7, .int .i64 x7), (8, .int .i64 x8)]⟩) h
theorem e120 (x0 : Value) (x1 : ByteArray) (h : AHeap) : evFn hk Tp C M120 N Try.f120 [x0, .string x1] h =
  (aLen x0).bind fun v1 => (asI .i64 v1).bind fun n2 => s120_0 hk C N N x0 x1 n2 0 h := by kernel_rfl
theorem s120_0_eq (n1 : Nat) (x0 : Value) (x1 : ByteArray) (x7 x8 : Int) (h : AHeap) : s120_0 hk C N (n1 + 1) x0 x1 x7 x8 h =
  bif decide (x8 < x7) then (aIdx x0 (.int .i64 x8) 1).bind fun v3 => (aLd1 h v3).bind fun v4 => (asS v4).bind fun t5 => bif x1.toList == t5.toList then some (.int .i64 x8, h) else s120_0 hk C N n1 x0 x1 x7 (IntKind.i64.wrap (x8 + 1)) h else some (.int .i64 (-1), h) := by kernel_rfl
theorem c120 (d : Nat) (args : List Value) (h : AHeap) : call Tp Ms (d + 1) 120 args h = evFn hk0 Tp (call Tp Ms d) M120 d Try.f120 args h := by kernel_rfl
end
noncomputable section
variable (hk : Hk (Value × AHeap)) (C : ACall) (N : Nat)
theorem e74 (x0 : Value) (h : AHeap) : evFn hk Tp C M74 N Try.f74 [x0] h =
  (aNil x0).bind fun v1 => (aOff v1 0).bind fun v2 => (aLd1 h v2).bind fun v3 => (aLen v3).bind fun v4 => (asI .i64 v4).bind fun n5 => (aMk h 3 [.int .i64 0] 8 (.int .i64 n5) (.int .i64 n5)).bind fun r6 => (aMk r6.2 4 [.bool false] 1 (.int .i64 n5) (.int .i64 n5)).bind fun r7 => (aMk r7.2 3 [.int .i64 0] 8 (.int .i64 n5) (.int .i64 n5)).bind fun r8 => (aFill [.pointer none, .slice none 0 0, .slice none 0 0, .slice none 0 0, .slice none 0 0] [(0, 1, x0), (1, 1, r6.1), (2, 1, r7.1), (3, 1, r8.1)]).bind fun c9 => (aCells (.agg (List.toArray c9))).bind fun c10 => aNew r8.2 98 c10 fun p11 h12 => (aNil x0).bind fun v13 => (aOff v13 1).bind fun v14 => (aLd1 h12 v14).bind fun v15 => (asI .i64 v15).bind fun n16 => (C 119 [p11, .int .i64 n16, .int .i64 (-1)] h12).bind fun r17 => some (p11, r17.2) := by kernel_rfl
theorem c74 (d : Nat) (args : List Value) (h : AHeap) : call Tp Ms (d + 1) 74 args h = evFn hk0 Tp (call Tp Ms d) M74 d Try.f74 args h := by kernel_rfl
def F119_0 : Nx (Value × AHeap) := evSt hk Tp C M119 N Try.f119 [1, 1, 1, 1] []
def s119_0 (x0 : Value) (x1 x2 : Int) (x6 : Value) (x7 x8 : Int) (h : AHeap) := hk 5 (⟨84, [(0, x0), (1, .int .i64 x1), (2, .int .i64 x2), (6, x6), (7, .int .i64 x7), (8, .int .i64 x8)]⟩) h (F119_0 hk C N)
def F119_1 (n1 : Nat) : Nx (Value × AHeap) := evSt hk Tp C M119 N Try.f119 [1, 1, 1, 1, 0, 1, 2, 6] [n1]
def s119_1 (n1 : Nat) (x0 : Value) (x1 x2 : Int) (x6 : Value) (x7 x8 : Int) (x32 : Value) (x33 x34 : Int) (h : AHeap) := F119_1 hk C N n1 (⟨84, [(0, x0), (1, .int .i64 x1), (2, .int .i64 x2), (6, x6), (7, .int .i64 x7), (8, .int .i64 x8), (32, x32), (33, .int .i64 x33), (34, .int .i64 x34)]⟩) h
def F119_2 : Nx (Value × AHeap) := evSt hk Tp C M119 N Try.f119 [1, 1, 1, 1, 1, 1, 2, 1] []
def s119_2 (x0 : Value) (x1 x2 x7 x44 : Int) (x45 : Bool) (h : AHeap) := hk 100013 (⟨84, [(0, x0), (1, .int .i64 x1), (2, .int .i64 x2), (7, .int .i64 x7), (44, .int .i64 x44), (45, .bool x45)]⟩) h (F119_2 hk C N)
def F119_3 : Nx (Value × AHeap) := evSt hk Tp C M119 N Try.f119 [1, 1, 1, 1, 1, 1, 2, 1, 5, 1] []
def s119_3 (x0 : Value) (x1 x2 x7 x44 : Int) (x52 : Bool) (h : AHeap) := hk 100016 (⟨84, [(0, x0), (1, .int .i64 x1), (2, .int .i64 x2), (7, .int .i64 x7), (44, .int .i64 x44), (52, .bool x52)]⟩) h (F119_3 hk C N)
def F119_4 : Nx (Value × AHeap) := evSt hk Tp C M119 N Try.f119 [1, 1, 1, 1, 1, 1, 2, 1, 5, 1, 5, 1] []
def s119_4 (x0 : Value) (x7 : Int) (x72 : Bool) (h : AHeap) := hk 100020 (⟨84, [(0, x0), (7, .int .i64 x7), (72, .bool x72)]⟩) h (F119_4 hk C N)
theorem e119 (x0 : Value) (x1 x2 : Int) (h : AHeap) : evFn hk Tp C M119 N Try.f119 [x0, .int .i64 x1, .int .i64 x2] h =
  (aNil x0).bind fun v1 => (aOff v1 0).bind fun v2 => (aLd1 h v2).bind fun v3 => (aNil v3).bind fun v4 => (aOff v4 0).bind fun v5 => (aLd1 h v5).bind fun v6 => (aIdx v6 (.int .i64 x1) 4).bind fun v7 => (aLdN h v7 4).bind fun v8 => aNew h 73 [.int .i64 0, .string ⟨#[]⟩, .int .i64 0, .slice none 0 0] fun p9 h10 => (aSt h10 p9 v8 4).bind fun h11 => (aNil x0).bind fun v12 => (aOff v12 4).bind fun v13 => (aLd1 h11 v13).bind fun v14 => (aLen v14).bind fun v15 => (asI .i64 v15).bind fun n16 => (aOff p9 0).bind fun v17 => (aLd1 h11 v17).bind fun v18 => (asI .i64 v18).bind fun n19 => bif n19 == 6 then s119_0 hk C N x0 x1 x2 p9 n16 x1 h11 else s119_0 hk C N x0 x1 x2 p9 n16 x2 h11 := by kernel_rfl
theorem s119_0_j (x0 : Value) (x1 x2 : Int) (x6 : Value) (x7 x8 : Int) (h : AHeap) : s119_0 hk0 C N x0 x1 x2 x6 x7 x8 h = F119_0 hk0 C N (⟨84, [(0, x0), (1, .int .i64 x1), (2, .int .i64 x2), (6, x6), (7, .int .i64 x7), (8, .int .i64 x8)]⟩) h := by delta s119_0; exact hk0_app _ _ _ _
theorem s119_0_eq (x0 : Value) (x1 x2 : Int) (x6 : Value) (x7 x8 : Int) (h : AHeap) : F119_0 hk C N (⟨84, [(0, x0), (1, .int .i64 x1), (2, .int .i64 x2), (6, x6), (7, .int .i64 x7), (8, .int .i64 x8)]⟩) h =
  (aOff x6 3).bind fun v20 => (aLd1 h v20).bind fun v21 => (aLen v21).bind fun v22 => (asI .i64 v22).bind fun n23 => s119_1 hk C N N x0 x1 x2 x6 x7 x8 v21 n23 0 h := by kernel_rfl
theorem s119_1_eq (n1 : Nat) (x0 : Value) (x1 x2 : Int) (x6 : Value) (x7 x8 : Int) (x32 : Value) (x33 x34 : Int) (h : AHeap) : s119_1 hk C N (n1 + 1) x0 x1 x2 x6 x7 x8 x32 x33 x34 h =
  bif decide (x34 < x33) then (aIdx x32 (.int .i64 x34) 1).bind fun v24 => (aLd1 h v24).bind fun v25 => (asI .i64 v25).bind fun n26 => (C 119 [x0, .int .i64 n26, .int .i64 x8] h).bind fun r27 => s119_1 hk C N n1 x0 x1 x2 x6 x7 x8 x32 x33 (IntKind.i64.wrap (x34 + 1)) r27.2 else (aOff x6 0).bind fun v28 => (aLd1 h v28).bind fun v29 => (asI .i64 v29).bind fun n30 => bif n30 == 5 then s119_2 hk C N x0 x1 x2 x7 n30 (n30 == 5) h else s119_2 hk C N x0 x1 x2 x7 n30 (n30 == 15) h := by kernel_rfl
theorem s119_2_j (x0 : Value) (x1 x2 x7 x44 : Int) (x45 : Bool) (h : AHeap) : s119_2 hk0 C N x0 x1 x2 x7 x44 x45 h = F119_2 hk0 C N (⟨84, [(0, x0), (1, .int .i64 x1), (2, .int .i64 x2), (7, .int .i64 x7), (44, .int .i64 x44), (45, .bool x45)]⟩) h := by delta s119_2; exact hk0_app _ _ _ _
theorem s119_2_eq (x0 : Value) (x1 x2 x7 x44 : Int) (x45 : Bool) (h : AHeap) : F119_2 hk C N (⟨84, [(0, x0), (1, .int .i64 x1), (2, .int .i64 x2), (7, .int .i64 x7), (44, .int .i64 x44), (45, .bool x45)]⟩) h =
  bif x45 then (C 163 [x0, .int .i64 x1, .int .i64 x2] h).bind fun r31 => some (.tuple (List.toArray []), r31.2) else bif x44 == 14 then s119_3 hk C N x0 x1 x2 x7 x44 (x44 == 14) h else s119_3 hk C N x0 x1 x2 x7 x44 (x44 == 22) h := by kernel_rfl
theorem s119_3_j (x0 : Value) (x1 x2 x7 x44 : Int) (x52 : Bool) (h : AHeap) : s119_3 hk0 C N x0 x1 x2 x7 x44 x52 h = F119_3 hk0 C N (⟨84, [(0, x0), (1, .int .i64 x1), (2, .int .i64 x2), (7, .int .i64 x7), (44, .int .i64 x44), (52, .bool x52)]⟩) h := by delta s119_3; exact hk0_app _ _ _ _
theorem s119_3_eq (x0 : Value) (x1 x2 x7 x44 : Int) (x52 : Bool) (h : AHeap) : F119_3 hk C N (⟨84, [(0, x0), (1, .int .i64 x1), (2, .int .i64 x2), (7, .int .i64 x7), (44, .int .i64 x44), (52, .bool x52)]⟩) h =
  bif x52 then (aNil x0).bind fun v32 => (aOff v32 3).bind fun v33 => (aLd1 h v33).bind fun v34 => (aIdx v34 (.int .i64 x1) 1).bind fun v35 => (aSt h v35 (.int .i64 x2) 1).bind fun h36 => (aNil x0).bind fun v37 => (aOff v37 4).bind fun v38 => (aLd1 h36 v38).bind fun v39 => aNewS h36 3 [.int .i64 x1] 1 fun p40 h41 => (aApp h41 3 1 8 v39 p40).bind fun r42 => (aNil x0).bind fun v43 => (aOff v43 4).bind fun v44 => (aSt r42.2 v44 r42.1 1).bind fun h45 => some (.tuple (List.toArray []), h45) else bif x44 == 21 then s119_4 hk C N x0 x7 (x44 == 21) h else s119_4 hk C N x0 x7 (x44 == 6) h := by kernel_rfl
theorem s119_4_j (x0 : Value) (x7 : Int) (x72 : Bool) (h : AHeap) : s119_4 hk0 C N x0 x7 x72 h = F119_4 hk0 C N (⟨84, [(0, x0), (7, .int .i64 x7), (72, .bool x72)]⟩) h := by delta s119_4; exact hk0_app _ _ _ _
theorem s119_4_eq (x0 : Value) (x7 : Int) (x72 : Bool) (h : AHeap) : F119_4 hk C N (⟨84, [(0, x0), (7, .int .i64 x7), (72, .bool x72)]⟩) h =
  bif x72 then (aNil x0).bind fun v46 => (aOff v46 4).bind fun v47 => (aLd1 h v47).bind fun v48 => (aSub h 3 v48 none (some (.int .i64 x7)) 1).bind fun v49 => (aNil x0).bind fun v50 => (aOff v50 4).bind fun v51 => (aSt h v51 v49 1).bind fun h52 => some (.tuple (List.toArray []), h52) else some (.tuple (List.toArray []), h) := by kernel_rfl
theorem c119 (d : Nat) (args : List Value) (h : AHeap) : call Tp Ms (d + 1) 119 args h = evFn hk0 Tp (call Tp Ms d) M119 d Try.f119 args h := by kernel_rfl
def F163_0 (n1 : Nat) : Nx (Value × AHeap) := evSt hk Tp C M163 N Try.f163 [1, 1, 2, 6] [n1]
def s163_0 (n1 : Nat) (x0 : Value) (x1 x2 x6 : Int) (h : AHeap) := F163_0 hk C N n1 (⟨85, [(0, x0), (1, .int .i64 x1), (2, .int .i64 x2), (6, .int .i64 x6)]⟩) h
theorem e163 (x0 : Value) (x1 x2 : Int) (h : AHeap) : evFn hk Tp C M163 N Try.f163 [x0, .int .i64 x1, .int .i64 x2] h =
  (aNil x0).bind fun v1 => (aOff v1 1).bind fun v2 => (aLd1 h v2).bind fun v3 => (aIdx v3 (.int .i64 x1) 1).bind fun v4 => (aSt h v4 (.int .i64 (-1)) 1).bind fun h5 => (aNil x0).bind fun v6 => (aOff v6 4).bind fun v7 => (aLd1 h5 v7).bind fun v8 => (aLen v8).bind fun v9 => (asI .i64 v9).bind fun n10 => s163_0 hk C N N x0 x1 x2 (IntKind.i64.wrap (n10 - 1)) h5 := by kernel_rfl
theorem s163_0_eq (n1 : Nat) (x0 : Value) (x1 x2 x6 : Int) (h : AHeap) : s163_0 hk C N (n1 + 1) x0 x1 x2 x6 h =
  bif decide (x6 ≥ 0) then (aNil x0).bind fun v11 => (aOff v11 4).bind fun v12 => (aLd1 h v12).bind fun v13 => (aIdx v13 (.int .i64 x6) 1).bind fun v14 => (aLd1 h v14).bind fun v15 => (asI .i64 v15).bind fun n16 => (aNil x0).bind fun v17 => (aOff v17 0).bind fun v18 => (aLd1 h v18).bind fun v19 => (aNil v19).bind fun v20 => (aOff v20 0).bind fun v21 => (aLd1 h v21).bind fun v22 => (aIdx v22 (.int .i64 n16) 4).bind fun v23 => (aOff v23 1).bind fun v24 => (aLd1 h v24).bind fun v25 => (asS v25).bind fun t26 => (aNil x0).bind fun v27 => (aOff v27 0).bind fun v28 => (aLd1 h v28).bind fun v29 => (aNil v29).bind fun v30 => (aOff v30 0).bind fun v31 => (aLd1 h v31).bind fun v32 => (aIdx v32 (.int .i64 x1) 4).bind fun v33 => (aOff v33 1).bind fun v34 => (aLd1 h v34).bind fun v35 => (asS v35).bind fun t36 => bif t26.toList == t36.toList then (aNil x0).bind fun v37 => (aOff v37 1).bind fun v38 => (aLd1 h v38).bind fun v39 => (aIdx v39 (.int .i64 x1) 1).bind fun v40 => (aSt h v40 (.int .i64 n16) 1).bind fun h41 => (aNil x0).bind fun v42 => (aOff v42 2).bind fun v43 => (aLd1 h41 v43).bind fun v44 => (aNil x0).bind fun v45 => (aOff v45 2).bind fun v46 => (aLd1 h41 v46).bind fun v47 => (aIdx v47 (.int .i64 n16) 1).bind fun v48 => (aLd1 h41 v48).bind fun v49 => (asB v49).bind fun b50 => bif b50 then (aIdx v44 (.int .i64 n16) 1).bind fun v51 => (aSt h41 v51 (.bool true) 1).bind fun h52 => some (.tuple (List.toArray []), h52) else (aNil x0).bind fun v53 => (aOff v53 3).bind fun v54 => (aLd1 h41 v54).bind fun v55 => (aIdx v55 (.int .i64 n16) 1).bind fun v56 => (aLd1 h41 v56).bind fun v57 => (asI .i64 v57).bind fun n58 => (aIdx v44 (.int .i64 n16) 1).bind fun v59 => (aSt h41 v59 (.bool (n58 != x2)) 1).bind fun h60 => some (.tuple (List.toArray []), h60) else s163_0 hk C N n1 x0 x1 x2 (IntKind.i64.wrap (x6 - 1)) h else some (.tuple (List.toArray []), h) := by kernel_rfl
theorem c163 (d : Nat) (args : List Value) (h : AHeap) : call Tp Ms (d + 1) 163 args h = evFn hk0 Tp (call Tp Ms d) M163 d Try.f163 args h := by kernel_rfl
end
section
variable {c d : Nat} {h g : AHeap} {v : Value} {xs : List BA}
end
def Ks (e : TypeId) (root : Nat) (h h' : AHeap) : Prop := ∀ j o, h.at? j = some o → (o.elem ≠ e ∨ o.root ≠ root) → h'.at? j = some o
theorem stOwn {b : Nat} {h : AHeap} {r rt j : Nat} {e : TypeId} {cs : List Value} {v : Value} (o : OwnR h r rt e cs) (hb : b ≤ rt) (hj : j < cs.length) (hv : isCell v = true) :
  ∃ h', aSt h (ptr r j) v 1 = some h' ∧ Ext b h h' ∧ Ks e rt h h' ∧ OwnR h' r rt e (cs.set j v) ∧ h'.size = h.size := by
 obtain ⟨ep, ha⟩ := o
 have hsp : splice cs j [v] = cs.set j v := by
  unfold splice
  rw [List.set_eq_take_append_cons_drop, if_pos hj]; simp
 refine ⟨h.put r ⟨rt, ep, false, e, cs⟩ (cs.set j v), ?_, Ext.put (Nat.le_trans hb (at?_obj ha).2.2.1) hb _, fun k o hk hf => ?_, ⟨_, at?_put_same ha _⟩, rfl⟩
 ·have : j + 1 ≤ cs.length := hj
  simp [aSt, ptr, ha, aCells_one hv, this, hsp]
 ·refine at?_put_other hk (fun e' => ?_) _ (fun x => hf.elim (fun f => f x.1) fun f => f x.2)
  subst e'; rw [ha] at hk; cases hk
  exact hf.elim (fun f => f rfl) fun f => f rfl
theorem OwnR.ks {h h' : AHeap} {i root rt : Nat} {e e' : TypeId} {cs : List Value} (x : OwnR h i root e cs) (k : Ks e' rt h h') (hr : e ≠ e' ∨ root ≠ rt) : OwnR h' i root e cs := let ⟨ep, a⟩ := x; ⟨ep, k i _ a hr⟩
theorem orB {R : Type} (x a b : Int) (f : Bool → R) : (bif x == a then f (x == a) else f (x == b)) = f (decide (x = a ∨ x = b)) := by
 by_cases h : x = a
 ·have : (x == a) = true := by simp [h]
  rw [this, cond_true]; congr 1; simp [h]
 ·have : (x == a) = false := by simp [h]
  rw [this, cond_false]; congr 1
  by_cases h' : x = b
  ·rw [decide_eq_true (.inr h')]; simp [h']
  ·rw [decide_eq_false (fun e => e.elim h h')]; simp [h']
structure Right (T : List Kn) (top : Int) : Prop where
 len : T.length ≤ 3000
 pos : 0 < T.length
 top : top = (T.length : Int) - 1
 good : ∀ (j : Nat) (n : Kn), T[j]? = some n → Good T j n
 num : numP T (T.length + 1) ((T.length : Int) - 1) 0 = (T.length : Int)
 blk : kd T ((T.length : Int) - 1) = 21
theorem right_of {T : List Kn} {top : Int} (h : specOk T top = true) : Right T top := by
 have h2 : implOk T top = true := by rw [← ok_same]; exact h
 unfold implOk at h2
 by_cases hc : T.length > 3000 ∨ T.length = 0 ∨ top ≠ (T.length : Int) - 1 ∨ kd T ((T.length : Int) - 1) ≠ 21
 ·rw [if_pos hc] at h2; cases h2
 ·rw [if_neg hc, Bool.and_eq_true] at h2
  have c1 : ¬ T.length > 3000 := fun e => hc (.inl e)
  have c2 : ¬ T.length = 0 := fun e => hc (.inr (.inl e))
  have c3 : top = (T.length : Int) - 1 := Classical.byContradiction fun e => hc (.inr (.inr (.inl e)))
  have c4 : kd T ((T.length : Int) - 1) = 21 := Classical.byContradiction fun e => hc (.inr (.inr (.inr e)))
  refine ⟨by omega, by omega, c3, fun j n hn => ?_, by simpa using h2.2, c4⟩
  have hj : j < T.length := (List.getElem?_eq_some_iff.1 hn).1
  have := (okFrom_all _ _).1 h2.1 j (by omega) (by omega)
  unfold nodeOkI at this
  rw [hn] at this
  exact good_iff.1 this
theorem kids_lo {T : List Kn} {top : Int} (R : Right T top) : ∀ (j : Nat) (n : Kn), T[j]? = some n → ∀ k ∈ n.ks, 0 ≤ k ∧ k < j := fun j n hn => (R.good j n hn).rng
structure Bd where
 bd : List Int
 bx : List Bool
 ow : List Int
 sn : List Int
def bls (xs : List Bool) : List Value := xs.map Value.bool
def tx (T : List Kn) (i : Int) : BA := match T[i.toNat]? with | some n => n.t | none => ⟨#[]⟩
def findL (T : List Kn) (t : BA) (xs : List Int) : Option Int := xs.find? fun q => (tx T q).toList == t.toList
def bdNameQ (T : List Kn) (i : Nat) (fn : Int) (xs : List Int) (s : Bd) : Bd :=
 match findL T (tx T i) xs with
 | none => s
 | some q => { s with bd := s.bd.set i q, bx := s.bx.set q.toNat (if s.bx.getD q.toNat false then true else s.ow.getD q.toNat 0 != fn) }
def bdName (T : List Kn) (i : Nat) (fn : Int) (s : Bd) : Bd := bdNameQ T i fn s.sn.reverse { s with bd := s.bd.set i (-1) }
def bdEnd (T : List Kn) (n : Kn) (i : Nat) (fn : Int) (had : Nat) (s : Bd) : Bd :=
 if n.k = 5 ∨ n.k = 15 then bdName T i fn s
 else if n.k = 14 ∨ n.k = 22 then { s with ow := s.ow.set i fn, sn := s.sn ++ [(i : Int)] }
 else if n.k = 21 ∨ n.k = 6 then { s with sn := s.sn.take had } else s
def walkP (T : List Kn) : Nat → Int → Int → Bd → Bd
 | 0, _, _, s => s
 | f + 1, i, fn, s => match T[i.toNat]? with
  | some n => bdEnd T n i.toNat fn s.sn.length (n.ks.foldl (fun s k => walkP T f k (if n.k = 6 then i else fn) s) s)
  | none => s
def BX (b : Nat) (h h' : AHeap) : Prop := Ext b h h' ∧ ∀ j o, h.at? j = some o → o.elem ≠ 3 → o.elem ≠ 4 → o.elem ≠ 98 → h'.at? j = some o
theorem BX.trans {b : Nat} {h h' h'' : AHeap} (x : BX b h h') (y : BX b h' h'') : BX b h h'' := ⟨x.1.trans y.1, fun j o a q r t => y.2 j o (x.2 j o a q r t) q r t⟩
theorem BX.ext {b : Nat} {h h' : AHeap} (x : Ext h.size h h') (hb : b ≤ h.size) : BX b h h' := ⟨x.mono hb, fun j o a _ _ _ => x.at? (at?_obj a).2.1 a⟩
theorem BX.ks {b : Nat} {h h' : AHeap} {e : TypeId} {rt : Nat} (x : Ext b h h') (k : Ks e rt h h') (he : e = 3 ∨ e = 4 ∨ e = 98) : BX b h h' :=
 ⟨x, fun j o a q r t => k j o a (.inl (by rcases he with rfl | rfl | rfl <;> assumption))⟩
def SnR (b rb ro : Nat) (h : AHeap) (v : Value) (sn : List Int) : Prop :=
 (v = .slice none 0 0 ∧ sn = []) ∨ ∃ r rt cells, v = slc r 0 sn.length ∧ OwnR h r rt 3 cells ∧ cells.take sn.length = ints sn ∧ b ≤ rt ∧ rt ≠ rb ∧ rt ≠ ro
section
variable {b rb ro : Nat} {h g : AHeap} {v : Value} {sn : List Int}
theorem SnR.ks {e : TypeId} {rt : Nat} (x : SnR b rb ro h v sn) (k : Ks e rt h g) (he : e ≠ 3 ∨ rt = rb ∨ rt = ro) : SnR b rb ro g v sn := by
 rcases x with x | ⟨r, rt', cells, h1, h2, h3, h4, h5, h6⟩
 ·exact .inl x
 ·refine .inr ⟨r, rt', cells, h1, h2.ks k ?_, h3, h4, h5, h6⟩
  rcases he with he | rfl | rfl
  ·exact .inl (Ne.symm he)
  ·exact .inr h5
  ·exact .inr h6
theorem SnR.ext (x : SnR b rb ro h v sn) (k : Ext h.size h g) : SnR b rb ro g v sn := by
 rcases x with x | ⟨r, rt', cells, h1, h2, h3, h4, h5, h6⟩
 ·exact .inl x
 ·exact .inr ⟨r, rt', cells, h1, h2.ext k, h3, h4, h5, h6⟩
theorem SnR.len (x : SnR b rb ro h v sn) : aLen v = some (.int .i64 (sn.length : Int)) := by
 rcases x with ⟨rfl, rfl⟩ | ⟨r, rt', cells, rfl, _⟩ <;> rfl
theorem SnR.at (x : SnR b rb ro h v sn) {j : Nat} (hj : j < sn.length) : ∃ q, aIdx v (.int .i64 (j : Int)) 1 = some q ∧ aLd1 h q = some (.int .i64 sn[j]) := by
 rcases x with ⟨_, rfl⟩ | ⟨r, rt', cells, rfl, h2, h3, _⟩
 ·simp at hj
 ·refine ⟨ptr r j, by simp [aIdx, slc]; omega, h2.row.ld1 ?_⟩
  have h7 : (ints sn)[j]? = some (.int .i64 sn[j]) := by simp [ints, hj]
  rw [← h3, List.getElem?_take, if_pos hj] at h7
  exact h7
theorem SnR.cut (x : SnR b rb ro h v sn) {n : Nat} (hn : n ≤ sn.length) : ∃ v', aSub h 3 v none (some (.int .i64 (n : Int))) 1 = some v' ∧ SnR b rb ro h v' (sn.take n) := by
 rcases x with ⟨rfl, rfl⟩ | ⟨r, rt', cells, rfl, h2, h3, h4, h5, h6⟩
 ·obtain rfl : n = 0 := by simpa using hn
  exact ⟨.slice none 0 0, rfl, .inl ⟨rfl, rfl⟩⟩
 ·have hl : (sn.take n).length = n := by simp; omega
  refine ⟨slc r 0 n, ?_, .inr ⟨r, rt', cells, by rw [hl], h2, ?_, h4, h5, h6⟩⟩
  ·obtain ⟨ep, a⟩ := h2
   have : (n : Int) ≤ (sn.length : Int) := by omega
   simp [aSub, slc, a, aBound, this]
  ·rw [hl]
   have := congrArg (List.take n) h3
   rw [List.take_take, Nat.min_eq_left hn] at this
   rw [this]; simp [ints, List.map_take]
theorem SnR.push (x : SnR b rb ro h v sn) (hb : b ≤ h.size) (hr : rb < h.size) (hr2 : ro < h.size) (hl : sn.length ≤ 1000000) (y : Int) :
  ∃ v' h', aApp (h.new 3 [.int .i64 y]) 3 1 8 v (slc h.size 0 1) = some (v', h') ∧ BX b h h' ∧ SnR b rb ro h' v' (sn ++ [y]) ∧ (∀ i rt e cs, OwnR h i rt e cs → e ≠ 3 ∨ rt = rb ∨ rt = ro → OwnR h' i rt e cs) := by
 have e1 := Ext.new (Nat.le_refl h.size) 3 [Value.int .i64 y]
 have w := (Own.new (b := 0) (Nat.zero_le h.size) 3 [Value.int .i64 y]).row
 have hS : (h.new 3 [Value.int .i64 y]).size = h.size + 1 := rfl
 have hsrc : aSrc (h.new 3 [Value.int .i64 y]) 1 (slc h.size 0 1) = some (1, [Value.int .i64 y]) := w.src (n := 1) (esz := 1) (by show 0 + 1 * 1 ≤ 1; omega)
 have hk : ∀ i rt e cs, OwnR h i rt e cs → OwnR (h.new 3 [Value.int .i64 y]) i rt e cs := fun i rt e cs o => o.ext e1
 generalize h.new 3 [Value.int .i64 y] = g1 at e1 w hS hsrc hk ⊢
 rcases x with ⟨rfl, rfl⟩ | ⟨r, rt', cells, rfl, h2, h3, h4, h5, h6⟩
 ·have e2 := Ext.new (Nat.le_refl g1.size) 3 [Value.int .i64 y]
  refine ⟨slc g1.size 0 1, g1.new 3 [.int .i64 y], ?_, BX.ext (Ext.tr e1 e2) hb, .inr ⟨g1.size, g1.size, [.int .i64 y], rfl, OwnR.new _ _ _, rfl, by omega, by omega, by omega⟩, fun i rt e cs o _ => (hk i rt e cs o).ext e2⟩
  have q1 : (1 : Nat) ≤ most ∧ 1 * 8 ≤ most := by unfold most; omega
  have : aApp g1 3 1 8 (.slice none 0 0) (slc h.size 0 1) = ((some (1, [Value.int .i64 y])).bind fun my : Nat × List Value => if my.1 = 0 then some (.slice none 0 0, g1) else if my.1 ≤ most ∧ my.1 * 8 ≤ most then some (slc g1.size 0 my.1, g1.new 3 my.2) else none) := by rw [← hsrc]; rfl
  rw [this, oBs, if_neg (show ¬ (1:Nat) = 0 by decide), if_pos q1]
 ·obtain ⟨ep, a⟩ := hk _ _ _ _ h2
  have hcl : sn.length ≤ cells.length := by
   have := congrArg List.length h3
   rw [List.length_take] at this
   simp [ints] at this; omega
  have q1 : sn.length + 1 ≤ most ∧ (sn.length + 1) * 8 ≤ most := by unfold most; omega
  have hcall : aApp g1 3 1 8 (slc r 0 sn.length) (slc h.size 0 1) = some (slc g1.size 0 (sn.length + 1), g1.app ⟨rt', ep, false, 3, cells⟩ sn.length (ints sn ++ [.int .i64 y])) := by
   have : aApp g1 3 1 8 (slc r 0 sn.length) (slc h.size 0 1) = aAppG g1 3 1 8 (slc r 0 sn.length) (some (1, [Value.int .i64 y])) := by rw [← hsrc]; rfl
   rw [this]
   simp [aAppG, slc, a, hcl, q1, h3]
  have kk : Ks 3 rt' g1 (g1.app ⟨rt', ep, false, 3, cells⟩ sn.length (ints sn ++ [.int .i64 y])) := fun j o' ho hkk => at?_app_old ho _ (fun hh => hkk.elim (fun q => absurd hh.1 q) (fun q => absurd hh.2 q))
  refine ⟨_, _, hcall, (BX.ext e1 hb).trans (BX.ks (Ext.app (by omega) h4 _ _) kk (.inl rfl)), .inr ⟨g1.size, rt', ints (sn ++ [y]), by simp, ⟨_, by rw [show ints (sn ++ [y]) = ints sn ++ [.int .i64 y] by simp [ints]]; exact at?_app_same a _ _⟩, by rw [List.take_of_length_le (by simp [ints])], h4, h5, h6⟩, fun i rt e cs o he => (hk i rt e cs o).ks kk ?_⟩
  rcases he with he | rfl | rfl
  ·exact .inl he
  ·exact .inr (Ne.symm h5)
  ·exact .inr (Ne.symm h6)
end
structure Bq (b p t0 rb rx ro N : Nat) (h : AHeap) (s : Bd) : Prop where
 lp : b ≤ p
 lb : b ≤ rb
 lx : b ≤ rx
 lo : b ≤ ro
 nbo : rb ≠ ro
 nB : s.bd.length = N
 nX : s.bx.length = N
 nO : s.ow.length = N
 st : ∃ sv, OwnR h p p 98 [ptr t0 0, slc rb 0 N, slc rx 0 N, slc ro 0 N, sv] ∧ SnR b rb ro h sv s.sn
 ob : OwnR h rb rb 3 (ints s.bd)
 ox : OwnR h rx rx 4 (bls s.bx)
 oo : OwnR h ro ro 3 (ints s.ow)
 pos : ∀ q ∈ s.sn, 0 ≤ q ∧ q < N
section
variable {b p t0 rb rx ro N : Nat} {h g : AHeap} {s : Bd}
theorem Bq.sz (x : Bq b p t0 rb rx ro N h s) : b ≤ h.size := by have := x.lp; obtain ⟨sv, o, _⟩ := x.st; have := o.lt; omega
theorem Bq.ext (x : Bq b p t0 rb rx ro N h s) (e : Ext h.size h g) : Bq b p t0 rb rx ro N g s :=
 { x with st := let ⟨sv, o, z⟩ := x.st; ⟨sv, o.ext e, z.ext e⟩, ob := x.ob.ext e, ox := x.ox.ext e, oo := x.oo.ext e }
theorem Bq.f0 (x : Bq b p t0 rb rx ro N h s) : aLd1 h (ptr p 0) = some (ptr t0 0) := by obtain ⟨sv, o, _⟩ := x.st; exact o.row.ld1 rfl
theorem Bq.f1 (x : Bq b p t0 rb rx ro N h s) : aLd1 h (ptr p 1) = some (slc rb 0 N) := by obtain ⟨sv, o, _⟩ := x.st; exact o.row.ld1 rfl
theorem Bq.f2 (x : Bq b p t0 rb rx ro N h s) : aLd1 h (ptr p 2) = some (slc rx 0 N) := by obtain ⟨sv, o, _⟩ := x.st; exact o.row.ld1 rfl
theorem Bq.f3 (x : Bq b p t0 rb rx ro N h s) : aLd1 h (ptr p 3) = some (slc ro 0 N) := by obtain ⟨sv, o, _⟩ := x.st; exact o.row.ld1 rfl
theorem Bq.f4 (x : Bq b p t0 rb rx ro N h s) : ∃ sv, aLd1 h (ptr p 4) = some sv ∧ SnR b rb ro h sv s.sn := by obtain ⟨sv, o, z⟩ := x.st; exact ⟨sv, o.row.ld1 rfl, z⟩
theorem Bq.setB (x : Bq b p t0 rb rx ro N h s) {i : Nat} (hi : i < N) (v : Int) : ∃ h', aSt h (ptr rb i) (.int .i64 v) 1 = some h' ∧ BX b h h' ∧ Bq b p t0 rb rx ro N h' { s with bd := s.bd.set i v } := by
 obtain ⟨h', c, e, k, o, _⟩ := stOwn x.ob x.lb (j := i) (v := .int .i64 v) (by simp [ints, x.nB, hi]) rfl
 refine ⟨h', c, BX.ks e k (.inl rfl), { x with nB := by simp [x.nB], st := let ⟨sv, o, z⟩ := x.st; ⟨sv, o.ks k (.inl (by decide)), z.ks k (.inr (.inl rfl))⟩, ob := ?_, ox := x.ox.ks k (.inl (by decide)), oo := x.oo.ks k (.inr (Ne.symm x.nbo)) }⟩
 rw [show ints (s.bd.set i v) = (ints s.bd).set i (.int .i64 v) by simp [ints, List.map_set]]; exact o
theorem Bq.setO (x : Bq b p t0 rb rx ro N h s) {i : Nat} (hi : i < N) (v : Int) : ∃ h', aSt h (ptr ro i) (.int .i64 v) 1 = some h' ∧ BX b h h' ∧ Bq b p t0 rb rx ro N h' { s with ow := s.ow.set i v } := by
 obtain ⟨h', c, e, k, o, _⟩ := stOwn x.oo x.lo (j := i) (v := .int .i64 v) (by simp [ints, x.nO, hi]) rfl
 refine ⟨h', c, BX.ks e k (.inl rfl), { x with nO := by simp [x.nO], st := let ⟨sv, o, z⟩ := x.st; ⟨sv, o.ks k (.inl (by decide)), z.ks k (.inr (.inr rfl))⟩, oo := ?_, ox := x.ox.ks k (.inl (by decide)), ob := x.ob.ks k (.inr x.nbo) }⟩
 rw [show ints (s.ow.set i v) = (ints s.ow).set i (.int .i64 v) by simp [ints, List.map_set]]; exact o
theorem Bq.setX (x : Bq b p t0 rb rx ro N h s) {i : Nat} (hi : i < N) (v : Bool) : ∃ h', aSt h (ptr rx i) (.bool v) 1 = some h' ∧ BX b h h' ∧ Bq b p t0 rb rx ro N h' { s with bx := s.bx.set i v } := by
 obtain ⟨h', c, e, k, o, _⟩ := stOwn x.ox x.lx (j := i) (v := .bool v) (by simp [bls, x.nX, hi]) rfl
 refine ⟨h', c, BX.ks e k (.inr (.inl rfl)), { x with nX := by simp [x.nX], st := let ⟨sv, o, z⟩ := x.st; ⟨sv, o.ks k (.inl (by decide)), z.ks k (.inl (by decide))⟩, ox := ?_, oo := x.oo.ks k (.inl (by decide)), ob := x.ob.ks k (.inl (by decide)) }⟩
 rw [show bls (s.bx.set i v) = (bls s.bx).set i (.bool v) by simp [bls, List.map_set]]; exact o
theorem Bq.setS (x : Bq b p t0 rb rx ro N h s) {v : Value} {sn : List Int} (z : SnR b rb ro h v sn) (hv : isCell v = true) (hp : ∀ q ∈ sn, 0 ≤ q ∧ q < N) : ∃ h', aSt h (ptr p 4) v 1 = some h' ∧ BX b h h' ∧ Bq b p t0 rb rx ro N h' { s with sn := sn } := by
 obtain ⟨sv, o, _⟩ := x.st
 obtain ⟨h', c, e, k, o, _⟩ := stOwn o x.lp (j := 4) (v := v) (by show 4 < 5; decide) hv
 exact ⟨h', c, BX.ks e k (.inr (.inr rfl)), { x with st := ⟨v, o, z.ks k (.inl (by decide))⟩, ox := x.ox.ks k (.inl (by decide)), oo := x.oo.ks k (.inl (by decide)), ob := x.ob.ks k (.inl (by decide)), pos := hp }⟩
theorem SnR.cell {b rb ro : Nat} {h : AHeap} {v : Value} {sn : List Int} (x : SnR b rb ro h v sn) : isCell v = true := by
 rcases x with ⟨rfl, rfl⟩ | ⟨r, rt', cells, rfl, _⟩ <;> rfl
theorem slc_ix {r n : Nat} {i : Int} (h0 : 0 ≤ i) (h1 : i < n) : aIdx (slc r 0 n) (.int .i64 i) 1 = some (ptr r i.toNat) := by simp [aIdx, slc, h0, h1]
end
def unitV : Value := .tuple (List.toArray [])
def BW (b p t0 rb rx ro N : Nat) (h0 : AHeap) (s : Bd) (o : Option (Value × AHeap)) : Prop := ∃ g, o = some (.tuple (List.toArray []), g) ∧ BX b h0 g ∧ Bq b p t0 rb rx ro N g s
section
variable {b0 p t0 rb rx ro N : Nat} {h0 : AHeap} {s : Bd}
theorem BW.b {α : Type} {o : Option α} {k : α → Option (Value × AHeap)} {v : α} (e : o = some v) (hk : BW b0 p t0 rb rx ro N h0 s (k v)) : BW b0 p t0 rb rx ro N h0 s (o.bind k) := by rw [e]; exact hk
theorem BW.cf {c : Bool} {x y : Option (Value × AHeap)} (e : c = false) (hk : BW b0 p t0 rb rx ro N h0 s y) : BW b0 p t0 rb rx ro N h0 s (bif c then x else y) := by rw [e]; exact hk
theorem BW.ct {c : Bool} {x y : Option (Value × AHeap)} (e : c = true) (hk : BW b0 p t0 rb rx ro N h0 s x) : BW b0 p t0 rb rx ro N h0 s (bif c then x else y) := by rw [e]; exact hk
theorem BW.fin {g : AHeap} (x : BX b0 h0 g) (y : Bq b0 p t0 rb rx ro N g s) : BW b0 p t0 rb rx ro N h0 s (some (.tuple (List.toArray []), g)) := ⟨g, rfl, x, y⟩
end
theorem Bq.push {b p t0 rb rx ro N : Nat} {h : AHeap} {s : Bd} (x : Bq b p t0 rb rx ro N h s) (hl : s.sn.length ≤ 1000000) {i : Int} (h0 : 0 ≤ i) (h1 : i < N) :
  ∃ sv, aLd1 h (ptr p 4) = some sv ∧ ∃ v2 h2, aApp (h.new 3 [.int .i64 i]) 3 1 8 sv (slc h.size 0 1) = some (v2, h2) ∧ ∃ h3, aSt h2 (ptr p 4) v2 1 = some h3 ∧ BX b h h3 ∧ Bq b p t0 rb rx ro N h3 { s with sn := s.sn ++ [i] } := by
 obtain ⟨sv, o, z⟩ := x.st
 obtain ⟨v2, h2, c2, x2, z2, k2⟩ := z.push x.sz x.ob.lt.2 x.oo.lt.2 hl i
 obtain ⟨h3, c3, e, k, o3, _⟩ := stOwn (k2 _ _ _ _ o (.inl (by decide))) x.lp (j := 4) (v := v2) (by show 4 < 5; decide) z2.cell
 refine ⟨sv, o.row.ld1 rfl, v2, h2, c2, h3, c3, x2.trans (BX.ks e k (.inr (.inr rfl))), { x with st := ⟨v2, o3, z2.ks k (.inl (by decide))⟩, ox := (k2 _ _ _ _ x.ox (.inl (by decide))).ks k (.inl (by decide)), oo := (k2 _ _ _ _ x.oo (.inr (.inr rfl))).ks k (.inl (by decide)), ob := (k2 _ _ _ _ x.ob (.inr (.inl rfl))).ks k (.inl (by decide)), pos := fun q hq => ?_ }⟩
 rcases List.mem_append.1 hq with hq | hq
 ·exact x.pos q hq
 ·rw [List.mem_singleton.1 hq]; exact ⟨h0, h1⟩
theorem tx_at {b : Nat} {g : AHeap} {nv : Value} {T : List Kn} (ks : KSl b g nv T) {q : Int} (h0 : 0 ≤ q) (h1 : q < T.length) : ∃ r, aIdx nv (.int .i64 q) 4 = some r ∧ aLdN g r 4 = aLdN g r 4 ∧ ∃ u, aOff r 1 = some u ∧ aLd1 g u = some (.string (tx T q)) := by
 obtain ⟨j, rfl⟩ : ∃ j : Nat, q = j := ⟨q.toNat, by omega⟩
 have hj : j < T.length := by omega
 obtain ⟨i, kv, a, _, c⟩ := ks.at hj
 refine ⟨_, a, rfl, _, rfl, ?_⟩
 have : tx T (j : Int) = T[j].t := by unfold tx; simp [hj]
 rw [this]; exact (c g (Ext.refl _ _)).2.2.1
section
variable {b p t0 rb rx ro : Nat} {nv : Value} {top : Int} {T : List Kn}
theorem name_loop {C : ACall} {M i : Nat} {fn : Int} {h0 g : AHeap} {s : Bd} (X : BX b h0 g) (y : Bq b p t0 rb rx ro T.length g s) (ks : KSl b g nv T) (r2 : RowE g t0 35 [nv, .int .i64 top]) (hT : T.length ≤ 3000) (hi : i < T.length) :
  ∀ (j m : Nat), j ≤ s.sn.length → j < m → s.sn.length ≤ 1000000 →
  BW b p t0 rb rx ro T.length h0 (bdNameQ T i fn (s.sn.take j).reverse s) (s163_0 hk0 C M m (ptr p 0) (i : Int) fn ((j : Int) - 1) g) := by
 intro j
 induction j with
 | zero =>
  intro m hj hm hl
  obtain ⟨m, rfl⟩ : ∃ q, m = q + 1 := ⟨m - 1, by omega⟩
  have : ¬ (((0 : Nat) : Int) - 1 ≥ 0) := by omega
  rw [s163_0_eq]
  exact BW.cf (decide_eq_false this) (BW.fin X y)
 | succ j ih =>
  intro m hj hm hl
  obtain ⟨m, rfl⟩ : ∃ q, m = q + 1 := ⟨m - 1, by omega⟩
  have z := ih m (by omega) (by omega) hl
  have hlt : j < s.sn.length := by omega
  have hI : (((j + 1 : Nat) : Int) - 1 ≥ 0) := by omega
  have ej : ((j + 1 : Nat) : Int) - 1 = (j : Int) := by omega
  have wj : IntKind.i64.wrap ((j : Int) - 1) = (j : Int) - 1 := wr (by omega) (by omega)
  have hrev : (s.sn.take (j + 1)).reverse = s.sn[j] :: (s.sn.take j).reverse := by
   rw [List.take_add_one, List.getElem?_eq_getElem hlt]; simp
  obtain ⟨q0, q1⟩ := y.pos _ (List.getElem_mem hlt)
  obtain ⟨sv, v4, sr⟩ := y.f4
  obtain ⟨w, w1, w2⟩ := sr.at hlt
  obtain ⟨r, r1, _, u, u1, u2⟩ := tx_at ks q0 q1
  obtain ⟨r', r1', _, u', u1', u2'⟩ := tx_at ks (q := (i : Int)) (by omega) (by omega)
  have a0 := (ld2 r2.row).1
  rw [s163_0_eq, hrev, ej]
  refine BW.ct (decide_eq_true (by omega)) (BW.b rfl (BW.b rfl (BW.b v4 (BW.b w1 (BW.b w2 (BW.b rfl (BW.b rfl (BW.b rfl (BW.b y.f0 (BW.b rfl (BW.b rfl (BW.b a0 (BW.b r1 (BW.b u1 (BW.b u2 (BW.b rfl (BW.b rfl (BW.b rfl (BW.b y.f0 (BW.b rfl (BW.b rfl (BW.b a0 (BW.b r1' (BW.b u1' (BW.b u2' (BW.b rfl ?_))))))))))))))))))))))))))
  unfold bdNameQ findL at z ⊢
  rw [List.find?_cons]
  cases e : ((tx T s.sn[j]).toList == (tx T (i : Int)).toList) with
  | false =>
   rw [wj]
   exact BW.cf rfl z
  | true =>
   generalize hq : s.sn[j] = q at q0 q1 w2 r1 u2 e ⊢
   obtain ⟨h1, c1, x1, y1⟩ := y.setB hi q
   have hqn : q.toNat < T.length := by omega
   have bxg : aLd1 h1 (ptr rx q.toNat) = some (.bool (s.bx.getD q.toNat false)) := by
    have := y1.ox.row.ld1 (off := q.toNat) (v := .bool (s.bx.getD q.toNat false)) (by simp [bls, show q.toNat < s.bx.length by rw [y.nX]; exact hqn])
    exact this
   have owg : aLd1 h1 (ptr ro q.toNat) = some (.int .i64 (s.ow.getD q.toNat 0)) := by
    have := y1.oo.row.ld1 (off := q.toNat) (v := .int .i64 (s.ow.getD q.toNat 0)) (by simp [ints, show q.toNat < s.ow.length by rw [y.nO]; exact hqn])
    exact this
   have ixi : aIdx (slc rb 0 T.length) (.int .i64 (i : Int)) 1 = some (ptr rb i) := by rw [slc_ix (by omega) (by omega)]; simp
   have ixx : aIdx (slc rx 0 T.length) (.int .i64 q) 1 = some (ptr rx q.toNat) := slc_ix q0 q1
   have ixo : aIdx (slc ro 0 T.length) (.int .i64 q) 1 = some (ptr ro q.toNat) := slc_ix q0 q1
   refine BW.ct rfl (BW.b rfl (BW.b rfl (BW.b y.f1 (BW.b ixi (BW.b c1 (BW.b rfl (BW.b rfl (BW.b y1.f2 (BW.b rfl (BW.b rfl (BW.b y1.f2 (BW.b ixx (BW.b bxg (BW.b rfl ?_))))))))))))))
   cases hb : s.bx.getD q.toNat false with
   | true =>
    obtain ⟨h2, c2, x2, y2⟩ := y1.setX hqn true
    refine BW.ct rfl (BW.b ixx (BW.b c2 (BW.fin (X.trans (x1.trans x2)) ?_)))
    simp only [hb, if_true]; exact y2
   | false =>
    obtain ⟨h2, c2, x2, y2⟩ := y1.setX hqn (s.ow.getD q.toNat 0 != fn)
    refine BW.cf rfl (BW.b rfl (BW.b rfl (BW.b y1.f3 (BW.b ixo (BW.b owg (BW.b rfl (BW.b ixx (BW.b c2 (BW.fin (X.trans (x1.trans x2)) ?_)))))))))
    simp only [hb, Bool.false_eq_true, if_false]; exact y2
theorem l163 {d i : Nat} {fn : Int} {g : AHeap} {s : Bd} (hd : 1048577 < d) (y : Bq b p t0 rb rx ro T.length g s) (ks : KSl b g nv T) (r2 : RowE g t0 35 [nv, .int .i64 top]) (hT : T.length ≤ 3000) (ht0 : t0 < b) (hi : i < T.length) (hl : s.sn.length ≤ 1000000) :
  BW b p t0 rb rx ro T.length g (bdName T i fn s) (call Tp Ms (d + 1) 163 [ptr p 0, .int .i64 (i : Int), .int .i64 fn] g) := by
 rw [c163, e163]
 obtain ⟨h1, c1, x1, y1⟩ := y.setB hi (-1)
 obtain ⟨sv, v4, sr⟩ := y1.f4
 have ixi : aIdx (slc rb 0 T.length) (.int .i64 (i : Int)) 1 = some (ptr rb i) := by rw [slc_ix (by omega) (by omega)]; simp
 refine BW.b rfl (BW.b rfl (BW.b y.f1 (BW.b ixi (BW.b c1 (BW.b rfl (BW.b rfl (BW.b v4 (BW.b sr.len (BW.b rfl ?_)))))))))
 have hl' : ({ s with bd := s.bd.set i (-1) } : Bd).sn.length = s.sn.length := rfl
 have w : IntKind.i64.wrap ((({ s with bd := s.bd.set i (-1) } : Bd).sn.length : Int) - 1) = (s.sn.length : Int) - 1 := by rw [hl']; exact wr (by omega) (by omega)
 rw [w]
 have r2' : RowE h1 t0 35 [nv, .int .i64 top] := let ⟨o, a, q1, q2⟩ := r2; ⟨o, x1.1.at? ht0 a, q1, q2⟩
 have z := name_loop (C := call Tp Ms d) (M := d) (fn := fn) x1 y1 (ks.ext x1.1) r2' hT hi s.sn.length d (Nat.le_refl _) (by omega) hl
 unfold bdName
 rw [show (({ s with bd := s.bd.set i (-1) } : Bd).sn.take s.sn.length) = s.sn from List.take_length] at z
 exact z
theorem bd_end {e M : Nat} (he : 1048577 < e) {h0 g : AHeap} {s : Bd} {i had : Nat} {fn : Int} {n : Kn} (X : BX b h0 g) (y : Bq b p t0 rb rx ro T.length g s) (ks : KSl b g nv T) (r2 : RowE g t0 35 [nv, .int .i64 top]) (hT : T.length ≤ 3000) (ht0 : t0 < b) (hi : i < T.length)
  (hl : s.sn.length ≤ 100000) (hh : had ≤ s.sn.length) :
  BW b p t0 rb rx ro T.length h0 (bdEnd T n i fn had s) (bif n.k == 5 then s119_2 hk0 (call Tp Ms (e + 1)) M (ptr p 0) (i : Int) fn (had : Int) n.k (n.k == 5) g else s119_2 hk0 (call Tp Ms (e + 1)) M (ptr p 0) (i : Int) fn (had : Int) n.k (n.k == 15) g) := by
 rw [orB n.k 5 15 (fun t => s119_2 hk0 (call Tp Ms (e + 1)) M (ptr p 0) (i : Int) fn (had : Int) n.k t g), s119_2_j, s119_2_eq]
 unfold bdEnd
 by_cases k1 : n.k = 5 ∨ n.k = 15
 ·rw [if_pos k1]
  obtain ⟨g', c, x', y'⟩ := l163 (d := e) (fn := fn) he y ks r2 hT ht0 hi (by omega)
  exact BW.ct (decide_eq_true k1) (BW.b c (BW.fin (X.trans x') y'))
 ·rw [if_neg k1]
  refine BW.cf (decide_eq_false k1) ?_
  rw [orB n.k 14 22 (fun t => s119_3 hk0 (call Tp Ms (e + 1)) M (ptr p 0) (i : Int) fn (had : Int) n.k t g), s119_3_j, s119_3_eq]
  by_cases k2 : n.k = 14 ∨ n.k = 22
  ·rw [if_pos k2]
   obtain ⟨h1, c1, x1, y1⟩ := y.setO hi fn
   obtain ⟨sv, v4, v2, h2, c2, h3, c3, x3, y3⟩ := y1.push (i := (i : Int)) (show s.sn.length ≤ 1000000 by omega) (by omega) (by omega)
   have ixi : aIdx (slc ro 0 T.length) (.int .i64 (i : Int)) 1 = some (ptr ro i) := by rw [slc_ix (by omega) (by omega)]; simp
   refine BW.ct (decide_eq_true k2) (BW.b rfl (BW.b rfl (BW.b y.f3 (BW.b ixi (BW.b c1 (BW.b rfl (BW.b rfl (BW.b v4 ?_))))))))
   show BW b p t0 rb rx ro T.length h0 _ ((aApp (h1.new 3 [.int .i64 (i : Int)]) 3 1 8 sv (slc h1.size 0 1)).bind _)
   exact BW.b c2 (BW.b rfl (BW.b rfl (BW.b c3 (BW.fin (X.trans (x1.trans x3)) y3))))
  ·rw [if_neg k2]
   refine BW.cf (decide_eq_false k2) ?_
   rw [orB n.k 21 6 (fun t => s119_4 hk0 (call Tp Ms (e + 1)) M (ptr p 0) (had : Int) t g), s119_4_j, s119_4_eq]
   by_cases k3 : n.k = 21 ∨ n.k = 6
   ·rw [if_pos k3]
    obtain ⟨sv, v4, sr⟩ := y.f4
    obtain ⟨v2, c2, sr2⟩ := sr.cut hh
    obtain ⟨h3, c3, x3, y3⟩ := y.setS sr2 sr2.cell (fun q hq => y.pos q (List.mem_of_mem_take hq))
    exact BW.ct (decide_eq_true k3) (BW.b rfl (BW.b rfl (BW.b v4 (BW.b c2 (BW.b rfl (BW.b rfl (BW.b c3 (BW.fin (X.trans x3) y3))))))))
   ·rw [if_neg k3]
    exact BW.cf (decide_eq_false k3) (BW.fin X y)
end
end Go.Proofs.Ytadmoackacickaa
