import Derived.Test.YtadmoackacickaaXAF
import Derived.Test.YtadmoackacickaaXAG
/- FnExactLex, as the small evaluator runs it. -/
set_option linter.unusedSimpArgs false
namespace Go.Proofs.Ytadmoackacickaa
open Go Go.AH

theorem tokEq_self (t : Tok) : tokEq t t = true := by simp [tokEq]
theorem eqAll_self (ts : List Tok) : eqAll ts ts = true := by
  unfold eqAll
  simp only [beq_self_eq_true, Bool.true_and, List.all_eq_true]
  intro p hp
  have : p.1 = p.2 := by
    induction ts with
    | nil => simp at hp
    | cons t ts ih =>
      rw [List.zip_cons_cons, List.mem_cons] at hp
      rcases hp with rfl | hp
      · rfl
      · exact ih hp
  rw [this]; exact tokEq_self p.2
theorem ex3 (v : Value) (c n : Int) : aExt (.tuple (List.toArray [v, .int .i64 c, .int .i64 n])) 0 = some v ∧ aExt (.tuple (List.toArray [v, .int .i64 c, .int .i64 n])) 1 = some (.int .i64 c) ∧ aExt (.tuple (List.toArray [v, .int .i64 c, .int .i64 n])) 2 = some (.int .i64 n) := ⟨rfl, rfl, rfl⟩
theorem l16' {d : Nat} (hd : 3010 < d) {a b : Value} {xs : List Tok} {h : AHeap} (ha : TS h a xs) (hb : TS h b xs) (hs : xs.length ≤ 3000) :
    ∃ h', call Try.prog Ms (d + 4) 16 [a, b] h = some (.bool true, h') ∧ Ext h.size h h' := by
  obtain ⟨h', c, x⟩ := l16 (d := d + 2) (by omega) ha hb hs
  exact ⟨h', by rw [← eqAll_self xs]; exact c, x⟩
theorem l18' {d L : Nat} (hd : 3010 < d) (hL : L ≤ 3000) {v : Value} {h : AHeap} (x : TS h v (marked 1 L)) :
    ∃ h', call Try.prog Ms (d + 4) 18 [v, .int .i64 1] h = some (.int .i64 (1 + 4 * L), h') ∧ Ext h.size h h' := l18 (d := d + 2) (by omega) hL x
theorem l17' {d b : Nat} (hd : 3010 < d) {v : Value} {ts : List Tok} {h : AHeap} (x : OS b h v ts) (hs : ts.length ≤ 3000) :
    ∃ h', call Try.prog Ms (d + 4) 17 [v, .int .i64 1] h = some (.int .i64 (1 + 4 * ts.length), h') ∧ Ext b h h' ∧ OS b h' v (marked 1 ts.length) := l17 (d := d + 2) (by omega) x hs
theorem notNeg (n : Nat) : decide ((1 + 4 * (n : Int)) < 0) = false := by simp; omega
theorem g3_1 {d L : Nat} (hd : 3010 < d) (hL : L ≤ 3000) {v : Value} {h : AHeap} (x : TS h v (marked 1 L)) : ∃ h', s3_1 hk0 (call Try.prog Ms (d + 4)) (d + 4) v (1 + 4 * L) h = some (.bool true, h') := by
  obtain ⟨h8, c8, _⟩ := l18' hd hL x
  refine ⟨h8, ?_⟩
  rw [s3_1_j, s3_1_eq, c8, Option.bind_some]
  simp only [asI, if_true, Option.bind_some, notNeg, cond_false, bne_self_eq_false]
theorem g3_0 {d : Nat} (hd : 3010 < d) (s : ByteArray) {b : Nat} {h : AHeap} {v1 v2 : Value} (o : OS b h v2 (lexR s).1) (hb : b ≤ h.size) (w : ∀ h', Ext b h h' → TS h' v1 (lexR s).1) (hl : (lexR s).1.length ≤ 3000) :
    ∃ h', s3_0 hk0 (call Try.prog Ms (d + 4)) (d + 4) s v1 ((lexR s).2.1 : Int) ((lexR s).2.2 : Int) v2 h = some (.bool true, h') := by
  obtain ⟨h4, c4, x4, o4⟩ := l17' hd o hl
  obtain ⟨h5, c5, x5⟩ := l18' hd hl o4.ts
  have X5 := x4.trans (x5.mono (Nat.le_trans hb x4.size))
  obtain ⟨h6, v6, c6, x6, o6, _⟩ := l15 hd s h5
  have X6 := X5.trans (x6.mono (Nat.le_trans hb X5.size))
  obtain ⟨h7, c7, x7⟩ := l16' hd o6.ts (w h6 X6) hl
  have o7 : TS h7 v2 (marked 1 (lexR s).1.length) := ((o4.ts.ext x5).ext x6).ext x7
  obtain ⟨h8, c8⟩ := g3_1 hd hl o7
  refine ⟨h8, ?_⟩
  rw [s3_0_j, s3_0_eq, c4, Option.bind_some]
  simp only [asI, if_true, Option.bind_some]
  rw [c5, Option.bind_some]
  simp only [asI, if_true, Option.bind_some, notNeg, cond_false, bne_self_eq_false]
  rw [c6, Option.bind_some]
  simp only [ex3, Option.bind_some, asI, if_true]
  rw [c7, Option.bind_some]
  simp only [asB, Option.bind_some, Bool.not_true, cond_false, bne_self_eq_false]
  exact c8
theorem l3 {d : Nat} (hd : 3010 < d) (s : ByteArray) (h : AHeap) : ∃ h', call Try.prog Ms (d + 5) 3 [.string s] h = some (.bool true, h') := by
  rw [c3, e3]
  by_cases hbig : ((s.size : Int) > 1048576)
  · rw [decide_eq_true hbig, cond_true]; exact ⟨h, rfl⟩
  · rw [decide_eq_false hbig, cond_false]
    obtain ⟨h1, v1, c1, _, o1, hl⟩ := l14 hd s h
    obtain ⟨h2, v2, c2, x2, o2, _⟩ := l15 hd s h1
    have w2 : TS h2 v1 (lexR s).1 := o1.ts.ext x2
    obtain ⟨h3, c3, x3⟩ := l16' hd o2.ts w2 hl
    have X3 := x2.trans (x3.mono x2.size)
    obtain ⟨h8, c8⟩ := g3_0 hd s (o2.ext x3) X3.size (fun h' x => o1.ts.ext (X3.trans x)) hl
    refine ⟨h8, ?_⟩
    clear hl o1 o2 w2 X3 x3 x2
    generalize (lexR s).2.1 = k1 at c1 c2 c8
    generalize (lexR s).2.2 = k2 at c1 c2 c8
    rw [c1, Option.bind_some]
    simp only [ex3, Option.bind_some, asI, if_true]
    rw [c2, Option.bind_some]
    simp only [ex3, Option.bind_some, asI, if_true]
    rw [c3, Option.bind_some]
    simp only [asB, Option.bind_some, Bool.not_true, cond_false]
    rw [bne_self_eq_false, cond_false, bne_self_eq_false, cond_false, c8]
end Go.Proofs.Ytadmoackacickaa
/- A text of tokens with blanks between has the same tokens: bytes. -/
set_option linter.unusedSimpArgs false
namespace Go.Proofs.Ytadmoackacickaa
open Go Go.AH

theorem bt_data {s : ByteArray} {i : Nat} (h : i < s.size) : s.data[i]'h = UInt8.ofNat (bt s i).toNat := by
  have h2 : s.data[i]? = some (s.data[i]'h) := Array.getElem?_eq_getElem (by exact h)
  unfold bt; rw [h2]; simp
theorem ba_ext {a b : ByteArray} (hs : a.size = b.size) (h : ∀ j, j < a.size → bt a j = bt b j) : a = b := by
  apply ByteArray.ext
  apply Array.ext
  · exact hs
  · intro i h1 h2
    rw [bt_data (s := a) h1, bt_data (s := b) h2, h i h1]
theorem bt_left {a b : ByteArray} {i : Nat} (h : i < a.size) : bt (a ++ b) i = bt a i := by
  unfold bt
  rw [ByteArray.data_append, Array.getElem?_append_left (by exact h)]
theorem bt_right {a b : ByteArray} {i : Nat} (h : a.size ≤ i) : bt (a ++ b) i = bt b (i - a.size) := by
  unfold bt
  rw [ByteArray.data_append, Array.getElem?_append_right (by exact h)]; rfl
theorem bt_ext {s : ByteArray} {i e j : Nat} (h : i + j < e) (he : e ≤ s.size) : bt (s.extract i e) j = bt s (i + j) := by
  unfold bt
  have hs : s.size = s.data.size := rfl
  rw [ByteArray.data_extract, Array.getElem?_extract_of_lt (by omega), Array.getElem?_eq_getElem (by omega)]
theorem exSize {s : ByteArray} {i e : Nat} (he : e ≤ s.size) : (s.extract i e).size = e - i := by
  rw [ByteArray.size_extract]; omega
/-- The bytes w stand at a place. -/
def AtB (s : ByteArray) (p : Nat) (w : ByteArray) : Prop := p + w.size ≤ s.size ∧ ∀ j, j < w.size → bt s (p + j) = bt w j
theorem AtB.ext {s : ByteArray} {p : Nat} {w : ByteArray} (x : AtB s p w) : s.extract p (p + w.size) = w := by
  apply ba_ext
  · rw [exSize x.1]; omega
  · intro j hj
    rw [exSize x.1] at hj
    rw [bt_ext (by omega) x.1, x.2 j (by omega)]
theorem AtB.of {s : ByteArray} {i e : Nat} (hi : i ≤ e) (he : e ≤ s.size) : AtB s i (s.extract i e) := by
  refine ⟨by rw [exSize he]; omega, fun j hj => ?_⟩
  rw [exSize he] at hj
  exact (bt_ext (by omega) he).symm
theorem AtB.left {s : ByteArray} {p : Nat} {a b : ByteArray} (x : AtB s p (a ++ b)) : AtB s p a := by
  have := ByteArray.size_append (a := a) (b := b)
  have h1 := x.1
  exact ⟨by omega, fun j hj => by rw [x.2 j (by omega), bt_left hj]⟩
theorem AtB.right {s : ByteArray} {p : Nat} {a b : ByteArray} (x : AtB s p (a ++ b)) : AtB s (p + a.size) b := by
  have := ByteArray.size_append (a := a) (b := b)
  have h1 := x.1
  exact ⟨by omega, fun j hj => by rw [Nat.add_assoc, x.2 (a.size + j) (by omega), bt_right (by omega)]; congr 1; omega⟩
theorem AtB.grow {s t : ByteArray} {p : Nat} {w : ByteArray} (x : AtB s p w) : AtB (s ++ t) p w := by
  have := ByteArray.size_append (a := s) (b := t)
  have h1 := x.1
  exact ⟨by omega, fun j hj => by rw [bt_left (by omega), x.2 j hj]⟩
theorem AtB.end' (s w : ByteArray) : AtB (s ++ w) s.size w := by
  have := ByteArray.size_append (a := s) (b := w)
  exact ⟨by omega, fun j hj => by rw [bt_right (by omega)]; congr 1; omega⟩
/-- A run of bytes of a kind, and where it ends. -/
theorem endOf_all {p : Int → Bool} {s : ByteArray} : ∀ (n i : Nat), endOf p s i - i = n → i ≤ s.size → (∀ j, i ≤ j → j < endOf p s i → p (bt s j) = true) ∧ ¬ (endOf p s i < s.size ∧ p (bt s (endOf p s i)) = true) := by
  intro n
  induction n with
  | zero =>
    intro i hn hi
    have hb := endOf_bd (p := p) (s := s) _ i rfl hi
    have he : endOf p s i = i := by omega
    refine ⟨fun j h1 h2 => by omega, ?_⟩
    rw [he]
    intro h
    rw [endOf_step h.1 h.2] at he
    have := (endOf_bd (p := p) (s := s) _ (i + 1) rfl h.1).1
    omega
  | succ n ih =>
    intro i hn hi
    have hb := endOf_bd (p := p) (s := s) _ i rfl hi
    have h : i < s.size ∧ p (bt s i) = true := by
      by_cases h : i < s.size ∧ p (bt s i) = true
      · exact h
      · rw [endOf_stop h] at hn; omega
    have st := endOf_step (p := p) h.1 h.2
    obtain ⟨h1, h2⟩ := ih (i + 1) (by rw [← st]; omega) h.1
    rw [st]
    refine ⟨fun j a b => ?_, h2⟩
    by_cases hj : j = i
    · rw [hj]; exact h.2
    · exact h1 j (by omega) b
theorem endOf_is {p : Int → Bool} {s : ByteArray} : ∀ (n i e : Nat), e - i = n → i ≤ e → e ≤ s.size → (∀ j, i ≤ j → j < e → p (bt s j) = true) → ¬ (e < s.size ∧ p (bt s e) = true) → endOf p s i = e := by
  intro n
  induction n with
  | zero => intro i e hn hi he _ h2; obtain rfl : i = e := by omega
            exact endOf_stop h2
  | succ n ih => intro i e hn hi he h1 h2; rw [endOf_step (by omega) (h1 i (by omega) (by omega))]; exact ih (i + 1) e (by omega) (by omega) he (fun j a b => h1 j (by omega) b) h2
theorem numGo_eq {s t : ByteArray} : ∀ (n i j : Nat) (x : Int), (∀ k, k < n → bt s (i + k) = bt t (j + k)) → numGo s n i x = numGo t n j x := by
  intro n
  induction n with
  | zero => intro i j x _; rfl
  | succ n ih =>
    intro i j x h
    unfold numGo
    have h0 := h 0 (by omega)
    rw [Nat.add_zero, Nat.add_zero] at h0
    rw [h0]
    exact ih _ _ _ (fun k hk => by have := h (k + 1) (by omega); rw [show i + 1 + k = i + (k + 1) by omega, show j + 1 + k = j + (k + 1) by omega]; exact this)
end Go.Proofs.Ytadmoackacickaa
/- A text of tokens with blanks between has the same tokens: a token. -/
set_option linter.unusedSimpArgs false
namespace Go.Proofs.Ytadmoackacickaa
open Go Go.AH

def qtB : ByteArray := ⟨#[34]⟩
def qt2B : ByteArray := ⟨#[34, 32]⟩
def spB : ByteArray := ⟨#[32]⟩
/-- The text of a token, with a blank behind it. -/
def addTx (acc : ByteArray) (t : Tok) : ByteArray := if t.k = 4 then ((acc ++ qtB) ++ t.text) ++ qt2B else (acc ++ t.text) ++ spB
def AllB (p : Int → Bool) (w : ByteArray) : Prop := ∀ j, j < w.size → p (bt w j) = true
/-- A token as it is read. -/
inductive GTok : Tok → Prop where
  | word (a : Nat) (w : ByteArray) : 0 < w.size → AllB isLet w → isWd w = true → GTok ⟨2, a, w, 0⟩
  | name (a : Nat) (w : ByteArray) : 0 < w.size → AllB isLet w → isWd w = false → w.size ≤ 12 → GTok ⟨1, a, w, 0⟩
  | num (a : Nat) (w : ByteArray) : 0 < w.size → AllB isDig w → w.size ≤ 15 → (1 < w.size → bt w 0 ≠ 48) → GTok ⟨3, a, w, numGo w w.size 0 0⟩
  | text (a : Nat) (w : ByteArray) : AllB isPln w → w.size ≤ 160 → GTok ⟨4, a, w, 0⟩
  | mark (a : Nat) (w : ByteArray) : w ∈ marksL → GTok ⟨5, a, w, 0⟩
theorem AllB.sub {p : Int → Bool} {s : ByteArray} {i e : Nat} (he : e ≤ s.size) (h : ∀ j, i ≤ j → j < e → p (bt s j) = true) : AllB p (s.extract i e) := fun j hj => by
  rw [exSize he] at hj
  rw [bt_ext (by omega) he]
  exact h _ (by omega) (by omega)
theorem AllB.at {p : Int → Bool} {w : ByteArray} (x : AllB p w) {s : ByteArray} {i : Nat} (a : AtB s i w) (j : Nat) (h1 : i ≤ j) (h2 : j < i + w.size) : p (bt s j) = true := by
  have := a.2 (j - i) (by omega)
  rw [show i + (j - i) = j by omega] at this
  rw [this]; exact x _ (by omega)
theorem tokR_good {s : ByteArray} {i : Nat} (hi : i < s.size) (h0 : (tokR s i).2.1 = 0) : GTok (tokR s i).1 ∧ (tokR s i).1.at' = (i : Int) := by
  unfold tokR at h0 ⊢
  by_cases hL : isLet (bt s i) = true
  · rw [if_pos hL] at h0 ⊢
    have st := endOf_step hi hL
    have bd := endOf_bd (p := isLet) (s := s) _ (i + 1) rfl (by omega)
    have al := endOf_all (p := isLet) (s := s) _ i rfl (by omega)
    have A := AllB.sub (by omega) al.1
    have sz : (s.extract i (endOf isLet s i)).size = endOf isLet s i - i := exSize (by omega)
    by_cases hW : isWd (s.extract i (endOf isLet s i)) = true
    · rw [if_pos hW]; exact ⟨.word _ _ (by omega) A hW, rfl⟩
    · rw [if_neg hW] at h0 ⊢
      by_cases hn : endOf isLet s i - i > 12
      · rw [if_pos hn] at h0; cases h0
      · rw [if_neg hn]; exact ⟨.name _ _ (by omega) A (by simpa using hW) (by omega), rfl⟩
  · rw [if_neg hL] at h0 ⊢
    by_cases hD : isDig (bt s i) = true
    · rw [if_pos hD] at h0 ⊢
      have st := endOf_step hi hD
      have bd := endOf_bd (p := isDig) (s := s) _ (i + 1) rfl (by omega)
      have al := endOf_all (p := isDig) (s := s) _ i rfl (by omega)
      have A := AllB.sub (by omega) al.1
      have sz : (s.extract i (endOf isDig s i)).size = endOf isDig s i - i := exSize (by omega)
      by_cases hN : numBad s i = true
      · rw [if_pos hN] at h0; cases h0
      · rw [if_neg hN]
        unfold numBad at hN
        simp only [Bool.or_eq_true, Bool.and_eq_true, decide_eq_true_eq, not_or, not_and, beq_iff_eq] at hN
        refine ⟨?_, rfl⟩
        have e : numGo s (endOf isDig s i - i) i 0 = numGo (s.extract i (endOf isDig s i)) (s.extract i (endOf isDig s i)).size 0 0 := by
          rw [sz]; exact numGo_eq _ _ _ _ (fun k hk => by rw [bt_ext (by omega) (by omega), Nat.zero_add])
        unfold numTok
        rw [e]
        refine .num _ _ (by omega) A (by omega) (fun h => ?_)
        rw [bt_ext (by omega) (by omega)]
        exact hN.1.2 (by omega)
    · rw [if_neg hD] at h0 ⊢
      by_cases h34 : bt s i = 34
      · rw [if_pos h34] at h0 ⊢
        have bd := endOf_bd (p := isPln) (s := s) _ (i + 1) rfl (by omega)
        have al := endOf_all (p := isPln) (s := s) _ (i + 1) rfl (by omega)
        have A := AllB.sub (by omega) al.1
        have sz : (s.extract (i + 1) (endOf isPln s (i + 1))).size = endOf isPln s (i + 1) - (i + 1) := exSize (by omega)
        by_cases hc : endOf isPln s (i + 1) ≥ s.size ∨ bt s (endOf isPln s (i + 1)) ≠ 34 ∨ endOf isPln s (i + 1) - i - 1 > 160
        · rw [if_pos hc] at h0; cases h0
        · rw [if_neg hc]
          exact ⟨.text _ _ A (by omega), rfl⟩
      · rw [if_neg h34] at h0 ⊢
        cases hm : markOf s i with
        | none => rw [hm] at h0; cases h0
        | some m => exact ⟨.mark _ _ (List.mem_of_find?_eq_some hm), rfl⟩
/-- What a token needs. -/
def wTx (t : Tok) : Nat := if t.k = 4 then t.text.size + 2 else t.text.size
theorem let_not {x : Int} (h : isLet x = true) : x ≠ 9 ∧ x ≠ 10 ∧ x ≠ 32 ∧ x ≠ 45 := by
  unfold isLet at h; simp at h; omega
theorem dig_not {x : Int} (h : isDig x = true) : x ≠ 9 ∧ x ≠ 10 ∧ x ≠ 32 ∧ x ≠ 45 ∧ isLet x = false := by
  unfold isDig at h; simp at h; unfold isLet; simp; omega
theorem at0 {s : ByteArray} {p : Nat} {w : ByteArray} (x : AtB s p w) (h : 0 < w.size) : bt s p = bt w 0 := x.2 0 h
/-- Marks with a blank behind them. -/
theorem mark_find : ∀ m, m ∈ marksL → (marksL.find? fun m' => decide (m'.size ≤ m.size) && (m.extract 0 m'.size).toList == m'.toList) = some m := by decide +kernel
theorem mark_not : ∀ m, m ∈ marksL → isLet (bt m 0) = false ∧ isDig (bt m 0) = false ∧ bt m 0 ≠ 34 ∧ bt m 0 ≠ 9 ∧ bt m 0 ≠ 10 ∧ bt m 0 ≠ 32 ∧ (bt m 0 = 45 → m.size = 1) ∧ 0 < m.size := by decide +kernel
theorem mark_bl : ∀ m, m ∈ marksL → ∀ j, j < m.size → bt m j ≠ 32 := by decide +kernel
theorem mark_sz : ∀ m, m ∈ marksL → m.size ≤ 2 := by decide +kernel
theorem hit_iff {s : ByteArray} {p : Nat} {m : ByteArray} : hitM s p m = true ↔ AtB s p m := by
  constructor
  · intro h
    have e := hit_ext h
    unfold hitM at h
    simp only [Bool.and_eq_true, decide_eq_true_eq] at h
    have := AtB.of (s := s) (i := p) (e := p + m.size) (by omega) h.1
    rw [e] at this; exact this
  · intro h
    unfold hitM
    rw [h.ext, decide_eq_true h.1]; simp
theorem mark_at {s : ByteArray} {p : Nat} {m : ByteArray} (hm : m ∈ marksL) (x : AtB s p (m ++ spB)) : markOf s p = some m := by
  rw [← mark_find m hm]
  unfold markOf
  have key : ∀ m', m' ∈ marksL → hitM s p m' = (decide (m'.size ≤ m.size) && (m.extract 0 m'.size).toList == m'.toList) := by
    intro m' hm'
    have xl := x.left
    have xr := x.right
    rw [Bool.eq_iff_iff, hit_iff]
    simp only [Bool.and_eq_true, decide_eq_true_eq, beq_iff_eq]
    constructor
    · intro a
      have hle : m'.size ≤ m.size := by
        apply Decidable.byContradiction
        intro hlt
        have h1 := a.2 m.size (by omega)
        have h2 := xr.2 0 (by decide)
        rw [Nat.add_zero] at h2
        rw [h2] at h1
        exact mark_bl m' hm' m.size (by omega) h1.symm
      refine ⟨hle, ?_⟩
      have : m.extract 0 m'.size = m' := by
        apply ba_ext
        · rw [exSize hle]; omega
        · intro j hj
          rw [exSize hle] at hj
          rw [bt_ext (by omega) hle, Nat.zero_add, ← a.2 j (by omega), ← xl.2 j (by omega)]
      rw [this]
    · intro ⟨hle, he⟩
      rw [ByteArray.toList_eq, ByteArray.toList_eq] at he
      have he' : m.extract 0 m'.size = m' := ByteArray.ext (Array.toList_inj.1 he)
      refine ⟨by have := xl.1; omega, fun j hj => ?_⟩
      rw [xl.2 j (by omega), ← he', bt_ext (by omega) hle, Nat.zero_add]
  clear x
  generalize marksL = L at key
  induction L with
  | nil => rfl
  | cons a L ih =>
    rw [List.find?_cons, List.find?_cons, key a (by simp)]
    split
    · rfl
    · exact ih (fun m' h => key m' (by simp [h]))
/-- A token's text at a place is read as that token. -/
theorem tokR_again {s acc : ByteArray} {t : Tok} {p : Nat} (g : GTok t) (x : AtB s p (if t.k = 4 then (qtB ++ t.text) ++ qt2B else t.text ++ spB)) :
    tokR s p = ({ t with at' := (p : Int) }, 0, p + wTx t) ∧ p + wTx t < s.size ∧ bt s (p + wTx t) = 32 ∧ bt s p ≠ 9 ∧ bt s p ≠ 10 ∧ bt s p ≠ 32 ∧ (bt s p = 45 → bt s (p + 1) ≠ 45) := by
  have s1 : ∀ w : ByteArray, (w ++ spB).size = w.size + 1 := fun w => by rw [ByteArray.size_append]; rfl
  have bl : ∀ w : ByteArray, AtB s p (w ++ spB) → p + w.size < s.size ∧ bt s (p + w.size) = 32 := fun w a => by
    have h1 := a.1; rw [s1] at h1
    exact ⟨by omega, a.right.2 0 (by decide)⟩
  cases g with
  | word a w h1 h2 h3 =>
    obtain ⟨b1, b2⟩ := bl w x
    have xl : AtB s p w := AtB.left (b := spB) x
    have e0 := at0 xl h1
    have l0 := h2 0 h1
    rw [← e0] at l0
    obtain ⟨n1, n2, n3, n4⟩ := let_not l0
    have en : endOf isLet s p = p + w.size := endOf_is _ _ _ rfl (by omega) (by omega) (h2.at xl) (fun h => by rw [b2] at h; exact absurd h.2 (by decide))
    refine ⟨?_, b1, b2, n1, n2, n3, fun h => absurd h n4⟩
    unfold tokR
    rw [if_pos l0, en, xl.ext, if_pos h3]; rfl
  | name a w h1 h2 h3 h4 =>
    obtain ⟨b1, b2⟩ := bl w x
    have xl : AtB s p w := AtB.left (b := spB) x
    have e0 := at0 xl h1
    have l0 := h2 0 h1
    rw [← e0] at l0
    obtain ⟨n1, n2, n3, n4⟩ := let_not l0
    have en : endOf isLet s p = p + w.size := endOf_is _ _ _ rfl (by omega) (by omega) (h2.at xl) (fun h => by rw [b2] at h; exact absurd h.2 (by decide))
    refine ⟨?_, b1, b2, n1, n2, n3, fun h => absurd h n4⟩
    unfold tokR
    rw [if_pos l0, en, xl.ext, if_neg (by rw [h3]; decide), if_neg (by omega)]; rfl
  | num a w h1 h2 h3 h4 =>
    obtain ⟨b1, b2⟩ := bl w x
    have xl : AtB s p w := AtB.left (b := spB) x
    have e0 := at0 xl h1
    have l0 := h2 0 h1
    rw [← e0] at l0
    obtain ⟨n1, n2, n3, n4, n5⟩ := dig_not l0
    have en : endOf isDig s p = p + w.size := endOf_is _ _ _ rfl (by omega) (by omega) (h2.at xl) (fun h => by rw [b2] at h; exact absurd h.2 (by decide))
    refine ⟨?_, b1, b2, n1, n2, n3, fun h => absurd h n4⟩
    have nb : numBad s p = false := by
      unfold numBad
      simp only [en, b2]
      have q1 : ¬ (p + w.size - p > 15) := by omega
      have q2 : (decide (p + w.size - p > 1) && bt s p == 48) = false := by
        by_cases hw : 1 < w.size
        · have := h4 hw; rw [e0]; simp [this]
        · simp; omega
      rw [decide_eq_false q1, q2]
      show (false || false || (decide (p + w.size < s.size) && isLet 32)) = false
      rw [show isLet 32 = false from by decide]; simp
    unfold tokR
    rw [if_neg (by rw [n5]; decide), if_pos l0, if_neg (by rw [nb]; decide)]
    unfold numTok
    rw [en, xl.ext, show p + w.size - p = w.size by omega, numGo_eq w.size p 0 0 (t := w) (fun k hk => by rw [xl.2 k hk, Nat.zero_add])]
    rfl
  | text a w h1 h2 =>
    have x' : AtB s p ((qtB ++ w) ++ qt2B) := x
    have xq : AtB s p qtB := x'.left.left
    have xw : AtB s (p + 1) w := x'.left.right
    have xe : AtB s (p + (qtB ++ w).size) qt2B := x'.right
    have sz : (qtB ++ w).size = w.size + 1 := by rw [ByteArray.size_append, show qtB.size = 1 from rfl]; omega
    rw [sz] at xe
    have b0 : bt s p = 34 := xq.2 0 (by decide)
    have b1 : bt s (p + (w.size + 1)) = 34 := xe.2 0 (by decide)
    have b2 : bt s (p + (w.size + 1) + 1) = 32 := xe.2 1 (by decide)
    have b3 := xe.1
    rw [show qt2B.size = 2 from rfl] at b3
    have en : endOf isPln s (p + 1) = p + 1 + w.size := endOf_is _ _ _ rfl (by omega) (by omega) (h1.at xw) (fun h => by rw [show p + 1 + w.size = p + (w.size + 1) by omega, b1] at h; exact absurd h.2 (by decide))
    have wt : wTx ⟨4, a, w, 0⟩ = w.size + 2 := rfl
    refine ⟨?_, by rw [wt]; omega, by rw [wt, ← b2]; congr 1, by rw [b0]; decide, by rw [b0]; decide, by rw [b0]; decide, fun h => by rw [b0] at h; exact absurd h (by decide)⟩
    unfold tokR
    rw [if_neg (by rw [b0]; decide), if_neg (by rw [b0]; decide), if_pos b0, en, if_neg, xw.ext, wt]
    · show (_, _, p + 1 + w.size + 1) = (_, _, _)
      rw [show p + 1 + w.size + 1 = p + (w.size + 2) by omega]
    · rw [show p + 1 + w.size = p + (w.size + 1) by omega, b1]
      omega
  | mark a w h1 =>
    obtain ⟨b1, b2⟩ := bl w x
    have x' : AtB s p (w ++ spB) := x
    have xl := x'.left
    obtain ⟨m1, m2, m3, m4, m5, m6, m7, m8⟩ := mark_not w h1
    have e0 := at0 xl m8
    rw [← e0] at m1 m2 m3 m4 m5 m6 m7
    refine ⟨?_, b1, b2, m4, m5, m6, fun h => ?_⟩
    · unfold tokR
      rw [if_neg (by rw [m1]; decide), if_neg (by rw [m2]; decide), if_neg m3, mark_at h1 x']; rfl
    · have := m7 h
      rw [this] at b2
      rw [b2]; decide
end Go.Proofs.Ytadmoackacickaa
/- A text of tokens with blanks between has the same tokens: all of them. -/
set_option linter.unusedSimpArgs false
namespace Go.Proofs.Ytadmoackacickaa
open Go Go.AH

def strip (t : Tok) : Int × ByteArray × Int := (t.k, t.text, t.i)
def rend (A : ByteArray) (ts : List Tok) : ByteArray := ts.foldl addTx A
theorem lexGo_inv {s : ByteArray} : ∀ (f i : Nat) (acc : List Tok), (∀ t, t ∈ acc → GTok t ∧ t.at' < (i : Int)) → acc.Pairwise (fun a b => a.at' < b.at') →
    (∀ t, t ∈ (lexGo s f i acc).1 → GTok t) ∧ (lexGo s f i acc).1.Pairwise (fun a b => a.at' < b.at') ∧ ((lexGo s f i acc).2.1 ≠ 0 → (lexGo s f i acc).1 = []) := by
  intro f
  induction f with
  | zero => intro i acc h p; exact ⟨fun t ht => (h t ht).1, p, fun h => absurd rfl h⟩
  | succ f ih =>
    intro i acc h p
    unfold lexGo
    by_cases h1 : s.size ≤ i
    · rw [if_pos h1]; exact ⟨fun t ht => (h t ht).1, p, fun h => absurd rfl h⟩
    rw [if_neg h1]
    by_cases h2 : bt s i = 9 ∨ bt s i = 10 ∨ bt s i = 32
    · rw [if_pos h2]; exact ih _ _ (fun t ht => ⟨(h t ht).1, by have := (h t ht).2; omega⟩) p
    rw [if_neg h2]
    by_cases h3 : bt s i = 45 ∧ i + 1 < s.size ∧ bt s (i + 1) = 45
    · rw [if_pos h3]
      have := (endOf_bd (p := fun b => b != 10) (s := s) _ i rfl (by omega)).1
      exact ih _ _ (fun t ht => ⟨(h t ht).1, by have := (h t ht).2; omega⟩) p
    rw [if_neg h3]
    by_cases h4 : (tokR s i).2.1 ≠ 0
    · rw [if_pos h4]; exact ⟨fun t ht => (List.not_mem_nil ht).elim, .nil, fun _ => rfl⟩
    rw [if_neg h4]
    have h4' : (tokR s i).2.1 = 0 := by omega
    obtain ⟨g, ga⟩ := tokR_good (by omega) h4'
    have bd := tokR_bd (by omega) h4'
    refine ih _ _ (fun t ht => ?_) ?_
    · rcases List.mem_append.1 ht with ht | ht
      · exact ⟨(h t ht).1, by have := (h t ht).2; omega⟩
      · obtain rfl := List.mem_singleton.1 ht
        exact ⟨g, by omega⟩
    · rw [List.pairwise_append]
      refine ⟨p, List.pairwise_singleton _ _, fun a ha b hb => ?_⟩
      obtain rfl := List.mem_singleton.1 hb
      have := (h a ha).2; omega
theorem lexR_inv (s : ByteArray) : (∀ t, t ∈ (lexR s).1 → GTok t) ∧ (lexR s).1.Pairwise (fun a b => a.at' < b.at') ∧ ((lexR s).2.1 ≠ 0 → (lexR s).1 = []) := by
  unfold lexR
  by_cases h : s.size > 3000
  · rw [if_pos h]; exact ⟨fun t ht => (List.not_mem_nil ht).elim, .nil, fun _ => rfl⟩
  · rw [if_neg h]; exact lexGo_inv _ _ _ (fun t ht => (List.not_mem_nil ht).elim) .nil
def tx1 (t : Tok) : ByteArray := if t.k = 4 then (qtB ++ t.text) ++ qt2B else t.text ++ spB
theorem addTx_eq (A : ByteArray) (t : Tok) : addTx A t = A ++ tx1 t := by
  unfold addTx tx1
  split <;> simp only [ByteArray.append_assoc]
theorem tx1_size (t : Tok) : (tx1 t).size = wTx t + 1 := by
  unfold tx1 wTx
  split
  · rw [ByteArray.size_append, ByteArray.size_append, show qtB.size = 1 from rfl, show qt2B.size = 2 from rfl]; omega
  · rw [ByteArray.size_append, show spB.size = 1 from rfl]
theorem rend_more : ∀ (ts : List Tok) (A : ByteArray), ∃ B, rend A ts = A ++ B := by
  intro ts
  induction ts with
  | nil => intro A; exact ⟨⟨#[]⟩, by show A = _; apply ByteArray.ext; simp⟩
  | cons t ts ih =>
    intro A
    obtain ⟨B, hB⟩ := ih (addTx A t)
    refine ⟨tx1 t ++ B, ?_⟩
    show rend (addTx A t) ts = _
    rw [hB, addTx_eq, ByteArray.append_assoc]
theorem again_go : ∀ (ts : List Tok) (A : ByteArray) (f : Nat) (L : List Tok), (∀ t, t ∈ ts → GTok t) → 2 * ((rend A ts).size - A.size) < f →
    ∃ L', lexGo (rend A ts) f A.size L = (L ++ L', 0, 0) ∧ L'.map strip = ts.map strip := by
  intro ts
  induction ts with
  | nil =>
    intro A f L _ hf
    obtain ⟨f, rfl⟩ : ∃ k, f = k + 1 := ⟨f - 1, by omega⟩
    refine ⟨[], ?_, rfl⟩
    unfold lexGo
    rw [if_pos (show (rend A []).size ≤ A.size from Nat.le_refl _), List.append_nil]
  | cons t ts ih =>
    intro A f L g hf
    have hr : rend A (t :: ts) = rend (addTx A t) ts := rfl
    obtain ⟨B, hB⟩ := rend_more ts (addTx A t)
    have sA : (addTx A t).size = A.size + (wTx t + 1) := by rw [addTx_eq, ByteArray.size_append, tx1_size]
    have sz : (rend A (t :: ts)).size = (addTx A t).size + B.size := by rw [hr, hB, ByteArray.size_append]
    have at1 : AtB (rend A (t :: ts)) A.size (tx1 t) := by
      rw [hr, hB, addTx_eq]
      exact (AtB.end' A (tx1 t)).grow
    obtain ⟨q1, q2, q3, q4, q5, q6, q7⟩ := tokR_again (acc := A) (g t (by simp)) at1
    obtain ⟨f, rfl⟩ : ∃ k, f = k + 1 + 1 := ⟨f - 2, by omega⟩
    obtain ⟨L', e1, e2⟩ := ih (addTx A t) f (L ++ [{ t with at' := (A.size : Int) }]) (fun t ht => g t (by simp [ht])) (by rw [← hr]; omega)
    refine ⟨{ t with at' := (A.size : Int) } :: L', ?_, by rw [List.map_cons, List.map_cons, e2]; rfl⟩
    rw [lexGo, if_neg (by omega), if_neg (by rintro (h | h | h) <;> contradiction), if_neg (fun h => q7 h.1 h.2.2), q1]
    dsimp only
    rw [if_neg (by simp), lexGo, if_neg (by omega), if_pos (.inr (.inr q3))]
    rw [show A.size + wTx t + 1 = (addTx A t).size by omega, hr, e1, List.append_assoc]
    rfl
theorem lexGo_fuel {s : ByteArray} : ∀ (f g i : Nat) (acc : List Tok), i ≤ s.size → s.size - i < f → s.size - i < g → lexGo s f i acc = lexGo s g i acc := by
  intro f
  induction f with
  | zero => intro g i acc _ h; omega
  | succ f ih =>
    intro g i acc hi h1 h2
    obtain ⟨g, rfl⟩ : ∃ k, g = k + 1 := ⟨g - 1, by omega⟩
    unfold lexGo
    by_cases a1 : s.size ≤ i
    · rw [if_pos a1, if_pos a1]
    rw [if_neg a1, if_neg a1]
    by_cases a2 : bt s i = 9 ∨ bt s i = 10 ∨ bt s i = 32
    · rw [if_pos a2, if_pos a2]; exact ih _ _ _ (by omega) (by omega) (by omega)
    rw [if_neg a2, if_neg a2]
    by_cases a3 : bt s i = 45 ∧ i + 1 < s.size ∧ bt s (i + 1) = 45
    · rw [if_pos a3, if_pos a3]
      have e := endOf_step (p := fun b => b != 10) (s := s) (i := i) (by omega) (by rw [a3.1]; rfl)
      have bd := endOf_bd (p := fun b => b != 10) (s := s) _ (i + 1) rfl (by omega)
      exact ih _ _ _ (by omega) (by omega) (by omega)
    rw [if_neg a3, if_neg a3]
    by_cases a4 : (tokR s i).2.1 ≠ 0
    · rw [if_pos a4, if_pos a4]
    rw [if_neg a4, if_neg a4]
    have bd := tokR_bd (s := s) (i := i) (by omega) (by omega)
    exact ih _ _ _ (by omega) (by omega) (by omega)
theorem lex_again {ts : List Tok} (g : ∀ t, t ∈ ts → GTok t) (hs : (rend ⟨#[]⟩ ts).size ≤ 3000) : ∃ L, lexR (rend ⟨#[]⟩ ts) = (L, 0, 0) ∧ L.map strip = ts.map strip := by
  obtain ⟨L, h1, h2⟩ := again_go ts ⟨#[]⟩ (2 * (rend ⟨#[]⟩ ts).size + 1) [] g (by show 2 * ((rend ⟨#[]⟩ ts).size - 0) < _; omega)
  refine ⟨L, ?_, h2⟩
  unfold lexR
  rw [if_neg (by omega), lexGo_fuel _ (2 * (rend ⟨#[]⟩ ts).size + 1) 0 [] (by omega) (by omega) (by omega)]
  exact h1
end Go.Proofs.Ytadmoackacickaa
/- Trees: their copy. -/
set_option linter.unusedSimpArgs false
namespace Go.Proofs.Ytadmoackacickaa
open Go Go.AH

theorem Own.stX {b : Nat} {h : AHeap} {i off n : Nat} {e : TypeId} {cs vs : List Value} {v : Value} (x : Own b h i e cs) (hv : aCells v = some vs) (hl : vs.length = n) (hn : off + n ≤ cs.length) :
    ∃ h', aSt h (ptr i off) v n = some h' ∧ Ext b h h' ∧ Own b h' i e (splice cs off vs) ∧ h'.size = h.size ∧ (∀ j o, h.at? j = some o → o.elem ≠ e → h'.at? j = some o) := by
  obtain ⟨r, ep, h1, h2⟩ := x
  have hi := at?_obj h1
  refine ⟨h.put i ⟨r, ep, false, e, cs⟩ (splice cs off vs), by simp [aSt, ptr, h1, hv, hl, hn], Ext.put (Nat.le_trans h2 hi.2.2.1) h2 _, ⟨_, _, at?_put_same h1 _, h2⟩, rfl, fun j o ho he => ?_⟩
  exact at?_put_other ho (fun hj => by subst hj; rw [h1] at ho; cases ho; exact he rfl) _ (fun hh => he hh.1)
/-- Ints in memory of one's own. -/
def IOwn (b : Nat) (h : AHeap) (v : Value) (xs : List Int) : Prop := ∃ i, v = slc i 0 xs.length ∧ Own b h i 3 (ints xs)
theorem IOwn.ext {b : Nat} {h h' : AHeap} {v : Value} {xs : List Int} (x : IOwn b h v xs) (e : Ext h.size h h') : IOwn b h' v xs := let ⟨i, h1, h2⟩ := x; ⟨i, h1, h2.ext e h2.lt.2⟩
theorem IOwn.isl {b : Nat} {h : AHeap} {v : Value} {xs : List Int} (x : IOwn b h v xs) : ISl h.size h v xs := by
  obtain ⟨i, h1, h2⟩ := x
  have hl := h2.lt.2
  obtain ⟨r, ep, h3, h4⟩ := h2
  exact .inr (.inr ⟨i, _, h1, h3, rfl, rfl, hl⟩)
theorem IOwn.keep {b : Nat} {h h' : AHeap} {v : Value} {xs : List Int} {e : TypeId} (x : IOwn b h v xs) (he : (3 : TypeId) ≠ e) (k : ∀ j o, h.at? j = some o → o.elem ≠ e → h'.at? j = some o) : IOwn b h' v xs := by
  obtain ⟨i, h1, r, ep, h3, h4⟩ := x
  exact ⟨i, h1, r, ep, k i _ h3 he, h4⟩
theorem IOwn.mono {b c : Nat} {h : AHeap} {v : Value} {xs : List Int} (x : IOwn b h v xs) (hc : c ≤ b) : IOwn c h v xs := let ⟨i, h1, h2⟩ := x; ⟨i, h1, h2.mono hc⟩
/-- Ints in a row of their own. -/
def IK (b : Nat) (h : AHeap) (v : Value) (xs : List Int) : Prop := ∃ i, v = slc i 0 xs.length ∧ Own i h i 3 (ints xs) ∧ b ≤ i
theorem IK.iown {b : Nat} {h : AHeap} {v : Value} {xs : List Int} (x : IK b h v xs) : IOwn b h v xs := let ⟨i, h1, h2, h3⟩ := x; ⟨i, h1, h2.mono h3⟩
theorem IK.ext {b : Nat} {h h' : AHeap} {v : Value} {xs : List Int} (x : IK b h v xs) (e : Ext h.size h h') : IK b h' v xs := let ⟨i, h1, h2, h3⟩ := x; ⟨i, h1, h2.ext e h2.lt.2, h3⟩
theorem IK.isl {b : Nat} {h : AHeap} {v : Value} {xs : List Int} (x : IK b h v xs) : ISl h.size h v xs := x.iown.isl
theorem IK.keep {b : Nat} {h h' : AHeap} {v : Value} {xs : List Int} {e : TypeId} (x : IK b h v xs) (he : (3 : TypeId) ≠ e) (k : ∀ j o, h.at? j = some o → o.elem ≠ e → h'.at? j = some o) : IK b h' v xs := by
  obtain ⟨i, h1, ⟨r, ep, h3, h4⟩, h5⟩ := x
  exact ⟨i, h1, ⟨r, ep, k i _ h3 he, h4⟩, h5⟩
theorem IK.mono {b c : Nat} {h : AHeap} {v : Value} {xs : List Int} (x : IK b h v xs) (hc : c ≤ b) : IK c h v xs := let ⟨i, h1, h2, h3⟩ := x; ⟨i, h1, h2, Nat.le_trans hc h3⟩
theorem ints_set (ys : List Int) (j : Nat) (v : Int) : (ints ys).set j (.int .i64 v) = ints (ys.set j v) := by simp [ints, List.map_set]
theorem rep_ints (n : Nat) : (List.replicate n [Value.int .i64 0]).flatten = ints (List.replicate n 0) := by
  induction n with
  | zero => rfl
  | succ n ih => rw [List.replicate_succ, List.flatten_cons, ih]; simp [ints, List.replicate_succ]
theorem mk_some (h : AHeap) (e : TypeId) (z : List Value) (bytes n : Nat) (hn : n ≤ 100000000) (hb : n * bytes ≤ 100000000000) : aMk h e z bytes (.int .i64 (n : Int)) (.int .i64 (n : Int)) = some (slc h.size 0 n, h.new e (List.replicate n z).flatten) := by
  have : (n : Int).toNat = n := by omega
  show (if 0 ≤ (n : Int) ∧ (n : Int) ≤ n ∧ (n : Int) ≤ (140737488355328 : Nat) ∧ (n : Int).toNat * bytes ≤ 140737488355328 then some (slc h.size 0 (n : Int).toNat, h.new e (List.replicate (n : Int).toNat z).flatten) else none) = _
  rw [this, if_pos ⟨by omega, by omega, by omega, by omega⟩]
theorem cpI_loop {d N c b r : Nat} {v : Value} {xs : List Int} (hl : xs.length ≤ 1048576) (hcb : c ≤ b) : ∀ (k j m : Nat) (ys : List Int) (h : AHeap), xs.length - j = k → j ≤ xs.length → k < m → ISl c h v xs → Own b h r 3 (ints ys) → ys.length = xs.length → (∀ i, i < j → ys[i]? = xs[i]?) →
    ∃ h', s146_0 hk0 (call Try.prog Ms d) N m v (slc r 0 xs.length) (j : Int) h = some (slc r 0 xs.length, h') ∧ Ext b h h' ∧ Own b h' r 3 (ints xs) := by
  intro k
  induction k with
  | zero =>
    intro j m ys h hk hj hm x o hy hsame
    obtain ⟨m, rfl⟩ : ∃ q, m = q + 1 := ⟨m - 1, by omega⟩
    have : ¬ ((j : Int) < (xs.length : Int)) := by omega
    have e : ys = xs := List.ext_getElem? fun i => by
      by_cases hi : i < j
      · exact hsame i hi
      · rw [List.getElem?_eq_none (by omega), List.getElem?_eq_none (by omega)]
    subst e
    refine ⟨h, ?_, Ext.refl _ _, o⟩
    rw [s146_0_eq, x.len, Option.bind_some]
    simp only [asI, if_true, Option.bind_some, decide_eq_false this, cond_false]
  | succ k ih =>
    intro j m ys h hk hj hm x o hy hsame
    obtain ⟨m, rfl⟩ : ∃ q, m = q + 1 := ⟨m - 1, by omega⟩
    have hlt : j < xs.length := by omega
    have hI : ((j : Int) < (xs.length : Int)) := by omega
    obtain ⟨p, e1, e2⟩ := x.at hlt
    have hix : aIdx (slc r 0 xs.length) (.int .i64 (j : Int)) 1 = some (ptr r j) := by simp [aIdx, slc, hlt]
    obtain ⟨h2, s2, x2, o2, _⟩ := Own.st1' o (n := j) (v := .int .i64 xs[j]) (by simp [ints]; omega) rfl
    rw [ints_set] at o2
    have wj : IntKind.i64.wrap ((j : Int) + 1) = ((j + 1 : Nat) : Int) := by rw [wr (by omega) (by omega)]; omega
    obtain ⟨h3, c3, x3, o3⟩ := ih (j + 1) m (ys.set j xs[j]) h2 (by omega) (by omega) (by omega) (x.ext (x2.mono hcb)) o2 (by simp [hy]) (fun i hi => by
      by_cases he : i = j
      · subst he; rw [List.getElem?_set_self (by omega)]; simp [hlt]
      · rw [List.getElem?_set_ne (by omega)]; exact hsame i (by omega))
    refine ⟨h3, ?_, x2.trans x3, o3⟩
    rw [s146_0_eq, x.len, Option.bind_some]
    simp only [asI, if_true, Option.bind_some, decide_eq_true hI, cond_true, e1, e2, hix, s2, wj, c3]
theorem l146 {d c : Nat} (hd : 1048577 < d) {v : Value} {xs : List Int} {h : AHeap} (x : ISl c h v xs) (hc : c ≤ h.size) (hl : xs.length ≤ 1048576) :
    ∃ v' h', call Try.prog Ms (d + 1) 146 [v] h = some (v', h') ∧ Ext h.size h h' ∧ IK h.size h' v' xs := by
  have e1 := Ext.new (Nat.le_refl h.size) 3 (ints (List.replicate xs.length 0))
  have o1 := Own.new (Nat.le_refl h.size) 3 (ints (List.replicate xs.length 0))
  obtain ⟨h2, c2, x2, o2⟩ := cpI_loop (d := d) (N := d) hl hc xs.length 0 d (List.replicate xs.length 0) _ (by omega) (by omega) (by omega) (x.ext (e1.mono hc)) o1 (by simp) (fun i hi => by omega)
  refine ⟨_, h2, ?_, e1.trans x2, _, rfl, o2, Nat.le_refl _⟩
  rw [c146, e146, x.len, Option.bind_some]
  simp only [asI, if_true, Option.bind_some]
  rw [mk_some _ _ _ _ _ (by omega) (by omega), Option.bind_some, rep_ints]
  exact c2
theorem l102 {d c : Nat} (hd : 1048577 < d) {kv : Value} {n : Kn} {h : AHeap} (x : ISl c h kv n.ks) (hc : c ≤ h.size) (hl : n.ks.length ≤ 1048576) :
    ∃ kv' h', call Try.prog Ms (d + 2) 102 [knVal n kv] h = some (knVal n kv', h') ∧ Ext h.size h h' ∧ IK h.size h' kv' n.ks := by
  have e1 := Ext.new (Nat.le_refl h.size) 133 (knCells n kv)
  have r1 : Row (h.new 133 (knCells n kv)) h.size [.int .i64 n.k, .string n.t, .int .i64 n.i, kv] := (Own.new (b := h.size) (Nat.le_refl _) 133 (knCells n kv)).row
  have s1 : (h.new 133 (knCells n kv)).size = h.size + 1 := rfl
  rw [c102, e102, kn_aCells x, Option.bind_some]
  simp only [aNew]
  generalize h.new 133 (knCells n kv) = h1 at e1 r1 s1 ⊢
  have e2 := Ext.new (Nat.le_refl h1.size) 73 [.int .i64 0, .string ⟨#[]⟩, .int .i64 0, .slice none 0 0]
  have o2 := Own.new (Nat.le_refl h1.size) 73 [.int .i64 0, .string ⟨#[]⟩, .int .i64 0, .slice none 0 0]
  have s2 : (h1.new 73 [.int .i64 0, .string ⟨#[]⟩, .int .i64 0, .slice none 0 0]).size = h1.size + 1 := rfl
  generalize h1.new 73 [.int .i64 0, .string ⟨#[]⟩, .int .i64 0, .slice none 0 0] = h2 at e2 o2 s2 ⊢
  have e3 := Ext.new (Nat.le_refl h2.size) 73 [.int .i64 0, .string ⟨#[]⟩, .int .i64 0, .slice none 0 0]
  have o3 := Own.new (Nat.le_refl h2.size) 73 [.int .i64 0, .string ⟨#[]⟩, .int .i64 0, .slice none 0 0]
  have s3 : (h2.new 73 [.int .i64 0, .string ⟨#[]⟩, .int .i64 0, .slice none 0 0]).size = h2.size + 1 := rfl
  generalize h2.new 73 [.int .i64 0, .string ⟨#[]⟩, .int .i64 0, .slice none 0 0] = h3 at e3 o3 s3 ⊢
  have r3 := (r1.ext e2 (by omega)).ext e3 (by omega)
  obtain ⟨h4, t4, e4, o4, s4⟩ := Own.st1' o3 (n := 0) (v := .int .i64 n.k) (by show 0 < 4; omega) rfl
  have r4 := r3.ext e4 (by omega)
  obtain ⟨h5, t5, e5, o5, s5⟩ := Own.st1' o4 (n := 1) (v := .string n.t) (by show 1 < 4; omega) rfl
  have r5 := r4.ext e5 (by omega)
  obtain ⟨h6, t6, e6, o6, s6⟩ := Own.st1' o5 (n := 2) (v := .int .i64 n.i) (by show 2 < 4; omega) rfl
  have r6 := r5.ext e6 (by omega)
  have E6 : Ext c h h6 := ((((((e1.mono hc).trans (e2.mono (by omega))).trans (e3.mono (by omega))).trans (e4.mono (by omega))).trans (e5.mono (by omega))).trans (e6.mono (by omega)))
  obtain ⟨kv', h7, c7, e7, i7⟩ := l146 (d := d) hd (x.ext E6) (by omega) hl
  have hk := i7.isl.cell
  have s7 := e7.size
  obtain ⟨h8, t8, e8, o8, s8, k8⟩ := Own.stX (o6.ext e7 (by omega)) (off := 3) (n := 1) (v := kv') (aCells_one hk.1) rfl (by show 3 + 1 ≤ 4; omega)
  have i8 := i7.keep (e := 73) (by decide) k8
  have r8 : Row h8 h2.size [.int .i64 n.k, .string n.t, .int .i64 n.i, kv'] := o8.row
  have w2 := (((((o2.ext e3 (by omega)).ext e4 (by omega)).ext e5 (by omega)).ext e6 (by omega)).ext e7 (by omega)).ext e8 (by omega)
  obtain ⟨h9, t9, e9, o9, s9, k9⟩ := Own.stX w2 (off := 0) (n := 4) (v := knVal n kv') (kn_aCells i8.isl) rfl (by show 0 + 4 ≤ 4; omega)
  have i9 := i8.keep (e := 73) (by decide) k9
  have r9 : Row h9 h1.size [.int .i64 n.k, .string n.t, .int .i64 n.i, kv'] := o9.row
  refine ⟨kv', h9, ?_, ?_, i9.mono (by omega)⟩
  · obtain ⟨a0, _, _, _, _⟩ := ld4 r3
    obtain ⟨_, a1, _, _, _⟩ := ld4 r4
    obtain ⟨_, _, a2, _, _⟩ := ld4 r5
    obtain ⟨_, _, _, a3, _⟩ := ld4 r6
    obtain ⟨_, _, _, _, a8⟩ := ld4 r8
    obtain ⟨_, _, _, _, a9⟩ := ld4 r9
    have a8' : aLdN h8 (ptr h2.size 0) 4 = some (knVal n kv') := a8
    have a9' : aLdN h9 (ptr h1.size 0) 4 = some (knVal n kv') := a9
    simp only [aOff_ptr, Nat.zero_add, Option.bind_some, asI, asS, if_true, a0, t4, a1, t5, a2, t6, a3]
    rw [c7, Option.bind_some]
    simp only [t8, Option.bind_some, a8', t9, a9']
  · exact e1.trans ((e2.mono (by omega)).trans ((e3.mono (by omega)).trans ((e4.mono (by omega)).trans ((e5.mono (by omega)).trans ((e6.mono (by omega)).trans ((e7.mono (by omega)).trans ((e8.mono (by omega)).trans (e9.mono (by omega)))))))))
/-- Nodes in memory of one's own: so many are done. -/
def KPart (b : Nat) (h : AHeap) (r : Nat) (ns : List Kn) (j : Nat) (cells : List Value) : Prop :=
  Own b h r 73 cells ∧ cells.length = ns.length * 4 ∧ ∀ (i : Nat) (n : Kn), i < j → ns[i]? = some n → ∃ kv, (cells.drop (i * 4)).take 4 = knCells n kv ∧ IK b h kv n.ks
def KOwn (b : Nat) (h : AHeap) (v : Value) (ns : List Kn) : Prop := ∃ r cells, v = slc r 0 ns.length ∧ KPart b h r ns ns.length cells
theorem KPart.ext {b : Nat} {h h' : AHeap} {r j : Nat} {ns : List Kn} {cells : List Value} (x : KPart b h r ns j cells) (e : Ext h.size h h') : KPart b h' r ns j cells :=
  ⟨x.1.ext e x.1.lt.2, x.2.1, fun i n hi hn => let ⟨kv, h1, h2⟩ := x.2.2 i n hi hn; ⟨kv, h1, h2.ext e⟩⟩
theorem KOwn.ext {b : Nat} {h h' : AHeap} {v : Value} {ns : List Kn} (x : KOwn b h v ns) (e : Ext h.size h h') : KOwn b h' v ns := let ⟨r, cs, h1, h2⟩ := x; ⟨r, cs, h1, h2.ext e⟩
theorem KOwn.ksl {b : Nat} {h : AHeap} {v : Value} {ns : List Kn} (x : KOwn b h v ns) : KSl h.size h v ns := by
  obtain ⟨r, cs, h1, h2, h3, h4⟩ := x
  have hl := h2.lt.2
  obtain ⟨rt, ep, h5, h6⟩ := h2
  exact .inr (.inr ⟨r, _, h1, h5, hl, h3, fun j n hn => let ⟨kv, a, b⟩ := h4 j n (List.getElem?_eq_some_iff.1 hn).1 hn; ⟨kv, a, b.isl⟩⟩)
theorem splice_len {cs vs : List Value} {off : Nat} (h : off + vs.length ≤ cs.length) : (splice cs off vs).length = cs.length := by unfold splice; simp; omega
theorem splice_before {cs vs : List Value} {off i : Nat} (h : i + 4 ≤ off) (h2 : off + vs.length ≤ cs.length) : ((splice cs off vs).drop i).take 4 = (cs.drop i).take 4 := by
  apply List.ext_getElem?
  intro k
  rw [List.getElem?_take, List.getElem?_take]
  by_cases hk : k < 4
  · rw [if_pos hk, if_pos hk, List.getElem?_drop, List.getElem?_drop]
    unfold splice
    rw [List.append_assoc, List.getElem?_append_left (by simp; omega), List.getElem?_take, if_pos (by omega)]
  · rw [if_neg hk, if_neg hk]
theorem splice_here {cs vs : List Value} {off : Nat} (h : off + vs.length ≤ cs.length) (h4 : vs.length = 4) : ((splice cs off vs).drop off).take 4 = vs := by
  unfold splice
  rw [List.append_assoc, List.drop_append_of_le_length (by simp; omega)]
  rw [List.drop_eq_nil_of_le (by simp; omega), List.nil_append, List.take_append_of_le_length (by omega), ← h4, List.take_length]
theorem cpK_loop {d N c b r : Nat} (hd : 1048577 < d) {v : Value} {ns : List Kn} (hl : ns.length ≤ 1048576) (hN : ∀ n ∈ ns, n.t.size ≤ 1048576 ∧ n.ks.length ≤ 1048576) (hcb : c ≤ b) : ∀ (k j m : Nat) (cells : List Value) (h : AHeap), ns.length - j = k → j ≤ ns.length → k < m → KSl c h v ns → b ≤ h.size → KPart b h r ns j cells →
    ∃ h' cells', s58_0 hk0 (call Try.prog Ms (d + 2)) N m v (slc r 0 ns.length) (j : Int) h = some (slc r 0 ns.length, h') ∧ Ext b h h' ∧ KPart b h' r ns ns.length cells' := by
  intro k
  induction k with
  | zero =>
    intro j m cells h hk hj hm x hb o
    obtain ⟨m, rfl⟩ : ∃ q, m = q + 1 := ⟨m - 1, by omega⟩
    have : ¬ ((j : Int) < (ns.length : Int)) := by omega
    have e : j = ns.length := by omega
    subst e
    refine ⟨h, cells, ?_, Ext.refl _ _, o⟩
    rw [s58_0_eq, x.len, Option.bind_some]
    simp only [asI, if_true, Option.bind_some, decide_eq_false this, cond_false]
  | succ k ih =>
    intro j m cells h hk hj hm x hb o
    obtain ⟨m, rfl⟩ : ∃ q, m = q + 1 := ⟨m - 1, by omega⟩
    have hlt : j < ns.length := by omega
    have hI : ((j : Int) < (ns.length : Int)) := by omega
    obtain ⟨i, kv, e1, e2, e3⟩ := x.at hlt
    obtain ⟨e4, _⟩ := e3 h (Ext.refl _ _)
    have hix : aIdx (slc r 0 ns.length) (.int .i64 (j : Int)) 4 = some (ptr r (j * 4)) := by simp [aIdx, slc, hlt]
    obtain ⟨kv', h2, c2, x2, i2⟩ := l102 hd e2 (Nat.le_trans hcb hb) (hN ns[j] (List.getElem_mem hlt)).2
    have o2 := o.ext x2
    have hfit : j * 4 + (knCells ns[j] kv').length ≤ cells.length := by rw [o.2.1]; show j * 4 + 4 ≤ _; omega
    obtain ⟨h3, t3, x3, o3, s3, k3⟩ := Own.stX o2.1 (off := j * 4) (n := 4) (v := knVal ns[j] kv') (kn_aCells i2.isl) rfl hfit
    have wj : IntKind.i64.wrap ((j : Int) + 1) = ((j + 1 : Nat) : Int) := by rw [wr (by omega) (by omega)]; omega
    have o3' : KPart b h3 r ns (j + 1) (splice cells (j * 4) (knCells ns[j] kv')) := by
      refine ⟨o3, by rw [splice_len hfit]; exact o.2.1, fun i n hi hn => ?_⟩
      by_cases he : i = j
      · subst he
        rw [List.getElem?_eq_getElem hlt] at hn; cases hn
        exact ⟨kv', splice_here hfit rfl, (i2.mono hb).keep (e := 73) (by decide) k3⟩
      · obtain ⟨kv2, a, b'⟩ := o2.2.2 i n (by omega) hn
        exact ⟨kv2, by rw [splice_before (by omega) hfit]; exact a, b'.keep (e := 73) (by decide) k3⟩
    obtain ⟨h4, cells', c4, x4, o4⟩ := ih (j + 1) m _ h3 (by omega) (by omega) (by omega) ((x.ext (x2.mono (Nat.le_trans hcb hb))).ext (x3.mono hcb)) (by have := x2.size; omega) o3'
    refine ⟨h4, cells', ?_, (x2.mono hb).trans (x3.trans x4), o4⟩
    rw [s58_0_eq, x.len, Option.bind_some]
    simp only [asI, if_true, Option.bind_some, decide_eq_true hI, cond_true, e1, e4]
    rw [c2, Option.bind_some]
    simp only [hix, Option.bind_some, t3, wj, c4]
theorem rep_len (n : Nat) (z : List Value) (hz : z.length = 4) : (List.replicate n z).flatten.length = n * 4 := by
  induction n with
  | zero => rfl
  | succ n ih => rw [List.replicate_succ, List.flatten_cons, List.length_append, ih, hz]; omega
theorem l58 {d c : Nat} (hd : 1048577 < d) {v : Value} {ns : List Kn} {h : AHeap} (x : KSl c h v ns) (hc : c ≤ h.size) (hl : ns.length ≤ 1048576) (hN : ∀ n ∈ ns, n.t.size ≤ 1048576 ∧ n.ks.length ≤ 1048576) :
    ∃ v' h', call Try.prog Ms (d + 3) 58 [v] h = some (v', h') ∧ Ext h.size h h' ∧ KOwn h.size h' v' ns := by
  have hz : ([.int .i64 0, .string ⟨#[]⟩, .int .i64 0, .slice none 0 0] : List Value).length = 4 := rfl
  generalize hZ : ([.int .i64 0, .string ⟨#[]⟩, .int .i64 0, .slice none 0 0] : List Value) = z at hz
  have e1 := Ext.new (Nat.le_refl h.size) 73 (List.replicate ns.length z).flatten
  have o1 := Own.new (Nat.le_refl h.size) 73 (List.replicate ns.length z).flatten
  obtain ⟨h2, cells, c2, x2, o2⟩ := cpK_loop (d := d) (N := d + 2) hd hl hN hc ns.length 0 (d + 2) (List.replicate ns.length z).flatten _ (by omega) (by omega) (by omega) (x.ext (e1.mono hc)) e1.size ⟨o1, rep_len _ _ hz, fun i n hi => by omega⟩
  refine ⟨_, h2, ?_, e1.trans x2, _, cells, rfl, o2⟩
  rw [c58, e58, x.len, Option.bind_some, hZ]
  simp only [asI, if_true, Option.bind_some]
  rw [mk_some _ _ _ _ _ (by omega) (by omega), Option.bind_some]
  exact c2
theorem KOwn.keep {b : Nat} {h h' : AHeap} {v : Value} {ns : List Kn} {e : TypeId} (x : KOwn b h v ns) (he : (3 : TypeId) ≠ e) (he2 : (73 : TypeId) ≠ e) (k : ∀ j o, h.at? j = some o → o.elem ≠ e → h'.at? j = some o) : KOwn b h' v ns := by
  obtain ⟨r, cs, h1, ⟨rt, ep, h2, h2'⟩, h3, h4⟩ := x
  exact ⟨r, cs, h1, ⟨rt, ep, k r _ h2 he2, h2'⟩, h3, fun i n hi hn => let ⟨kv, a, b⟩ := h4 i n hi hn; ⟨kv, a, b.keep he k⟩⟩
theorem KOwn.mono {b c : Nat} {h : AHeap} {v : Value} {ns : List Kn} (x : KOwn b h v ns) (hc : c ≤ b) : KOwn c h v ns := by
  obtain ⟨r, cs, h1, h2, h3, h4⟩ := x
  exact ⟨r, cs, h1, h2.mono hc, h3, fun i n hi hn => let ⟨kv, a, b⟩ := h4 i n hi hn; ⟨kv, a, b.mono hc⟩⟩
theorem l21 {d c : Nat} (hd : 1048577 < d) {nv : Value} {ns : List Kn} {top : Int} {h : AHeap} (x : KSl c h nv ns) (hc : c ≤ h.size) (hl : ns.length ≤ 1048576) (hN : ∀ n ∈ ns, n.t.size ≤ 1048576 ∧ n.ks.length ≤ 1048576) :
    ∃ nv' h', call Try.prog Ms (d + 4) 21 [trVal nv top] h = some (trVal nv' top, h') ∧ Ext h.size h h' ∧ KOwn h.size h' nv' ns := by
  have e1 := Ext.new (Nat.le_refl h.size) 30 [nv, .int .i64 top]
  have r1 := (Own.new (b := h.size) (Nat.le_refl _) 30 [nv, .int .i64 top]).row
  have s1 : (h.new 30 [nv, .int .i64 top]).size = h.size + 1 := rfl
  rw [c21, e21, tr_aCells x, Option.bind_some]
  simp only [aNew]
  generalize h.new 30 [nv, .int .i64 top] = h1 at e1 r1 s1 ⊢
  have e2 := Ext.new (Nat.le_refl h1.size) 35 [.slice none 0 0, .int .i64 0]
  have o2 := Own.new (Nat.le_refl h1.size) 35 [.slice none 0 0, .int .i64 0]
  have s2 : (h1.new 35 [.slice none 0 0, .int .i64 0]).size = h1.size + 1 := rfl
  generalize h1.new 35 [.slice none 0 0, .int .i64 0] = h2 at e2 o2 s2 ⊢
  have e3 := Ext.new (Nat.le_refl h2.size) 35 [.slice none 0 0, .int .i64 0]
  have o3 := Own.new (Nat.le_refl h2.size) 35 [.slice none 0 0, .int .i64 0]
  have s3 : (h2.new 35 [.slice none 0 0, .int .i64 0]).size = h2.size + 1 := rfl
  generalize h2.new 35 [.slice none 0 0, .int .i64 0] = h3 at e3 o3 s3 ⊢
  have r3 := (r1.ext e2 (by omega)).ext e3 (by omega)
  have E3 : Ext c h h3 := ((e1.mono hc).trans (e2.mono (by omega))).trans (e3.mono (by omega))
  obtain ⟨nv', h4, c4, e4, k4⟩ := l58 hd (x.ext E3) (by omega) hl hN
  have s4 := e4.size
  have r4 := r3.ext e4 (by omega)
  obtain ⟨h5, t5, e5, o5, s5, q5⟩ := Own.stX (o3.ext e4 (by omega)) (off := 0) (n := 1) (v := nv') (aCells_one k4.ksl.cell.1) rfl (by show 0 + 1 ≤ 2; omega)
  have k5 := k4.keep (e := 35) (by decide) (by decide) q5
  have r5 := r4.ext e5 (by omega)
  obtain ⟨h6, t6, e6, o6, s6, q6⟩ := Own.stX o5 (off := 1) (n := 1) (v := .int .i64 top) rfl rfl (by show 1 + 1 ≤ 2; omega)
  have k6 := k5.keep (e := 35) (by decide) (by decide) q6
  have r6 : Row h6 h2.size [nv', .int .i64 top] := o6.row
  have w2 := (((o2.ext e3 (by omega)).ext e4 (by omega)).ext e5 (by omega)).ext e6 (by omega)
  obtain ⟨h7, t7, e7, o7, s7, q7⟩ := Own.stX w2 (off := 0) (n := 2) (v := trVal nv' top) (tr_aCells k6.ksl top) rfl (by show 0 + 2 ≤ 2; omega)
  have k7 := k6.keep (e := 35) (by decide) (by decide) q7
  have r7 : Row h7 h1.size [nv', .int .i64 top] := o7.row
  refine ⟨nv', h7, ?_, ?_, k7.mono (by omega)⟩
  · obtain ⟨a0, _, _⟩ := ld2 r3
    obtain ⟨_, a1, _⟩ := ld2 r5
    obtain ⟨_, _, a6⟩ := ld2 r6
    obtain ⟨_, _, a7⟩ := ld2 r7
    have a6' : aLdN h6 (ptr h2.size 0) 2 = some (trVal nv' top) := a6
    have a7' : aLdN h7 (ptr h1.size 0) 2 = some (trVal nv' top) := a7
    simp only [aOff_ptr, Nat.zero_add, Option.bind_some, a0]
    rw [c4, Option.bind_some]
    simp only [t5, Option.bind_some, a1, asI, if_true, t6, a6', t7, a7']
  · exact e1.trans ((e2.mono (by omega)).trans ((e3.mono (by omega)).trans ((e4.mono (by omega)).trans ((e5.mono (by omega)).trans ((e6.mono (by omega)).trans (e7.mono (by omega)))))))
end Go.Proofs.Ytadmoackacickaa
/- Trees: what is alike. -/
set_option linter.unusedSimpArgs false
namespace Go.Proofs.Ytadmoackacickaa
open Go Go.AH

theorem eqI_loop {d N c c' : Nat} {v v' : Value} {xs : List Int} {h : AHeap} (hl : xs.length ≤ 1048576) (x : ISl c h v xs) (x' : ISl c' h v' xs) : ∀ (k j m : Nat), xs.length - j = k → j ≤ xs.length → k < m →
    s32_0 hk0 (call Try.prog Ms d) N m v v' (j : Int) h = some (.bool true, h) := by
  intro k
  induction k with
  | zero =>
    intro j m hk hj hm
    obtain ⟨m, rfl⟩ : ∃ q, m = q + 1 := ⟨m - 1, by omega⟩
    have : ¬ ((j : Int) < (xs.length : Int)) := by omega
    rw [s32_0_eq, x.len, Option.bind_some]
    simp only [asI, if_true, Option.bind_some, decide_eq_false this, cond_false]
  | succ k ih =>
    intro j m hk hj hm
    obtain ⟨m, rfl⟩ : ∃ q, m = q + 1 := ⟨m - 1, by omega⟩
    have hlt : j < xs.length := by omega
    have hI : ((j : Int) < (xs.length : Int)) := by omega
    obtain ⟨p, e1, e2⟩ := x.at hlt
    obtain ⟨p', e1', e2'⟩ := x'.at hlt
    have wj : IntKind.i64.wrap ((j : Int) + 1) = ((j + 1 : Nat) : Int) := by rw [wr (by omega) (by omega)]; omega
    rw [s32_0_eq, x.len, Option.bind_some]
    simp only [asI, if_true, Option.bind_some, decide_eq_true hI, cond_true, e1, e2, e1', e2', wj]
    rw [bne_self_eq_false, cond_false]
    exact ih (j + 1) m (by omega) (by omega) (by omega)
theorem l32 {d c c' : Nat} (hd : 1048577 < d) {v v' : Value} {xs : List Int} {h : AHeap} (hl : xs.length ≤ 1048576) (x : ISl c h v xs) (x' : ISl c' h v' xs) : call Try.prog Ms (d + 1) 32 [v, v'] h = some (.bool true, h) := by
  rw [c32, e32, x.len, Option.bind_some]
  simp only [asI, if_true, Option.bind_some, x'.len]
  rw [bne_self_eq_false, cond_false]
  exact eqI_loop hl x x' xs.length 0 d (by omega) (by omega) (by omega)
theorem l106 {d c : Nat} (hd : 1048577 < d) {kv kv' : Value} {n : Kn} {h : AHeap} (x : ISl c h kv n.ks) (x' : ISl c h kv' n.ks) (hc : c ≤ h.size) (hl : n.ks.length ≤ 1048576) :
    ∃ h', call Try.prog Ms (d + 2) 106 [knVal n kv, knVal n kv'] h = some (.bool true, h') ∧ Ext h.size h h' := by
  have e1 := Ext.new (Nat.le_refl h.size) 73 (knCells n kv)
  have r1 : Row (h.new 73 (knCells n kv)) h.size [.int .i64 n.k, .string n.t, .int .i64 n.i, kv] := (Own.new (b := h.size) (Nat.le_refl _) 73 (knCells n kv)).row
  have s1 : (h.new 73 (knCells n kv)).size = h.size + 1 := rfl
  rw [c106, e106, kn_aCells x, Option.bind_some]
  simp only [aNew]
  generalize h.new 73 (knCells n kv) = h1 at e1 r1 s1 ⊢
  have e2 := Ext.new (Nat.le_refl h1.size) 73 (knCells n kv')
  have r2 : Row (h1.new 73 (knCells n kv')) h1.size [.int .i64 n.k, .string n.t, .int .i64 n.i, kv'] := (Own.new (b := h1.size) (Nat.le_refl _) 73 (knCells n kv')).row
  have s2 : (h1.new 73 (knCells n kv')).size = h1.size + 1 := rfl
  rw [kn_aCells x', Option.bind_some]
  generalize h1.new 73 (knCells n kv') = h2 at e2 r2 s2 ⊢
  obtain ⟨a0, a1, a2, a3, _⟩ := ld4 (r1.ext e2 (by omega))
  obtain ⟨b0, b1, b2, b3, _⟩ := ld4 r2
  have E : Ext h.size h h2 := e1.trans (e2.mono (by omega))
  have c3 := l32 hd hl (x.ext (E.mono hc)) (x'.ext (E.mono hc))
  refine ⟨h2, ?_, E⟩
  simp only [aOff_ptr, Nat.zero_add, Option.bind_some, asI, asS, if_true, a0, a1, a2, a3, b0, b1, b2, b3]
  rw [bne_self_eq_false, cond_false, beq_self_eq_true, Bool.not_true, cond_false, bne_self_eq_false, cond_false, c3, Option.bind_some]
  rfl
theorem eqK_loop {d N c : Nat} (hd : 1048577 < d) {v v' : Value} {ns : List Kn} (hl : ns.length ≤ 1048576) (hN : ∀ n ∈ ns, n.t.size ≤ 1048576 ∧ n.ks.length ≤ 1048576) : ∀ (k j m : Nat) (h : AHeap), ns.length - j = k → j ≤ ns.length → k < m → KSl c h v ns → KSl c h v' ns → c ≤ h.size →
    ∃ h', s61_0 hk0 (call Try.prog Ms (d + 2)) N m v v' (j : Int) h = some (.bool true, h') ∧ Ext h.size h h' := by
  intro k
  induction k with
  | zero =>
    intro j m h hk hj hm x x' hc
    obtain ⟨m, rfl⟩ : ∃ q, m = q + 1 := ⟨m - 1, by omega⟩
    have : ¬ ((j : Int) < (ns.length : Int)) := by omega
    refine ⟨h, ?_, Ext.refl _ _⟩
    rw [s61_0_eq, x.len, Option.bind_some]
    simp only [asI, if_true, Option.bind_some, decide_eq_false this, cond_false]
  | succ k ih =>
    intro j m h hk hj hm x x' hc
    obtain ⟨m, rfl⟩ : ∃ q, m = q + 1 := ⟨m - 1, by omega⟩
    have hlt : j < ns.length := by omega
    have hI : ((j : Int) < (ns.length : Int)) := by omega
    obtain ⟨i, kv, e1, e2, e3⟩ := x.at hlt
    obtain ⟨e4, _⟩ := e3 h (Ext.refl _ _)
    obtain ⟨i', kv', e1', e2', e3'⟩ := x'.at hlt
    obtain ⟨e4', _⟩ := e3' h (Ext.refl _ _)
    obtain ⟨h2, c2, x2⟩ := l106 hd e2 e2' hc (hN ns[j] (List.getElem_mem hlt)).2
    have wj : IntKind.i64.wrap ((j : Int) + 1) = ((j + 1 : Nat) : Int) := by rw [wr (by omega) (by omega)]; omega
    obtain ⟨h3, c3, x3⟩ := ih (j + 1) m h2 (by omega) (by omega) (by omega) (x.ext (x2.mono hc)) (x'.ext (x2.mono hc)) (Nat.le_trans hc x2.size)
    refine ⟨h3, ?_, x2.trans (x3.mono x2.size)⟩
    rw [s61_0_eq, x.len, Option.bind_some]
    simp only [asI, if_true, Option.bind_some, decide_eq_true hI, cond_true, e1, e4, e1', e4', wj]
    rw [c2, Option.bind_some]
    simp only [asB, Option.bind_some, Bool.not_true, cond_false]
    exact c3
theorem l23 {d c : Nat} (hd : 1048577 < d) {nv nv' : Value} {ns : List Kn} {top : Int} {h : AHeap} (x : KSl c h nv ns) (x' : KSl c h nv' ns) (hc : c ≤ h.size) (hl : ns.length ≤ 1048576) (hN : ∀ n ∈ ns, n.t.size ≤ 1048576 ∧ n.ks.length ≤ 1048576) :
    ∃ h', call Try.prog Ms (d + 4) 23 [trVal nv top, trVal nv' top] h = some (.bool true, h') ∧ Ext h.size h h' := by
  have e1 := Ext.new (Nat.le_refl h.size) 35 [nv, .int .i64 top]
  have r1 := (Own.new (b := h.size) (Nat.le_refl _) 35 [nv, .int .i64 top]).row
  have s1 : (h.new 35 [nv, .int .i64 top]).size = h.size + 1 := rfl
  rw [c23, e23, tr_aCells x, Option.bind_some]
  simp only [aNew]
  generalize h.new 35 [nv, .int .i64 top] = h1 at e1 r1 s1 ⊢
  have e2 := Ext.new (Nat.le_refl h1.size) 35 [nv', .int .i64 top]
  have r2 := (Own.new (b := h1.size) (Nat.le_refl _) 35 [nv', .int .i64 top]).row
  have s2 : (h1.new 35 [nv', .int .i64 top]).size = h1.size + 1 := rfl
  rw [tr_aCells x', Option.bind_some]
  generalize h1.new 35 [nv', .int .i64 top] = h2 at e2 r2 s2 ⊢
  have r1' := r1.ext e2 (by omega)
  obtain ⟨a0, _, _⟩ := ld2 r1'
  obtain ⟨b0, _, _⟩ := ld2 r2
  have E : Ext h.size h h2 := e1.trans (e2.mono (by omega))
  obtain ⟨h3, c3, x3⟩ := eqK_loop (d := d) (N := d + 2) hd hl hN ns.length 0 (d + 2) h2 (by omega) (by omega) (by omega) (x.ext (E.mono hc)) (x'.ext (E.mono hc)) (Nat.le_trans hc E.size)
  obtain ⟨_, a1, _⟩ := ld2 (r1'.ext x3 (by omega))
  obtain ⟨_, b1, _⟩ := ld2 (r2.ext x3 (by omega))
  have c61' : call Try.prog Ms (d + 3) 61 [nv, nv'] h2 = some (.bool true, h3) := by
    rw [c61, e61, x.len, Option.bind_some]
    simp only [asI, if_true, Option.bind_some, x'.len]
    rw [bne_self_eq_false, cond_false]
    exact c3
  refine ⟨h3, ?_, E.trans (x3.mono E.size)⟩
  simp only [aOff_ptr, Nat.zero_add, Option.bind_some, a0, b0]
  rw [c61', Option.bind_some]
  simp only [asB, Option.bind_some, Bool.not_true, cond_false, a1, b1, asI, if_true]
  rw [bne_self_eq_false, cond_false]
end Go.Proofs.Ytadmoackacickaa
/- The reference's looks at a node. -/
set_option linter.unusedSimpArgs false
namespace Go.Proofs.Ytadmoackacickaa
open Go Go.AH

def inR (x a b : Int) : Bool := decide (a ≤ x) && decide (x ≤ b)
theorem l98 (d : Nat) (x a b : Int) (h : AHeap) : call Try.prog Ms (d + 1) 98 [.int .i64 x, .int .i64 a, .int .i64 b] h = some (.bool (inR x a b), h) := by
  rw [c98, e98]; unfold inR
  by_cases h1 : a ≤ x
  · have : x ≥ a := h1
    rw [decide_eq_true this, cond_true]; rfl
  · have : ¬ x ≥ a := h1
    rw [decide_eq_false this, cond_false]; rfl
theorem l103 (d : Nat) (x a b : Int) (h : AHeap) : call Try.prog Ms (d + 1) 103 [.int .i64 x, .int .i64 a, .int .i64 b] h = some (.bool (inR x a b), h) := by
  rw [c103, e103]; unfold inR
  by_cases h1 : a ≤ x
  · have : x ≥ a := h1
    rw [decide_eq_true this, cond_true]; rfl
  · have : ¬ x ≥ a := h1
    rw [decide_eq_false this, cond_false]; rfl
def cls (k : Int) : Int := if inR k 1 13 = true then 1 else if inR k 14 20 = true then 2 else if k = 21 then 3 else if k = 22 then 4 else if k = 23 ∨ k = 24 then 5 else 0
theorem cond_ge (x a b : Int) (f : Bool → Option (Value × AHeap)) : (bif decide (x ≥ a) then f (decide (x ≤ b)) else f false) = f (inR x a b) := by
  unfold inR
  by_cases h1 : a ≤ x
  · have : x ≥ a := h1
    rw [decide_eq_true this, cond_true]; rfl
  · have : ¬ x ≥ a := h1
    rw [decide_eq_false this, cond_false]; rfl
theorem l99 (d : Nat) (k : Int) (h : AHeap) : call Try.prog Ms (d + 1) 99 [.int .i64 k] h = some (.int .i64 (cls k), h) := by
  rw [c99, e99]
  rw [cond_ge k 1 13 (fun b => s99_0 hk0 (call Try.prog Ms d) d k b h), s99_0_j, s99_0_eq, cond_ge k 14 20 (fun b => s99_1 hk0 (call Try.prog Ms d) d k b h), s99_1_j, s99_1_eq]
  unfold cls
  cases inR k 1 13 with
  | true => rfl
  | false =>
    cases inR k 14 20 with
    | true => rfl
    | false =>
      simp only [cond_false, if_false, Bool.false_eq_true]
      by_cases h1 : k = 21
      · subst h1; rfl
      · rw [beq_eq_false_iff_ne.2 h1, cond_false, if_neg h1]
        by_cases h2 : k = 22
        · subst h2; rfl
        · rw [beq_eq_false_iff_ne.2 h2, cond_false, if_neg h2]
          by_cases h3 : k = 23
          · subst h3; rw [if_pos (.inl rfl), show ((23 : Int) == 23) = true from rfl, cond_true, s99_2_j, s99_2_eq]; rfl
          · rw [beq_eq_false_iff_ne.2 h3, cond_false, s99_2_j, s99_2_eq]
            by_cases h4 : k = 24
            · subst h4; rfl
            · rw [beq_eq_false_iff_ne.2 h4, if_neg (fun x => x.elim h3 h4)]; rfl
theorem IOwn.push {b : Nat} {h : AHeap} {v : Value} {xs : List Int} (x : IOwn b h v xs) (hb : b ≤ h.size) (hl : xs.length ≤ 2000000) (y : Int) :
    ∃ v' h', aApp (h.new 3 [.int .i64 y]) 3 1 8 v (slc h.size 0 1) = some (v', h') ∧ Ext b h h' ∧ IOwn b h' v' (xs ++ [y]) := by
  obtain ⟨r, rfl, o⟩ := x
  have e := Ext.new (Nat.le_refl h.size) 3 [Value.int .i64 y]
  have w := (Own.new (b := 0) (Nat.zero_le h.size) 3 [Value.int .i64 y]).row
  have hS : (h.new 3 [Value.int .i64 y]).size = h.size + 1 := rfl
  have hsrc : aSrc (h.new 3 [Value.int .i64 y]) 1 (slc h.size 0 1) = some (1, [Value.int .i64 y]) := w.src (n := 1) (esz := 1) (by show 0 + 1 * 1 ≤ 1; omega)
  obtain ⟨h', s1, x1, o1, _⟩ := (o.ext e o.lt.2).app (n := xs.length) (bytes := 8) (esz := 1) (by omega) hsrc (by simp [ints]) (by show xs.length + 1 ≤ 140737488355328; omega) (by show (xs.length + 1) * 8 ≤ 140737488355328; omega)
  refine ⟨_, h', s1, (e.mono hb).trans x1, (h.new 3 [Value.int .i64 y]).size, by simp, ?_⟩
  rw [show ints (xs ++ [y]) = ints xs ++ [.int .i64 y] by simp [ints]]
  exact o1
theorem IOwn.newS {b : Nat} {h : AHeap} (hb : b ≤ h.size) (xs : List Int) : IOwn b (h.new 3 (ints xs)) (slc h.size 0 xs.length) xs := ⟨h.size, rfl, Own.new hb 3 (ints xs)⟩
theorem IOwn.len {b : Nat} {h : AHeap} {v : Value} {xs : List Int} (x : IOwn b h v xs) : aLen v = some (.int .i64 xs.length) := x.isl.len
theorem IOwn.s2 {b : Nat} {h : AHeap} {v : Value} {xs : List Int} (x : IOwn b h v xs) (t : Bool) : List.all [v, .bool t] isS2 = true := by obtain ⟨r, rfl, _⟩ := x; rfl
/-- What l9Shape tells. -/
def Is100 (b : Nat) (h : AHeap) (r : Option (Value × AHeap)) (m : Nat) (xs : List Int) : Prop :=
  ∃ v h', r = some (.tuple (List.toArray [v, .bool ((xs.length : Int) == (m : Int))]), h') ∧ Ext b h h' ∧ IOwn b h' v xs
theorem Is100.of {b : Nat} {h h1 : AHeap} {r : Option (Value × AHeap)} {m : Nat} {xs : List Int} (x : Ext b h h1) (y : Is100 b h1 r m xs) : Is100 b h r m xs := let ⟨v, h', h1, h2, h3⟩ := y; ⟨v, h', h1, x.trans h2, h3⟩
theorem shp0 {C : ACall} {N b m : Nat} {v : Value} {xs : List Int} {h : AHeap} (x : IOwn b h v xs) (hN : 0 < N) : Is100 b h (s100_4 hk0 C N (m : Int) v 0 h) m xs := by
  obtain ⟨N, rfl⟩ : ∃ q, N = q + 1 := ⟨N - 1, by omega⟩
  rw [s100_4_j, s100_4_eq, s100_5_eq]
  have e : ((0 : Int) != 0) = false := rfl
  rw [e, cond_false, x.len, Option.bind_some]
  simp only [asI, if_true, Option.bind_some, x.s2, cond_true, Bool.cond_self]
  exact ⟨v, h, rfl, Ext.refl _ _, x⟩
theorem shpAll {C : ACall} {N b m : Nat} {all : Int} (ha : all ≠ 0) (hm : m ≤ 1048576) : ∀ (k j n1 : Nat) (v : Value) (xs : List Int) (h : AHeap), m - j = k → j ≤ m → k < n1 → b ≤ h.size → xs.length = j → IOwn b h v xs →
    Is100 b h (s100_5 hk0 C N n1 (m : Int) v all (j : Int) h) m (xs ++ List.replicate k all) := by
  intro k
  induction k with
  | zero =>
    intro j n1 v xs h hk hj hn hb hx x
    obtain ⟨n1, rfl⟩ : ∃ q, n1 = q + 1 := ⟨n1 - 1, by omega⟩
    have : ¬ ((j : Int) < (m : Int)) := by omega
    rw [s100_5_eq, decide_eq_false this, cond_false, x.len, Option.bind_some]
    simp only [asI, if_true, Option.bind_some, x.s2, cond_true, List.replicate_zero, List.append_nil]
    exact ⟨v, h, rfl, Ext.refl _ _, x⟩
  | succ k ih =>
    intro j n1 v xs h hk hj hn hb hx x
    obtain ⟨n1, rfl⟩ : ∃ q, n1 = q + 1 := ⟨n1 - 1, by omega⟩
    have hI : ((j : Int) < (m : Int)) := by omega
    have hne : (all != 0) = true := by simp [ha]
    have wj : IntKind.i64.wrap ((j : Int) + 1) = ((j + 1 : Nat) : Int) := by rw [wr (by omega) (by omega)]; omega
    obtain ⟨v', h', c, x1, o⟩ := x.push hb (by omega) all
    rw [s100_5_eq, decide_eq_true hI, cond_true, hne, cond_true, s100_6_j, s100_6_eq]
    simp only [aNewS]
    rw [c, Option.bind_some, wj]
    have := ih (j + 1) n1 v' (xs ++ [all]) h' (by omega) (by omega) (by omega) (Nat.le_trans hb x1.size) (by simp [hx]) o
    rw [List.append_assoc] at this
    exact Is100.of x1 this
theorem shpFn {C : ACall} {N b m : Nat} (hm : m ≤ 1048576) (hN : 0 < N) : ∀ (k n1 : Nat) (v : Value) (xs : List Int) (h : AHeap), m - 1 - xs.length = k → k < n1 → b ≤ h.size → xs.length ≤ m → IOwn b h v xs →
    Is100 b h (s100_0 hk0 C N n1 (m : Int) v 0 h) m (xs ++ List.replicate k 4 ++ [3]) := by
  intro k
  induction k with
  | zero =>
    intro n1 v xs h hk hn hb hx x
    obtain ⟨n1, rfl⟩ : ∃ q, n1 = q + 1 := ⟨n1 - 1, by omega⟩
    have w : IntKind.i64.wrap ((xs.length : Int) + 1) = (xs.length : Int) + 1 := wr (by omega) (by omega)
    have : ¬ ((xs.length : Int) + 1 < (m : Int)) := by omega
    obtain ⟨v', h', c, x1, o⟩ := x.push hb (by omega) 3
    rw [s100_0_eq, x.len, Option.bind_some]
    simp only [asI, if_true, Option.bind_some, w, decide_eq_false this, cond_false, aNewS]
    rw [c, Option.bind_some]
    exact Is100.of x1 (by simpa using shp0 (C := C) o hN)
  | succ k ih =>
    intro n1 v xs h hk hn hb hx x
    obtain ⟨n1, rfl⟩ : ∃ q, n1 = q + 1 := ⟨n1 - 1, by omega⟩
    have w : IntKind.i64.wrap ((xs.length : Int) + 1) = (xs.length : Int) + 1 := wr (by omega) (by omega)
    have : ((xs.length : Int) + 1 < (m : Int)) := by omega
    obtain ⟨v', h', c, x1, o⟩ := x.push hb (by omega) 4
    rw [s100_0_eq, x.len, Option.bind_some]
    simp only [asI, if_true, Option.bind_some, w, decide_eq_true this, cond_true, aNewS]
    rw [c, Option.bind_some]
    have := ih n1 v' (xs ++ [4]) h' (by simp; omega) (by omega) (Nat.le_trans hb x1.size) (by simp; omega) o
    rw [List.append_assoc xs [4]] at this
    exact Is100.of x1 this
theorem shpCall {C : ACall} {N b m : Nat} (hm : m ≤ 1048576) (hN : 0 < N) : ∀ (k n1 : Nat) (v : Value) (xs : List Int) (h : AHeap), m - xs.length = k → k < n1 → b ≤ h.size → IOwn b h v xs → xs.length ≤ 1048576 →
    Is100 b h (s100_2 hk0 C N n1 (m : Int) v 0 h) m (xs ++ List.replicate k 1) := by
  intro k
  induction k with
  | zero =>
    intro n1 v xs h hk hn hb x hx
    obtain ⟨n1, rfl⟩ : ∃ q, n1 = q + 1 := ⟨n1 - 1, by omega⟩
    have : ¬ ((xs.length : Int) < (m : Int)) := by omega
    rw [s100_2_eq, x.len, Option.bind_some]
    simp only [asI, if_true, Option.bind_some, decide_eq_false this, cond_false, List.replicate_zero, List.append_nil]
    exact shp0 x hN
  | succ k ih =>
    intro n1 v xs h hk hn hb x hx
    obtain ⟨n1, rfl⟩ : ∃ q, n1 = q + 1 := ⟨n1 - 1, by omega⟩
    have : ((xs.length : Int) < (m : Int)) := by omega
    obtain ⟨v', h', c, x1, o⟩ := x.push hb (by omega) 1
    rw [s100_2_eq, x.len, Option.bind_some]
    simp only [asI, if_true, Option.bind_some, decide_eq_true this, cond_true, aNewS]
    rw [c, Option.bind_some]
    have := ih n1 v' (xs ++ [1]) h' (by simp; omega) (by omega) (Nat.le_trans hb x1.size) o (by simp; omega)
    rw [List.append_assoc] at this
    exact Is100.of x1 this
def two2 (k : Int) : Bool := k == 8 || (k == 10 || (k == 12 || (k == 13 || k == 24)))
def one1 (k : Int) : Bool := k == 11 || (k == 14 || (k == 15 || (k == 19 || k == 23)))
/-- The classes that kids must have. -/
def shape (k : Int) (m : Nat) : List Int :=
  if k = 6 then List.replicate (m - 1) 4 ++ [3]
  else if k = 7 then List.replicate m 5
  else if two2 k = true then [1, 1]
  else if k = 9 then [1] ++ List.replicate (m - 1) 1
  else if one1 k = true then [1]
  else if k = 16 then [1, 1, 1]
  else if k = 17 then (if m = 3 then [1, 3, 3] else [1, 3])
  else if k = 18 then [1, 3]
  else if k = 20 then [6]
  else if k = 21 then List.replicate m 2
  else []
theorem shpLit {C : ACall} {N b m : Nat} {h : AHeap} (hb : b ≤ h.size) (hN : 0 < N) (xs : List Int) : Is100 b h (s100_4 hk0 C N (m : Int) (slc h.size 0 xs.length) 0 (h.new 3 (ints xs))) m xs :=
  Is100.of (Ext.new hb 3 (ints xs)) (shp0 (IOwn.newS hb xs) hN)
theorem l100 {d c : Nat} (hd : 1048577 < d) {kv : Value} {n : Kn} {h : AHeap} (x : ISl c h kv n.ks) (hl : n.ks.length ≤ 1048576) :
    Is100 h.size h (call Try.prog Ms (d + 1) 100 [knVal n kv] h) n.ks.length (shape n.k n.ks.length) := by
  have e1 := Ext.new (Nat.le_refl h.size) 73 (knCells n kv)
  have r1 : Row (h.new 73 (knCells n kv)) h.size [.int .i64 n.k, .string n.t, .int .i64 n.i, kv] := (Own.new (b := h.size) (Nat.le_refl _) 73 (knCells n kv)).row
  have s1 : (h.new 73 (knCells n kv)).size = h.size + 1 := rfl
  rw [c100, e100, kn_aCells x, Option.bind_some]
  simp only [aNew]
  generalize h.new 73 (knCells n kv) = h1 at e1 r1 s1 ⊢
  obtain ⟨_, _, _, a3, _⟩ := ld4 r1
  have e2 := Ext.new (Nat.le_refl h1.size) 3 (ints [])
  have i2 := IOwn.newS (b := h.size) (h := h1) (by omega) []
  have s2 : (h1.new 3 (ints [])).size = h1.size + 1 := rfl
  have hnil : ([] : List Value) = ints [] := rfl
  obtain ⟨b0, _, _, _, _⟩ := ld4 (r1.ext e2 (by omega))
  refine Is100.of (e1.trans (e2.mono (by omega))) ?_
  simp only [aOff_ptr, Nat.zero_add, Option.bind_some, a3, x.len, asI, if_true, aNewS, hnil, b0]
  generalize h1.new 3 (ints []) = h2 at i2 s2 ⊢
  generalize hm : n.ks.length = m at hl ⊢
  generalize n.k = k
  unfold shape
  have hb : h.size ≤ h2.size := by omega
  by_cases k6 : k = 6
  · subst k6
    rw [if_pos rfl, show ((6 : Int) == 6) = true from rfl, cond_true]
    exact shpFn (C := call Try.prog Ms d) (N := d) (b := h.size) hl (by omega) (m - 1) d _ [] h2 (by simp) (by omega) hb (by simp) i2
  rw [beq_eq_false_iff_ne.2 k6, cond_false, if_neg k6]
  by_cases k7 : k = 7
  · subst k7
    rw [if_pos rfl, show ((7 : Int) == 7) = true from rfl, cond_true, s100_4_j, s100_4_eq]
    exact shpAll (C := call Try.prog Ms d) (N := d) (b := h.size) (by decide) hl m 0 d _ [] h2 (by omega) (by omega) (by omega) hb rfl i2
  rw [beq_eq_false_iff_ne.2 k7, cond_false, if_neg k7]
  have E : ∀ f : Bool → Option (Value × AHeap), (bif k == 8 then f (k == 8) else bif k == 10 then f (k == 10) else bif k == 12 then f (k == 12) else bif k == 13 then f (k == 13) else f (k == 24)) = f (two2 k) := by
    intro f; unfold two2
    cases (k == 8) <;> cases (k == 10) <;> cases (k == 12) <;> cases (k == 13) <;> rfl
  have E1 : ∀ f : Bool → Option (Value × AHeap), (bif k == 11 then f (k == 11) else bif k == 14 then f (k == 14) else bif k == 15 then f (k == 15) else bif k == 19 then f (k == 19) else f (k == 23)) = f (one1 k) := by
    intro f; unfold one1
    cases (k == 11) <;> cases (k == 14) <;> cases (k == 15) <;> cases (k == 19) <;> rfl
  rw [E (fun t => s100_1 hk0 (call Try.prog Ms d) d (m : Int) (slc h1.size 0 0) 0 k t h2), s100_1_j, s100_1_eq]
  have hN : 0 < d := by omega
  cases two2 k with
  | true => rw [cond_true, if_pos rfl]; exact shpLit hb hN [1, 1]
  | false =>
    rw [cond_false, if_neg (by simp)]
    by_cases k9 : k = 9
    · subst k9
      rw [if_pos rfl, show ((9 : Int) == 9) = true from rfl, cond_true]
      exact Is100.of (Ext.new hb 3 (ints [1])) (shpCall (C := call Try.prog Ms d) (N := d) hl hN (m - 1) d _ [1] _ (by simp) (by omega) (by simp [AHeap.new]; omega) (IOwn.newS hb [1]) (by simp))
    rw [beq_eq_false_iff_ne.2 k9, cond_false, if_neg k9, E1 (fun t => s100_3 hk0 (call Try.prog Ms d) d (m : Int) (slc h1.size 0 0) 0 k t h2), s100_3_j, s100_3_eq]
    cases one1 k with
    | true => rw [cond_true, if_pos rfl]; exact shpLit hb hN [1]
    | false =>
      rw [cond_false, if_neg (by simp)]
      by_cases k16 : k = 16
      · subst k16
        rw [if_pos rfl, show ((16 : Int) == 16) = true from rfl, cond_true]; exact shpLit hb hN [1, 1, 1]
      rw [beq_eq_false_iff_ne.2 k16, cond_false, if_neg k16]
      by_cases k17 : k = 17
      · subst k17
        rw [if_pos rfl, show ((17 : Int) == 17) = true from rfl, cond_true]
        by_cases m3 : m = 3
        · have : ((m : Int) == 3) = true := by simp [m3]
          rw [if_pos m3, this]
          simp only [cond_true, aNewS]
          exact Is100.of (Ext.new hb 3 (ints [1, 3])) (shpLit (by simp [AHeap.new]; omega) hN [1, 3, 3])
        · have : ((m : Int) == 3) = false := by rw [beq_eq_false_iff_ne]; omega
          rw [if_neg m3, this]
          simp only [cond_false]
          exact shpLit hb hN [1, 3]
      rw [beq_eq_false_iff_ne.2 k17, cond_false, if_neg k17]
      by_cases k18 : k = 18
      · subst k18
        rw [if_pos rfl, show ((18 : Int) == 18) = true from rfl, cond_true]; exact shpLit hb hN [1, 3]
      rw [beq_eq_false_iff_ne.2 k18, cond_false, if_neg k18]
      by_cases k20 : k = 20
      · subst k20
        rw [if_pos rfl, show ((20 : Int) == 20) = true from rfl, cond_true]; exact shpLit hb hN [6]
      rw [beq_eq_false_iff_ne.2 k20, cond_false, if_neg k20]
      by_cases k21 : k = 21
      · subst k21
        rw [if_pos rfl, show ((21 : Int) == 21) = true from rfl, cond_true, s100_4_j, s100_4_eq]
        exact shpAll (C := call Try.prog Ms d) (N := d) (b := h.size) (by decide) hl m 0 d _ [] h2 (by omega) (by omega) (by omega) hb rfl i2
      rw [beq_eq_false_iff_ne.2 k21, cond_false, if_neg k21]
      exact shp0 i2 hN
/-- What stands in a node. -/
def emp (t : ByteArray) : Bool := t.toList == (⟨#[]⟩ : ByteArray).toList
def nameP (t : ByteArray) : Bool := inR (t.size : Int) 1 12 && (!isWd t && decide (endOf isLet t 0 = t.size))
def textP (t : ByteArray) : Bool := decide ((t.size : Int) ≤ 160) && decide (endOf isPln t 0 = t.size)
def nm4 (k : Int) : Bool := k == 5 || (k == 14 || (k == 15 || k == 22))
def hasP (n : Kn) : Bool :=
  if nm4 n.k = true then nameP n.t && n.i == 0
  else if n.k = 4 then textP n.t && n.i == 0
  else emp n.t && (if n.k = 2 then inR n.i 0 1 else if n.k = 3 then inR n.i 0 999999999999999 else if n.k = 10 then inR n.i 1 10 else if n.k = 11 then inR n.i 1 3 else n.i == 0)
theorem l145 {d : Nat} (hd : 1048577 < d) (t : ByteArray) (ht : t.size ≤ 1048576) (h : AHeap) : ∃ h', call Try.prog Ms (d + 3) 145 [.string t] h = some (.bool (nameP t), h') ∧ Ext h.size h h' := by
  rw [c145, e145]
  have c1 : call Try.prog Ms (d + 2) 98 [.int .i64 (t.size : Int), .int .i64 1, .int .i64 12] h = some (.bool (inR (t.size : Int) 1 12), h) := l98 (d + 1) _ _ _ _
  rw [c1, Option.bind_some]
  simp only [asB, Option.bind_some]
  unfold nameP
  cases hR : inR (t.size : Int) 1 12 with
  | false =>
    refine ⟨h, ?_, Ext.refl _ _⟩
    rw [Bool.not_false, cond_true, s145_0_j, s145_0_eq]; rfl
  | true =>
    rw [Bool.not_true, cond_false]
    obtain ⟨h2, c2, x2⟩ := l88 (d := d) (by omega) t h
    rw [c2, Option.bind_some]
    simp only [asB, Option.bind_some]
    rw [s145_0_j, s145_0_eq]
    refine ⟨h2, ?_, x2⟩
    cases isWd t with
    | true => rfl
    | false =>
      have hs : t.size ≤ 12 := by
        unfold inR at hR
        simp at hR; omega
      have l87' : ∀ (n : Int) (h : AHeap), call Try.prog Ms (d + 2) 87 [.int .u8 n] h = some (.bool (isLet n), h) := l87 (d + 1)
      rw [cond_false, s145_1_j, s145_1_eq]
      have hbd := endOf_bd (p := isLet) (s := t) _ 0 rfl (by omega)
      have hno := endOf_no (p := isLet) (s := t) _ 0 rfl
      obtain ⟨m', hm'⟩ := skip (p := isLet) (s := t) (fun n j => s145_2 hk0 (call Try.prog Ms (d + 2)) (d + 2) n t j h2) (fun n j hj hp => by
        have : ((j : Nat) : Int) < (t.size : Int) := by omega
        have wj : IntKind.i64.wrap ((j : Int) + 1) = ((j + 1 : Nat) : Int) := by rw [wr (by omega) (by omega)]; omega
        rw [s145_2_eq]
        simp only [this, decide_true, cond_true, strIx hj, Option.bind_some, asI, if_true, l87', asB, hp, wj, Bool.not_true, cond_false]) t.size 0 (d + 2) (by omega) (by omega) (by omega)
      have hm2 : s145_2 hk0 (call Try.prog Ms (d + 2)) (d + 2) (d + 2) t 0 h2 = s145_2 hk0 (call Try.prog Ms (d + 2)) (d + 2) (m' + 1) t ((endOf isLet t 0 : Nat) : Int) h2 := hm'
      rw [hm2, s145_2_eq]
      generalize endOf isLet t 0 = e at hbd hno
      by_cases he : e < t.size
      · have hI : ((e : Nat) : Int) < (t.size : Int) := by omega
        rw [decide_eq_true hI, cond_true, strIx he, Option.bind_some]
        simp only [asI, if_true, Option.bind_some]
        rw [l87', Option.bind_some]
        simp only [asB, Option.bind_some, hno he, Bool.not_false, cond_true]
        rw [decide_eq_false (show ¬ e = t.size by omega)]; rfl
      · have hI : ¬ ((e : Nat) : Int) < (t.size : Int) := by omega
        rw [decide_eq_false hI, cond_false, decide_eq_true (show e = t.size by omega)]; rfl
theorem l101 {d c : Nat} (hd : 1048577 < d) {kv : Value} {n : Kn} {h : AHeap} (x : ISl c h kv n.ks) (ht : n.t.size ≤ 1048576) :
    ∃ h', call Try.prog Ms (d + 4) 101 [knVal n kv] h = some (.bool (hasP n), h') ∧ Ext h.size h h' := by
  have e1 := Ext.new (Nat.le_refl h.size) 73 (knCells n kv)
  have r1 : Row (h.new 73 (knCells n kv)) h.size [.int .i64 n.k, .string n.t, .int .i64 n.i, kv] := (Own.new (b := h.size) (Nat.le_refl _) 73 (knCells n kv)).row
  have s1 : (h.new 73 (knCells n kv)).size = h.size + 1 := rfl
  rw [c101, e101, kn_aCells x, Option.bind_some]
  simp only [aNew]
  generalize h.new 73 (knCells n kv) = h1 at e1 r1 s1 ⊢
  obtain ⟨a0, a1, a2, a3, _⟩ := ld4 r1
  have l98' : ∀ (x a b : Int) (h : AHeap), call Try.prog Ms (d + 3) 98 [.int .i64 x, .int .i64 a, .int .i64 b] h = some (.bool (inR x a b), h) := l98 (d + 2)
  have l90' : ∀ (n : Int) (h : AHeap), call Try.prog Ms (d + 3) 90 [.int .u8 n] h = some (.bool (isPln n), h) := l90 (d + 2)
  simp only [aOff_ptr, Nat.zero_add, Option.bind_some, a0, asI, if_true]
  have E : ∀ f : Bool → Option (Value × AHeap), (bif n.k == 5 then f (n.k == 5) else bif n.k == 14 then f (n.k == 14) else bif n.k == 15 then f (n.k == 15) else f (n.k == 22)) = f (nm4 n.k) := by
    intro f; unfold nm4
    cases (n.k == 5) <;> cases (n.k == 14) <;> cases (n.k == 15) <;> rfl
  rw [E (fun t => s101_0 hk0 (call Try.prog Ms (d + 3)) (d + 3) (ptr h.size 0) n.k t h1), s101_0_j, s101_0_eq]
  unfold hasP
  cases nm4 n.k with
  | true =>
    rw [cond_true, if_pos rfl]
    obtain ⟨h2, c2, x2⟩ := l145 hd n.t ht h1
    obtain ⟨_, _, b2, _, _⟩ := ld4 (r1.ext x2 (by omega))
    refine ⟨h2, ?_, e1.trans (x2.mono (by omega))⟩
    simp only [aOff_ptr, Nat.zero_add, Option.bind_some, a1, asS]
    rw [c2, Option.bind_some]
    simp only [asB, Option.bind_some]
    cases nameP n.t with
    | true => simp only [cond_true, b2, Option.bind_some, asI, if_true, Bool.true_and]
    | false => rfl
  | false =>
    rw [cond_false, if_neg (by simp)]
    by_cases k4 : n.k = 4
    · rw [if_pos k4, k4, show ((4 : Int) == 4) = true from rfl, cond_true]
      refine ⟨h1, ?_, e1⟩
      have hbd := endOf_bd (p := isPln) (s := n.t) _ 0 rfl (by omega)
      have hno := endOf_no (p := isPln) (s := n.t) _ 0 rfl
      obtain ⟨m', hm'⟩ := skip (p := isPln) (s := n.t) (fun m j => s101_1 hk0 (call Try.prog Ms (d + 3)) (d + 3) m (ptr h.size 0) j h1) (fun m j hj hp => by
        have : ((j : Nat) : Int) < (n.t.size : Int) := by omega
        have wj : IntKind.i64.wrap ((j : Int) + 1) = ((j + 1 : Nat) : Int) := by rw [wr (by omega) (by omega)]; omega
        rw [s101_1_eq]
        simp only [aOff_ptr, Nat.zero_add, Option.bind_some, a1, asS, this, decide_true, cond_true, strIx hj, asI, if_true, l90', asB, hp, wj, Bool.not_true, cond_false]) n.t.size 0 (d + 3) (by omega) (by omega) (by omega)
      have hm2 : s101_1 hk0 (call Try.prog Ms (d + 3)) (d + 3) (d + 3) (ptr h.size 0) 0 h1 = s101_1 hk0 (call Try.prog Ms (d + 3)) (d + 3) (m' + 1) (ptr h.size 0) ((endOf isPln n.t 0 : Nat) : Int) h1 := hm'
      rw [hm2, s101_1_eq]
      unfold textP
      generalize endOf isPln n.t 0 = e at hbd hno
      simp only [aOff_ptr, Nat.zero_add, Option.bind_some, a1, asS]
      by_cases he : e < n.t.size
      · have hI : ((e : Nat) : Int) < (n.t.size : Int) := by omega
        rw [decide_eq_true hI, cond_true, strIx he, Option.bind_some]
        simp only [asI, if_true, Option.bind_some]
        rw [l90', Option.bind_some]
        simp only [asB, Option.bind_some, hno he, Bool.not_false, cond_true]
        rw [decide_eq_false (show ¬ e = n.t.size by omega)]; simp
      · have hI : ¬ ((e : Nat) : Int) < (n.t.size : Int) := by omega
        rw [decide_eq_false hI, cond_false, decide_eq_true (show e = n.t.size by omega)]
        cases decide ((n.t.size : Int) ≤ 160) with
        | true => simp only [cond_true, a2, Option.bind_some, asI, if_true, Bool.true_and]
        | false => rfl
    rw [beq_eq_false_iff_ne.2 k4, cond_false, if_neg k4, s101_2_j, s101_2_eq]
    refine ⟨h1, ?_, e1⟩
    simp only [aOff_ptr, Nat.zero_add, Option.bind_some, a0, a1, a2, asS, asI, if_true]
    have hE : (n.t.toList == (⟨#[]⟩ : ByteArray).toList) = emp n.t := rfl
    rw [hE]
    cases emp n.t with
    | false => rfl
    | true =>
      rw [Bool.not_true, cond_false, Bool.true_and]
      by_cases k2 : n.k = 2
      · rw [if_pos k2, k2, show ((2 : Int) == 2) = true from rfl, cond_true]
        by_cases i0 : n.i = 0
        · rw [i0]; rfl
        · rw [beq_eq_false_iff_ne.2 i0, cond_false]
          by_cases i1 : n.i = 1
          · rw [i1]; rfl
          · rw [beq_eq_false_iff_ne.2 i1]
            have : inR n.i 0 1 = false := by unfold inR; simp; omega
            rw [this]
      rw [beq_eq_false_iff_ne.2 k2, cond_false, if_neg k2]
      by_cases k3 : n.k = 3
      · rw [if_pos k3, k3, show ((3 : Int) == 3) = true from rfl, cond_true, l98', Option.bind_some]; rfl
      rw [beq_eq_false_iff_ne.2 k3, cond_false, if_neg k3]
      by_cases k10 : n.k = 10
      · rw [if_pos k10, k10, show ((10 : Int) == 10) = true from rfl, cond_true, l98', Option.bind_some]; rfl
      rw [beq_eq_false_iff_ne.2 k10, cond_false, if_neg k10]
      by_cases k11 : n.k = 11
      · rw [if_pos k11, k11, show ((11 : Int) == 11) = true from rfl, cond_true, l98', Option.bind_some]; rfl
      rw [beq_eq_false_iff_ne.2 k11, cond_false, if_neg k11]
end Go.Proofs.Ytadmoackacickaa
/- The reference's TreeOk. -/
set_option linter.unusedSimpArgs false
namespace Go.Proofs.Ytadmoackacickaa
open Go Go.AH

def clsOk (c k : Int) : Bool := if c = 6 then k == 9 else (cls k == c && c != 0)
abbrev FRes := (Int × Bool) × List Bool
def kidsGo (F : Int → Int → Int → List Bool → FRes) (i : Int) : List Int → List Int → Int → List Bool → FRes
  | [], _, next, seen => ((next + 1, next == i), seen)
  | kid :: ks, s :: ss, next, seen => if kid ≥ i then ((0, false), seen) else if (F kid s next seen).1.2 = true then kidsGo F i ks ss (F kid s next seen).1.1 (F kid s next seen).2 else ((0, false), (F kid s next seen).2)
  | _ :: _, [], _, seen => ((0, false), seen)
def nodeFit (n : Kn) (c : Int) : Bool := clsOk c n.k && (((shape n.k n.ks.length).length : Int) == (n.ks.length : Int) && hasP n)
def fitsP (T : List Kn) : Nat → Int → Int → Int → List Bool → FRes
  | 0, _, _, _, seen => ((0, false), seen)
  | f + 1, i, c, next, seen =>
    match T[i.toNat]? with
    | some n => if 0 ≤ i ∧ seen[i.toNat]? = some false then (if nodeFit n c = true then kidsGo (fitsP T f) i n.ks (shape n.k n.ks.length) next (seen.set i.toNat true) else ((0, false), seen.set i.toNat true)) else ((0, false), seen)
    | none => ((0, false), seen)
def bools (l : List Bool) : List Value := l.map Value.bool
theorem bools_set (ys : List Bool) (j : Nat) (v : Bool) : (bools ys).set j (.bool v) = bools (ys.set j v) := by simp [bools, List.map_set]
/-- All rows but those of bools are as they were. -/
def Keep4 (h h' : AHeap) : Prop := ∀ j o, h.at? j = some o → o.elem ≠ 4 → h'.at? j = some o
theorem Keep4.refl (h : AHeap) : Keep4 h h := fun _ _ h _ => h
theorem Keep4.trans {h h' h'' : AHeap} (x : Keep4 h h') (y : Keep4 h' h'') : Keep4 h h'' := fun j o a b => y j o (x j o a b) b
theorem Keep4.ext {h h' : AHeap} (x : Ext h.size h h') : Keep4 h h' := fun j o a _ => x.at? (at?_obj a).2.1 a
def RowE (h : AHeap) (i : Nat) (e : TypeId) (cs : List Value) : Prop := ∃ o, h.at? i = some o ∧ o.elem = e ∧ o.cells = cs
theorem RowE.row {h : AHeap} {i : Nat} {e : TypeId} {cs : List Value} (x : RowE h i e cs) : Row h i cs := let ⟨o, a, _, b⟩ := x; ⟨o, a, b⟩
theorem RowE.keep {h h' : AHeap} {i : Nat} {e : TypeId} {cs : List Value} (x : RowE h i e cs) (he : e ≠ 4) (k : Keep4 h h') : RowE h' i e cs := let ⟨o, a, b, c⟩ := x; ⟨o, k i o a (by rw [b]; exact he), b, c⟩
theorem Own.rowE {b : Nat} {h : AHeap} {i : Nat} {e : TypeId} {cs : List Value} (x : Own b h i e cs) : RowE h i e cs := let ⟨_, _, a, _⟩ := x; ⟨_, a, rfl, rfl⟩
def fv (r : FRes) : Value := .tuple (List.toArray [.int .i64 r.1.1, .bool r.1.2])
def Is57 (b : Nat) (s : Nat) (h : AHeap) (o : Option (Value × AHeap)) (i : Int) (r : FRes) (m : Nat) : Prop :=
  ∃ h', o = some (fv r, h') ∧ Ext b h h' ∧ Keep4 h h' ∧ Own b h' s 4 (bools r.2) ∧ r.2.length = m ∧ (r.1.2 = true → r.1.1 = i + 1 ∧ 0 ≤ i)
theorem Is57.of {b s m : Nat} {h h1 : AHeap} {o : Option (Value × AHeap)} {i : Int} {r : FRes} (x : Ext b h h1) (k : Keep4 h h1) (y : Is57 b s h1 o i r m) : Is57 b s h o i r m :=
  let ⟨h', h1, h2, h3, h4, h5, h6⟩ := y; ⟨h', h1, x.trans h2, k.trans h3, h4, h5, h6⟩
theorem fits_loop {D N b s : Nat} {nv : Value} {T : List Kn} {top : Int} (hT : T.length ≤ 3000) {F : Int → Int → Int → List Bool → FRes}
    {iN : Nat} (hi : iN < T.length) {kv sv : Value} {n : Kn} {sh : List Int} (hsl : sh.length = n.ks.length) (hkl : n.ks.length ≤ 1048576)
    (hF : ∀ (i c next : Int) (seen : List Bool) (h : AHeap), i < iN → 0 ≤ next → next ≤ 10000 → KSl b h nv T → Own b h s 4 (bools seen) → seen.length = T.length → Is57 b s h (call Try.prog Ms D 57 [trVal nv top, .int .i64 i, .int .i64 c, .int .i64 next, slc s 0 T.length] h) i (F i c next seen) T.length)
    {p q c0 : Nat} :
    ∀ (k j m : Nat) (next : Int) (seen : List Bool) (h : AHeap), n.ks.length - j = k → j ≤ n.ks.length → k < m → 0 ≤ next → next ≤ 10000 → KSl b h nv T → Own b h s 4 (bools seen) → seen.length = T.length →
      RowE h p 35 [nv, .int .i64 top] → RowE h q 73 (knCells n kv) → IOwn c0 h sv sh → (∀ h', Keep4 h h' → Ext b h h' → ISl b h' kv n.ks) →
      Is57 b s h (s57_6 hk0 (call Try.prog Ms D) N m (iN : Int) next (slc s 0 T.length) (ptr p 0) (ptr q 0) sv (j : Int) h) (iN : Int) (kidsGo F (iN : Int) (n.ks.drop j) (sh.drop j) next seen) T.length := by
  intro k
  induction k with
  | zero =>
    intro j m next seen h hk hj hm h0 h1 x o hs rp rq isv hkv
    obtain ⟨m, rfl⟩ : ∃ q, m = q + 1 := ⟨m - 1, by omega⟩
    have : ¬ ((j : Int) < (n.ks.length : Int)) := by omega
    obtain ⟨_, _, _, a3, _⟩ := ld4 rq.row
    have ik := hkv h (Keep4.refl h) (Ext.refl _ _)
    have w : IntKind.i64.wrap (next + 1) = next + 1 := wr (by omega) (by omega)
    rw [s57_6_eq, List.drop_eq_nil_of_le (by omega)]
    simp only [aOff_ptr, Nat.zero_add, Option.bind_some, a3, ik.len, asI, if_true, decide_eq_false this, cond_false, w, kidsGo]
    exact ⟨h, rfl, Ext.refl _ _, Keep4.refl _, o, hs, fun e => ⟨by rw [show next = iN by simpa using e], by omega⟩⟩
  | succ k ih =>
    intro j m next seen h hk hj hm h0 h1 x o hs rp rq isv hkv
    obtain ⟨m, rfl⟩ : ∃ q, m = q + 1 := ⟨m - 1, by omega⟩
    have hlt : j < n.ks.length := by omega
    have hlt2 : j < sh.length := by omega
    have hI : ((j : Int) < (n.ks.length : Int)) := by omega
    obtain ⟨_, _, _, a3, _⟩ := ld4 rq.row
    obtain ⟨_, _, ap⟩ := ld2 rp.row
    have ap' : aLdN h (ptr p 0) 2 = some (trVal nv top) := ap
    have ik := hkv h (Keep4.refl h) (Ext.refl _ _)
    obtain ⟨pk, e1, e2⟩ := ik.at hlt
    obtain ⟨ps, f1, f2⟩ := isv.isl.at hlt2
    have wj : IntKind.i64.wrap ((j : Int) + 1) = ((j + 1 : Nat) : Int) := by rw [wr (by omega) (by omega)]; omega
    rw [s57_6_eq, List.drop_eq_getElem_cons hlt, List.drop_eq_getElem_cons hlt2, kidsGo]
    simp only [aOff_ptr, Nat.zero_add, Option.bind_some, a3, ik.len, asI, if_true, decide_eq_true hI, cond_true, e1, e2]
    by_cases hge : n.ks[j] ≥ (iN : Int)
    · rw [decide_eq_true hge, cond_true, if_pos hge]
      exact ⟨h, rfl, Ext.refl _ _, Keep4.refl _, o, hs, fun e => by cases e⟩
    · rw [decide_eq_false hge, cond_false, if_neg hge]
      simp only [ap', f1, f2, Option.bind_some, if_true]
      obtain ⟨h2, c2, x2, k2, o2, hs2, ha2⟩ := hF n.ks[j] sh[j] next seen h (by omega) h0 h1 x o hs
      rw [c2, Option.bind_some]
      generalize F n.ks[j] sh[j] next seen = r at o2 hs2 ha2 ⊢
      obtain ⟨⟨af, fine⟩, seen2⟩ := r
      have t0 : aExt (fv ((af, fine), seen2)) 0 = some (.int .i64 af) := rfl
      have t1 : aExt (fv ((af, fine), seen2)) 1 = some (.bool fine) := rfl
      simp only [t0, t1, Option.bind_some, asI, asB, if_true] at ha2 ⊢
      cases fine with
      | false =>
        rw [Bool.not_false, cond_true, if_neg (by simp)]
        exact ⟨h2, rfl, x2, k2, o2, hs2, fun e => by cases e⟩
      | true =>
        obtain ⟨haf, hk0'⟩ := ha2 rfl
        rw [Bool.not_true, cond_false, if_pos rfl, wj]
        refine Is57.of x2 k2 (ih (j + 1) m af seen2 h2 (by omega) (by omega) (by omega) (by omega) (by omega) (x.ext x2) o2 hs2 (rp.keep (by decide) k2) (rq.keep (by decide) k2) (isv.keep (e := 4) (by decide) k2) (fun h' k' e' => hkv h' (k2.trans k') (x2.trans e')))
theorem RowE.new (h : AHeap) (e : TypeId) (cs : List Value) : RowE (h.new e cs) h.size e cs := Own.rowE (Own.new (Nat.le_refl h.size) e cs)
theorem fits_out {d b s e : Nat} (hd : 1048577 < d) {nv : Value} {T : List Kn} {top : Int} (hT : T.length ≤ 3000) {i c next : Int} {seen : List Bool} {h : AHeap} (he : d ≤ e)
    (hin : ¬ (0 ≤ i ∧ i ≤ (T.length : Int) - 1)) (x : KSl b h nv T) (o : Own b h s 4 (bools seen)) (hs : seen.length = T.length) :
    Is57 b s h (call Try.prog Ms (e + 6) 57 [trVal nv top, .int .i64 i, .int .i64 c, .int .i64 next, slc s 0 T.length] h) i ((0, false), seen) T.length := by
  have hbs : b ≤ h.size := Nat.le_of_lt (Nat.lt_of_le_of_lt o.lt.1 o.lt.2)
  have e1 := Ext.new (Nat.le_refl h.size) 35 [nv, .int .i64 top]
  have k1 := Keep4.ext e1
  have r1 := RowE.new h 35 [nv, .int .i64 top]
  have hcall : call Try.prog Ms (e + 6) 57 [trVal nv top, .int .i64 i, .int .i64 c, .int .i64 next, slc s 0 T.length] h = evFn hk0 Try.prog (call Try.prog Ms (e + 5)) M57 (e + 5) Try.f57 [trVal nv top, .int .i64 i, .int .i64 c, .int .i64 next, slc s 0 T.length] h := c57 (e + 5) _ _
  rw [hcall, e57, tr_aCells x, Option.bind_some]
  simp only [aNew]
  have o1 := o.ext e1 o.lt.2
  generalize h.new 35 [nv, .int .i64 top] = h1 at e1 k1 r1 o1 ⊢
  refine Is57.of (e1.mono hbs) k1 ?_
  obtain ⟨a0, _, _⟩ := ld2 r1.row
  have w : IntKind.i64.wrap ((T.length : Int) - 1) = (T.length : Int) - 1 := wr (by omega) (by omega)
  have l98' : ∀ (x a b : Int) (h : AHeap), call Try.prog Ms (e + 5) 98 [.int .i64 x, .int .i64 a, .int .i64 b] h = some (.bool (inR x a b), h) := l98 (e + 4)
  simp only [aOff_ptr, Nat.zero_add, Option.bind_some, a0, x.len, asI, if_true, w]
  rw [l98', Option.bind_some]
  simp only [asB, Option.bind_some]
  have hR : inR i 0 ((T.length : Int) - 1) = false := by unfold inR; simp; omega
  rw [hR, Bool.not_false, cond_true, s57_0_j, s57_0_eq, cond_true]
  exact ⟨h1, rfl, Ext.refl _ _, Keep4.refl _, o1, hs, fun e => by cases e⟩
theorem fits57 {d b s : Nat} (hd : 1048577 < d) {nv : Value} {T : List Kn} {top : Int} (hT : T.length ≤ 3000) (hN : ∀ n ∈ T, n.t.size ≤ 1048576 ∧ n.ks.length ≤ 1048576) : ∀ (f e : Nat) (i c next : Int) (seen : List Bool) (h : AHeap), d + f ≤ e →
    i < f → 0 ≤ next → next ≤ 10000 → KSl b h nv T → Own b h s 4 (bools seen) → seen.length = T.length →
    Is57 b s h (call Try.prog Ms (e + 6) 57 [trVal nv top, .int .i64 i, .int .i64 c, .int .i64 next, slc s 0 T.length] h) i (fitsP T f i c next seen) T.length := by
  intro f
  induction f with
  | zero =>
    intro e i c next seen h he hif _ _ x o hs
    exact fits_out hd hT (by omega) (by omega) x o hs
  | succ f ih =>
    intro e i c next seen h he hif hn0 hn1 x o hs
    obtain ⟨e, rfl⟩ : ∃ q, e = q + 1 := ⟨e - 1, by omega⟩
    have hbs : b ≤ h.size := Nat.le_of_lt (Nat.lt_of_le_of_lt o.lt.1 o.lt.2)
    have e1 := Ext.new (Nat.le_refl h.size) 35 [nv, .int .i64 top]
    have k1 := Keep4.ext e1
    have r1 := RowE.new h 35 [nv, .int .i64 top]
    have s1 : (h.new 35 [nv, .int .i64 top]).size = h.size + 1 := rfl
    have hcall : call Try.prog Ms (e + 1 + 6) 57 [trVal nv top, .int .i64 i, .int .i64 c, .int .i64 next, slc s 0 T.length] h = evFn hk0 Try.prog (call Try.prog Ms (e + 6)) M57 (e + 6) Try.f57 [trVal nv top, .int .i64 i, .int .i64 c, .int .i64 next, slc s 0 T.length] h := c57 (e + 6) _ _
    rw [hcall, e57, tr_aCells x, Option.bind_some]
    simp only [aNew]
    have x1 := x.ext (e1.mono hbs)
    have o1 := o.ext e1 o.lt.2
    generalize h.new 35 [nv, .int .i64 top] = h1 at e1 k1 r1 s1 x1 o1 ⊢
    refine Is57.of (e1.mono hbs) k1 ?_
    obtain ⟨a0, _, _⟩ := ld2 r1.row
    have w : IntKind.i64.wrap ((T.length : Int) - 1) = (T.length : Int) - 1 := wr (by omega) (by omega)
    have l98' : ∀ (x a b : Int) (h : AHeap), call Try.prog Ms (e + 6) 98 [.int .i64 x, .int .i64 a, .int .i64 b] h = some (.bool (inR x a b), h) := l98 (e + 5)
    simp only [aOff_ptr, Nat.zero_add, Option.bind_some, a0, x.len, asI, if_true, w]
    rw [l98', Option.bind_some]
    simp only [asB, Option.bind_some]
    have bad : ∀ sn : List Bool, sn.length = T.length → Own b h1 s 4 (bools sn) → Is57 b s h1 (some (.tuple (List.toArray [.int .i64 0, .bool false]), h1)) i ((0, false), sn) T.length := fun sn hsn on => ⟨h1, rfl, Ext.refl _ _, Keep4.refl _, on, hsn, fun e => by cases e⟩
    unfold fitsP
    by_cases hin : 0 ≤ i ∧ i ≤ (T.length : Int) - 1
    · obtain ⟨iN, rfl⟩ : ∃ iN : Nat, i = (iN : Int) := ⟨i.toNat, by omega⟩
      have hi : iN < T.length := by omega
      have hR : inR (iN : Int) 0 ((T.length : Int) - 1) = true := by unfold inR; simp; omega
      have hTi : T[(iN : Int).toNat]? = some T[iN] := by simp [hi]
      have hix : aIdx (slc s 0 T.length) (.int .i64 (iN : Int)) 1 = some (ptr s iN) := by simp [aIdx, slc, hi]
      have hld : aLd1 h1 (ptr s iN) = some (.bool (seen[iN]'(by omega))) := o1.row.ld1 (by simp [bools, show iN < seen.length by omega])
      have hsi : seen[(iN : Int).toNat]? = some (seen[iN]'(by omega)) := by simp [show iN < seen.length by omega]
      rw [hR, Bool.not_true, cond_false, hTi, hsi]
      simp only [hix, hld, Option.bind_some, asB]
      rw [s57_0_j, s57_0_eq]
      cases hsn : seen[iN]'(by omega) with
      | true =>
        rw [cond_true, if_neg (by simp)]
        exact bad seen hs o1
      | false =>
        rw [cond_false, if_pos ⟨by omega, rfl⟩, s57_1_j, s57_1_eq]
        obtain ⟨h2, t2, x2, o2, s2, k2⟩ := Own.stX o1 (off := iN) (n := 1) (v := .bool true) rfl rfl (by simp [bools]; omega)
        have o2' : Own b h2 s 4 (bools (seen.set iN true)) := by
          have : splice (bools seen) iN [Value.bool true] = bools (seen.set iN true) := by
            rw [← bools_set]; unfold splice
            rw [List.set_eq_take_append_cons_drop, if_pos (by simp [bools]; omega)]; simp
          rw [this] at o2; exact o2
        have K2 : Keep4 h1 h2 := k2
        have r2 := r1.keep (by decide) K2
        obtain ⟨b0, _, bT⟩ := ld2 r2.row
        have xx2 := x1.ext x2
        obtain ⟨id, kv, g1, g2, g3⟩ := xx2.at hi
        obtain ⟨g4, _⟩ := g3 h2 (Ext.refl _ _)
        have e3 := Ext.new (Nat.le_refl h2.size) 73 [.int .i64 0, .string ⟨#[]⟩, .int .i64 0, .slice none 0 0]
        have o3 := Own.new (Nat.le_refl h2.size) 73 [.int .i64 0, .string ⟨#[]⟩, .int .i64 0, .slice none 0 0]
        have s3 : (h2.new 73 [.int .i64 0, .string ⟨#[]⟩, .int .i64 0, .slice none 0 0]).size = h2.size + 1 := rfl
        simp only [hix, t2, aOff_ptr, Nat.zero_add, Option.bind_some, b0, g1, g4, aNew]
        generalize h2.new 73 [.int .i64 0, .string ⟨#[]⟩, .int .i64 0, .slice none 0 0] = h3 at e3 o3 s3 ⊢
        have hb2 : b ≤ h2.size := by omega
        obtain ⟨h4, t4, x4, o4, s4⟩ := Own.stN o3 (n := 4) (v := knVal T[iN] kv) (kn_aCells g2) rfl rfl
        have r4 : RowE h4 h2.size 73 (knCells T[iN] kv) := Own.rowE o4
        have X4 : Ext h2.size h2 h4 := e3.trans x4
        obtain ⟨d0, _, _, _, dN⟩ := ld4 r4.row
        have dN' : aLdN h4 (ptr h2.size 0) 4 = some (knVal T[iN] kv) := dN
        have l99' : ∀ (k : Int) (h : AHeap), call Try.prog Ms (e + 6) 99 [.int .i64 k] h = some (.int .i64 (cls k), h) := l99 (e + 5)
        have d0' : aLd1 h4 (ptr h2.size 0) = some (.int .i64 T[iN].k) := d0
        simp only [t4, aOff_ptr, Nat.zero_add, Option.bind_some, d0', asI, if_true]
        rw [l99', Option.bind_some]
        simp only [asI, if_true, Option.bind_some]
        have E : ∀ g : Bool → Option (Value × AHeap), (bif cls T[iN].k == c then g (c != 0) else g false) = g (cls T[iN].k == c && c != 0) := by
          intro g; cases (cls T[iN].k == c) <;> rfl
        rw [E (fun t => s57_2 hk0 (call Try.prog Ms (e + 6)) (e + 6) (iN : Int) c next (slc s 0 T.length) (ptr h.size 0) (ptr h2.size 0) t h4), s57_2_j, s57_2_eq]
        have Ecls : (bif c == 6 then s57_3 hk0 (call Try.prog Ms (e + 6)) (e + 6) (iN : Int) next (slc s 0 T.length) (ptr h.size 0) (ptr h2.size 0) (T[iN].k == 9) h4 else s57_3 hk0 (call Try.prog Ms (e + 6)) (e + 6) (iN : Int) next (slc s 0 T.length) (ptr h.size 0) (ptr h2.size 0) (cls T[iN].k == c && c != 0) h4) = s57_3 hk0 (call Try.prog Ms (e + 6)) (e + 6) (iN : Int) next (slc s 0 T.length) (ptr h.size 0) (ptr h2.size 0) (clsOk c T[iN].k) h4 := by
          unfold clsOk
          by_cases c6 : c = 6
          · subst c6; rw [show ((6 : Int) == 6) = true from rfl, cond_true, if_pos rfl]
          · rw [beq_eq_false_iff_ne.2 c6, cond_false, if_neg c6]
        simp only [aOff_ptr, Nat.zero_add, Option.bind_some, d0', asI, if_true]
        rw [Ecls, s57_3_j, s57_3_eq]
        have K4 : Keep4 h2 h4 := Keep4.ext X4
        have oo4 := o2'.ext X4 o2'.lt.2
        have r14 := r2.keep (by decide) K4
        have g24 := g2.ext (X4.mono hb2)
        have hok := hN T[iN] (List.getElem_mem hi)
        obtain ⟨sv, h5, c5, x5, i5⟩ := l100 (d := e + 5) (by omega) g24 hok.2
        have c5' : call Try.prog Ms (e + 6) 100 [knVal T[iN] kv] h4 = _ := c5
        have hb4 : b ≤ h4.size := Nat.le_trans hb2 X4.size
        have K5 : Keep4 h4 h5 := Keep4.ext x5
        have r45 := r4.keep (by decide) K5
        obtain ⟨_, _, _, _, dN5⟩ := ld4 r45.row
        have dN5' : aLdN h5 (ptr h2.size 0) 4 = some (knVal T[iN] kv) := dN5
        have oo5 := oo4.ext x5 oo4.lt.2
        refine Is57.of x2 K2 (Is57.of (X4.mono hb2) K4 (Is57.of (x5.mono hb4) K5 ?_))
        have t0 : ∀ b' : Bool, aExt (.tuple (List.toArray [sv, .bool b'])) 0 = some sv := fun _ => rfl
        have t1 : ∀ b' : Bool, aExt (.tuple (List.toArray [sv, .bool b'])) 1 = some (.bool b') := fun _ => rfl
        rw [dN', Option.bind_some, c5', Option.bind_some]
        simp only [t0, t1, Option.bind_some, asB]
        have hset : (seen.set (iN : Int).toNat true) = seen.set iN true := rfl
        have hlen1 : (seen.set iN true).length = T.length := by simp [hs]
        have bad5 : ∀ h6, Ext b h5 h6 → Keep4 h5 h6 → Own b h6 s 4 (bools (seen.set iN true)) → Is57 b s h5 (s57_4 hk0 (call Try.prog Ms (e + 6)) (e + 6) (iN : Int) next (slc s 0 T.length) (ptr h.size 0) (ptr h2.size 0) sv true h6) (iN : Int) ((0, false), seen.set iN true) T.length := by
          intro h6 xx kk oo
          rw [s57_4_j, s57_4_eq, cond_true]
          exact ⟨h6, rfl, xx, kk, oo, hlen1, fun e => by cases e⟩
        unfold nodeFit
        rw [hset]
        cases hc1 : clsOk c T[iN].k with
        | false =>
          rw [Bool.not_false, cond_true, Bool.false_and, if_neg (by simp)]
          exact bad5 h5 (Ext.refl _ _) (Keep4.refl _) oo5
        | true =>
          rw [Bool.not_true, cond_false, Bool.true_and]
          cases hc2 : (((shape T[iN].k T[iN].ks.length).length : Int) == (T[iN].ks.length : Int)) with
          | false =>
            rw [Bool.not_false, cond_true, Bool.false_and, if_neg (by simp)]
            exact bad5 h5 (Ext.refl _ _) (Keep4.refl _) oo5
          | true =>
            rw [Bool.not_true, cond_false, Bool.true_and, dN5', Option.bind_some]
            obtain ⟨h6, c6, x6⟩ := l101 (d := e + 2) (by omega) (g24.ext (x5.mono hb4)) hok.1
            have c6' : call Try.prog Ms (e + 6) 101 [knVal T[iN] kv] h5 = _ := c6
            have hb5 : b ≤ h5.size := Nat.le_trans hb4 x5.size
            have K6 : Keep4 h5 h6 := Keep4.ext x6
            have oo6 := oo5.ext x6 oo5.lt.2
            rw [c6', Option.bind_some]
            simp only [asB, Option.bind_some]
            cases hc3 : hasP T[iN] with
            | false =>
              rw [Bool.not_false, if_neg (by simp)]
              exact bad5 h6 (x6.mono hb5) K6 oo6
            | true =>
              rw [Bool.not_true, if_pos rfl, s57_4_j, s57_4_eq, cond_false, s57_5_j, s57_5_eq]
              refine Is57.of (x6.mono hb5) K6 ?_
              have xx6 := ((xx2.ext (X4.mono hb2)).ext (x5.mono hb4)).ext (x6.mono hb5)
              have gk6 := (g24.ext (x5.mono hb4)).ext (x6.mono hb5)
              have hsl : (shape T[iN].k T[iN].ks.length).length = T[iN].ks.length := by
                have := beq_iff_eq.1 hc2
                omega
              have := fits_loop (D := e + 6) (N := e + 6) (top := top) (F := fitsP T f) hT hi (kv := kv) (sv := sv) (n := T[iN]) hsl hok.2 (fun i' c' next' seen' h' a1 a2 a3 a4 a5 a6 => ih e i' c' next' seen' h' (by omega) (by omega) a2 a3 a4 a5 a6) (p := h.size) (q := h2.size)
                T[iN].ks.length 0 (e + 6) next (seen.set iN true) h6 (by omega) (by omega) (by omega) hn0 hn1 xx6 oo6 hlen1 ((r14.keep (by decide) K5).keep (by decide) K6) (r45.keep (by decide) K6) (i5.keep (e := 4) (by decide) K6) (fun h' k' e' => gk6.ext e')
              exact this
    · have hR : inR i 0 ((T.length : Int) - 1) = false := by unfold inR; simp; omega
      rw [hR, Bool.not_false, cond_true, s57_0_j, s57_0_eq, cond_true]
      have : (match T[i.toNat]? with
        | some n => if 0 ≤ i ∧ seen[i.toNat]? = some false then (if nodeFit n c = true then kidsGo (fitsP T f) i n.ks (shape n.k n.ks.length) next (seen.set i.toNat true) else ((0, false), seen.set i.toNat true)) else ((0, false), seen)
        | none => ((0, false), seen) : FRes) = ((0, false), seen) := by
        by_cases hpos : 0 ≤ i
        · rw [List.getElem?_eq_none (by omega)]
        · cases T[i.toNat]? with
          | none => rfl
          | some n => exact if_neg (fun hh => hpos hh.1)
      rw [this]
      exact bad seen hs o1
/-- What the reference says of a tree. -/
def specOk (T : List Kn) (top : Int) : Bool :=
  if T.length > 3000 then false
  else (fitsP T (T.length + 1) top 3 0 (List.replicate T.length false)).1.2 && (fitsP T (T.length + 1) top 3 0 (List.replicate T.length false)).1.1 == (T.length : Int)
theorem rep_bools (n : Nat) : (List.replicate n [Value.bool false]).flatten = bools (List.replicate n false) := by
  induction n with
  | zero => rfl
  | succ n ih => rw [List.replicate_succ, List.flatten_cons, ih]; simp [bools, List.replicate_succ]
theorem fits_big {T : List Kn} {f : Nat} {i c next : Int} {seen : List Bool} (h : (T.length : Int) ≤ i) : fitsP T f i c next seen = ((0, false), seen) := by
  cases f with
  | zero => rfl
  | succ f => unfold fitsP; rw [List.getElem?_eq_none (by omega)]
theorem l20 {d c : Nat} (hd : 1048577 < d) {nv : Value} {T : List Kn} {top : Int} {h : AHeap} (x : KSl c h nv T) (hc : c ≤ h.size) (hb : T.length ≤ 1048576) (hN : ∀ n ∈ T, n.t.size ≤ 1048576 ∧ n.ks.length ≤ 1048576) :
    ∃ h', call Try.prog Ms (d + 3010 + 7) 20 [trVal nv top] h = some (.bool (specOk T top), h') ∧ Ext h.size h h' := by
  have e1 := Ext.new (Nat.le_refl h.size) 35 [nv, .int .i64 top]
  have r1 := RowE.new h 35 [nv, .int .i64 top]
  have s1 : (h.new 35 [nv, .int .i64 top]).size = h.size + 1 := rfl
  have hcall : call Try.prog Ms (d + 3010 + 7) 20 [trVal nv top] h = evFn hk0 Try.prog (call Try.prog Ms (d + 3010 + 6)) M20 (d + 3010 + 6) Try.f20 [trVal nv top] h := c20 (d + 3010 + 6) _ _
  rw [hcall, e20, tr_aCells x, Option.bind_some]
  simp only [aNew]
  have x1 := x.ext (e1.mono hc)
  generalize h.new 35 [nv, .int .i64 top] = h1 at e1 r1 s1 x1 ⊢
  obtain ⟨a0, a1, aN⟩ := ld2 r1.row
  have aN' : aLdN h1 (ptr h.size 0) 2 = some (trVal nv top) := aN
  simp only [aOff_ptr, Nat.zero_add, Option.bind_some, a0, x.len, asI, if_true]
  unfold specOk
  by_cases hbig : (T.length : Int) > 3000
  · rw [decide_eq_true hbig, cond_true, if_pos (by omega)]; exact ⟨h1, rfl, e1⟩
  · rw [decide_eq_false hbig, cond_false, if_neg (by omega)]
    have e2 := Ext.new (Nat.le_refl h1.size) 4 (bools (List.replicate T.length false))
    have o2 := Own.new (Nat.le_refl h1.size) 4 (bools (List.replicate T.length false))
    have s2 : (h1.new 4 (bools (List.replicate T.length false))).size = h1.size + 1 := rfl
    simp only [aN', a1, Option.bind_some, asI, if_true]
    rw [mk_some _ _ _ _ _ (by omega) (by omega), Option.bind_some, rep_bools]
    have r2 := r1.keep (h' := h1.new 4 (bools (List.replicate T.length false))) (by decide) (Keep4.ext e2)
    generalize h1.new 4 (bools (List.replicate T.length false)) = h2 at e2 o2 s2 r2 ⊢
    obtain ⟨b0, b1, bN⟩ := ld2 r2.row
    have bN' : aLdN h2 (ptr h.size 0) 2 = some (trVal nv top) := bN
    have vi : ∀ z : Int, vbeq (.int .i64 z) (.int .i64 z) = true := fun z => by simp [vbeq, vbeq1]
    simp only [bN', b1, Option.bind_some, asI, if_true, tr_vbeq x, vi, cond_true]
    have x2 := (x1.mono (show c ≤ h1.size by omega)).ext e2
    have main : ∃ h3, call Try.prog Ms (d + 3010 + 6) 57 [trVal nv top, .int .i64 top, .int .i64 3, .int .i64 0, slc h1.size 0 T.length] h2 = some (fv (fitsP T (T.length + 1) top 3 0 (List.replicate T.length false)), h3) ∧ Ext h1.size h2 h3 ∧ Keep4 h2 h3 := by
      by_cases htop : top ≤ (T.length : Int)
      · obtain ⟨h3, c3, x3, k3, _⟩ := fits57 (b := h1.size) (s := h1.size) hd (nv := nv) (top := top) (by omega) hN (T.length + 1) (d + 3010) top 3 0 (List.replicate T.length false) h2 (by omega) (by omega) (by omega) (by omega) x2 o2 (by simp)
        exact ⟨h3, c3, x3, k3⟩
      · rw [fits_big (by omega)]
        obtain ⟨h3, c3, x3, k3, _⟩ := fits_out (b := h1.size) (s := h1.size) (e := d + 3010) (c := 3) (next := 0) (seen := List.replicate T.length false) hd (nv := nv) (top := top) (i := top) (T := T) (by omega) (by omega) (by omega) x2 o2 (by simp)
        exact ⟨h3, c3, x3, k3⟩
    obtain ⟨h3, c3, x3, k3⟩ := main
    have r3 := r2.keep (by decide) k3
    obtain ⟨d0, _, _⟩ := ld2 r3.row
    rw [c3, Option.bind_some]
    generalize fitsP T (T.length + 1) top 3 0 (List.replicate T.length false) = r
    obtain ⟨⟨af, fine⟩, sn⟩ := r
    have t0 : aExt (fv ((af, fine), sn)) 0 = some (.int .i64 af) := rfl
    have t1 : aExt (fv ((af, fine), sn)) 1 = some (.bool fine) := rfl
    refine ⟨h3, ?_, e1.trans ((e2.mono (by omega)).trans (x3.mono (by omega)))⟩
    simp only [t0, t1, Option.bind_some, asI, asB, if_true]
    cases fine with
    | false => rfl
    | true =>
      simp only [cond_true, aOff_ptr, Nat.zero_add, d0, Option.bind_some, x.len, asI, if_true, Bool.true_and]
end Go.Proofs.Ytadmoackacickaa
