/- The two Lex: what they share. -/
import Derived.Test.YtadmoackacickaaXLex15
set_option linter.unusedSimpArgs false
namespace Go.Proofs.Ytadmoackacickaa
open Go Go.AH

theorem fillTok (t : Tok) : aFill [.int .i64 0, .int .i64 0, .string ⟨#[]⟩, .int .i64 0] [(0, 4, t.val)] = some t.cells := rfl
/-- The tokens so far. -/
def OR (b : Nat) (h : AHeap) (v : Value) (ts : List Tok) : Prop := ∃ r, v = slc r 0 ts.length ∧ Own b h r 53 (flat ts)
theorem OR.os {b : Nat} {h : AHeap} {v : Value} {ts : List Tok} (x : OR b h v ts) : OS b h v ts := .inr x
theorem OR.ext {b : Nat} {h h' : AHeap} {v : Value} {ts : List Tok} (x : OR b h v ts) (e : Ext h.size h h') : OR b h' v ts := let ⟨r, h1, h2⟩ := x; ⟨r, h1, h2.ext e h2.lt.2⟩
theorem OR.isS2 {b : Nat} {h : AHeap} {v : Value} {ts : List Tok} (x : OR b h v ts) (c n : Int) : List.all [v, .int .i64 c, .int .i64 n] isS2 = true := by obtain ⟨r, rfl, _⟩ := x; rfl
theorem OR.push {b : Nat} {h : AHeap} {v : Value} {ts : List Tok} (x : OR b h v ts) (hb : b ≤ h.size) (hl : ts.length ≤ 3000) (t : Tok) :
    ∃ v' h', aApp (h.new 53 t.cells) 53 4 40 v (slc h.size 0 1) = some (v', h') ∧ Ext b h h' ∧ OR b h' v' (ts ++ [t]) := by
  obtain ⟨r, rfl, o⟩ := x
  have e := Ext.new (Nat.le_refl h.size) 53 t.cells
  have w := (Own.new (b := 0) (Nat.zero_le h.size) 53 t.cells).row
  have hS : (h.new 53 t.cells).size = h.size + 1 := rfl
  have hsrc : aSrc (h.new 53 t.cells) 4 (slc h.size 0 1) = some (1, t.cells) := w.src (n := 1) (esz := 4) (by show 0 + 1 * 4 ≤ 4; omega)
  obtain ⟨h', s1, x1, o1, _⟩ := (o.ext e o.lt.2).app (n := ts.length) (bytes := 40) (esz := 4) (by omega) hsrc (flat_len ts).symm (by show ts.length + 1 ≤ 140737488355328; omega) (by show (ts.length + 1) * 40 ≤ 140737488355328; omega)
  refine ⟨_, h', s1, (e.mono hb).trans x1, (h.new 53 t.cells).size, by simp, ?_⟩
  rw [show flat (ts ++ [t]) = flat ts ++ t.cells by simp [flat]]
  exact o1
theorem tok_new (h : AHeap) (t : Tok) : ∃ h', aSt (h.new 53 [.int .i64 0, .int .i64 0, .string ⟨#[]⟩, .int .i64 0]) (ptr h.size 0) t.val 4 = some h' ∧ Ext h.size h h' ∧ aLdN h' (ptr h.size 0) 4 = some t.val := by
  obtain ⟨h', s1, x1, t1⟩ := (TB.new h tok0).stAll t
  exact ⟨h', s1, (Ext.new (Nat.le_refl h.size) 53 tok0.cells).trans x1, TB.ldAll t1.row⟩
theorem marks_pos : ∀ m ∈ marksL, 1 ≤ m.size := by decide
theorem tokR_bd {s : ByteArray} {i : Nat} (hi : i < s.size) (h0 : (tokR s i).2.1 = 0) : i < (tokR s i).2.2 ∧ (tokR s i).2.2 ≤ s.size := by
  have B : ∀ p : Int → Bool, p (bt s i) = true → i < endOf p s i ∧ endOf p s i ≤ s.size := fun p hp => by
    rw [endOf_step hi hp]
    have := endOf_bd (p := p) (s := s) _ (i + 1) rfl (by omega)
    omega
  unfold tokR at h0 ⊢
  by_cases hL : isLet (bt s i) = true
  · rw [if_pos hL] at h0 ⊢
    have := B _ hL
    by_cases hW : isWd (s.extract i (endOf isLet s i)) = true
    · rw [if_pos hW]; exact this
    · rw [if_neg hW] at h0 ⊢
      by_cases hn : endOf isLet s i - i > 12
      · rw [if_pos hn] at h0; cases h0
      · rw [if_neg hn]; exact this
  · rw [if_neg hL] at h0 ⊢
    by_cases hD : isDig (bt s i) = true
    · rw [if_pos hD] at h0 ⊢
      by_cases hN : numBad s i = true
      · rw [if_pos hN] at h0; cases h0
      · rw [if_neg hN]; exact B _ hD
    · rw [if_neg hD] at h0 ⊢
      by_cases h34 : bt s i = 34
      · rw [if_pos h34] at h0 ⊢
        have := endOf_bd (p := isPln) (s := s) _ (i + 1) rfl (by omega)
        by_cases hc : endOf isPln s (i + 1) ≥ s.size ∨ bt s (endOf isPln s (i + 1)) ≠ 34 ∨ endOf isPln s (i + 1) - i - 1 > 160
        · rw [if_pos hc] at h0; cases h0
        · rw [if_neg hc]
          show i < endOf isPln s (i + 1) + 1 ∧ endOf isPln s (i + 1) + 1 ≤ s.size
          omega
      · rw [if_neg h34] at h0 ⊢
        unfold markOf at h0 ⊢
        cases hm : marksL.find? (hitM s i) with
        | none => rw [hm] at h0; cases h0
        | some m =>
          have h1 := marks_pos m (List.mem_of_find?_eq_some hm)
          have h2 := List.find?_some hm
          unfold hitM at h2
          simp only [Bool.and_eq_true, decide_eq_true_eq] at h2
          exact ⟨by show i < i + m.size; omega, h2.1⟩
def IsLex (b : Nat) (h : AHeap) (r : Option (Value × AHeap)) (L : List Tok × Nat × Nat) : Prop :=
  ∃ (h' : AHeap) (v : Value), r = some (.tuple (List.toArray [v, .int .i64 (L.2.1 : Int), .int .i64 (L.2.2 : Int)]), h') ∧ Ext b h h' ∧ OS b h' v L.1 ∧ L.1.length ≤ 3000
theorem IsLex.of {b : Nat} {h h1 : AHeap} {r : Option (Value × AHeap)} {L : List Tok × Nat × Nat} (x : Ext b h h1) (y : IsLex b h1 r L) : IsLex b h r L :=
  let ⟨h', v, h2, h3, h4⟩ := y; ⟨h', v, h2, x.trans h3, h4⟩
def notNl (x : Int) : Bool := x != 10
def lexR (s : ByteArray) : List Tok × Nat × Nat := if s.size > 3000 then ([], 1, 0) else lexGo s (s.size + 1) 0 []
/-- impl's loop. -/
theorem lex15 {d b : Nat} (hd : 3010 < d) {s : ByteArray} (hs : s.size ≤ 3000) : ∀ (n i m : Nat) (v : Value) (ts : List Tok) (h : AHeap), s.size - i < n → i ≤ s.size → n ≤ m → ts.length ≤ i → b ≤ h.size → OR b h v ts →
    IsLex b h (s15_0 hk0 (call Try.prog Ms (d + 3)) (d + 3) m s v (i : Int) h) (lexGo s n i ts) := by
  intro n
  induction n with
  | zero => intro i m v ts h hn; omega
  | succ n ih =>
    intro i m v ts h hn hi hm ht hb ho
    obtain ⟨m, rfl⟩ : ∃ k, m = k + 1 := ⟨m - 1, by omega⟩
    rw [s15_0_eq]
    unfold lexGo
    by_cases hlt : i < s.size
    · have hI : ((i : Nat) : Int) < (s.size : Int) := by omega
      have wi : IntKind.i64.wrap ((i : Int) + 1) = ((i + 1 : Nat) : Int) := by rw [wr (by omega) (by omega)]; omega
      rw [if_neg (by omega), decide_eq_true hI, cond_true, strIx hlt, Option.bind_some]
      simp only [asI, if_true, Option.bind_some, wi, cond_orr]
      have blank : (bt s i == 9 || (bt s i == 10 || bt s i == 32)) = decide (bt s i = 9 ∨ bt s i = 10 ∨ bt s i = 32) := by rw [Bool.eq_iff_iff]; simp
      rw [blank]
      by_cases hB : bt s i = 9 ∨ bt s i = 10 ∨ bt s i = 32
      · rw [decide_eq_true hB, cond_true, if_pos hB]
        exact ih (i + 1) m v ts h (by omega) (by omega) (by omega) (by omega) hb ho
      · rw [decide_eq_false hB, cond_false, if_neg hB, s15_1_j, s15_1_eq, wi]
        have step : IsLex b h (s15_2 hk0 (call Try.prog Ms (d + 3)) (d + 3) m s v (i : Int) h) (if (tokR s i).2.1 ≠ 0 then ([], (tokR s i).2.1, i) else lexGo s n (tokR s i).2.2 (ts ++ [(tokR s i).1])) := by
          obtain ⟨h1, c1, x1⟩ := l53 hd hs hlt h
          have hb1 : b ≤ h1.size := Nat.le_trans hb x1.size
          have bd := tokR_bd hlt
          rw [s15_2_j, s15_2_eq, c1]
          generalize tokR s i = T at bd
          obtain ⟨t, c, e⟩ := T
          simp only at bd ⊢
          obtain ⟨h2, c2, x2, l2⟩ := tok_new h1 t
          have t0 : aExt (tokV (t, c, e) i) 0 = some t.val := rfl
          have t1 : aExt (tokV (t, c, e) i) 1 = some (.int .i64 (if c = 0 then (e : Int) - (i : Int) else 0)) := rfl
          have t2 : aExt (tokV (t, c, e) i) 2 = some (.int .i64 (c : Int)) := rfl
          simp only [Option.bind_some, t0, t1, t2, asI, if_true, aNew, c2]
          have X2 : Ext b h h2 := (x1.mono hb).trans (x2.mono hb1)
          by_cases hc : c = 0
          · subst hc
            have hne : (((0 : Nat) : Int) != 0) = false := rfl
            rw [hne, cond_false, l2, if_neg (c := (0 : Nat) ≠ 0) (by simp), if_pos (c := (0 : Nat) = 0) rfl]
            have ho2 := (ho.ext x1).ext x2
            obtain ⟨v3, h3, c3, x3, o3⟩ := ho2.push (Nat.le_trans hb1 x2.size) (by omega) t
            simp only [Option.bind_some, fillTok, aNewS, c3, if_true]
            have bd' := bd rfl
            have wj : IntKind.i64.wrap ((i : Int) + ((e : Int) - (i : Int))) = ((e : Nat) : Int) := by rw [wr (by omega) (by omega)]; omega
            rw [wj]
            exact IsLex.of (X2.trans x3) (ih e m v3 _ h3 (by omega) (by omega) (by omega) (by simp; omega) (Nat.le_trans (Nat.le_trans hb1 x2.size) x3.size) o3)
          · have hne : (((c : Nat) : Int) != 0) = true := by simp; omega
            rw [hne, cond_true, if_pos hc]
            exact ⟨h2, _, rfl, X2, .inl ⟨rfl, rfl⟩, Nat.zero_le _⟩
        by_cases h45 : bt s i = 45
        · have e1 : (bt s i == 45) = true := by rw [h45]; rfl
          rw [e1, cond_true]
          by_cases h2 : i + 1 < s.size
          · have hI2 : ((i + 1 : Nat) : Int) < (s.size : Int) := by omega
            rw [decide_eq_true hI2, cond_true, strIx h2, Option.bind_some]
            simp only [asI, if_true, Option.bind_some]
            by_cases h3 : bt s (i + 1) = 45
            · have e3 : (bt s (i + 1) == 45) = true := by rw [h3]; rfl
              have hx : endOf notNl s i = endOf notNl s (i + 1) := endOf_step hlt (by rw [h45]; rfl)
              have bd := endOf_bd (p := notNl) (s := s) _ (i + 1) rfl (by omega)
              have l51' := l51 (d := d + 2) (g := 52) (p := notNl) hs (by omega) (fun n h => l52 (d + 1) n h) (i := i) (by omega) h
              rw [e3, cond_true, if_pos ⟨h45, h2, h3⟩, l51', Option.bind_some]
              simp only [asI, if_true, Option.bind_some]
              exact ih (endOf notNl s i) m v ts h (by omega) (by omega) (by omega) (by omega) hb ho
            · have e3 : (bt s (i + 1) == 45) = false := beq_eq_false_iff_ne.2 h3
              rw [e3, cond_false, if_neg (fun x => h3 x.2.2)]
              exact step
          · have hI2 : ¬ ((i + 1 : Nat) : Int) < (s.size : Int) := by omega
            rw [decide_eq_false hI2, cond_false, if_neg (fun x => h2 x.2.1)]
            exact step
        · have e1 : (bt s i == 45) = false := beq_eq_false_iff_ne.2 h45
          rw [e1, cond_false, if_neg (fun x => h45 x.1)]
          exact step
    · have hI : ¬ ((i : Nat) : Int) < (s.size : Int) := by omega
      rw [if_pos (by omega), decide_eq_false hI, cond_false, ho.isS2, cond_true]
      exact ⟨h, v, rfl, Ext.refl _ _, ho.os, by show ts.length ≤ 3000; omega⟩
end Go.Proofs.Ytadmoackacickaa
