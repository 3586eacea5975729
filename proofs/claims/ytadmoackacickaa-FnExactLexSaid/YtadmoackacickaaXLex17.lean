/- The reference's Lex. -/
import Derived.Test.YtadmoackacickaaXLex16
set_option linter.unusedSimpArgs false
namespace Go.Proofs.Ytadmoackacickaa
open Go Go.AH

/-- The reference's loop. -/
theorem lex14 {d b : Nat} (hd : 3010 < d) {s : ByteArray} (hs : s.size ≤ 3000) : ∀ (n i m : Nat) (v : Value) (ts : List Tok) (h : AHeap), s.size - i < n → i ≤ s.size → n ≤ m → ts.length ≤ i → b ≤ h.size → OR b h v ts →
    IsLex b h (s14_0 hk0 (call Try.prog Ms (d + 3)) (d + 3) m s v (i : Int) h) (lexGo s n i ts) := by
  intro n
  induction n with
  | zero => intro i m v ts h hn; omega
  | succ n ih =>
    intro i m v ts h hn hi hm ht hb ho
    obtain ⟨m, rfl⟩ : ∃ k, m = k + 1 := ⟨m - 1, by omega⟩
    rw [s14_0_eq]
    unfold lexGo
    by_cases hlt : i < s.size
    · have hI : ((i : Nat) : Int) < (s.size : Int) := by omega
      have wi : IntKind.i64.wrap ((i : Int) + 1) = ((i + 1 : Nat) : Int) := by rw [wr (by omega) (by omega)]; omega
      rw [if_neg (by omega), decide_eq_true hI, cond_true, strIx hlt, Option.bind_some]
      simp only [asI, if_true, Option.bind_some, wi, cond_orr]
      have blank : (bt s i == 9 || (bt s i == 10 || bt s i == 32)) = decide (bt s i = 9 ∨ bt s i = 10 ∨ bt s i = 32) := by rw [Bool.eq_iff_iff]; simp
      rw [blank]
      by_cases hB : bt s i = 9 ∨ bt s i = 10 ∨ bt s i = 32
      · rw [decide_eq_true hB, cond_true, if_pos hB]
        exact ih (i + 1) m v ts h (by omega) (by omega) (by omega) (by omega) hb ho
      · rw [decide_eq_false hB, cond_false, if_neg hB, s14_1_j, s14_1_eq, wi]
        have step : IsLex b h (s14_4 hk0 (call Try.prog Ms (d + 3)) (d + 3) m s v (i : Int) h) (if (tokR s i).2.1 ≠ 0 then ([], (tokR s i).2.1, i) else lexGo s n (tokR s i).2.2 (ts ++ [(tokR s i).1])) := by
          obtain ⟨h1, t, e, c1, x1, hT⟩ := l50 hd hs hlt h
          have hb1 : b ≤ h1.size := Nat.le_trans hb x1.size
          have bd := tokR_bd hlt
          rw [s14_4_j, s14_4_eq, c1]
          generalize tokR s i = T at bd hT
          obtain ⟨t', c, e'⟩ := T
          simp only at bd hT ⊢
          obtain ⟨h2, c2, x2, l2⟩ := tok_new h1 t
          have t0 : aExt (.tuple (List.toArray [t.val, .int .i64 (c : Int), .int .i64 e])) 0 = some t.val := rfl
          have t1 : aExt (.tuple (List.toArray [t.val, .int .i64 (c : Int), .int .i64 e])) 1 = some (.int .i64 (c : Int)) := rfl
          have t2 : aExt (.tuple (List.toArray [t.val, .int .i64 (c : Int), .int .i64 e])) 2 = some (.int .i64 e) := rfl
          simp only [Option.bind_some, t0, t1, t2, asI, if_true, aNew, c2]
          have X2 : Ext b h h2 := (x1.mono hb).trans (x2.mono hb1)
          by_cases hc : c = 0
          · subst hc
            obtain ⟨ht', he'⟩ := hT rfl
            subst ht'
            subst he'
            have hne : (((0 : Nat) : Int) != 0) = false := rfl
            rw [hne, cond_false, l2, if_neg (c := (0 : Nat) ≠ 0) (by simp)]
            have ho2 := (ho.ext x1).ext x2
            obtain ⟨v3, h3, c3, x3, o3⟩ := ho2.push (Nat.le_trans hb1 x2.size) (by omega) t
            simp only [Option.bind_some, fillTok, aNewS, c3, if_true]
            have bd' := bd rfl
            exact IsLex.of (X2.trans x3) (ih e' m v3 _ h3 (by omega) (by omega) (by omega) (by simp; omega) (Nat.le_trans (Nat.le_trans hb1 x2.size) x3.size) o3)
          · have hne : (((c : Nat) : Int) != 0) = true := by simp; omega
            rw [hne, cond_true, if_pos hc]
            exact ⟨h2, _, rfl, X2, .inl ⟨rfl, rfl⟩, Nat.zero_le _⟩
        by_cases h45 : bt s i = 45
        · have e1 : (bt s i == 45) = true := by rw [h45]; rfl
          rw [e1, cond_true]
          by_cases h2 : i + 1 < s.size
          · have hI2 : ((i + 1 : Nat) : Int) < (s.size : Int) := by omega
            rw [decide_eq_true hI2, cond_true, strIx h2, Option.bind_some]
            simp only [asI, if_true, Option.bind_some]
            by_cases h3 : bt s (i + 1) = 45
            · have e3 : (bt s (i + 1) == 45) = true := by rw [h3]; rfl
              have hx : endOf notNl s i = endOf notNl s (i + 1) := endOf_step hlt (by rw [h45]; rfl)
              have bd := endOf_bd (p := notNl) (s := s) _ (i + 1) rfl (by omega)
              obtain ⟨m', hm'⟩ := skip (p := notNl) (s := s) (fun n j => s14_3 hk0 (call Try.prog Ms (d + 3)) (d + 3) m n s v j h) (fun n j hj hp => by
                have : ((j : Nat) : Int) < (s.size : Int) := by omega
                have wj : IntKind.i64.wrap ((j : Int) + 1) = ((j + 1 : Nat) : Int) := by rw [wr (by omega) (by omega)]; omega
                have hp' : (bt s j != 10) = true := hp
                rw [s14_3_eq]
                simp only [this, decide_true, cond_true, strIx hj, Option.bind_some, asI, if_true, hp', wj]) _ i (d + 3) rfl (by omega) (by omega)
              have hno := endOf_no (p := notNl) (s := s) _ i rfl
              rw [e3, cond_true, if_pos ⟨h45, h2, h3⟩, s14_2_j, s14_2_eq, hm', s14_3_eq, cond_same (by
                intro hc
                have hlt : endOf notNl s i < s.size := by simpa using hc
                have hp' : (bt s (endOf notNl s i) != 10) = false := hno hlt
                simp only [strIx hlt, Option.bind_some, asI, if_true, hp', cond_false])]
              exact ih (endOf notNl s i) m v ts h (by omega) (by omega) (by omega) (by omega) hb ho
            · have e3 : (bt s (i + 1) == 45) = false := beq_eq_false_iff_ne.2 h3
              rw [e3, cond_false, if_neg (fun x => h3 x.2.2)]
              exact step
          · have hI2 : ¬ ((i + 1 : Nat) : Int) < (s.size : Int) := by omega
            rw [decide_eq_false hI2, cond_false, if_neg (fun x => h2 x.2.1)]
            exact step
        · have e1 : (bt s i == 45) = false := beq_eq_false_iff_ne.2 h45
          rw [e1, cond_false, if_neg (fun x => h45 x.1)]
          exact step
    · have hI : ¬ ((i : Nat) : Int) < (s.size : Int) := by omega
      rw [if_pos (by omega), decide_eq_false hI, cond_false, ho.isS2, cond_true]
      exact ⟨h, v, rfl, Ext.refl _ _, ho.os, by show ts.length ≤ 3000; omega⟩
theorem l15 {d : Nat} (hd : 3010 < d) (s : ByteArray) (h : AHeap) : IsLex h.size h (call Try.prog Ms (d + 4) 15 [.string s] h) (lexR s) := by
  rw [c15, e15]
  unfold lexR
  by_cases hs : s.size > 3000
  · have : ((s.size : Int) > 3000) := by omega
    rw [decide_eq_true this, cond_true, if_pos hs]
    exact ⟨h, _, rfl, Ext.refl _ _, .inl ⟨rfl, rfl⟩, Nat.zero_le _⟩
  · have : ¬ ((s.size : Int) > 3000) := by omega
    rw [decide_eq_false this, cond_false, if_neg hs]
    have x := Ext.new (Nat.le_refl h.size) 53 []
    have o := Own.new (Nat.le_refl h.size) 53 []
    exact IsLex.of x (lex15 hd (by omega) (s.size + 1) 0 (d + 3) (slc h.size 0 0) [] (h.new 53 []) (by omega) (by omega) (by omega) (by simp) x.size ⟨h.size, rfl, o⟩)
theorem l14 {d : Nat} (hd : 3010 < d) (s : ByteArray) (h : AHeap) : IsLex h.size h (call Try.prog Ms (d + 4) 14 [.string s] h) (lexR s) := by
  rw [c14, e14]
  unfold lexR
  by_cases hs : s.size > 3000
  · have : ((s.size : Int) > 3000) := by omega
    rw [decide_eq_true this, cond_true, if_pos hs]
    exact ⟨h, _, rfl, Ext.refl _ _, .inl ⟨rfl, rfl⟩, Nat.zero_le _⟩
  · have : ¬ ((s.size : Int) > 3000) := by omega
    rw [decide_eq_false this, cond_false, if_neg hs]
    have x := Ext.new (Nat.le_refl h.size) 53 []
    have o := Own.new (Nat.le_refl h.size) 53 []
    exact IsLex.of x (lex14 hd (by omega) (s.size + 1) 0 (d + 3) (slc h.size 0 0) [] (h.new 53 []) (by omega) (by omega) (by omega) (by simp) x.size ⟨h.size, rfl, o⟩)
end Go.Proofs.Ytadmoackacickaa
