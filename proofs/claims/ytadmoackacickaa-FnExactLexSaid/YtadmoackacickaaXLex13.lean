/- impl's token. -/
import Derived.Test.YtadmoackacickaaXLex12
set_option linter.unusedSimpArgs false
namespace Go.Proofs.Ytadmoackacickaa
open Go Go.AH

/-- What lexToken tells: the token, its length, a code. -/
def tokV (T : Tok × Nat × Nat) (i : Nat) : Value := .tuple (List.toArray [T.1.val, .int .i64 (if T.2.1 = 0 then (T.2.2 : Int) - (i : Int) else 0), .int .i64 (T.2.1 : Int)])
theorem size_ext {s : ByteArray} {i e : Nat} (h1 : i ≤ e) (h2 : e ≤ s.size) : ((s.extract i e).size : Int) = (e : Int) - (i : Int) := by
  rw [ByteArray.size_extract]; omega
theorem l53 {d : Nat} (hd : 3010 < d) {s : ByteArray} (hs : s.size ≤ 3000) {i : Nat} (hi : i < s.size) (h : AHeap) :
    ∃ h', call Try.prog Ms (d + 3) 53 [.string s, .int .i64 (i : Int)] h = some (tokV (tokR s i) i, h') ∧ Ext h.size h h' := by
  have x1 := Ext.new (Nat.le_refl h.size) 53 tok0.cells
  have q1 := TB.new h tok0
  have hz : ([Value.int .i64 0, .int .i64 0, .string ⟨#[]⟩, .int .i64 0] : List Value) = tok0.cells := rfl
  have l92' : ∀ (n : Int) (h : AHeap), call Try.prog Ms (d + 2) 92 [.int .u8 n] h = some (.bool (isLet n), h) := l92 (d + 1)
  have l94' : ∀ (n : Int) (h : AHeap), call Try.prog Ms (d + 2) 94 [.int .u8 n] h = some (.bool (isDig n), h) := l94 (d + 1)
  have l93' : ∀ (t : ByteArray) (h : AHeap), call Try.prog Ms (d + 2) 93 [.string t] h = some (.bool (isWd t), h) := l93 (d + 1)
  rw [c53, e53]
  simp only [aNew, hz, strIx hi, Option.bind_some, asI, if_true, l92', asB]
  unfold tokR
  cases hL : isLet (bt s i) with
  | true =>
    have hbd := endOf_bd (p := isLet) (s := s) _ i rfl (by omega)
    have l51' := l51 (d := d + 1) (g := 92) (p := isLet) hs (by omega) (fun n h => by obtain ⟨d, rfl⟩ : ∃ k, d = k + 1 := ⟨d - 1, by omega⟩; exact l92 (d + 1) n h) (i := i) (by omega) (h.new 53 tok0.cells)
    generalize endOf isLet s i = e at hbd l51'
    obtain ⟨hb1, hb2⟩ := hbd
    have x2 := Ext.new (Nat.le_refl (h.new 53 tok0.cells).size) 53 tok0.cells
    have p1 := TB.new (h.new 53 tok0.cells) tok0
    obtain ⟨h3, s3, x3, p3⟩ := p1.stAll ⟨1, i, s.extract i e, 0⟩
    have q3 := (q1.ext x2 (by simp [AHeap.new])).ext x3 (by simp [AHeap.new])
    have s3' : aSt ((h.new 53 tok0.cells).new 53 tok0.cells) (ptr (h.new 53 tok0.cells).size 0) (.agg (List.toArray [.int .i64 1, .int .i64 (i : Int), .string (s.extract i e), .int .i64 0])) 4 = some h3 := s3
    obtain ⟨_, _, a2, _⟩ := ld_at p3.row
    have X3 : Ext h.size h h3 := x1.trans ((x2.mono (by simp [AHeap.new])).trans (x3.mono (by simp [AHeap.new])))
    simp only [cond_true, l51', Option.bind_some, asI, if_true, subS hb1 hb2, asS, s3', aOff_ptr, Nat.zero_add, a2, l93', asB]
    cases hW : isWd (s.extract i e) with
    | true =>
      obtain ⟨h4, s4, x4, p4⟩ := p3.stK 2
      have q4 := q3.ext x4 (by simp [AHeap.new])
      obtain ⟨h5, e5, x5⟩ := r53_0 (C := call Try.prog Ms (d + 2)) (N := d + 2) q4 p4 (by simp [AHeap.new])
      refine ⟨h5, ?_, X3.trans ((x4.mono (by simp [AHeap.new])).trans x5)⟩
      simp only [cond_true, s4, Option.bind_some, e5, if_true, tokV, size_ext hb1 hb2]
      rfl
    | false =>
      have hc : decide (((s.extract i e).size : Int) > 12) = decide (e - i > 12) := by rw [size_ext hb1 hb2]; simp; omega
      simp only [cond_false, hc]
      by_cases hn : e - i > 12
      · obtain ⟨h4, e4, x4⟩ := ret53 q3 tok0 0 4
        refine ⟨h4, ?_, X3.trans x4⟩
        simp only [hn, decide_true, cond_true, if_true]
        rw [show tok0.cells = [.int .i64 tok0.k, .int .i64 tok0.at', .string tok0.text, .int .i64 tok0.i] from rfl, e4]
        rfl
      · obtain ⟨h5, e5, x5⟩ := r53_0 (C := call Try.prog Ms (d + 2)) (N := d + 2) q3 p3 (by simp [AHeap.new])
        refine ⟨h5, ?_, X3.trans x5⟩
        simp only [hn, decide_false, cond_false, if_false, e5, tokV, if_true, size_ext hb1 hb2]
        rfl
  | false =>
    rw [cond_false, l94', Option.bind_some]
    simp only [asB, Option.bind_some]
    cases hD : isDig (bt s i) with
    | true =>
      rw [cond_true]
      obtain ⟨h3, c3, x3⟩ := l95 hd hs hi (h.new 53 tok0.cells)
      rw [c3, Option.bind_some]
      generalize hT : (if numBad s i = true then tok0 else numTok s i) = T
      have x2 := Ext.new (Nat.le_refl h3.size) 53 tok0.cells
      have p2 := TB.new h3 tok0
      obtain ⟨h4, s4, x4, p4⟩ := p2.stAll T
      have q4 := ((q1.ext x3 (by simp [AHeap.new])).ext x2 (by have := x3.size; simp [AHeap.new] at this ⊢; omega)).ext x4 (by have := x3.size; simp [AHeap.new] at this ⊢; omega)
      obtain ⟨h5, s5, x5, q5, k5⟩ := q4.stOther p4 (by have := x3.size; simp [AHeap.new] at this ⊢; omega) T
      obtain ⟨_, _, a2, _⟩ := ld_at p4.row
      obtain ⟨_, _, b2, _⟩ := ld_at k5
      have hlt : h.size ≤ h3.size := by have := x3.size; simp [AHeap.new] at this; omega
      refine ⟨h5, ?_, x1.trans ((x3.mono (by simp [AHeap.new])).trans ((x2.mono hlt).trans ((x4.mono hlt).trans x5)))⟩
      have t1 : aExt (.tuple (List.toArray [T.val, .int .i64 (if numBad s i then 3 else 0)])) 0 = some T.val := rfl
      have t2 : aExt (.tuple (List.toArray [T.val, .int .i64 (if numBad s i then 3 else 0)])) 1 = some (.int .i64 (if numBad s i then 3 else 0)) := rfl
      simp only [t1, t2, Option.bind_some, asI, if_true]
      simp only [s4, Option.bind_some, TB.ldAll p4.row, aOff_ptr, Nat.zero_add, a2, asS]
      simp only [s5, Option.bind_some, b2, asS, vbeq_str, cond_true, TB.ldAll q5.row]
      cases hB : numBad s i with
      | true => rw [hB, if_pos rfl] at hT; subst hT; rfl
      | false =>
        rw [hB, if_neg (by simp)] at hT; subst hT
        have hbd := endOf_bd (p := isDig) (s := s) _ i rfl (by omega)
        have hz : ((numTok s i).text.size : Int) = (endOf isDig s i : Nat) - (i : Int) := size_ext hbd.1 hbd.2
        rw [hz]; rfl
    | false =>
      rw [cond_false]
      have w1 : IntKind.i64.wrap ((i : Int) + 1) = ((i + 1 : Nat) : Int) := by rw [wr (by omega) (by omega)]; omega
      have w2 : IntKind.i64.wrap ((i : Int) + 2) = ((i + 2 : Nat) : Int) := by rw [wr (by omega) (by omega)]; omega
      by_cases h34 : bt s i = 34
      · have hbd := endOf_bd (p := isPln) (s := s) _ (i + 1) rfl (by omega)
        have l51' := l51 (d := d + 1) (g := 96) (p := isPln) hs (by omega) (fun n h => by obtain ⟨d, rfl⟩ : ∃ k, d = k + 1 := ⟨d - 1, by omega⟩; exact l96 (d + 1) n h) (i := i + 1) (by omega) (h.new 53 tok0.cells)
        generalize endOf isPln s (i + 1) = e at hbd l51'
        obtain ⟨hb1, hb2⟩ := hbd
        have hE : ((bt s i == 34) : Bool) = true := by rw [h34]; rfl
        rw [hE, cond_true, w1, l51', Option.bind_some]
        obtain ⟨h4, e4, x4⟩ := ret53 q1 tok0 0 5
        have e4' : ((aSt (h.new 53 tok0.cells) (ptr h.size 0) (.agg tok0.cells.toArray) 4).bind fun h1 => (aLdN h1 (ptr h.size 0) 4).bind fun v =>
          bif List.all [v, .int .i64 0, .int .i64 5] isS2 then some (Value.tuple (List.toArray [v, .int .i64 0, .int .i64 5]), h1) else none) = some (.tuple (List.toArray [tok0.val, .int .i64 0, .int .i64 5]), h4) := e4
        simp only [asI, if_true, Option.bind_some, e4']
        rw [if_neg (by simp), if_neg (by simp), if_pos h34]
        by_cases he : e = s.size
        · refine ⟨h4, ?_, x1.trans x4⟩
          have : (((e : Nat) : Int) == (s.size : Int)) = true := by rw [he]; simp
          rw [this, cond_true, if_pos (.inl (by omega))]; rfl
        · have hlt : e < s.size := by omega
          have : (((e : Nat) : Int) == (s.size : Int)) = false := by rw [beq_eq_false_iff_ne]; omega
          have w3 : IntKind.i64.wrap ((e : Int) - (i : Int)) = (e : Int) - (i : Int) := wr (by omega) (by omega)
          have w4 : IntKind.i64.wrap ((e : Int) - (i : Int) - 1) = (e : Int) - (i : Int) - 1 := wr (by omega) (by omega)
          rw [this, cond_false, strIx hlt]
          simp only [Option.bind_some, if_true, w3, w4]
          by_cases h5 : bt s e = 34
          · have hn : (bt s e != 34) = false := by rw [h5]; rfl
            rw [hn, cond_false]
            by_cases h6 : e - i - 1 > 160
            · refine ⟨h4, ?_, x1.trans x4⟩
              have : decide ((e : Int) - (i : Int) - 1 > 160) = true := by simp; omega
              rw [this, cond_true, if_pos (.inr (.inr h6))]; rfl
            · obtain ⟨h7, e7, x7⟩ := r53_1 (C := call Try.prog Ms (d + 2)) (N := d + 2) q1 hb1 hb2 hs
              refine ⟨h7, ?_, x1.trans x7⟩
              have : decide ((e : Int) - (i : Int) - 1 > 160) = false := by simp; omega
              rw [this, cond_false, e7, if_neg (by omega)]; rfl
          · have hn : (bt s e != 34) = true := by simp [h5]
            refine ⟨h4, ?_, x1.trans x4⟩
            rw [hn, cond_true, if_pos (.inr (.inl h5))]; rfl
      · have hE : ((bt s i == 34) : Bool) = false := beq_eq_false_iff_ne.2 h34
        rw [hE, cond_false, w1, w2, if_neg (by simp), if_neg (by simp), if_neg h34, markOf_eq hi]
        obtain ⟨h3, e3, x3⟩ := r53_2 (C := call Try.prog Ms (d + 2)) (N := d + 2) (x7 := bt s i) q1 hi hs
        have fin1 : ∀ b : Bool, some (Value.tuple (List.toArray [(if b = true then ⟨5, i, s.extract i (i + 1), 0⟩ else tok0 : Tok).val, .int .i64 (if b = true then 1 else 0), .int .i64 (if b = true then 0 else 2)]), h3) =
            some (tokV (ofMark i (if b = true then some (s.extract i (i + 1)) else none)) i, h3) := by
          intro b
          cases b with
          | false => rfl
          | true =>
            have := size_ext (s := s) (i := i) (e := i + 1) (by omega) hi
            unfold tokV ofMark
            simp only [if_true]
            rw [show ((i + (s.extract i (i + 1)).size : Nat) : Int) - (i : Int) = 1 by omega]; rfl
        by_cases hlt : i + 1 < s.size
        · have hc : decide (((i + 1 : Nat) : Int) < (s.size : Int)) = true := by simp; omega
          obtain ⟨h4, e4, x4⟩ := ret53 q1 ⟨5, i, s.extract i (i + 2), 0⟩ 2 0
          rw [hc, cond_true, subS (by omega) hlt]
          simp only [Option.bind_some, asS, e3]
          simp only [e4]
          simp only [cond_twice, cond_orr, hlt, decide_true, Bool.true_and]
          cases hb : twoM (s.extract i (i + 2)) with
          | true =>
            refine ⟨h4, ?_, x1.trans x4⟩
            unfold twoM at hb
            rw [hb, cond_true, if_pos rfl]
            have := size_ext (s := s) (i := i) (e := i + 2) (by omega) hlt
            unfold tokV ofMark
            simp only [if_true]
            rw [show ((i + (s.extract i (i + 2)).size : Nat) : Int) - (i : Int) = 2 by omega]; rfl
          | false =>
            refine ⟨h3, ?_, x1.trans x3⟩
            unfold twoM at hb
            rw [hb, cond_false, if_neg (c := false = true) (by simp)]
            exact fin1 _
        · have hc : decide (((i + 1 : Nat) : Int) < (s.size : Int)) = false := by simp; omega
          refine ⟨h3, ?_, x1.trans x3⟩
          rw [hc, cond_false, e3, if_neg (c := (decide (i + 1 < s.size) && twoM (s.extract i (i + 2))) = true) (by simp [hlt])]
          exact fin1 _
end Go.Proofs.Ytadmoackacickaa
