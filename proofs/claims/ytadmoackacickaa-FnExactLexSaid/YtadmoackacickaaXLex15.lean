/- The reference's token. -/
import Derived.Test.YtadmoackacickaaXLex14
set_option linter.unusedSimpArgs false
namespace Go.Proofs.Ytadmoackacickaa
open Go Go.AH

theorem TB.stK9 {b b' : Nat} {h : AHeap} {i r : Nat} {t : Tok} {cs : List Value} (x : TB b h i t) (y : Own b' h r 9 cs) (v : Int) : ∃ h', aSt h (ptr i 0) (.int .i64 v) 1 = some h' ∧ Ext b h h' ∧ TB b h' i { t with k := v } ∧ Row h' r cs := by
  obtain ⟨h', h1, h2, h3, _, k⟩ := Own.st (off := 0) (n := 1) (v := .int .i64 v) x rfl rfl (by show 0 + 1 ≤ 4; omega)
  obtain ⟨r1, ep, hy, _⟩ := y
  obtain ⟨r2, ep2, hx, _⟩ := x
  refine ⟨h', h1, h2, h3, k r _ ⟨_, hy, rfl⟩ (fun o ho ⟨he, _⟩ => ?_) (fun e => ?_)⟩
  · rw [hy] at ho; cases ho; simp at he
  · subst e; rw [hy] at hx; simp at hx
def markR (s : ByteArray) (i j : Nat) : Tok × Nat × Nat :=
  ofMark i ((marksL.drop j).find? (hitM s i))
theorem marks_size : ∀ (j : Nat) (h : j < marksL.length), (marksL[j]'h).size ≤ 2 := by decide
theorem marks50 {C : ACall} {N p q r b b' c i : Nat} {s : ByteArray} {t : Tok} {h : AHeap} (hs : s.size ≤ 3000) (hi : i < s.size) (tp : TB b h p t) (tq : TB c h q ⟨0, i, ⟨#[]⟩, 0⟩) (tr : Own b' h r 9 (marksL.map Value.string)) (hpc : p < c) (hbc : b ≤ c) :
    ∀ (n j m : Nat), 21 - j = n → j ≤ 21 → n < m → Is50 b h (s50_7 hk0 C N m s (i : Int) (ptr p 0) (ptr q 0) (slc r 0 21) (j : Int) h) (markR s i j) := by
  have hl : marksL.length = 21 := rfl
  have hlen : aLen (slc r 0 21) = some (.int .i64 ((21 : Nat) : Int)) := rfl
  intro n
  induction n with
  | zero =>
    intro j m hn hj hm
    obtain ⟨m, rfl⟩ : ∃ k, m = k + 1 := ⟨m - 1, by omega⟩
    have : ¬ ((j : Int) < ((21 : Nat) : Int)) := by omega
    have hR : markR s i j = (tok0, 2, 0) := by unfold markR; rw [List.drop_eq_nil_of_le (by omega)]; rfl
    rw [s50_7_eq, hR]
    simp only [hlen, Option.bind_some, asI, if_true, this, decide_false, cond_false]
    exact ret50 tp tq rfl (fun h => by cases h)
  | succ n ih =>
    intro j m hn hj hm
    obtain ⟨m, rfl⟩ : ∃ k, m = k + 1 := ⟨m - 1, by omega⟩
    have hlt : j < marksL.length := by omega
    have hI : (j : Int) < ((21 : Nat) : Int) := by omega
    have hix : aIdx (slc r 0 21) (.int .i64 (j : Int)) 1 = some (ptr r j) := by simp [aIdx, slc]; omega
    have hld : aLd1 h (ptr r j) = some (.string (marksL[j]'hlt)) := tr.row.ld1 (by simp [hlt])
    have hsz := marks_size j hlt
    have wi : IntKind.i64.wrap ((i : Int) + ((marksL[j]'hlt).size : Int)) = ((i + (marksL[j]'hlt).size : Nat) : Int) := by rw [wr (by omega) (by omega)]; omega
    have wj : IntKind.i64.wrap ((j : Int) + 1) = ((j + 1 : Nat) : Int) := by rw [wr (by omega) (by omega)]; omega
    have hR : markR s i j = match hitM s i (marksL[j]'hlt) with | true => (⟨5, i, marksL[j]'hlt, 0⟩, 0, i + (marksL[j]'hlt).size) | false => markR s i (j + 1) := by
      unfold markR
      rw [List.drop_eq_getElem_cons hlt, List.find?_cons]
      cases hitM s i (marksL[j]'hlt) <;> rfl
    have next := ih (j + 1) m (by omega) (by omega) (by omega)
    rw [s50_7_eq, hR]
    simp only [hlen, Option.bind_some, asI, if_true, hI, decide_true, cond_true, hix, hld, asS, wi, wj]
    by_cases hc : i + (marksL[j]'hlt).size ≤ s.size
    · have hc' : decide (((i + (marksL[j]'hlt).size : Nat) : Int) ≤ (s.size : Int)) = true := by simp; omega
      rw [hc', cond_true, subS (by omega) hc]
      simp only [Option.bind_some]
      have hh : hitM s i (marksL[j]'hlt) = ((s.extract i (i + (marksL[j]'hlt).size)).toList == (marksL[j]'hlt).toList) := by unfold hitM; simp [hc]
      rw [hh]
      cases ((s.extract i (i + (marksL[j]'hlt).size)).toList == (marksL[j]'hlt).toList) with
      | false => rw [cond_false]; exact next
      | true =>
        rw [cond_true, s50_8_j, s50_8_eq]
        obtain ⟨h3, s3, x3, y3, k3⟩ := tq.stK9 tr 5
        obtain ⟨h4, s4, x4, y4⟩ := y3.stT (marksL[j]'hlt)
        have hld3 : aLd1 h3 (ptr r j) = some (.string (marksL[j]'hlt)) := k3.ld1 (by simp [hlt])
        have z := (tp.ext x3 hpc).ext x4 hpc
        simp only [aOff_ptr, Nat.zero_add, Option.bind_some, s3, hix, hld3, asS, s4, wi]
        exact Is50.of ((x3.trans x4).mono hbc) (ret50 z y4 rfl (fun _ => ⟨rfl, rfl⟩))
    · have hc' : decide (((i + (marksL[j]'hlt).size : Nat) : Int) ≤ (s.size : Int)) = false := by simp; omega
      have hh : hitM s i (marksL[j]'hlt) = false := by unfold hitM; simp [hc]
      rw [hc', cond_false, hh]
      exact next
theorem markR0 (s : ByteArray) (i : Nat) : markR s i 0 = ofMark i (markOf s i) := by
  unfold markR markOf
  rw [List.drop_zero]
theorem g50L {d b c p q : Nat} (hd : 3010 < d) {s : ByteArray} (hs : s.size ≤ 3000) {i : Nat} (hi : i < s.size) {h : AHeap} {t : Tok} (tp : TB b h p t) (tq : TB c h q ⟨0, i, ⟨#[]⟩, 0⟩) (hpc : p < c) (hbc : b ≤ c) :
    Is50 b h (s50_0 hk0 (call Try.prog Ms (d + 2)) (d + 2) (d + 2) s (i : Int) (ptr p 0) (i : Int) (ptr q 0) h) (if isWd (s.extract i (endOf isLet s i)) = true then (⟨2, i, s.extract i (endOf isLet s i), 0⟩, 0, endOf isLet s i)
    else if endOf isLet s i - i > 12 then (tok0, 4, 0)
    else (⟨1, i, s.extract i (endOf isLet s i), 0⟩, 0, endOf isLet s i)) := by
  have l87' : ∀ (n : Int) (h : AHeap), call Try.prog Ms (d + 2) 87 [.int .u8 n] h = some (.bool (isLet n), h) := l87 (d + 1)
  have l89' : ∀ (n : Int) (h : AHeap), call Try.prog Ms (d + 2) 89 [.int .u8 n] h = some (.bool (isDig n), h) := l89 (d + 1)
  have l90' : ∀ (n : Int) (h : AHeap), call Try.prog Ms (d + 2) 90 [.int .u8 n] h = some (.bool (isPln n), h) := l90 (d + 1)
  have hbd := endOf_bd (p := isLet) (s := s) _ i rfl (by omega)
  have hno := endOf_no (p := isLet) (s := s) _ i rfl
  obtain ⟨m', hm'⟩ := skip (p := isLet) (s := s) (fun n j => s50_0 hk0 (call Try.prog Ms (d + 2)) (d + 2) n s (i : Int) (ptr p 0) j (ptr q 0) h) (fun n j hj hp => by
    have : ((j : Nat) : Int) < (s.size : Int) := by omega
    have wj : IntKind.i64.wrap ((j : Int) + 1) = ((j + 1 : Nat) : Int) := by rw [wr (by omega) (by omega)]; omega
    rw [s50_0_eq]
    simp only [this, decide_true, cond_true, strIx hj, Option.bind_some, asI, if_true, l87', asB, hp, wj]) _ i (d + 2) rfl (by omega) (by omega)
  rw [hm']
  clear hm'
  generalize endOf isLet s i = e at hbd hno
  obtain ⟨hb1, hb2⟩ := hbd
  rw [s50_0_eq, cond_same (by
    intro hc
    have hlt : e < s.size := by simpa using hc
    simp only [strIx hlt, Option.bind_some, asI, if_true, l87', asB, hno hlt, cond_false])]
  obtain ⟨h4, s4, x4, p4⟩ := tq.stK 1
  obtain ⟨h5, s5, x5, p5⟩ := p4.stT (s.extract i e)
  obtain ⟨_, _, a2, _⟩ := ld_at p5.row
  obtain ⟨h6, c6, x6⟩ := l88 (d := d) (by omega) (s.extract i e) h5
  have p6 := p5.ext x6 (Own.lt p5).2
  have hle : c ≤ h5.size := Nat.le_of_lt (Nat.lt_of_le_of_lt (Own.lt p5).1 (Own.lt p5).2)
  have q6 := ((tp.ext x4 hpc).ext x5 hpc).ext x6 (by omega)
  have X6 : Ext b h h6 := (x4.trans (x5.trans (x6.mono hle))).mono hbc
  refine Is50.of X6 ?_
  simp only [aOff_ptr, Nat.zero_add, s4, Option.bind_some, subS hb1 hb2, asS, s5, a2, c6, asB]
  cases hW : isWd (s.extract i e) with
  | true =>
    rw [cond_true, if_pos rfl]
    obtain ⟨h7, s7, x7, p7⟩ := p6.stK 2
    simp only [s7, Option.bind_some]
    exact Is50.of (x7.mono hbc) (g50_1 (q6.ext x7 hpc) p7)
  | false =>
    rw [cond_false, if_neg (c := false = true) (by simp)]
    have hc : decide ((IntKind.i64.wrap ((e : Int) - (i : Int))) > 12) = decide (e - i > 12) := by rw [wr (by omega) (by omega)]; simp; omega
    rw [hc]
    by_cases hn : e - i > 12
    · rw [decide_eq_true hn, cond_true, if_pos hn]
      exact ret50 q6 p6 rfl (fun h => by cases h)
    · rw [decide_eq_false hn, cond_false, if_neg hn]
      exact g50_1 q6 p6
theorem g50D {d b c p q : Nat} (hd : 3010 < d) {s : ByteArray} (hs : s.size ≤ 3000) {i : Nat} (hi : i < s.size) {h : AHeap} {t : Tok} (tp : TB b h p t) (tq : TB c h q ⟨0, i, ⟨#[]⟩, 0⟩) (hpc : p < c) (hbc : b ≤ c) :
    Is50 b h (s50_2 hk0 (call Try.prog Ms (d + 2)) (d + 2) (d + 2) s (i : Int) (ptr p 0) (i : Int) (ptr q 0) h) (if numBad s i = true then (tok0, 3, 0) else (numTok s i, 0, endOf isDig s i)) := by
  have l87' : ∀ (n : Int) (h : AHeap), call Try.prog Ms (d + 2) 87 [.int .u8 n] h = some (.bool (isLet n), h) := l87 (d + 1)
  have l89' : ∀ (n : Int) (h : AHeap), call Try.prog Ms (d + 2) 89 [.int .u8 n] h = some (.bool (isDig n), h) := l89 (d + 1)
  have l90' : ∀ (n : Int) (h : AHeap), call Try.prog Ms (d + 2) 90 [.int .u8 n] h = some (.bool (isPln n), h) := l90 (d + 1)
  have hbd := endOf_bd (p := isDig) (s := s) _ i rfl (by omega)
  have hno := endOf_no (p := isDig) (s := s) _ i rfl
  obtain ⟨m', hm'⟩ := skip (p := isDig) (s := s) (fun n j => s50_2 hk0 (call Try.prog Ms (d + 2)) (d + 2) n s (i : Int) (ptr p 0) j (ptr q 0) h) (fun n j hj hp => by
    have : ((j : Nat) : Int) < (s.size : Int) := by omega
    have wj : IntKind.i64.wrap ((j : Int) + 1) = ((j + 1 : Nat) : Int) := by rw [wr (by omega) (by omega)]; omega
    rw [s50_2_eq]
    simp only [this, decide_true, cond_true, strIx hj, Option.bind_some, asI, if_true, l89', asB, hp, wj]) _ i (d + 2) rfl (by omega) (by omega)
  rw [hm']
  clear hm'
  have hN : numBad s i = (decide (endOf isDig s i - i > 15) || decide (endOf isDig s i - i > 1) && bt s i == 48 || decide (endOf isDig s i < s.size) && isLet (bt s (endOf isDig s i))) := rfl
  generalize numBad s i = nb at hN
  unfold numTok
  generalize endOf isDig s i = e at hbd hno hN
  obtain ⟨hb1, hb2⟩ := hbd
  rw [s50_2_eq, cond_same (by
    intro hc
    have hlt : e < s.size := by simpa using hc
    rw [strIx hlt, Option.bind_some]
    simp only [asI, if_true, Option.bind_some]
    rw [l89', Option.bind_some]
    simp only [asB, Option.bind_some, hno hlt, cond_false])]
  have w1 : IntKind.i64.wrap ((e : Int) - (i : Int)) = (e : Int) - (i : Int) := wr (by omega) (by omega)
  have c1 : decide ((e : Int) - (i : Int) > 15) = decide (e - i > 15) := by simp; omega
  have c2 : decide ((e : Int) - (i : Int) > 1) = decide (e - i > 1) := by simp; omega
  have c3 : decide ((e : Int) < (s.size : Int)) = decide (e < s.size) := by simp
  have B : Is50 b h _ (tok0, 3, 0) := ret50 (k := 3) (e := e) tp tq rfl (fun h => by cases h)
  have G := g50_3 (C := call Try.prog Ms (d + 2)) (N := d + 2) tp tq hpc hbc hb1 hb2 hs (by omega)
  rw [w1, c1, c2, c3, strIx hi]
  simp only [Option.bind_some, asI, if_true, l87', asB]
  generalize decide (e - i > 15) = b1 at hN ⊢
  generalize decide (e - i > 1) = b2 at hN ⊢
  generalize (bt s i == 48) = b3 at hN ⊢
  have T1 : nb = true → Is50 b h ((aLdN h (ptr q 0) 4).bind fun v => (aSt h (ptr p 0) v 4).bind fun h1 => (aLdN h1 (ptr p 0) 4).bind fun v' => bif List.all [v', .int .i64 3, .int .i64 (e : Int)] isS2 then some (Value.tuple (List.toArray [v', .int .i64 3, .int .i64 (e : Int)]), h1) else none) (if nb = true then (tok0, 3, 0) else (⟨3, i, s.extract i e, numGo s (e - i) i 0⟩, 0, e)) := fun hh => by rw [if_pos hh]; exact B
  have T2 : nb = false → Is50 b h (s50_3 hk0 (call Try.prog Ms (d + 2)) (d + 2) s (i : Int) (ptr p 0) (e : Int) (ptr q 0) h) (if nb = true then (tok0, 3, 0) else (⟨3, i, s.extract i e, numGo s (e - i) i 0⟩, 0, e)) := fun hh => by rw [if_neg (by simp [hh])]; exact G
  by_cases hlt : e < s.size
  · simp only [hlt, decide_true, cond_true, strIx hlt, Option.bind_some, if_true, Bool.true_and] at hN ⊢
    generalize isLet (bt s e) = b4 at hN ⊢
    cases b1 <;> cases b2 <;> cases b3 <;> cases b4 <;> simp only [cond_true, cond_false] <;> first | (have hN2 : nb = true := (by simpa using hN); exact T1 hN2) | (have hN2 : nb = false := (by simpa using hN); exact T2 hN2)
  · simp only [hlt, decide_false, cond_false, Bool.false_and] at hN ⊢
    cases b1 <;> cases b2 <;> cases b3 <;> simp only [cond_true, cond_false] <;> first | (have hN2 : nb = true := (by simpa using hN); exact T1 hN2) | (have hN2 : nb = false := (by simpa using hN); exact T2 hN2)
theorem g50Q {d b c p q : Nat} (hd : 3010 < d) {s : ByteArray} (hs : s.size ≤ 3000) {i : Nat} (hi : i < s.size) {h : AHeap} {t : Tok} (tp : TB b h p t) (tq : TB c h q ⟨0, i, ⟨#[]⟩, 0⟩) (hpc : p < c) (hbc : b ≤ c) :
    Is50 b h (s50_5 hk0 (call Try.prog Ms (d + 2)) (d + 2) (d + 2) s (i : Int) (ptr p 0) ((i + 1 : Nat) : Int) (ptr q 0) h) (if endOf isPln s (i + 1) ≥ s.size ∨ bt s (endOf isPln s (i + 1)) ≠ 34 ∨ endOf isPln s (i + 1) - i - 1 > 160 then (tok0, 5, 0)
    else (⟨4, i, s.extract (i + 1) (endOf isPln s (i + 1)), 0⟩, 0, endOf isPln s (i + 1) + 1)) := by
  have l87' : ∀ (n : Int) (h : AHeap), call Try.prog Ms (d + 2) 87 [.int .u8 n] h = some (.bool (isLet n), h) := l87 (d + 1)
  have l89' : ∀ (n : Int) (h : AHeap), call Try.prog Ms (d + 2) 89 [.int .u8 n] h = some (.bool (isDig n), h) := l89 (d + 1)
  have l90' : ∀ (n : Int) (h : AHeap), call Try.prog Ms (d + 2) 90 [.int .u8 n] h = some (.bool (isPln n), h) := l90 (d + 1)
  have hbd := endOf_bd (p := isPln) (s := s) _ (i + 1) rfl (by omega)
  have hno := endOf_no (p := isPln) (s := s) _ (i + 1) rfl
  have w1 : IntKind.i64.wrap ((i : Int) + 1) = ((i + 1 : Nat) : Int) := by rw [wr (by omega) (by omega)]; omega
  obtain ⟨m', hm'⟩ := skip (p := isPln) (s := s) (fun n j => s50_5 hk0 (call Try.prog Ms (d + 2)) (d + 2) n s (i : Int) (ptr p 0) j (ptr q 0) h) (fun n j hj hp => by
    have : ((j : Nat) : Int) < (s.size : Int) := by omega
    have wj : IntKind.i64.wrap ((j : Int) + 1) = ((j + 1 : Nat) : Int) := by rw [wr (by omega) (by omega)]; omega
    rw [s50_5_eq]
    simp only [this, decide_true, cond_true, strIx hj, Option.bind_some, asI, if_true, l90', asB, hp, wj]) _ (i + 1) (d + 2) rfl (by omega) (by omega)
  rw [hm']
  clear hm'
  generalize endOf isPln s (i + 1) = e at hbd hno
  obtain ⟨hb1, hb2⟩ := hbd
  rw [s50_5_eq, cond_same (by
    intro hc
    have hlt : e < s.size := by simpa using hc
    rw [strIx hlt, Option.bind_some]
    simp only [asI, if_true, Option.bind_some]
    rw [l90', Option.bind_some]
    simp only [asB, Option.bind_some, hno hlt, cond_false])]
  have w3 : IntKind.i64.wrap ((e : Int) - (i : Int)) = (e : Int) - (i : Int) := wr (by omega) (by omega)
  have w4 : IntKind.i64.wrap ((e : Int) - (i : Int) - 1) = (e : Int) - (i : Int) - 1 := wr (by omega) (by omega)
  have B : Is50 b h _ (tok0, 5, 0) := ret50 (k := 5) (e := e) tp tq rfl (fun h => by cases h)
  have G := g50_6 (C := call Try.prog Ms (d + 2)) (N := d + 2) tp tq hpc hbc hb1 hb2 hs
  rw [w3, w4]
  by_cases he : e ≥ s.size
  · have : decide ((e : Int) ≥ (s.size : Int)) = true := by simp; omega
    rw [this, cond_true, if_pos (.inl he)]
    exact B
  · have hlt : e < s.size := by omega
    have : decide ((e : Int) ≥ (s.size : Int)) = false := by simp; omega
    rw [this, cond_false, strIx hlt]
    simp only [Option.bind_some, asI, if_true]
    by_cases h5 : bt s e = 34
    · have hn : (bt s e != 34) = false := by rw [h5]; rfl
      rw [hn, cond_false]
      by_cases h6 : e - i - 1 > 160
      · have : decide ((e : Int) - (i : Int) - 1 > 160) = true := by simp; omega
        rw [this, cond_true, if_pos (.inr (.inr h6))]
        exact B
      · have : decide ((e : Int) - (i : Int) - 1 > 160) = false := by simp; omega
        rw [this, cond_false, if_neg (by omega)]
        exact G
    · have hn : (bt s e != 34) = true := by simp [h5]
      rw [hn, cond_true, if_pos (.inr (.inl h5))]
      exact B
theorem marksV : marksL.map Value.string = [.string (⟨#[123]⟩), .string (⟨#[125]⟩), .string (⟨#[40]⟩), .string (⟨#[41]⟩), .string (⟨#[91]⟩), .string (⟨#[93]⟩), .string (⟨#[59]⟩), .string (⟨#[44]⟩), .string (⟨#[46, 46]⟩), .string (⟨#[46]⟩), .string (⟨#[61, 61]⟩), .string (⟨#[61]⟩), .string (⟨#[126, 61]⟩), .string (⟨#[60, 61]⟩), .string (⟨#[60]⟩), .string (⟨#[43]⟩), .string (⟨#[45]⟩), .string (⟨#[42]⟩), .string (⟨#[47]⟩), .string (⟨#[37]⟩), .string (⟨#[35]⟩)] := rfl
theorem l91 (d : Nat) (h : AHeap) : call Try.prog Ms (d + 1) 91 [] h = some (slc h.size 0 21, h.new 9 (marksL.map Value.string)) := by
  rw [c91, e91, marksV]
  rfl
theorem l50 {d : Nat} (hd : 3010 < d) {s : ByteArray} (hs : s.size ≤ 3000) {i : Nat} (hi : i < s.size) (h : AHeap) :
    Is50 h.size h (call Try.prog Ms (d + 3) 50 [.string s, .int .i64 (i : Int)] h) (tokR s i) := by
  have x1 := Ext.new (Nat.le_refl h.size) 53 tok0.cells
  have q1 := TB.new h tok0
  have x2 := Ext.new (Nat.le_refl (h.new 53 tok0.cells).size) 53 tok0.cells
  have p2 := TB.new (h.new 53 tok0.cells) tok0
  obtain ⟨h3, s3, x3, p3⟩ := p2.stAll ⟨0, i, ⟨#[]⟩, 0⟩
  have q3 := (q1.ext x2 (by simp [AHeap.new])).ext x3 (by simp [AHeap.new])
  have s3' : aSt ((h.new 53 tok0.cells).new 53 tok0.cells) (ptr (h.new 53 tok0.cells).size 0) (.agg (List.toArray [.int .i64 0, .int .i64 (i : Int), .string ⟨#[]⟩, .int .i64 0])) 4 = some h3 := s3
  have hz : ([Value.int .i64 0, .int .i64 0, .string ⟨#[]⟩, .int .i64 0] : List Value) = tok0.cells := rfl
  have hS : (h.new 53 tok0.cells).size = h.size + 1 := rfl
  have X3 : Ext h.size h h3 := x1.trans ((x2.mono (by omega)).trans (x3.mono (by omega)))
  have l87' : ∀ (n : Int) (h : AHeap), call Try.prog Ms (d + 2) 87 [.int .u8 n] h = some (.bool (isLet n), h) := l87 (d + 1)
  have l89' : ∀ (n : Int) (h : AHeap), call Try.prog Ms (d + 2) 89 [.int .u8 n] h = some (.bool (isDig n), h) := l89 (d + 1)
  have l90' : ∀ (n : Int) (h : AHeap), call Try.prog Ms (d + 2) 90 [.int .u8 n] h = some (.bool (isPln n), h) := l90 (d + 1)
  refine Is50.of X3 ?_
  rw [c50, e50]
  simp only [aNew, hz]
  rw [s3', Option.bind_some]
  simp only [strIx hi, Option.bind_some, asI, if_true]
  rw [l87', Option.bind_some]
  simp only [asB, Option.bind_some]
  unfold tokR
  cases hL : isLet (bt s i) with
  | true =>
    rw [cond_true, if_pos rfl]
    exact g50L hd hs hi q3 p3 (by omega) (by omega)
  | false =>
    rw [cond_false, if_neg (c := false = true) (by simp)]
    rw [l89', Option.bind_some]
    simp only [asB, Option.bind_some]
    cases hD : isDig (bt s i) with
    | true =>
      rw [cond_true, if_pos rfl]
      exact g50D hd hs hi q3 p3 (by omega) (by omega)
    | false =>
      rw [cond_false, if_neg (c := false = true) (by simp)]
      by_cases h34 : bt s i = 34
      · have hE : ((bt s i == 34) : Bool) = true := by rw [h34]; rfl
        have w1 : IntKind.i64.wrap ((i : Int) + 1) = ((i + 1 : Nat) : Int) := by rw [wr (by omega) (by omega)]; omega
        rw [hE, cond_true, w1, if_pos h34]
        exact g50Q hd hs hi q3 p3 (by omega) (by omega)
      · have hE : ((bt s i == 34) : Bool) = false := beq_eq_false_iff_ne.2 h34
        have l91' : call Try.prog Ms (d + 2) 91 [] h3 = some (slc h3.size 0 21, h3.new 9 (marksL.map Value.string)) := l91 (d + 1) h3
        rw [hE, cond_false, if_neg h34, l91', Option.bind_some, ← markR0]
        have x4 := Ext.new (Nat.le_refl h3.size) 9 (marksL.map Value.string)
        have r4 := Own.new (Nat.le_refl h3.size) 9 (marksL.map Value.string)
        have hp := Own.lt p3
        have M := marks50 (C := call Try.prog Ms (d + 2)) (N := d + 2) hs hi (q3.ext x4 (by omega)) (p3.ext x4 hp.2) r4 (by omega) (by omega) 21 0 (d + 2) rfl (by omega) (by omega)
        exact Is50.of (x4.mono (by omega)) M
end Go.Proofs.Ytadmoackacickaa
