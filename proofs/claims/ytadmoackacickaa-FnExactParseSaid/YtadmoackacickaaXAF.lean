import Derived.Test.YtadmoackacickaaXAE
import Derived.Test.YtadmoackacickaaXAD
import Derived.KernelRfl
import Derived.Test.YtadmoackacickaaProg
/- The marks of a text, as impl finds them. -/
set_option linter.unusedSimpArgs false
namespace Go.Proofs.Ytadmoackacickaa
open Go Go.AH

def twoM (t : ByteArray) : Bool := t.toList == (⟨#[46, 46]⟩ : ByteArray).toList || (t.toList == (⟨#[61, 61]⟩ : ByteArray).toList || (t.toList == (⟨#[126, 61]⟩ : ByteArray).toList || t.toList == (⟨#[60, 61]⟩ : ByteArray).toList))
theorem two_hit {s : ByteArray} {i : Nat} (h : i + 1 < s.size) : twoM (s.extract i (i + 2)) = (hitM s i ⟨#[46, 46]⟩ || (hitM s i ⟨#[61, 61]⟩ || (hitM s i ⟨#[126, 61]⟩ || hitM s i ⟨#[60, 61]⟩))) := by
  have : i + 2 ≤ s.size := h
  simp only [twoM, hitM, size2, this, decide_true, Bool.true_and]
theorem markOf_eq {s : ByteArray} {i : Nat} (hi : i < s.size) : markOf s i = if (decide (i + 1 < s.size) && twoM (s.extract i (i + 2))) = true then some (s.extract i (i + 2)) else if oneM (bt s i) = true then some (s.extract i (i + 1)) else none := by
  have E1 : ∀ c : UInt8, bt s i = (c.toNat : Int) → s.extract i (i + 1) = ⟨#[c]⟩ := fun c h => by
    have := hit_ext (s := s) (m := ⟨#[c]⟩) (i := i) (by rw [hit1 hi, h]; simp)
    exact this
  by_cases h2 : i + 1 < s.size
  · have E2 : ∀ c c' : UInt8, bt s i = (c.toNat : Int) → bt s (i + 1) = (c'.toNat : Int) → s.extract i (i + 2) = ⟨#[c, c']⟩ := fun c c' h h' => by
      have := hit_ext (s := s) (m := ⟨#[c, c']⟩) (i := i) (by rw [hit2 h2, h, h']; simp)
      exact this
    rw [two_hit h2]
    simp only [markOf, marksL, List.find?, hit1 hi, hit2 h2, h2, decide_true, Bool.true_and, oneM, List.any_cons, List.any_nil, Bool.or_false]
    generalize bt s i = x at E1 E2 ⊢
    generalize bt s (i + 1) = y at E2 ⊢
    generalize s.extract i (i + 1) = z1 at E1 ⊢
    generalize s.extract i (i + 2) = z2 at E2 ⊢
    by_cases h123 : x = 123
    · subst h123
      have e1 := E1 123 rfl
      subst e1
      simp
    by_cases h125 : x = 125
    · subst h125
      have e1 := E1 125 rfl
      subst e1
      simp
    by_cases h40 : x = 40
    · subst h40
      have e1 := E1 40 rfl
      subst e1
      simp
    by_cases h41 : x = 41
    · subst h41
      have e1 := E1 41 rfl
      subst e1
      simp
    by_cases h91 : x = 91
    · subst h91
      have e1 := E1 91 rfl
      subst e1
      simp
    by_cases h93 : x = 93
    · subst h93
      have e1 := E1 93 rfl
      subst e1
      simp
    by_cases h59 : x = 59
    · subst h59
      have e1 := E1 59 rfl
      subst e1
      simp
    by_cases h44 : x = 44
    · subst h44
      have e1 := E1 44 rfl
      subst e1
      simp
    by_cases h46 : x = 46
    · subst h46
      have e1 := E1 46 rfl
      subst e1
      by_cases hy : y = 46
      · subst hy; have e2 := E2 46 46 rfl rfl; subst e2; rfl
      · simp [beq_eq_false_iff_ne.2 hy]
    by_cases h61 : x = 61
    · subst h61
      have e1 := E1 61 rfl
      subst e1
      by_cases hy : y = 61
      · subst hy; have e2 := E2 61 61 rfl rfl; subst e2; rfl
      · simp [beq_eq_false_iff_ne.2 hy]
    by_cases h60 : x = 60
    · subst h60
      have e1 := E1 60 rfl
      subst e1
      by_cases hy : y = 61
      · subst hy; have e2 := E2 60 61 rfl rfl; subst e2; rfl
      · simp [beq_eq_false_iff_ne.2 hy]
    by_cases h43 : x = 43
    · subst h43
      have e1 := E1 43 rfl
      subst e1
      simp
    by_cases h45 : x = 45
    · subst h45
      have e1 := E1 45 rfl
      subst e1
      simp
    by_cases h42 : x = 42
    · subst h42
      have e1 := E1 42 rfl
      subst e1
      simp
    by_cases h47 : x = 47
    · subst h47
      have e1 := E1 47 rfl
      subst e1
      simp
    by_cases h37 : x = 37
    · subst h37
      have e1 := E1 37 rfl
      subst e1
      simp
    by_cases h35 : x = 35
    · subst h35
      have e1 := E1 35 rfl
      subst e1
      simp
    by_cases h126 : x = 126
    · subst h126
      by_cases hy : y = 61
      · subst hy; have e2 := E2 126 61 rfl rfl; subst e2; rfl
      · simp [beq_eq_false_iff_ne.2 hy]
    have n123 : (x == ((UInt8.toNat 123 : Nat) : Int)) = false := beq_eq_false_iff_ne.2 h123
    have n125 : (x == ((UInt8.toNat 125 : Nat) : Int)) = false := beq_eq_false_iff_ne.2 h125
    have n40 : (x == ((UInt8.toNat 40 : Nat) : Int)) = false := beq_eq_false_iff_ne.2 h40
    have n41 : (x == ((UInt8.toNat 41 : Nat) : Int)) = false := beq_eq_false_iff_ne.2 h41
    have n91 : (x == ((UInt8.toNat 91 : Nat) : Int)) = false := beq_eq_false_iff_ne.2 h91
    have n93 : (x == ((UInt8.toNat 93 : Nat) : Int)) = false := beq_eq_false_iff_ne.2 h93
    have n59 : (x == ((UInt8.toNat 59 : Nat) : Int)) = false := beq_eq_false_iff_ne.2 h59
    have n44 : (x == ((UInt8.toNat 44 : Nat) : Int)) = false := beq_eq_false_iff_ne.2 h44
    have n46 : (x == ((UInt8.toNat 46 : Nat) : Int)) = false := beq_eq_false_iff_ne.2 h46
    have n61 : (x == ((UInt8.toNat 61 : Nat) : Int)) = false := beq_eq_false_iff_ne.2 h61
    have n60 : (x == ((UInt8.toNat 60 : Nat) : Int)) = false := beq_eq_false_iff_ne.2 h60
    have n43 : (x == ((UInt8.toNat 43 : Nat) : Int)) = false := beq_eq_false_iff_ne.2 h43
    have n45 : (x == ((UInt8.toNat 45 : Nat) : Int)) = false := beq_eq_false_iff_ne.2 h45
    have n42 : (x == ((UInt8.toNat 42 : Nat) : Int)) = false := beq_eq_false_iff_ne.2 h42
    have n47 : (x == ((UInt8.toNat 47 : Nat) : Int)) = false := beq_eq_false_iff_ne.2 h47
    have n37 : (x == ((UInt8.toNat 37 : Nat) : Int)) = false := beq_eq_false_iff_ne.2 h37
    have n35 : (x == ((UInt8.toNat 35 : Nat) : Int)) = false := beq_eq_false_iff_ne.2 h35
    have n126 : (x == ((UInt8.toNat 126 : Nat) : Int)) = false := beq_eq_false_iff_ne.2 h126
    simp only [n123, n125, n40, n41, n91, n93, n59, n44, n46, n61, n60, n43, n45, n42, n47, n37, n35, n126, beq_eq_false_iff_ne.2 h123, beq_eq_false_iff_ne.2 h125, beq_eq_false_iff_ne.2 h40, beq_eq_false_iff_ne.2 h41, beq_eq_false_iff_ne.2 h91, beq_eq_false_iff_ne.2 h93, beq_eq_false_iff_ne.2 h59, beq_eq_false_iff_ne.2 h44, beq_eq_false_iff_ne.2 h46, beq_eq_false_iff_ne.2 h61, beq_eq_false_iff_ne.2 h60, beq_eq_false_iff_ne.2 h43, beq_eq_false_iff_ne.2 h45, beq_eq_false_iff_ne.2 h42, beq_eq_false_iff_ne.2 h47, beq_eq_false_iff_ne.2 h37, beq_eq_false_iff_ne.2 h35, beq_eq_false_iff_ne.2 h126, Bool.false_and, Bool.or_false]; rfl
  · simp only [markOf, marksL, List.find?, hit1 hi, hit2' h2, h2, decide_false, Bool.false_and, oneM, List.any_cons, List.any_nil, Bool.or_false]
    generalize bt s i = x at E1 ⊢
    generalize s.extract i (i + 1) = z1 at E1 ⊢
    by_cases h123 : x = 123
    · subst h123
      have e1 := E1 123 rfl
      subst e1
      simp
    by_cases h125 : x = 125
    · subst h125
      have e1 := E1 125 rfl
      subst e1
      simp
    by_cases h40 : x = 40
    · subst h40
      have e1 := E1 40 rfl
      subst e1
      simp
    by_cases h41 : x = 41
    · subst h41
      have e1 := E1 41 rfl
      subst e1
      simp
    by_cases h91 : x = 91
    · subst h91
      have e1 := E1 91 rfl
      subst e1
      simp
    by_cases h93 : x = 93
    · subst h93
      have e1 := E1 93 rfl
      subst e1
      simp
    by_cases h59 : x = 59
    · subst h59
      have e1 := E1 59 rfl
      subst e1
      simp
    by_cases h44 : x = 44
    · subst h44
      have e1 := E1 44 rfl
      subst e1
      simp
    by_cases h46 : x = 46
    · subst h46
      have e1 := E1 46 rfl
      subst e1
      simp
    by_cases h61 : x = 61
    · subst h61
      have e1 := E1 61 rfl
      subst e1
      simp
    by_cases h60 : x = 60
    · subst h60
      have e1 := E1 60 rfl
      subst e1
      simp
    by_cases h43 : x = 43
    · subst h43
      have e1 := E1 43 rfl
      subst e1
      simp
    by_cases h45 : x = 45
    · subst h45
      have e1 := E1 45 rfl
      subst e1
      simp
    by_cases h42 : x = 42
    · subst h42
      have e1 := E1 42 rfl
      subst e1
      simp
    by_cases h47 : x = 47
    · subst h47
      have e1 := E1 47 rfl
      subst e1
      simp
    by_cases h37 : x = 37
    · subst h37
      have e1 := E1 37 rfl
      subst e1
      simp
    by_cases h35 : x = 35
    · subst h35
      have e1 := E1 35 rfl
      subst e1
      simp
    have n123 : (x == ((UInt8.toNat 123 : Nat) : Int)) = false := beq_eq_false_iff_ne.2 h123
    have n125 : (x == ((UInt8.toNat 125 : Nat) : Int)) = false := beq_eq_false_iff_ne.2 h125
    have n40 : (x == ((UInt8.toNat 40 : Nat) : Int)) = false := beq_eq_false_iff_ne.2 h40
    have n41 : (x == ((UInt8.toNat 41 : Nat) : Int)) = false := beq_eq_false_iff_ne.2 h41
    have n91 : (x == ((UInt8.toNat 91 : Nat) : Int)) = false := beq_eq_false_iff_ne.2 h91
    have n93 : (x == ((UInt8.toNat 93 : Nat) : Int)) = false := beq_eq_false_iff_ne.2 h93
    have n59 : (x == ((UInt8.toNat 59 : Nat) : Int)) = false := beq_eq_false_iff_ne.2 h59
    have n44 : (x == ((UInt8.toNat 44 : Nat) : Int)) = false := beq_eq_false_iff_ne.2 h44
    have n46 : (x == ((UInt8.toNat 46 : Nat) : Int)) = false := beq_eq_false_iff_ne.2 h46
    have n61 : (x == ((UInt8.toNat 61 : Nat) : Int)) = false := beq_eq_false_iff_ne.2 h61
    have n60 : (x == ((UInt8.toNat 60 : Nat) : Int)) = false := beq_eq_false_iff_ne.2 h60
    have n43 : (x == ((UInt8.toNat 43 : Nat) : Int)) = false := beq_eq_false_iff_ne.2 h43
    have n45 : (x == ((UInt8.toNat 45 : Nat) : Int)) = false := beq_eq_false_iff_ne.2 h45
    have n42 : (x == ((UInt8.toNat 42 : Nat) : Int)) = false := beq_eq_false_iff_ne.2 h42
    have n47 : (x == ((UInt8.toNat 47 : Nat) : Int)) = false := beq_eq_false_iff_ne.2 h47
    have n37 : (x == ((UInt8.toNat 37 : Nat) : Int)) = false := beq_eq_false_iff_ne.2 h37
    have n35 : (x == ((UInt8.toNat 35 : Nat) : Int)) = false := beq_eq_false_iff_ne.2 h35
    simp only [n123, n125, n40, n41, n91, n93, n59, n44, n46, n61, n60, n43, n45, n42, n47, n37, n35, beq_eq_false_iff_ne.2 h123, beq_eq_false_iff_ne.2 h125, beq_eq_false_iff_ne.2 h40, beq_eq_false_iff_ne.2 h41, beq_eq_false_iff_ne.2 h91, beq_eq_false_iff_ne.2 h93, beq_eq_false_iff_ne.2 h59, beq_eq_false_iff_ne.2 h44, beq_eq_false_iff_ne.2 h46, beq_eq_false_iff_ne.2 h61, beq_eq_false_iff_ne.2 h60, beq_eq_false_iff_ne.2 h43, beq_eq_false_iff_ne.2 h45, beq_eq_false_iff_ne.2 h42, beq_eq_false_iff_ne.2 h47, beq_eq_false_iff_ne.2 h37, beq_eq_false_iff_ne.2 h35, Bool.false_and, Bool.or_false]; rfl
end Go.Proofs.Ytadmoackacickaa
/- impl's token. -/
set_option linter.unusedSimpArgs false
namespace Go.Proofs.Ytadmoackacickaa
open Go Go.AH

/-- What lexToken tells: the token, its length, a code. -/
def tokV (T : Tok × Nat × Nat) (i : Nat) : Value := .tuple (List.toArray [T.1.val, .int .i64 (if T.2.1 = 0 then (T.2.2 : Int) - (i : Int) else 0), .int .i64 (T.2.1 : Int)])
theorem size_ext {s : ByteArray} {i e : Nat} (h1 : i ≤ e) (h2 : e ≤ s.size) : ((s.extract i e).size : Int) = (e : Int) - (i : Int) := by
  rw [ByteArray.size_extract]; omega
theorem l53 {d : Nat} (hd : 3010 < d) {s : ByteArray} (hs : s.size ≤ 3000) {i : Nat} (hi : i < s.size) (h : AHeap) :
    ∃ h', call Try.prog Ms (d + 3) 53 [.string s, .int .i64 (i : Int)] h = some (tokV (tokR s i) i, h') ∧ Ext h.size h h' := by
  have x1 := Ext.new (Nat.le_refl h.size) 53 tok0.cells
  have q1 := TB.new h tok0
  have hz : ([Value.int .i64 0, .int .i64 0, .string ⟨#[]⟩, .int .i64 0] : List Value) = tok0.cells := rfl
  have l92' : ∀ (n : Int) (h : AHeap), call Try.prog Ms (d + 2) 92 [.int .u8 n] h = some (.bool (isLet n), h) := l92 (d + 1)
  have l94' : ∀ (n : Int) (h : AHeap), call Try.prog Ms (d + 2) 94 [.int .u8 n] h = some (.bool (isDig n), h) := l94 (d + 1)
  have l93' : ∀ (t : ByteArray) (h : AHeap), call Try.prog Ms (d + 2) 93 [.string t] h = some (.bool (isWd t), h) := l93 (d + 1)
  rw [c53, e53]
  simp only [aNew, hz, strIx hi, Option.bind_some, asI, if_true, l92', asB]
  unfold tokR
  cases hL : isLet (bt s i) with
  | true =>
    have hbd := endOf_bd (p := isLet) (s := s) _ i rfl (by omega)
    have l51' := l51 (d := d + 1) (g := 92) (p := isLet) hs (by omega) (fun n h => by obtain ⟨d, rfl⟩ : ∃ k, d = k + 1 := ⟨d - 1, by omega⟩; exact l92 (d + 1) n h) (i := i) (by omega) (h.new 53 tok0.cells)
    generalize endOf isLet s i = e at hbd l51'
    obtain ⟨hb1, hb2⟩ := hbd
    have x2 := Ext.new (Nat.le_refl (h.new 53 tok0.cells).size) 53 tok0.cells
    have p1 := TB.new (h.new 53 tok0.cells) tok0
    obtain ⟨h3, s3, x3, p3⟩ := p1.stAll ⟨1, i, s.extract i e, 0⟩
    have q3 := (q1.ext x2 (by simp [AHeap.new])).ext x3 (by simp [AHeap.new])
    have s3' : aSt ((h.new 53 tok0.cells).new 53 tok0.cells) (ptr (h.new 53 tok0.cells).size 0) (.agg (List.toArray [.int .i64 1, .int .i64 (i : Int), .string (s.extract i e), .int .i64 0])) 4 = some h3 := s3
    obtain ⟨_, _, a2, _⟩ := ld_at p3.row
    have X3 : Ext h.size h h3 := x1.trans ((x2.mono (by simp [AHeap.new])).trans (x3.mono (by simp [AHeap.new])))
    simp only [cond_true, l51', Option.bind_some, asI, if_true, subS hb1 hb2, asS, s3', aOff_ptr, Nat.zero_add, a2, l93', asB]
    cases hW : isWd (s.extract i e) with
    | true =>
      obtain ⟨h4, s4, x4, p4⟩ := p3.stK 2
      have q4 := q3.ext x4 (by simp [AHeap.new])
      obtain ⟨h5, e5, x5⟩ := r53_0 (C := call Try.prog Ms (d + 2)) (N := d + 2) q4 p4 (by simp [AHeap.new])
      refine ⟨h5, ?_, X3.trans ((x4.mono (by simp [AHeap.new])).trans x5)⟩
      simp only [cond_true, s4, Option.bind_some, e5, if_true, tokV, size_ext hb1 hb2]
      rfl
    | false =>
      have hc : decide (((s.extract i e).size : Int) > 12) = decide (e - i > 12) := by rw [size_ext hb1 hb2]; simp; omega
      simp only [cond_false, hc]
      by_cases hn : e - i > 12
      · obtain ⟨h4, e4, x4⟩ := ret53 q3 tok0 0 4
        refine ⟨h4, ?_, X3.trans x4⟩
        simp only [hn, decide_true, cond_true, if_true]
        rw [show tok0.cells = [.int .i64 tok0.k, .int .i64 tok0.at', .string tok0.text, .int .i64 tok0.i] from rfl, e4]
        rfl
      · obtain ⟨h5, e5, x5⟩ := r53_0 (C := call Try.prog Ms (d + 2)) (N := d + 2) q3 p3 (by simp [AHeap.new])
        refine ⟨h5, ?_, X3.trans x5⟩
        simp only [hn, decide_false, cond_false, if_false, e5, tokV, if_true, size_ext hb1 hb2]
        rfl
  | false =>
    rw [cond_false, l94', Option.bind_some]
    simp only [asB, Option.bind_some]
    cases hD : isDig (bt s i) with
    | true =>
      rw [cond_true]
      obtain ⟨h3, c3, x3⟩ := l95 hd hs hi (h.new 53 tok0.cells)
      rw [c3, Option.bind_some]
      generalize hT : (if numBad s i = true then tok0 else numTok s i) = T
      have x2 := Ext.new (Nat.le_refl h3.size) 53 tok0.cells
      have p2 := TB.new h3 tok0
      obtain ⟨h4, s4, x4, p4⟩ := p2.stAll T
      have q4 := ((q1.ext x3 (by simp [AHeap.new])).ext x2 (by have := x3.size; simp [AHeap.new] at this ⊢; omega)).ext x4 (by have := x3.size; simp [AHeap.new] at this ⊢; omega)
      obtain ⟨h5, s5, x5, q5, k5⟩ := q4.stOther p4 (by have := x3.size; simp [AHeap.new] at this ⊢; omega) T
      obtain ⟨_, _, a2, _⟩ := ld_at p4.row
      obtain ⟨_, _, b2, _⟩ := ld_at k5
      have hlt : h.size ≤ h3.size := by have := x3.size; simp [AHeap.new] at this; omega
      refine ⟨h5, ?_, x1.trans ((x3.mono (by simp [AHeap.new])).trans ((x2.mono hlt).trans ((x4.mono hlt).trans x5)))⟩
      have t1 : aExt (.tuple (List.toArray [T.val, .int .i64 (if numBad s i then 3 else 0)])) 0 = some T.val := rfl
      have t2 : aExt (.tuple (List.toArray [T.val, .int .i64 (if numBad s i then 3 else 0)])) 1 = some (.int .i64 (if numBad s i then 3 else 0)) := rfl
      simp only [t1, t2, Option.bind_some, asI, if_true]
      simp only [s4, Option.bind_some, TB.ldAll p4.row, aOff_ptr, Nat.zero_add, a2, asS]
      simp only [s5, Option.bind_some, b2, asS, vbeq_str, cond_true, TB.ldAll q5.row]
      cases hB : numBad s i with
      | true => rw [hB, if_pos rfl] at hT; subst hT; rfl
      | false =>
        rw [hB, if_neg (by simp)] at hT; subst hT
        have hbd := endOf_bd (p := isDig) (s := s) _ i rfl (by omega)
        have hz : ((numTok s i).text.size : Int) = (endOf isDig s i : Nat) - (i : Int) := size_ext hbd.1 hbd.2
        rw [hz]; rfl
    | false =>
      rw [cond_false]
      have w1 : IntKind.i64.wrap ((i : Int) + 1) = ((i + 1 : Nat) : Int) := by rw [wr (by omega) (by omega)]; omega
      have w2 : IntKind.i64.wrap ((i : Int) + 2) = ((i + 2 : Nat) : Int) := by rw [wr (by omega) (by omega)]; omega
      by_cases h34 : bt s i = 34
      · have hbd := endOf_bd (p := isPln) (s := s) _ (i + 1) rfl (by omega)
        have l51' := l51 (d := d + 1) (g := 96) (p := isPln) hs (by omega) (fun n h => by obtain ⟨d, rfl⟩ : ∃ k, d = k + 1 := ⟨d - 1, by omega⟩; exact l96 (d + 1) n h) (i := i + 1) (by omega) (h.new 53 tok0.cells)
        generalize endOf isPln s (i + 1) = e at hbd l51'
        obtain ⟨hb1, hb2⟩ := hbd
        have hE : ((bt s i == 34) : Bool) = true := by rw [h34]; rfl
        rw [hE, cond_true, w1, l51', Option.bind_some]
        obtain ⟨h4, e4, x4⟩ := ret53 q1 tok0 0 5
        have e4' : ((aSt (h.new 53 tok0.cells) (ptr h.size 0) (.agg tok0.cells.toArray) 4).bind fun h1 => (aLdN h1 (ptr h.size 0) 4).bind fun v =>
          bif List.all [v, .int .i64 0, .int .i64 5] isS2 then some (Value.tuple (List.toArray [v, .int .i64 0, .int .i64 5]), h1) else none) = some (.tuple (List.toArray [tok0.val, .int .i64 0, .int .i64 5]), h4) := e4
        simp only [asI, if_true, Option.bind_some, e4']
        rw [if_neg (by simp), if_neg (by simp), if_pos h34]
        by_cases he : e = s.size
        · refine ⟨h4, ?_, x1.trans x4⟩
          have : (((e : Nat) : Int) == (s.size : Int)) = true := by rw [he]; simp
          rw [this, cond_true, if_pos (.inl (by omega))]; rfl
        · have hlt : e < s.size := by omega
          have : (((e : Nat) : Int) == (s.size : Int)) = false := by rw [beq_eq_false_iff_ne]; omega
          have w3 : IntKind.i64.wrap ((e : Int) - (i : Int)) = (e : Int) - (i : Int) := wr (by omega) (by omega)
          have w4 : IntKind.i64.wrap ((e : Int) - (i : Int) - 1) = (e : Int) - (i : Int) - 1 := wr (by omega) (by omega)
          rw [this, cond_false, strIx hlt]
          simp only [Option.bind_some, if_true, w3, w4]
          by_cases h5 : bt s e = 34
          · have hn : (bt s e != 34) = false := by rw [h5]; rfl
            rw [hn, cond_false]
            by_cases h6 : e - i - 1 > 160
            · refine ⟨h4, ?_, x1.trans x4⟩
              have : decide ((e : Int) - (i : Int) - 1 > 160) = true := by simp; omega
              rw [this, cond_true, if_pos (.inr (.inr h6))]; rfl
            · obtain ⟨h7, e7, x7⟩ := r53_1 (C := call Try.prog Ms (d + 2)) (N := d + 2) q1 hb1 hb2 hs
              refine ⟨h7, ?_, x1.trans x7⟩
              have : decide ((e : Int) - (i : Int) - 1 > 160) = false := by simp; omega
              rw [this, cond_false, e7, if_neg (by omega)]; rfl
          · have hn : (bt s e != 34) = true := by simp [h5]
            refine ⟨h4, ?_, x1.trans x4⟩
            rw [hn, cond_true, if_pos (.inr (.inl h5))]; rfl
      · have hE : ((bt s i == 34) : Bool) = false := beq_eq_false_iff_ne.2 h34
        rw [hE, cond_false, w1, w2, if_neg (by simp), if_neg (by simp), if_neg h34, markOf_eq hi]
        obtain ⟨h3, e3, x3⟩ := r53_2 (C := call Try.prog Ms (d + 2)) (N := d + 2) (x7 := bt s i) q1 hi hs
        have fin1 : ∀ b : Bool, some (Value.tuple (List.toArray [(if b = true then ⟨5, i, s.extract i (i + 1), 0⟩ else tok0 : Tok).val, .int .i64 (if b = true then 1 else 0), .int .i64 (if b = true then 0 else 2)]), h3) =
            some (tokV (ofMark i (if b = true then some (s.extract i (i + 1)) else none)) i, h3) := by
          intro b
          cases b with
          | false => rfl
          | true =>
            have := size_ext (s := s) (i := i) (e := i + 1) (by omega) hi
            unfold tokV ofMark
            simp only [if_true]
            rw [show ((i + (s.extract i (i + 1)).size : Nat) : Int) - (i : Int) = 1 by omega]; rfl
        by_cases hlt : i + 1 < s.size
        · have hc : decide (((i + 1 : Nat) : Int) < (s.size : Int)) = true := by simp; omega
          obtain ⟨h4, e4, x4⟩ := ret53 q1 ⟨5, i, s.extract i (i + 2), 0⟩ 2 0
          rw [hc, cond_true, subS (by omega) hlt]
          simp only [Option.bind_some, asS, e3]
          simp only [e4]
          simp only [cond_twice, cond_orr, hlt, decide_true, Bool.true_and]
          cases hb : twoM (s.extract i (i + 2)) with
          | true =>
            refine ⟨h4, ?_, x1.trans x4⟩
            unfold twoM at hb
            rw [hb, cond_true, if_pos rfl]
            have := size_ext (s := s) (i := i) (e := i + 2) (by omega) hlt
            unfold tokV ofMark
            simp only [if_true]
            rw [show ((i + (s.extract i (i + 2)).size : Nat) : Int) - (i : Int) = 2 by omega]; rfl
          | false =>
            refine ⟨h3, ?_, x1.trans x3⟩
            unfold twoM at hb
            rw [hb, cond_false, if_neg (c := false = true) (by simp)]
            exact fin1 _
        · have hc : decide (((i + 1 : Nat) : Int) < (s.size : Int)) = false := by simp; omega
          refine ⟨h3, ?_, x1.trans x3⟩
          rw [hc, cond_false, e3, if_neg (c := (decide (i + 1 < s.size) && twoM (s.extract i (i + 2))) = true) (by simp [hlt])]
          exact fin1 _
end Go.Proofs.Ytadmoackacickaa
/- The reference's token: ends and loops. -/
set_option linter.unusedSimpArgs false
namespace Go.Proofs.Ytadmoackacickaa
open Go Go.AH

theorem cond_same {α : Type} {c : Bool} {x y : α} (h : c = true → x = y) : (bif c then x else y) = y := by
  cases c with
  | false => rfl
  | true => exact h rfl
theorem skip {R : Type} {p : Int → Bool} {s : ByteArray} (f : Nat → Int → R) (hf : ∀ (n j : Nat), j < s.size → p (bt s j) = true → f (n + 1) (j : Int) = f n ((j + 1 : Nat) : Int)) :
    ∀ (k j m : Nat), s.size - j = k → j ≤ s.size → k < m → ∃ m', f m (j : Int) = f (m' + 1) ((endOf p s j : Nat) : Int) := by
  intro k
  induction k with
  | zero =>
    intro j m hk hj hm
    obtain ⟨m, rfl⟩ : ∃ q, m = q + 1 := ⟨m - 1, by omega⟩
    rw [endOf_stop (by omega)]
    exact ⟨m, rfl⟩
  | succ k ih =>
    intro j m hk hj hm
    obtain ⟨m, rfl⟩ : ∃ q, m = q + 1 := ⟨m - 1, by omega⟩
    by_cases hp : p (bt s j) = true
    · rw [hf m j (by omega) hp, endOf_step (by omega) hp]
      exact ih (j + 1) m (by omega) (by omega) (by omega)
    · rw [endOf_stop (by simp [hp])]
      exact ⟨m, rfl⟩
theorem endOf_no {p : Int → Bool} {s : ByteArray} : ∀ (k j : Nat), s.size - j = k → endOf p s j < s.size → p (bt s (endOf p s j)) = false := by
  intro k
  induction k with
  | zero => intro j hk h; rw [endOf_stop (by omega)] at h; omega
  | succ k ih =>
    intro j hk h
    by_cases hp : p (bt s j) = true
    · rw [endOf_step (by omega) hp] at h ⊢
      exact ih (j + 1) (by omega) h
    · rw [endOf_stop (by simp [hp])]
      simpa using hp
def Is50 (b : Nat) (h : AHeap) (r : Option (Value × AHeap)) (T : Tok × Nat × Nat) : Prop :=
  ∃ (h' : AHeap) (t : Tok) (e : Int), r = some (.tuple (List.toArray [t.val, .int .i64 (T.2.1 : Int), .int .i64 e]), h') ∧ Ext b h h' ∧ (T.2.1 = 0 → t = T.1 ∧ e = (T.2.2 : Int))
theorem Is50.of {b : Nat} {h h1 : AHeap} {r : Option (Value × AHeap)} {T : Tok × Nat × Nat} (x : Ext b h h1) (y : Is50 b h1 r T) : Is50 b h r T :=
  let ⟨h', t, e, h1, h2, h3⟩ := y; ⟨h', t, e, h1, x.trans h2, h3⟩
theorem ret50 {b c : Nat} {h : AHeap} {p q : Nat} {t u : Tok} {T : Tok × Nat × Nat} (x : TB b h p t) (y : TB c h q u) {k e : Int} (hk : k = (T.2.1 : Int)) (hT : T.2.1 = 0 → u = T.1 ∧ e = (T.2.2 : Int)) :
    Is50 b h ((aLdN h (ptr q 0) 4).bind fun v => (aSt h (ptr p 0) v 4).bind fun h1 => (aLdN h1 (ptr p 0) 4).bind fun v' => bif List.all [v', .int .i64 k, .int .i64 e] isS2 then some (Value.tuple (List.toArray [v', .int .i64 k, .int .i64 e]), h1) else none) T := by
  obtain ⟨h1, s1, x1, t1⟩ := x.stAll u
  refine ⟨h1, u, e, ?_, x1, hT⟩
  subst hk
  rw [TB.ldAll y.row, Option.bind_some, s1, Option.bind_some, TB.ldAll t1.row, Option.bind_some]; rfl
theorem g50_1 {C : ACall} {N b c p q e : Nat} {h : AHeap} {t u : Tok} (x : TB b h p t) (y : TB c h q u) : Is50 b h (s50_1 hk0 C N (ptr p 0) (e : Int) (ptr q 0) h) (u, 0, e) := by
  rw [s50_1_j, s50_1_eq]; exact ret50 x y rfl (fun _ => ⟨rfl, rfl⟩)
theorem g50_6 {C : ACall} {N b c p q i e : Nat} {s : ByteArray} {h : AHeap} {t : Tok} (x : TB b h p t) (y : TB c h q ⟨0, i, ⟨#[]⟩, 0⟩) (hpc : p < c) (hbc : b ≤ c) (h1 : i + 1 ≤ e) (h2 : e ≤ s.size) (hs : s.size ≤ 3000) :
    Is50 b h (s50_6 hk0 C N s (i : Int) (ptr p 0) (e : Int) (ptr q 0) h) (⟨4, i, s.extract (i + 1) e, 0⟩, 0, e + 1) := by
  have w1 : IntKind.i64.wrap ((i : Int) + 1) = ((i + 1 : Nat) : Int) := by rw [wr (by omega) (by omega)]; omega
  have w2 : IntKind.i64.wrap ((e : Int) + 1) = ((e + 1 : Nat) : Int) := by rw [wr (by omega) (by omega)]; omega
  obtain ⟨h3, s3, x3, y3⟩ := y.stK 4
  obtain ⟨h4, s4, x4, y4⟩ := y3.stT (s.extract (i + 1) e)
  have z := (x.ext x3 hpc).ext x4 hpc
  rw [s50_6_j, s50_6_eq, w1, w2, subS h1 h2]
  simp only [aOff_ptr, Nat.zero_add, Option.bind_some, s3, asS, s4]
  exact Is50.of ((x3.trans x4).mono hbc) (ret50 z y4 rfl (fun _ => ⟨rfl, rfl⟩))
theorem num50 {C : ACall} {N p q e b c : Nat} {s : ByteArray} (hs : s.size ≤ 3000) (he : e ≤ s.size) : ∀ (n i m : Nat) (t u : Tok) (h : AHeap), e - i = n → i ≤ e → n < m → TB b h p t → TB c h q u → p < c → b ≤ c →
    Is50 b h (s50_4 hk0 C N m s (ptr p 0) (e : Int) (ptr q 0) (i : Int) h) ({ u with i := numGo s n i u.i }, 0, e) := by
  intro n
  induction n with
  | zero =>
    intro i m t u h hn hi hm tp tq hpc hbc
    obtain ⟨m, rfl⟩ : ∃ k, m = k + 1 := ⟨m - 1, by omega⟩
    have : ¬ ((i : Int) < (e : Int)) := by omega
    rw [s50_4_eq]
    simp only [this, decide_false, cond_false]
    exact ret50 tp tq rfl (fun _ => ⟨rfl, rfl⟩)
  | succ n ih =>
    intro i m t u h hn hi hm tp tq hpc hbc
    obtain ⟨m, rfl⟩ : ∃ k, m = k + 1 := ⟨m - 1, by omega⟩
    have hI : (i : Int) < (e : Int) := by omega
    obtain ⟨_, _, _, a3⟩ := ld_at tq.row
    obtain ⟨h1, s1, x1, t1⟩ := tq.stI (IntKind.i64.wrap ((IntKind.i64.wrap (u.i * 10)) + (IntKind.i64.wrap (IntKind.u8.wrap (bt s i - 48)))))
    have r := ih (i + 1) m t _ h1 (by omega) (by omega) (by omega) (tp.ext x1 hpc) t1 hpc hbc
    have wj : IntKind.i64.wrap ((i : Int) + 1) = ((i + 1 : Nat) : Int) := by rw [wr (by omega) (by omega)]; omega
    rw [s50_4_eq]
    simp only [hI, decide_true, cond_true, aOff_ptr, Nat.zero_add, a3, Option.bind_some, asI, if_true, strIx (show i < s.size by omega), s1, wj]
    refine Is50.of (x1.mono hbc) ?_
    rw [numGo, show 10 * u.i = u.i * 10 by omega]
    exact r
theorem g50_3 {C : ACall} {N b c p q i e : Nat} {s : ByteArray} {h : AHeap} {t : Tok} (x : TB b h p t) (y : TB c h q ⟨0, i, ⟨#[]⟩, 0⟩) (hpc : p < c) (hbc : b ≤ c) (h1 : i ≤ e) (h2 : e ≤ s.size) (hs : s.size ≤ 3000) (hN : 3000 < N) :
    Is50 b h (s50_3 hk0 C N s (i : Int) (ptr p 0) (e : Int) (ptr q 0) h) (⟨3, i, s.extract i e, numGo s (e - i) i 0⟩, 0, e) := by
  obtain ⟨h3, s3, x3, y3⟩ := y.stK 3
  obtain ⟨h4, s4, x4, y4⟩ := y3.stT (s.extract i e)
  have z := (x.ext x3 hpc).ext x4 hpc
  rw [s50_3_j, s50_3_eq, subS h1 h2]
  simp only [aOff_ptr, Nat.zero_add, Option.bind_some, s3, asS, s4]
  exact Is50.of ((x3.trans x4).mono hbc) (num50 hs h2 (e - i) i N t _ h4 rfl h1 (by omega) z y4 hpc hbc)
end Go.Proofs.Ytadmoackacickaa
/- The reference's token. -/
set_option linter.unusedSimpArgs false
namespace Go.Proofs.Ytadmoackacickaa
open Go Go.AH

theorem TB.stK9 {b b' : Nat} {h : AHeap} {i r : Nat} {t : Tok} {cs : List Value} (x : TB b h i t) (y : Own b' h r 9 cs) (v : Int) : ∃ h', aSt h (ptr i 0) (.int .i64 v) 1 = some h' ∧ Ext b h h' ∧ TB b h' i { t with k := v } ∧ Row h' r cs := by
  obtain ⟨h', h1, h2, h3, _, k⟩ := Own.st (off := 0) (n := 1) (v := .int .i64 v) x rfl rfl (by show 0 + 1 ≤ 4; omega)
  obtain ⟨r1, ep, hy, _⟩ := y
  obtain ⟨r2, ep2, hx, _⟩ := x
  refine ⟨h', h1, h2, h3, k r _ ⟨_, hy, rfl⟩ (fun o ho ⟨he, _⟩ => ?_) (fun e => ?_)⟩
  · rw [hy] at ho; cases ho; simp at he
  · subst e; rw [hy] at hx; simp at hx
def markR (s : ByteArray) (i j : Nat) : Tok × Nat × Nat :=
  ofMark i ((marksL.drop j).find? (hitM s i))
theorem marks_size : ∀ (j : Nat) (h : j < marksL.length), (marksL[j]'h).size ≤ 2 := by decide
theorem marks50 {C : ACall} {N p q r b b' c i : Nat} {s : ByteArray} {t : Tok} {h : AHeap} (hs : s.size ≤ 3000) (hi : i < s.size) (tp : TB b h p t) (tq : TB c h q ⟨0, i, ⟨#[]⟩, 0⟩) (tr : Own b' h r 9 (marksL.map Value.string)) (hpc : p < c) (hbc : b ≤ c) :
    ∀ (n j m : Nat), 21 - j = n → j ≤ 21 → n < m → Is50 b h (s50_7 hk0 C N m s (i : Int) (ptr p 0) (ptr q 0) (slc r 0 21) (j : Int) h) (markR s i j) := by
  have hl : marksL.length = 21 := rfl
  have hlen : aLen (slc r 0 21) = some (.int .i64 ((21 : Nat) : Int)) := rfl
  intro n
  induction n with
  | zero =>
    intro j m hn hj hm
    obtain ⟨m, rfl⟩ : ∃ k, m = k + 1 := ⟨m - 1, by omega⟩
    have : ¬ ((j : Int) < ((21 : Nat) : Int)) := by omega
    have hR : markR s i j = (tok0, 2, 0) := by unfold markR; rw [List.drop_eq_nil_of_le (by omega)]; rfl
    rw [s50_7_eq, hR]
    simp only [hlen, Option.bind_some, asI, if_true, this, decide_false, cond_false]
    exact ret50 tp tq rfl (fun h => by cases h)
  | succ n ih =>
    intro j m hn hj hm
    obtain ⟨m, rfl⟩ : ∃ k, m = k + 1 := ⟨m - 1, by omega⟩
    have hlt : j < marksL.length := by omega
    have hI : (j : Int) < ((21 : Nat) : Int) := by omega
    have hix : aIdx (slc r 0 21) (.int .i64 (j : Int)) 1 = some (ptr r j) := by simp [aIdx, slc]; omega
    have hld : aLd1 h (ptr r j) = some (.string (marksL[j]'hlt)) := tr.row.ld1 (by simp [hlt])
    have hsz := marks_size j hlt
    have wi : IntKind.i64.wrap ((i : Int) + ((marksL[j]'hlt).size : Int)) = ((i + (marksL[j]'hlt).size : Nat) : Int) := by rw [wr (by omega) (by omega)]; omega
    have wj : IntKind.i64.wrap ((j : Int) + 1) = ((j + 1 : Nat) : Int) := by rw [wr (by omega) (by omega)]; omega
    have hR : markR s i j = match hitM s i (marksL[j]'hlt) with | true => (⟨5, i, marksL[j]'hlt, 0⟩, 0, i + (marksL[j]'hlt).size) | false => markR s i (j + 1) := by
      unfold markR
      rw [List.drop_eq_getElem_cons hlt, List.find?_cons]
      cases hitM s i (marksL[j]'hlt) <;> rfl
    have next := ih (j + 1) m (by omega) (by omega) (by omega)
    rw [s50_7_eq, hR]
    simp only [hlen, Option.bind_some, asI, if_true, hI, decide_true, cond_true, hix, hld, asS, wi, wj]
    by_cases hc : i + (marksL[j]'hlt).size ≤ s.size
    · have hc' : decide (((i + (marksL[j]'hlt).size : Nat) : Int) ≤ (s.size : Int)) = true := by simp; omega
      rw [hc', cond_true, subS (by omega) hc]
      simp only [Option.bind_some]
      have hh : hitM s i (marksL[j]'hlt) = ((s.extract i (i + (marksL[j]'hlt).size)).toList == (marksL[j]'hlt).toList) := by unfold hitM; simp [hc]
      rw [hh]
      cases ((s.extract i (i + (marksL[j]'hlt).size)).toList == (marksL[j]'hlt).toList) with
      | false => rw [cond_false]; exact next
      | true =>
        rw [cond_true, s50_8_j, s50_8_eq]
        obtain ⟨h3, s3, x3, y3, k3⟩ := tq.stK9 tr 5
        obtain ⟨h4, s4, x4, y4⟩ := y3.stT (marksL[j]'hlt)
        have hld3 : aLd1 h3 (ptr r j) = some (.string (marksL[j]'hlt)) := k3.ld1 (by simp [hlt])
        have z := (tp.ext x3 hpc).ext x4 hpc
        simp only [aOff_ptr, Nat.zero_add, Option.bind_some, s3, hix, hld3, asS, s4, wi]
        exact Is50.of ((x3.trans x4).mono hbc) (ret50 z y4 rfl (fun _ => ⟨rfl, rfl⟩))
    · have hc' : decide (((i + (marksL[j]'hlt).size : Nat) : Int) ≤ (s.size : Int)) = false := by simp; omega
      have hh : hitM s i (marksL[j]'hlt) = false := by unfold hitM; simp [hc]
      rw [hc', cond_false, hh]
      exact next
theorem markR0 (s : ByteArray) (i : Nat) : markR s i 0 = ofMark i (markOf s i) := by
  unfold markR markOf
  rw [List.drop_zero]
theorem g50L {d b c p q : Nat} (hd : 3010 < d) {s : ByteArray} (hs : s.size ≤ 3000) {i : Nat} (hi : i < s.size) {h : AHeap} {t : Tok} (tp : TB b h p t) (tq : TB c h q ⟨0, i, ⟨#[]⟩, 0⟩) (hpc : p < c) (hbc : b ≤ c) :
    Is50 b h (s50_0 hk0 (call Try.prog Ms (d + 2)) (d + 2) (d + 2) s (i : Int) (ptr p 0) (i : Int) (ptr q 0) h) (if isWd (s.extract i (endOf isLet s i)) = true then (⟨2, i, s.extract i (endOf isLet s i), 0⟩, 0, endOf isLet s i)
    else if endOf isLet s i - i > 12 then (tok0, 4, 0)
    else (⟨1, i, s.extract i (endOf isLet s i), 0⟩, 0, endOf isLet s i)) := by
  have l87' : ∀ (n : Int) (h : AHeap), call Try.prog Ms (d + 2) 87 [.int .u8 n] h = some (.bool (isLet n), h) := l87 (d + 1)
  have l89' : ∀ (n : Int) (h : AHeap), call Try.prog Ms (d + 2) 89 [.int .u8 n] h = some (.bool (isDig n), h) := l89 (d + 1)
  have l90' : ∀ (n : Int) (h : AHeap), call Try.prog Ms (d + 2) 90 [.int .u8 n] h = some (.bool (isPln n), h) := l90 (d + 1)
  have hbd := endOf_bd (p := isLet) (s := s) _ i rfl (by omega)
  have hno := endOf_no (p := isLet) (s := s) _ i rfl
  obtain ⟨m', hm'⟩ := skip (p := isLet) (s := s) (fun n j => s50_0 hk0 (call Try.prog Ms (d + 2)) (d + 2) n s (i : Int) (ptr p 0) j (ptr q 0) h) (fun n j hj hp => by
    have : ((j : Nat) : Int) < (s.size : Int) := by omega
    have wj : IntKind.i64.wrap ((j : Int) + 1) = ((j + 1 : Nat) : Int) := by rw [wr (by omega) (by omega)]; omega
    rw [s50_0_eq]
    simp only [this, decide_true, cond_true, strIx hj, Option.bind_some, asI, if_true, l87', asB, hp, wj]) _ i (d + 2) rfl (by omega) (by omega)
  rw [hm']
  clear hm'
  generalize endOf isLet s i = e at hbd hno
  obtain ⟨hb1, hb2⟩ := hbd
  rw [s50_0_eq, cond_same (by
    intro hc
    have hlt : e < s.size := by simpa using hc
    simp only [strIx hlt, Option.bind_some, asI, if_true, l87', asB, hno hlt, cond_false])]
  obtain ⟨h4, s4, x4, p4⟩ := tq.stK 1
  obtain ⟨h5, s5, x5, p5⟩ := p4.stT (s.extract i e)
  obtain ⟨_, _, a2, _⟩ := ld_at p5.row
  obtain ⟨h6, c6, x6⟩ := l88 (d := d) (by omega) (s.extract i e) h5
  have p6 := p5.ext x6 (Own.lt p5).2
  have hle : c ≤ h5.size := Nat.le_of_lt (Nat.lt_of_le_of_lt (Own.lt p5).1 (Own.lt p5).2)
  have q6 := ((tp.ext x4 hpc).ext x5 hpc).ext x6 (by omega)
  have X6 : Ext b h h6 := (x4.trans (x5.trans (x6.mono hle))).mono hbc
  refine Is50.of X6 ?_
  simp only [aOff_ptr, Nat.zero_add, s4, Option.bind_some, subS hb1 hb2, asS, s5, a2, c6, asB]
  cases hW : isWd (s.extract i e) with
  | true =>
    rw [cond_true, if_pos rfl]
    obtain ⟨h7, s7, x7, p7⟩ := p6.stK 2
    simp only [s7, Option.bind_some]
    exact Is50.of (x7.mono hbc) (g50_1 (q6.ext x7 hpc) p7)
  | false =>
    rw [cond_false, if_neg (c := false = true) (by simp)]
    have hc : decide ((IntKind.i64.wrap ((e : Int) - (i : Int))) > 12) = decide (e - i > 12) := by rw [wr (by omega) (by omega)]; simp; omega
    rw [hc]
    by_cases hn : e - i > 12
    · rw [decide_eq_true hn, cond_true, if_pos hn]
      exact ret50 q6 p6 rfl (fun h => by cases h)
    · rw [decide_eq_false hn, cond_false, if_neg hn]
      exact g50_1 q6 p6
theorem g50D {d b c p q : Nat} (hd : 3010 < d) {s : ByteArray} (hs : s.size ≤ 3000) {i : Nat} (hi : i < s.size) {h : AHeap} {t : Tok} (tp : TB b h p t) (tq : TB c h q ⟨0, i, ⟨#[]⟩, 0⟩) (hpc : p < c) (hbc : b ≤ c) :
    Is50 b h (s50_2 hk0 (call Try.prog Ms (d + 2)) (d + 2) (d + 2) s (i : Int) (ptr p 0) (i : Int) (ptr q 0) h) (if numBad s i = true then (tok0, 3, 0) else (numTok s i, 0, endOf isDig s i)) := by
  have l87' : ∀ (n : Int) (h : AHeap), call Try.prog Ms (d + 2) 87 [.int .u8 n] h = some (.bool (isLet n), h) := l87 (d + 1)
  have l89' : ∀ (n : Int) (h : AHeap), call Try.prog Ms (d + 2) 89 [.int .u8 n] h = some (.bool (isDig n), h) := l89 (d + 1)
  have l90' : ∀ (n : Int) (h : AHeap), call Try.prog Ms (d + 2) 90 [.int .u8 n] h = some (.bool (isPln n), h) := l90 (d + 1)
  have hbd := endOf_bd (p := isDig) (s := s) _ i rfl (by omega)
  have hno := endOf_no (p := isDig) (s := s) _ i rfl
  obtain ⟨m', hm'⟩ := skip (p := isDig) (s := s) (fun n j => s50_2 hk0 (call Try.prog Ms (d + 2)) (d + 2) n s (i : Int) (ptr p 0) j (ptr q 0) h) (fun n j hj hp => by
    have : ((j : Nat) : Int) < (s.size : Int) := by omega
    have wj : IntKind.i64.wrap ((j : Int) + 1) = ((j + 1 : Nat) : Int) := by rw [wr (by omega) (by omega)]; omega
    rw [s50_2_eq]
    simp only [this, decide_true, cond_true, strIx hj, Option.bind_some, asI, if_true, l89', asB, hp, wj]) _ i (d + 2) rfl (by omega) (by omega)
  rw [hm']
  clear hm'
  have hN : numBad s i = (decide (endOf isDig s i - i > 15) || decide (endOf isDig s i - i > 1) && bt s i == 48 || decide (endOf isDig s i < s.size) && isLet (bt s (endOf isDig s i))) := rfl
  generalize numBad s i = nb at hN
  unfold numTok
  generalize endOf isDig s i = e at hbd hno hN
  obtain ⟨hb1, hb2⟩ := hbd
  rw [s50_2_eq, cond_same (by
    intro hc
    have hlt : e < s.size := by simpa using hc
    rw [strIx hlt, Option.bind_some]
    simp only [asI, if_true, Option.bind_some]
    rw [l89', Option.bind_some]
    simp only [asB, Option.bind_some, hno hlt, cond_false])]
  have w1 : IntKind.i64.wrap ((e : Int) - (i : Int)) = (e : Int) - (i : Int) := wr (by omega) (by omega)
  have c1 : decide ((e : Int) - (i : Int) > 15) = decide (e - i > 15) := by simp; omega
  have c2 : decide ((e : Int) - (i : Int) > 1) = decide (e - i > 1) := by simp; omega
  have c3 : decide ((e : Int) < (s.size : Int)) = decide (e < s.size) := by simp
  have B : Is50 b h _ (tok0, 3, 0) := ret50 (k := 3) (e := e) tp tq rfl (fun h => by cases h)
  have G := g50_3 (C := call Try.prog Ms (d + 2)) (N := d + 2) tp tq hpc hbc hb1 hb2 hs (by omega)
  rw [w1, c1, c2, c3, strIx hi]
  simp only [Option.bind_some, asI, if_true, l87', asB]
  generalize decide (e - i > 15) = b1 at hN ⊢
  generalize decide (e - i > 1) = b2 at hN ⊢
  generalize (bt s i == 48) = b3 at hN ⊢
  have T1 : nb = true → Is50 b h ((aLdN h (ptr q 0) 4).bind fun v => (aSt h (ptr p 0) v 4).bind fun h1 => (aLdN h1 (ptr p 0) 4).bind fun v' => bif List.all [v', .int .i64 3, .int .i64 (e : Int)] isS2 then some (Value.tuple (List.toArray [v', .int .i64 3, .int .i64 (e : Int)]), h1) else none) (if nb = true then (tok0, 3, 0) else (⟨3, i, s.extract i e, numGo s (e - i) i 0⟩, 0, e)) := fun hh => by rw [if_pos hh]; exact B
  have T2 : nb = false → Is50 b h (s50_3 hk0 (call Try.prog Ms (d + 2)) (d + 2) s (i : Int) (ptr p 0) (e : Int) (ptr q 0) h) (if nb = true then (tok0, 3, 0) else (⟨3, i, s.extract i e, numGo s (e - i) i 0⟩, 0, e)) := fun hh => by rw [if_neg (by simp [hh])]; exact G
  by_cases hlt : e < s.size
  · simp only [hlt, decide_true, cond_true, strIx hlt, Option.bind_some, if_true, Bool.true_and] at hN ⊢
    generalize isLet (bt s e) = b4 at hN ⊢
    cases b1 <;> cases b2 <;> cases b3 <;> cases b4 <;> simp only [cond_true, cond_false] <;> first | (have hN2 : nb = true := (by simpa using hN); exact T1 hN2) | (have hN2 : nb = false := (by simpa using hN); exact T2 hN2)
  · simp only [hlt, decide_false, cond_false, Bool.false_and] at hN ⊢
    cases b1 <;> cases b2 <;> cases b3 <;> simp only [cond_true, cond_false] <;> first | (have hN2 : nb = true := (by simpa using hN); exact T1 hN2) | (have hN2 : nb = false := (by simpa using hN); exact T2 hN2)
theorem g50Q {d b c p q : Nat} (hd : 3010 < d) {s : ByteArray} (hs : s.size ≤ 3000) {i : Nat} (hi : i < s.size) {h : AHeap} {t : Tok} (tp : TB b h p t) (tq : TB c h q ⟨0, i, ⟨#[]⟩, 0⟩) (hpc : p < c) (hbc : b ≤ c) :
    Is50 b h (s50_5 hk0 (call Try.prog Ms (d + 2)) (d + 2) (d + 2) s (i : Int) (ptr p 0) ((i + 1 : Nat) : Int) (ptr q 0) h) (if endOf isPln s (i + 1) ≥ s.size ∨ bt s (endOf isPln s (i + 1)) ≠ 34 ∨ endOf isPln s (i + 1) - i - 1 > 160 then (tok0, 5, 0)
    else (⟨4, i, s.extract (i + 1) (endOf isPln s (i + 1)), 0⟩, 0, endOf isPln s (i + 1) + 1)) := by
  have l87' : ∀ (n : Int) (h : AHeap), call Try.prog Ms (d + 2) 87 [.int .u8 n] h = some (.bool (isLet n), h) := l87 (d + 1)
  have l89' : ∀ (n : Int) (h : AHeap), call Try.prog Ms (d + 2) 89 [.int .u8 n] h = some (.bool (isDig n), h) := l89 (d + 1)
  have l90' : ∀ (n : Int) (h : AHeap), call Try.prog Ms (d + 2) 90 [.int .u8 n] h = some (.bool (isPln n), h) := l90 (d + 1)
  have hbd := endOf_bd (p := isPln) (s := s) _ (i + 1) rfl (by omega)
  have hno := endOf_no (p := isPln) (s := s) _ (i + 1) rfl
  have w1 : IntKind.i64.wrap ((i : Int) + 1) = ((i + 1 : Nat) : Int) := by rw [wr (by omega) (by omega)]; omega
  obtain ⟨m', hm'⟩ := skip (p := isPln) (s := s) (fun n j => s50_5 hk0 (call Try.prog Ms (d + 2)) (d + 2) n s (i : Int) (ptr p 0) j (ptr q 0) h) (fun n j hj hp => by
    have : ((j : Nat) : Int) < (s.size : Int) := by omega
    have wj : IntKind.i64.wrap ((j : Int) + 1) = ((j + 1 : Nat) : Int) := by rw [wr (by omega) (by omega)]; omega
    rw [s50_5_eq]
    simp only [this, decide_true, cond_true, strIx hj, Option.bind_some, asI, if_true, l90', asB, hp, wj]) _ (i + 1) (d + 2) rfl (by omega) (by omega)
  rw [hm']
  clear hm'
  generalize endOf isPln s (i + 1) = e at hbd hno
  obtain ⟨hb1, hb2⟩ := hbd
  rw [s50_5_eq, cond_same (by
    intro hc
    have hlt : e < s.size := by simpa using hc
    rw [strIx hlt, Option.bind_some]
    simp only [asI, if_true, Option.bind_some]
    rw [l90', Option.bind_some]
    simp only [asB, Option.bind_some, hno hlt, cond_false])]
  have w3 : IntKind.i64.wrap ((e : Int) - (i : Int)) = (e : Int) - (i : Int) := wr (by omega) (by omega)
  have w4 : IntKind.i64.wrap ((e : Int) - (i : Int) - 1) = (e : Int) - (i : Int) - 1 := wr (by omega) (by omega)
  have B : Is50 b h _ (tok0, 5, 0) := ret50 (k := 5) (e := e) tp tq rfl (fun h => by cases h)
  have G := g50_6 (C := call Try.prog Ms (d + 2)) (N := d + 2) tp tq hpc hbc hb1 hb2 hs
  rw [w3, w4]
  by_cases he : e ≥ s.size
  · have : decide ((e : Int) ≥ (s.size : Int)) = true := by simp; omega
    rw [this, cond_true, if_pos (.inl he)]
    exact B
  · have hlt : e < s.size := by omega
    have : decide ((e : Int) ≥ (s.size : Int)) = false := by simp; omega
    rw [this, cond_false, strIx hlt]
    simp only [Option.bind_some, asI, if_true]
    by_cases h5 : bt s e = 34
    · have hn : (bt s e != 34) = false := by rw [h5]; rfl
      rw [hn, cond_false]
      by_cases h6 : e - i - 1 > 160
      · have : decide ((e : Int) - (i : Int) - 1 > 160) = true := by simp; omega
        rw [this, cond_true, if_pos (.inr (.inr h6))]
        exact B
      · have : decide ((e : Int) - (i : Int) - 1 > 160) = false := by simp; omega
        rw [this, cond_false, if_neg (by omega)]
        exact G
    · have hn : (bt s e != 34) = true := by simp [h5]
      rw [hn, cond_true, if_pos (.inr (.inl h5))]
      exact B
theorem marksV : marksL.map Value.string = [.string (⟨#[123]⟩), .string (⟨#[125]⟩), .string (⟨#[40]⟩), .string (⟨#[41]⟩), .string (⟨#[91]⟩), .string (⟨#[93]⟩), .string (⟨#[59]⟩), .string (⟨#[44]⟩), .string (⟨#[46, 46]⟩), .string (⟨#[46]⟩), .string (⟨#[61, 61]⟩), .string (⟨#[61]⟩), .string (⟨#[126, 61]⟩), .string (⟨#[60, 61]⟩), .string (⟨#[60]⟩), .string (⟨#[43]⟩), .string (⟨#[45]⟩), .string (⟨#[42]⟩), .string (⟨#[47]⟩), .string (⟨#[37]⟩), .string (⟨#[35]⟩)] := rfl
theorem l91 (d : Nat) (h : AHeap) : call Try.prog Ms (d + 1) 91 [] h = some (slc h.size 0 21, h.new 9 (marksL.map Value.string)) := by
  rw [c91, e91, marksV]
  rfl
theorem l50 {d : Nat} (hd : 3010 < d) {s : ByteArray} (hs : s.size ≤ 3000) {i : Nat} (hi : i < s.size) (h : AHeap) :
    Is50 h.size h (call Try.prog Ms (d + 3) 50 [.string s, .int .i64 (i : Int)] h) (tokR s i) := by
  have x1 := Ext.new (Nat.le_refl h.size) 53 tok0.cells
  have q1 := TB.new h tok0
  have x2 := Ext.new (Nat.le_refl (h.new 53 tok0.cells).size) 53 tok0.cells
  have p2 := TB.new (h.new 53 tok0.cells) tok0
  obtain ⟨h3, s3, x3, p3⟩ := p2.stAll ⟨0, i, ⟨#[]⟩, 0⟩
  have q3 := (q1.ext x2 (by simp [AHeap.new])).ext x3 (by simp [AHeap.new])
  have s3' : aSt ((h.new 53 tok0.cells).new 53 tok0.cells) (ptr (h.new 53 tok0.cells).size 0) (.agg (List.toArray [.int .i64 0, .int .i64 (i : Int), .string ⟨#[]⟩, .int .i64 0])) 4 = some h3 := s3
  have hz : ([Value.int .i64 0, .int .i64 0, .string ⟨#[]⟩, .int .i64 0] : List Value) = tok0.cells := rfl
  have hS : (h.new 53 tok0.cells).size = h.size + 1 := rfl
  have X3 : Ext h.size h h3 := x1.trans ((x2.mono (by omega)).trans (x3.mono (by omega)))
  have l87' : ∀ (n : Int) (h : AHeap), call Try.prog Ms (d + 2) 87 [.int .u8 n] h = some (.bool (isLet n), h) := l87 (d + 1)
  have l89' : ∀ (n : Int) (h : AHeap), call Try.prog Ms (d + 2) 89 [.int .u8 n] h = some (.bool (isDig n), h) := l89 (d + 1)
  have l90' : ∀ (n : Int) (h : AHeap), call Try.prog Ms (d + 2) 90 [.int .u8 n] h = some (.bool (isPln n), h) := l90 (d + 1)
  refine Is50.of X3 ?_
  rw [c50, e50]
  simp only [aNew, hz]
  rw [s3', Option.bind_some]
  simp only [strIx hi, Option.bind_some, asI, if_true]
  rw [l87', Option.bind_some]
  simp only [asB, Option.bind_some]
  unfold tokR
  cases hL : isLet (bt s i) with
  | true =>
    rw [cond_true, if_pos rfl]
    exact g50L hd hs hi q3 p3 (by omega) (by omega)
  | false =>
    rw [cond_false, if_neg (c := false = true) (by simp)]
    rw [l89', Option.bind_some]
    simp only [asB, Option.bind_some]
    cases hD : isDig (bt s i) with
    | true =>
      rw [cond_true, if_pos rfl]
      exact g50D hd hs hi q3 p3 (by omega) (by omega)
    | false =>
      rw [cond_false, if_neg (c := false = true) (by simp)]
      by_cases h34 : bt s i = 34
      · have hE : ((bt s i == 34) : Bool) = true := by rw [h34]; rfl
        have w1 : IntKind.i64.wrap ((i : Int) + 1) = ((i + 1 : Nat) : Int) := by rw [wr (by omega) (by omega)]; omega
        rw [hE, cond_true, w1, if_pos h34]
        exact g50Q hd hs hi q3 p3 (by omega) (by omega)
      · have hE : ((bt s i == 34) : Bool) = false := beq_eq_false_iff_ne.2 h34
        have l91' : call Try.prog Ms (d + 2) 91 [] h3 = some (slc h3.size 0 21, h3.new 9 (marksL.map Value.string)) := l91 (d + 1) h3
        rw [hE, cond_false, if_neg h34, l91', Option.bind_some, ← markR0]
        have x4 := Ext.new (Nat.le_refl h3.size) 9 (marksL.map Value.string)
        have r4 := Own.new (Nat.le_refl h3.size) 9 (marksL.map Value.string)
        have hp := Own.lt p3
        have M := marks50 (C := call Try.prog Ms (d + 2)) (N := d + 2) hs hi (q3.ext x4 (by omega)) (p3.ext x4 hp.2) r4 (by omega) (by omega) 21 0 (d + 2) rfl (by omega) (by omega)
        exact Is50.of (x4.mono (by omega)) M
end Go.Proofs.Ytadmoackacickaa
/- The two Lex: what they share. -/
set_option linter.unusedSimpArgs false
namespace Go.Proofs.Ytadmoackacickaa
open Go Go.AH

theorem fillTok (t : Tok) : aFill [.int .i64 0, .int .i64 0, .string ⟨#[]⟩, .int .i64 0] [(0, 4, t.val)] = some t.cells := rfl
/-- The tokens so far. -/
def OR (b : Nat) (h : AHeap) (v : Value) (ts : List Tok) : Prop := ∃ r, v = slc r 0 ts.length ∧ Own b h r 53 (flat ts)
theorem OR.os {b : Nat} {h : AHeap} {v : Value} {ts : List Tok} (x : OR b h v ts) : OS b h v ts := .inr x
theorem OR.ext {b : Nat} {h h' : AHeap} {v : Value} {ts : List Tok} (x : OR b h v ts) (e : Ext h.size h h') : OR b h' v ts := let ⟨r, h1, h2⟩ := x; ⟨r, h1, h2.ext e h2.lt.2⟩
theorem OR.isS2 {b : Nat} {h : AHeap} {v : Value} {ts : List Tok} (x : OR b h v ts) (c n : Int) : List.all [v, .int .i64 c, .int .i64 n] isS2 = true := by obtain ⟨r, rfl, _⟩ := x; rfl
theorem OR.push {b : Nat} {h : AHeap} {v : Value} {ts : List Tok} (x : OR b h v ts) (hb : b ≤ h.size) (hl : ts.length ≤ 3000) (t : Tok) :
    ∃ v' h', aApp (h.new 53 t.cells) 53 4 40 v (slc h.size 0 1) = some (v', h') ∧ Ext b h h' ∧ OR b h' v' (ts ++ [t]) := by
  obtain ⟨r, rfl, o⟩ := x
  have e := Ext.new (Nat.le_refl h.size) 53 t.cells
  have w := (Own.new (b := 0) (Nat.zero_le h.size) 53 t.cells).row
  have hS : (h.new 53 t.cells).size = h.size + 1 := rfl
  have hsrc : aSrc (h.new 53 t.cells) 4 (slc h.size 0 1) = some (1, t.cells) := w.src (n := 1) (esz := 4) (by show 0 + 1 * 4 ≤ 4; omega)
  obtain ⟨h', s1, x1, o1, _⟩ := (o.ext e o.lt.2).app (n := ts.length) (bytes := 40) (esz := 4) (by omega) hsrc (flat_len ts).symm (by show ts.length + 1 ≤ 140737488355328; omega) (by show (ts.length + 1) * 40 ≤ 140737488355328; omega)
  refine ⟨_, h', s1, (e.mono hb).trans x1, (h.new 53 t.cells).size, by simp, ?_⟩
  rw [show flat (ts ++ [t]) = flat ts ++ t.cells by simp [flat]]
  exact o1
theorem tok_new (h : AHeap) (t : Tok) : ∃ h', aSt (h.new 53 [.int .i64 0, .int .i64 0, .string ⟨#[]⟩, .int .i64 0]) (ptr h.size 0) t.val 4 = some h' ∧ Ext h.size h h' ∧ aLdN h' (ptr h.size 0) 4 = some t.val := by
  obtain ⟨h', s1, x1, t1⟩ := (TB.new h tok0).stAll t
  exact ⟨h', s1, (Ext.new (Nat.le_refl h.size) 53 tok0.cells).trans x1, TB.ldAll t1.row⟩
theorem marks_pos : ∀ m ∈ marksL, 1 ≤ m.size := by decide
theorem tokR_bd {s : ByteArray} {i : Nat} (hi : i < s.size) (h0 : (tokR s i).2.1 = 0) : i < (tokR s i).2.2 ∧ (tokR s i).2.2 ≤ s.size := by
  have B : ∀ p : Int → Bool, p (bt s i) = true → i < endOf p s i ∧ endOf p s i ≤ s.size := fun p hp => by
    rw [endOf_step hi hp]
    have := endOf_bd (p := p) (s := s) _ (i + 1) rfl (by omega)
    omega
  unfold tokR at h0 ⊢
  by_cases hL : isLet (bt s i) = true
  · rw [if_pos hL] at h0 ⊢
    have := B _ hL
    by_cases hW : isWd (s.extract i (endOf isLet s i)) = true
    · rw [if_pos hW]; exact this
    · rw [if_neg hW] at h0 ⊢
      by_cases hn : endOf isLet s i - i > 12
      · rw [if_pos hn] at h0; cases h0
      · rw [if_neg hn]; exact this
  · rw [if_neg hL] at h0 ⊢
    by_cases hD : isDig (bt s i) = true
    · rw [if_pos hD] at h0 ⊢
      by_cases hN : numBad s i = true
      · rw [if_pos hN] at h0; cases h0
      · rw [if_neg hN]; exact B _ hD
    · rw [if_neg hD] at h0 ⊢
      by_cases h34 : bt s i = 34
      · rw [if_pos h34] at h0 ⊢
        have := endOf_bd (p := isPln) (s := s) _ (i + 1) rfl (by omega)
        by_cases hc : endOf isPln s (i + 1) ≥ s.size ∨ bt s (endOf isPln s (i + 1)) ≠ 34 ∨ endOf isPln s (i + 1) - i - 1 > 160
        · rw [if_pos hc] at h0; cases h0
        · rw [if_neg hc]
          show i < endOf isPln s (i + 1) + 1 ∧ endOf isPln s (i + 1) + 1 ≤ s.size
          omega
      · rw [if_neg h34] at h0 ⊢
        unfold markOf at h0 ⊢
        cases hm : marksL.find? (hitM s i) with
        | none => rw [hm] at h0; cases h0
        | some m =>
          have h1 := marks_pos m (List.mem_of_find?_eq_some hm)
          have h2 := List.find?_some hm
          unfold hitM at h2
          simp only [Bool.and_eq_true, decide_eq_true_eq] at h2
          exact ⟨by show i < i + m.size; omega, h2.1⟩
def IsLex (b : Nat) (h : AHeap) (r : Option (Value × AHeap)) (L : List Tok × Nat × Nat) : Prop :=
  ∃ (h' : AHeap) (v : Value), r = some (.tuple (List.toArray [v, .int .i64 (L.2.1 : Int), .int .i64 (L.2.2 : Int)]), h') ∧ Ext b h h' ∧ OS b h' v L.1 ∧ L.1.length ≤ 3000
theorem IsLex.of {b : Nat} {h h1 : AHeap} {r : Option (Value × AHeap)} {L : List Tok × Nat × Nat} (x : Ext b h h1) (y : IsLex b h1 r L) : IsLex b h r L :=
  let ⟨h', v, h2, h3, h4⟩ := y; ⟨h', v, h2, x.trans h3, h4⟩
def notNl (x : Int) : Bool := x != 10
def lexR (s : ByteArray) : List Tok × Nat × Nat := if s.size > 3000 then ([], 1, 0) else lexGo s (s.size + 1) 0 []
/-- impl's loop. -/
theorem lex15 {d b : Nat} (hd : 3010 < d) {s : ByteArray} (hs : s.size ≤ 3000) : ∀ (n i m : Nat) (v : Value) (ts : List Tok) (h : AHeap), s.size - i < n → i ≤ s.size → n ≤ m → ts.length ≤ i → b ≤ h.size → OR b h v ts →
    IsLex b h (s15_0 hk0 (call Try.prog Ms (d + 3)) (d + 3) m s v (i : Int) h) (lexGo s n i ts) := by
  intro n
  induction n with
  | zero => intro i m v ts h hn; omega
  | succ n ih =>
    intro i m v ts h hn hi hm ht hb ho
    obtain ⟨m, rfl⟩ : ∃ k, m = k + 1 := ⟨m - 1, by omega⟩
    rw [s15_0_eq]
    unfold lexGo
    by_cases hlt : i < s.size
    · have hI : ((i : Nat) : Int) < (s.size : Int) := by omega
      have wi : IntKind.i64.wrap ((i : Int) + 1) = ((i + 1 : Nat) : Int) := by rw [wr (by omega) (by omega)]; omega
      rw [if_neg (by omega), decide_eq_true hI, cond_true, strIx hlt, Option.bind_some]
      simp only [asI, if_true, Option.bind_some, wi, cond_orr]
      have blank : (bt s i == 9 || (bt s i == 10 || bt s i == 32)) = decide (bt s i = 9 ∨ bt s i = 10 ∨ bt s i = 32) := by rw [Bool.eq_iff_iff]; simp
      rw [blank]
      by_cases hB : bt s i = 9 ∨ bt s i = 10 ∨ bt s i = 32
      · rw [decide_eq_true hB, cond_true, if_pos hB]
        exact ih (i + 1) m v ts h (by omega) (by omega) (by omega) (by omega) hb ho
      · rw [decide_eq_false hB, cond_false, if_neg hB, s15_1_j, s15_1_eq, wi]
        have step : IsLex b h (s15_2 hk0 (call Try.prog Ms (d + 3)) (d + 3) m s v (i : Int) h) (if (tokR s i).2.1 ≠ 0 then ([], (tokR s i).2.1, i) else lexGo s n (tokR s i).2.2 (ts ++ [(tokR s i).1])) := by
          obtain ⟨h1, c1, x1⟩ := l53 hd hs hlt h
          have hb1 : b ≤ h1.size := Nat.le_trans hb x1.size
          have bd := tokR_bd hlt
          rw [s15_2_j, s15_2_eq, c1]
          generalize tokR s i = T at bd
          obtain ⟨t, c, e⟩ := T
          simp only at bd ⊢
          obtain ⟨h2, c2, x2, l2⟩ := tok_new h1 t
          have t0 : aExt (tokV (t, c, e) i) 0 = some t.val := rfl
          have t1 : aExt (tokV (t, c, e) i) 1 = some (.int .i64 (if c = 0 then (e : Int) - (i : Int) else 0)) := rfl
          have t2 : aExt (tokV (t, c, e) i) 2 = some (.int .i64 (c : Int)) := rfl
          simp only [Option.bind_some, t0, t1, t2, asI, if_true, aNew, c2]
          have X2 : Ext b h h2 := (x1.mono hb).trans (x2.mono hb1)
          by_cases hc : c = 0
          · subst hc
            have hne : (((0 : Nat) : Int) != 0) = false := rfl
            rw [hne, cond_false, l2, if_neg (c := (0 : Nat) ≠ 0) (by simp), if_pos (c := (0 : Nat) = 0) rfl]
            have ho2 := (ho.ext x1).ext x2
            obtain ⟨v3, h3, c3, x3, o3⟩ := ho2.push (Nat.le_trans hb1 x2.size) (by omega) t
            simp only [Option.bind_some, fillTok, aNewS, c3, if_true]
            have bd' := bd rfl
            have wj : IntKind.i64.wrap ((i : Int) + ((e : Int) - (i : Int))) = ((e : Nat) : Int) := by rw [wr (by omega) (by omega)]; omega
            rw [wj]
            exact IsLex.of (X2.trans x3) (ih e m v3 _ h3 (by omega) (by omega) (by omega) (by simp; omega) (Nat.le_trans (Nat.le_trans hb1 x2.size) x3.size) o3)
          · have hne : (((c : Nat) : Int) != 0) = true := by simp; omega
            rw [hne, cond_true, if_pos hc]
            exact ⟨h2, _, rfl, X2, .inl ⟨rfl, rfl⟩, Nat.zero_le _⟩
        by_cases h45 : bt s i = 45
        · have e1 : (bt s i == 45) = true := by rw [h45]; rfl
          rw [e1, cond_true]
          by_cases h2 : i + 1 < s.size
          · have hI2 : ((i + 1 : Nat) : Int) < (s.size : Int) := by omega
            rw [decide_eq_true hI2, cond_true, strIx h2, Option.bind_some]
            simp only [asI, if_true, Option.bind_some]
            by_cases h3 : bt s (i + 1) = 45
            · have e3 : (bt s (i + 1) == 45) = true := by rw [h3]; rfl
              have hx : endOf notNl s i = endOf notNl s (i + 1) := endOf_step hlt (by rw [h45]; rfl)
              have bd := endOf_bd (p := notNl) (s := s) _ (i + 1) rfl (by omega)
              have l51' := l51 (d := d + 2) (g := 52) (p := notNl) hs (by omega) (fun n h => l52 (d + 1) n h) (i := i) (by omega) h
              rw [e3, cond_true, if_pos ⟨h45, h2, h3⟩, l51', Option.bind_some]
              simp only [asI, if_true, Option.bind_some]
              exact ih (endOf notNl s i) m v ts h (by omega) (by omega) (by omega) (by omega) hb ho
            · have e3 : (bt s (i + 1) == 45) = false := beq_eq_false_iff_ne.2 h3
              rw [e3, cond_false, if_neg (fun x => h3 x.2.2)]
              exact step
          · have hI2 : ¬ ((i + 1 : Nat) : Int) < (s.size : Int) := by omega
            rw [decide_eq_false hI2, cond_false, if_neg (fun x => h2 x.2.1)]
            exact step
        · have e1 : (bt s i == 45) = false := beq_eq_false_iff_ne.2 h45
          rw [e1, cond_false, if_neg (fun x => h45 x.1)]
          exact step
    · have hI : ¬ ((i : Nat) : Int) < (s.size : Int) := by omega
      rw [if_pos (by omega), decide_eq_false hI, cond_false, ho.isS2, cond_true]
      exact ⟨h, v, rfl, Ext.refl _ _, ho.os, by show ts.length ≤ 3000; omega⟩
end Go.Proofs.Ytadmoackacickaa
/- The reference's Lex. -/
set_option linter.unusedSimpArgs false
namespace Go.Proofs.Ytadmoackacickaa
open Go Go.AH

/-- The reference's loop. -/
theorem lex14 {d b : Nat} (hd : 3010 < d) {s : ByteArray} (hs : s.size ≤ 3000) : ∀ (n i m : Nat) (v : Value) (ts : List Tok) (h : AHeap), s.size - i < n → i ≤ s.size → n ≤ m → ts.length ≤ i → b ≤ h.size → OR b h v ts →
    IsLex b h (s14_0 hk0 (call Try.prog Ms (d + 3)) (d + 3) m s v (i : Int) h) (lexGo s n i ts) := by
  intro n
  induction n with
  | zero => intro i m v ts h hn; omega
  | succ n ih =>
    intro i m v ts h hn hi hm ht hb ho
    obtain ⟨m, rfl⟩ : ∃ k, m = k + 1 := ⟨m - 1, by omega⟩
    rw [s14_0_eq]
    unfold lexGo
    by_cases hlt : i < s.size
    · have hI : ((i : Nat) : Int) < (s.size : Int) := by omega
      have wi : IntKind.i64.wrap ((i : Int) + 1) = ((i + 1 : Nat) : Int) := by rw [wr (by omega) (by omega)]; omega
      rw [if_neg (by omega), decide_eq_true hI, cond_true, strIx hlt, Option.bind_some]
      simp only [asI, if_true, Option.bind_some, wi, cond_orr]
      have blank : (bt s i == 9 || (bt s i == 10 || bt s i == 32)) = decide (bt s i = 9 ∨ bt s i = 10 ∨ bt s i = 32) := by rw [Bool.eq_iff_iff]; simp
      rw [blank]
      by_cases hB : bt s i = 9 ∨ bt s i = 10 ∨ bt s i = 32
      · rw [decide_eq_true hB, cond_true, if_pos hB]
        exact ih (i + 1) m v ts h (by omega) (by omega) (by omega) (by omega) hb ho
      · rw [decide_eq_false hB, cond_false, if_neg hB, s14_1_j, s14_1_eq, wi]
        have step : IsLex b h (s14_4 hk0 (call Try.prog Ms (d + 3)) (d + 3) m s v (i : Int) h) (if (tokR s i).2.1 ≠ 0 then ([], (tokR s i).2.1, i) else lexGo s n (tokR s i).2.2 (ts ++ [(tokR s i).1])) := by
          obtain ⟨h1, t, e, c1, x1, hT⟩ := l50 hd hs hlt h
          have hb1 : b ≤ h1.size := Nat.le_trans hb x1.size
          have bd := tokR_bd hlt
          rw [s14_4_j, s14_4_eq, c1]
          generalize tokR s i = T at bd hT
          obtain ⟨t', c, e'⟩ := T
          simp only at bd hT ⊢
          obtain ⟨h2, c2, x2, l2⟩ := tok_new h1 t
          have t0 : aExt (.tuple (List.toArray [t.val, .int .i64 (c : Int), .int .i64 e])) 0 = some t.val := rfl
          have t1 : aExt (.tuple (List.toArray [t.val, .int .i64 (c : Int), .int .i64 e])) 1 = some (.int .i64 (c : Int)) := rfl
          have t2 : aExt (.tuple (List.toArray [t.val, .int .i64 (c : Int), .int .i64 e])) 2 = some (.int .i64 e) := rfl
          simp only [Option.bind_some, t0, t1, t2, asI, if_true, aNew, c2]
          have X2 : Ext b h h2 := (x1.mono hb).trans (x2.mono hb1)
          by_cases hc : c = 0
          · subst hc
            obtain ⟨ht', he'⟩ := hT rfl
            subst ht'
            subst he'
            have hne : (((0 : Nat) : Int) != 0) = false := rfl
            rw [hne, cond_false, l2, if_neg (c := (0 : Nat) ≠ 0) (by simp)]
            have ho2 := (ho.ext x1).ext x2
            obtain ⟨v3, h3, c3, x3, o3⟩ := ho2.push (Nat.le_trans hb1 x2.size) (by omega) t
            simp only [Option.bind_some, fillTok, aNewS, c3, if_true]
            have bd' := bd rfl
            exact IsLex.of (X2.trans x3) (ih e' m v3 _ h3 (by omega) (by omega) (by omega) (by simp; omega) (Nat.le_trans (Nat.le_trans hb1 x2.size) x3.size) o3)
          · have hne : (((c : Nat) : Int) != 0) = true := by simp; omega
            rw [hne, cond_true, if_pos hc]
            exact ⟨h2, _, rfl, X2, .inl ⟨rfl, rfl⟩, Nat.zero_le _⟩
        by_cases h45 : bt s i = 45
        · have e1 : (bt s i == 45) = true := by rw [h45]; rfl
          rw [e1, cond_true]
          by_cases h2 : i + 1 < s.size
          · have hI2 : ((i + 1 : Nat) : Int) < (s.size : Int) := by omega
            rw [decide_eq_true hI2, cond_true, strIx h2, Option.bind_some]
            simp only [asI, if_true, Option.bind_some]
            by_cases h3 : bt s (i + 1) = 45
            · have e3 : (bt s (i + 1) == 45) = true := by rw [h3]; rfl
              have hx : endOf notNl s i = endOf notNl s (i + 1) := endOf_step hlt (by rw [h45]; rfl)
              have bd := endOf_bd (p := notNl) (s := s) _ (i + 1) rfl (by omega)
              obtain ⟨m', hm'⟩ := skip (p := notNl) (s := s) (fun n j => s14_3 hk0 (call Try.prog Ms (d + 3)) (d + 3) m n s v j h) (fun n j hj hp => by
                have : ((j : Nat) : Int) < (s.size : Int) := by omega
                have wj : IntKind.i64.wrap ((j : Int) + 1) = ((j + 1 : Nat) : Int) := by rw [wr (by omega) (by omega)]; omega
                have hp' : (bt s j != 10) = true := hp
                rw [s14_3_eq]
                simp only [this, decide_true, cond_true, strIx hj, Option.bind_some, asI, if_true, hp', wj]) _ i (d + 3) rfl (by omega) (by omega)
              have hno := endOf_no (p := notNl) (s := s) _ i rfl
              rw [e3, cond_true, if_pos ⟨h45, h2, h3⟩, s14_2_j, s14_2_eq, hm', s14_3_eq, cond_same (by
                intro hc
                have hlt : endOf notNl s i < s.size := by simpa using hc
                have hp' : (bt s (endOf notNl s i) != 10) = false := hno hlt
                simp only [strIx hlt, Option.bind_some, asI, if_true, hp', cond_false])]
              exact ih (endOf notNl s i) m v ts h (by omega) (by omega) (by omega) (by omega) hb ho
            · have e3 : (bt s (i + 1) == 45) = false := beq_eq_false_iff_ne.2 h3
              rw [e3, cond_false, if_neg (fun x => h3 x.2.2)]
              exact step
          · have hI2 : ¬ ((i + 1 : Nat) : Int) < (s.size : Int) := by omega
            rw [decide_eq_false hI2, cond_false, if_neg (fun x => h2 x.2.1)]
            exact step
        · have e1 : (bt s i == 45) = false := beq_eq_false_iff_ne.2 h45
          rw [e1, cond_false, if_neg (fun x => h45 x.1)]
          exact step
    · have hI : ¬ ((i : Nat) : Int) < (s.size : Int) := by omega
      rw [if_pos (by omega), decide_eq_false hI, cond_false, ho.isS2, cond_true]
      exact ⟨h, v, rfl, Ext.refl _ _, ho.os, by show ts.length ≤ 3000; omega⟩
theorem l15 {d : Nat} (hd : 3010 < d) (s : ByteArray) (h : AHeap) : IsLex h.size h (call Try.prog Ms (d + 4) 15 [.string s] h) (lexR s) := by
  rw [c15, e15]
  unfold lexR
  by_cases hs : s.size > 3000
  · have : ((s.size : Int) > 3000) := by omega
    rw [decide_eq_true this, cond_true, if_pos hs]
    exact ⟨h, _, rfl, Ext.refl _ _, .inl ⟨rfl, rfl⟩, Nat.zero_le _⟩
  · have : ¬ ((s.size : Int) > 3000) := by omega
    rw [decide_eq_false this, cond_false, if_neg hs]
    have x := Ext.new (Nat.le_refl h.size) 53 []
    have o := Own.new (Nat.le_refl h.size) 53 []
    exact IsLex.of x (lex15 hd (by omega) (s.size + 1) 0 (d + 3) (slc h.size 0 0) [] (h.new 53 []) (by omega) (by omega) (by omega) (by simp) x.size ⟨h.size, rfl, o⟩)
theorem l14 {d : Nat} (hd : 3010 < d) (s : ByteArray) (h : AHeap) : IsLex h.size h (call Try.prog Ms (d + 4) 14 [.string s] h) (lexR s) := by
  rw [c14, e14]
  unfold lexR
  by_cases hs : s.size > 3000
  · have : ((s.size : Int) > 3000) := by omega
    rw [decide_eq_true this, cond_true, if_pos hs]
    exact ⟨h, _, rfl, Ext.refl _ _, .inl ⟨rfl, rfl⟩, Nat.zero_le _⟩
  · have : ¬ ((s.size : Int) > 3000) := by omega
    rw [decide_eq_false this, cond_false, if_neg hs]
    have x := Ext.new (Nat.le_refl h.size) 53 []
    have o := Own.new (Nat.le_refl h.size) 53 []
    exact IsLex.of x (lex14 hd (by omega) (s.size + 1) 0 (d + 3) (slc h.size 0 0) [] (h.new 53 []) (by omega) (by omega) (by omega) (by simp) x.size ⟨h.size, rfl, o⟩)
end Go.Proofs.Ytadmoackacickaa
set_option linter.unusedVariables false
namespace Go.Proofs.Ytadmoackacickaa
open Go Go.AH
/-! 4 loop.example/g00101/laws.FnExactTreeOk -/
/-! 19 loop.example/g00101/laws.szTree -/
/-! 20 loop.example/g00101/spec.TreeOk -/
/-! 21 loop.example/g00101/laws.toTree -/
/-! 22 loop.example/g00101/impl.TreeOk -/
/-! 23 loop.example/g00101/laws.eqTree -/
theorem e23 (hk : Hk (Value × AHeap)) (C : ACall) (N : Nat) (x0 : Value) (x1 : Value) (h : AHeap) : evFn hk Try.prog C M23 N Try.f23 [x0, x1] h =
    (aCells x0).bind fun c1 => aNew h 35 c1 fun p2 h3 => (aCells x1).bind fun c4 => aNew h3 35 c4 fun p5 h6 => (aOff p2 0).bind fun v7 => (aLd1 h6 v7).bind fun v8 => (aOff p5 0).bind fun v9 => (aLd1 h6 v9).bind fun v10 => (C 61 [v8, v10] h6).bind fun r11 => (asB r11.1).bind fun b12 => bif !b12 then some (.bool false, r11.2) else (aOff p2 1).bind fun v13 => (aLd1 r11.2 v13).bind fun v14 => (asI .i64 v14).bind fun n15 => (aOff p5 1).bind fun v16 => (aLd1 r11.2 v16).bind fun v17 => (asI .i64 v17).bind fun n18 => bif n15 != n18 then some (.bool false, r11.2) else some (.bool true, r11.2) := by kernel_rfl
theorem c23 (d : Nat) (args : List Value) (h : AHeap) : call Try.prog Ms (d + 1) 23 args h = evFn hk0 Try.prog (call Try.prog Ms d) M23 d Try.f23 args h := by kernel_rfl

/-! 32 loop.example/g00101/laws.eqIntS -/
noncomputable def F32_0 (hk : Hk (Value × AHeap)) (C : ACall) (N : Nat) (n1 : Nat) : Nx (Value × AHeap) := evSt hk Try.prog C M32 N Try.f32 [1, 1, 0, 1, 2, 6] [n1]
noncomputable def s32_0 (hk : Hk (Value × AHeap)) (C : ACall) (N : Nat) (n1 : Nat) (x0 : Value) (x1 : Value) (x5 : Int) (h : AHeap) := F32_0 hk C N n1 (⟨26, [(0, x0), (1, x1), (5, .int .i64 x5)]⟩) h
theorem e32 (hk : Hk (Value × AHeap)) (C : ACall) (N : Nat) (x0 : Value) (x1 : Value) (h : AHeap) : evFn hk Try.prog C M32 N Try.f32 [x0, x1] h =
    (aLen x0).bind fun v1 => (asI .i64 v1).bind fun n2 => (aLen x1).bind fun v3 => (asI .i64 v3).bind fun n4 => bif n2 != n4 then some (.bool false, h) else s32_0 hk C N N x0 x1 0 h := by kernel_rfl
theorem s32_0_eq (hk : Hk (Value × AHeap)) (C : ACall) (N : Nat) (n1 : Nat) (x0 : Value) (x1 : Value) (x5 : Int) (h : AHeap) : s32_0 hk C N (n1 + 1) x0 x1 x5 h =
    (aLen x0).bind fun v5 => (asI .i64 v5).bind fun n6 => bif decide (x5 < n6) then (aIdx x0 (.int .i64 x5) 1).bind fun v7 => (aLd1 h v7).bind fun v8 => (asI .i64 v8).bind fun n9 => (aIdx x1 (.int .i64 x5) 1).bind fun v10 => (aLd1 h v10).bind fun v11 => (asI .i64 v11).bind fun n12 => bif n9 != n12 then some (.bool false, h) else s32_0 hk C N n1 x0 x1 (IntKind.i64.wrap (x5 + 1)) h else some (.bool true, h) := by kernel_rfl
theorem c32 (d : Nat) (args : List Value) (h : AHeap) : call Try.prog Ms (d + 1) 32 args h = evFn hk0 Try.prog (call Try.prog Ms d) M32 d Try.f32 args h := by kernel_rfl

/-! 56 loop.example/g00101/laws.szKnotS -/
/-! 57 loop.example/g00101/spec.l9Fits -/
/-! 58 loop.example/g00101/laws.toKnotS -/
/-! 59 (*loop.example/g00101/impl.Tree).nodeOk -/
/-! 60 (*loop.example/g00101/impl.Tree).numbered -/
end Go.Proofs.Ytadmoackacickaa
set_option linter.unusedVariables false
namespace Go.Proofs.Ytadmoackacickaa
open Go Go.AH
/-! 61 loop.example/g00101/laws.eqKnotS -/
noncomputable def F61_0 (hk : Hk (Value × AHeap)) (C : ACall) (N : Nat) (n1 : Nat) : Nx (Value × AHeap) := evSt hk Try.prog C M61 N Try.f61 [1, 1, 0, 1, 2, 6] [n1]
noncomputable def s61_0 (hk : Hk (Value × AHeap)) (C : ACall) (N : Nat) (n1 : Nat) (x0 : Value) (x1 : Value) (x5 : Int) (h : AHeap) := F61_0 hk C N n1 (⟨27, [(0, x0), (1, x1), (5, .int .i64 x5)]⟩) h
theorem e61 (hk : Hk (Value × AHeap)) (C : ACall) (N : Nat) (x0 : Value) (x1 : Value) (h : AHeap) : evFn hk Try.prog C M61 N Try.f61 [x0, x1] h =
    (aLen x0).bind fun v1 => (asI .i64 v1).bind fun n2 => (aLen x1).bind fun v3 => (asI .i64 v3).bind fun n4 => bif n2 != n4 then some (.bool false, h) else s61_0 hk C N N x0 x1 0 h := by kernel_rfl
theorem s61_0_eq (hk : Hk (Value × AHeap)) (C : ACall) (N : Nat) (n1 : Nat) (x0 : Value) (x1 : Value) (x5 : Int) (h : AHeap) : s61_0 hk C N (n1 + 1) x0 x1 x5 h =
    (aLen x0).bind fun v5 => (asI .i64 v5).bind fun n6 => bif decide (x5 < n6) then (aIdx x0 (.int .i64 x5) 4).bind fun v7 => (aLdN h v7 4).bind fun v8 => (aIdx x1 (.int .i64 x5) 4).bind fun v9 => (aLdN h v9 4).bind fun v10 => (C 106 [v8, v10] h).bind fun r11 => (asB r11.1).bind fun b12 => bif !b12 then some (.bool false, r11.2) else s61_0 hk C N n1 x0 x1 (IntKind.i64.wrap (x5 + 1)) r11.2 else some (.bool true, h) := by kernel_rfl
theorem c61 (d : Nat) (args : List Value) (h : AHeap) : call Try.prog Ms (d + 1) 61 args h = evFn hk0 Try.prog (call Try.prog Ms d) M61 d Try.f61 args h := by kernel_rfl

/-! 97 loop.example/g00101/laws.szKnot -/
/-! 98 loop.example/g00101/spec.l1In -/
/-! 99 loop.example/g00101/spec.l9Class -/
/-! 100 loop.example/g00101/spec.l9Shape -/
/-! 101 loop.example/g00101/spec.l9Has -/
/-! 102 loop.example/g00101/laws.toKnot -/
/-! 103 loop.example/g00101/impl.within -/
/-! 104 loop.example/g00101/impl.wordsOk -/
/-! 105 (*loop.example/g00101/impl.Tree).kidsOk -/
/-! 106 loop.example/g00101/laws.eqKnot -/
theorem e106 (hk : Hk (Value × AHeap)) (C : ACall) (N : Nat) (x0 : Value) (x1 : Value) (h : AHeap) : evFn hk Try.prog C M106 N Try.f106 [x0, x1] h =
    (aCells x0).bind fun c1 => aNew h 73 c1 fun p2 h3 => (aCells x1).bind fun c4 => aNew h3 73 c4 fun p5 h6 => (aOff p2 0).bind fun v7 => (aLd1 h6 v7).bind fun v8 => (asI .i64 v8).bind fun n9 => (aOff p5 0).bind fun v10 => (aLd1 h6 v10).bind fun v11 => (asI .i64 v11).bind fun n12 => bif n9 != n12 then some (.bool false, h6) else (aOff p2 1).bind fun v13 => (aLd1 h6 v13).bind fun v14 => (asS v14).bind fun t15 => (aOff p5 1).bind fun v16 => (aLd1 h6 v16).bind fun v17 => (asS v17).bind fun t18 => bif !(t15.toList == t18.toList) then some (.bool false, h6) else (aOff p2 2).bind fun v19 => (aLd1 h6 v19).bind fun v20 => (asI .i64 v20).bind fun n21 => (aOff p5 2).bind fun v22 => (aLd1 h6 v22).bind fun v23 => (asI .i64 v23).bind fun n24 => bif n21 != n24 then some (.bool false, h6) else (aOff p2 3).bind fun v25 => (aLd1 h6 v25).bind fun v26 => (aOff p5 3).bind fun v27 => (aLd1 h6 v27).bind fun v28 => (C 32 [v26, v28] h6).bind fun r29 => (asB r29.1).bind fun b30 => bif !b30 then some (.bool false, r29.2) else some (.bool true, r29.2) := by kernel_rfl
theorem c106 (d : Nat) (args : List Value) (h : AHeap) : call Try.prog Ms (d + 1) 106 args h = evFn hk0 Try.prog (call Try.prog Ms d) M106 d Try.f106 args h := by kernel_rfl

/-! 144 loop.example/g00101/laws.szIntS -/
end Go.Proofs.Ytadmoackacickaa
set_option linter.unusedVariables false
namespace Go.Proofs.Ytadmoackacickaa
open Go Go.AH
/-! 145 loop.example/g00101/spec.l9NameOk -/
/-! 146 loop.example/g00101/laws.toIntS -/
/-! 147 loop.example/g00101/impl.isName -/
/-! 148 loop.example/g00101/impl.just -/
/-! 149 (*loop.example/g00101/impl.Tree).are -/
/-! 150 (*loop.example/g00101/impl.Tree).kidsOk$1 -/
/-! 151 (*loop.example/g00101/impl.Tree).kidsAre -/
/-! 152 loop.example/g00101/impl.isExpr -/
/-! 153 loop.example/g00101/impl.isStatement -/
/-! 185 loop.example/g00101/impl.just$1 -/
/-! 186 slices.ContainsFunc[[]int,int] -/
/-! 187 (*loop.example/g00101/impl.Tree).are$1 -/
end Go.Proofs.Ytadmoackacickaa
set_option linter.unusedVariables false
namespace Go.Proofs.Ytadmoackacickaa
open Go Go.AH
/-! 202 slices.IndexFunc[[]int,int] -/
/-! 5 loop.example/g00101/laws.FnExactNestOf -/
/-! 24 loop.example/g00101/spec.NestOf -/
/-! 25 loop.example/g00101/impl.NestOf -/
/-! 62 loop.example/g00101/spec.l19Size -/
/-! 7 loop.example/g00101/laws.FnExactSizesOf -/
/-! 30 loop.example/g00101/spec.SizesOf -/
/-! 31 loop.example/g00101/impl.SizesOf -/
/-! 33 loop.example/g00101/laws.markTree -/
theorem e33 (hk : Hk (Value × AHeap)) (C : ACall) (N : Nat) (x0 : Value) (x1 : Int) (h : AHeap) : evFn hk Try.prog C M33 N Try.f33 [x0, .int .i64 x1] h =
    (aCells x0).bind fun c1 => aNew h 35 c1 fun p2 h3 => (aOff p2 0).bind fun v4 => (aLd1 h3 v4).bind fun v5 => (C 68 [v5, .int .i64 x1] h3).bind fun r6 => (asI .i64 r6.1).bind fun n7 => some (.int .i64 n7, r6.2) := by kernel_rfl
theorem c33 (d : Nat) (args : List Value) (h : AHeap) : call Try.prog Ms (d + 1) 33 args h = evFn hk0 Try.prog (call Try.prog Ms d) M33 d Try.f33 args h := by kernel_rfl

/-! 34 loop.example/g00101/laws.markIntS -/
noncomputable def F34_0 (hk : Hk (Value × AHeap)) (C : ACall) (N : Nat) (n1 : Nat) : Nx (Value × AHeap) := evSt hk Try.prog C M34 N Try.f34 [1, 0, 1, 2, 6] [n1]
noncomputable def s34_0 (hk : Hk (Value × AHeap)) (C : ACall) (N : Nat) (n1 : Nat) (x0 : Value) (x1 : Int) (x5 : Int) (h : AHeap) := F34_0 hk C N n1 (⟨19, [(0, x0), (1, .int .i64 x1), (5, .int .i64 x5)]⟩) h
theorem e34 (hk : Hk (Value × AHeap)) (C : ACall) (N : Nat) (x0 : Value) (x1 : Int) (h : AHeap) : evFn hk Try.prog C M34 N Try.f34 [x0, .int .i64 x1] h =
    s34_0 hk C N N x0 x1 0 h := by kernel_rfl
theorem s34_0_eq (hk : Hk (Value × AHeap)) (C : ACall) (N : Nat) (n1 : Nat) (x0 : Value) (x1 : Int) (x5 : Int) (h : AHeap) : s34_0 hk C N (n1 + 1) x0 x1 x5 h =
    (aLen x0).bind fun v1 => (asI .i64 v1).bind fun n2 => bif decide (x5 < n2) then (aIdx x0 (.int .i64 x5) 1).bind fun v3 => (aSt h v3 (.int .i64 x1) 1).bind fun h4 => s34_0 hk C N n1 x0 (IntKind.i64.wrap (x1 + 1)) (IntKind.i64.wrap (x5 + 1)) h4 else some (.int .i64 x1, h) := by kernel_rfl
theorem c34 (d : Nat) (args : List Value) (h : AHeap) : call Try.prog Ms (d + 1) 34 args h = evFn hk0 Try.prog (call Try.prog Ms d) M34 d Try.f34 args h := by kernel_rfl

/-! 35 loop.example/g00101/laws.heldIntS -/
noncomputable def F35_0 (hk : Hk (Value × AHeap)) (C : ACall) (N : Nat) (n1 : Nat) : Nx (Value × AHeap) := evSt hk Try.prog C M35 N Try.f35 [1, 0, 1, 2, 6] [n1]
noncomputable def s35_0 (hk : Hk (Value × AHeap)) (C : ACall) (N : Nat) (n1 : Nat) (x0 : Value) (x1 : Int) (x5 : Int) (h : AHeap) := F35_0 hk C N n1 (⟨21, [(0, x0), (1, .int .i64 x1), (5, .int .i64 x5)]⟩) h
theorem e35 (hk : Hk (Value × AHeap)) (C : ACall) (N : Nat) (x0 : Value) (x1 : Int) (h : AHeap) : evFn hk Try.prog C M35 N Try.f35 [x0, .int .i64 x1] h =
    s35_0 hk C N N x0 x1 0 h := by kernel_rfl
theorem s35_0_eq (hk : Hk (Value × AHeap)) (C : ACall) (N : Nat) (n1 : Nat) (x0 : Value) (x1 : Int) (x5 : Int) (h : AHeap) : s35_0 hk C N (n1 + 1) x0 x1 x5 h =
    (aLen x0).bind fun v1 => (asI .i64 v1).bind fun n2 => bif decide (x5 < n2) then (aIdx x0 (.int .i64 x5) 1).bind fun v3 => (aLd1 h v3).bind fun v4 => (asI .i64 v4).bind fun n5 => bif n5 != x1 then some (.int .i64 (-1), h) else s35_0 hk C N n1 x0 (IntKind.i64.wrap (x1 + 1)) (IntKind.i64.wrap (x5 + 1)) h else some (.int .i64 x1, h) := by kernel_rfl
theorem c35 (d : Nat) (args : List Value) (h : AHeap) : call Try.prog Ms (d + 1) 35 args h = evFn hk0 Try.prog (call Try.prog Ms d) M35 d Try.f35 args h := by kernel_rfl

/-! 68 loop.example/g00101/laws.markKnotS -/
noncomputable def F68_0 (hk : Hk (Value × AHeap)) (C : ACall) (N : Nat) (n1 : Nat) : Nx (Value × AHeap) := evSt hk Try.prog C M68 N Try.f68 [1, 0, 1, 2, 6] [n1]
noncomputable def s68_0 (hk : Hk (Value × AHeap)) (C : ACall) (N : Nat) (n1 : Nat) (x0 : Value) (x1 : Int) (x5 : Int) (h : AHeap) := F68_0 hk C N n1 (⟨42, [(0, x0), (1, .int .i64 x1), (5, .int .i64 x5)]⟩) h
theorem e68 (hk : Hk (Value × AHeap)) (C : ACall) (N : Nat) (x0 : Value) (x1 : Int) (h : AHeap) : evFn hk Try.prog C M68 N Try.f68 [x0, .int .i64 x1] h =
    s68_0 hk C N N x0 x1 0 h := by kernel_rfl
theorem s68_0_eq (hk : Hk (Value × AHeap)) (C : ACall) (N : Nat) (n1 : Nat) (x0 : Value) (x1 : Int) (x5 : Int) (h : AHeap) : s68_0 hk C N (n1 + 1) x0 x1 x5 h =
    (aLen x0).bind fun v1 => (asI .i64 v1).bind fun n2 => bif decide (x5 < n2) then (aIdx x0 (.int .i64 x5) 4).bind fun v3 => (aOff v3 0).bind fun v4 => (aSt h v4 (.int .i64 x1) 1).bind fun h5 => (C 55 [.int .i64 (IntKind.i64.wrap (x1 + 1))] h5).bind fun r6 => (asS r6.1).bind fun t7 => (aIdx x0 (.int .i64 x5) 4).bind fun v8 => (aOff v8 1).bind fun v9 => (aSt r6.2 v9 (.string t7) 1).bind fun h10 => (aIdx x0 (.int .i64 x5) 4).bind fun v11 => (aOff v11 2).bind fun v12 => (aSt h10 v12 (.int .i64 (IntKind.i64.wrap ((IntKind.i64.wrap (x1 + 1)) + 1))) 1).bind fun h13 => (aIdx x0 (.int .i64 x5) 4).bind fun v14 => (aOff v14 3).bind fun v15 => (aLd1 h13 v15).bind fun v16 => (C 34 [v16, .int .i64 (IntKind.i64.wrap ((IntKind.i64.wrap ((IntKind.i64.wrap (x1 + 1)) + 1)) + 1))] h13).bind fun r17 => (asI .i64 r17.1).bind fun n18 => s68_0 hk C N n1 x0 n18 (IntKind.i64.wrap (x5 + 1)) r17.2 else some (.int .i64 x1, h) := by kernel_rfl
theorem c68 (d : Nat) (args : List Value) (h : AHeap) : call Try.prog Ms (d + 1) 68 args h = evFn hk0 Try.prog (call Try.prog Ms d) M68 d Try.f68 args h := by kernel_rfl
end Go.Proofs.Ytadmoackacickaa
/- Trees in the small evaluator's heap. -/
set_option linter.unusedSimpArgs false
namespace Go.Proofs.Ytadmoackacickaa
open Go Go.AH

structure Kn where
  k : Int
  t : ByteArray
  i : Int
  ks : List Int
def ints (xs : List Int) : List Value := xs.map (Value.int .i64)
/-- A slice of ints that can be read; its row lies below c. -/
def ISl (c : Nat) (h : AHeap) (v : Value) (xs : List Int) : Prop :=
  (v = .slice none 0 0 ∧ xs = []) ∨ (∃ a n, v = .slice (some a) 0 n ∧ xs = []) ∨ ∃ i o, v = slc i 0 xs.length ∧ h.at? i = some o ∧ o.elem = 3 ∧ o.cells = ints xs ∧ i < c
theorem ISl.ext {c : Nat} {h h' : AHeap} {v : Value} {xs : List Int} (x : ISl c h v xs) (e : Ext c h h') : ISl c h' v xs := by
  rcases x with x | x | ⟨i, o, h1, h2, h3, h4, h5⟩
  · exact .inl x
  · exact .inr (.inl x)
  · exact .inr (.inr ⟨i, o, h1, e.at? h5 h2, h3, h4, h5⟩)
theorem ISl.len {c : Nat} {h : AHeap} {v : Value} {xs : List Int} (x : ISl c h v xs) : aLen v = some (.int .i64 xs.length) := by
  rcases x with ⟨rfl, rfl⟩ | ⟨a, n, rfl, rfl⟩ | ⟨i, o, rfl, _⟩ <;> rfl
theorem ISl.at {c : Nat} {h : AHeap} {v : Value} {xs : List Int} (x : ISl c h v xs) {j : Nat} (hj : j < xs.length) : ∃ p, aIdx v (.int .i64 (j : Int)) 1 = some p ∧ aLd1 h p = some (.int .i64 xs[j]) := by
  rcases x with ⟨rfl, rfl⟩ | ⟨a, n, rfl, rfl⟩ | ⟨i, o, rfl, h2, h3, h4, h5⟩
  · simp at hj
  · simp at hj
  · refine ⟨ptr i j, by simp [aIdx, slc, hj], ?_⟩
    have r : Row h i (ints xs) := ⟨o, h2, h4⟩
    exact r.ld1 (by simp [ints, hj])
theorem ISl.cell {c : Nat} {h : AHeap} {v : Value} {xs : List Int} (x : ISl c h v xs) : isCell v = true ∧ ∀ f a b, v ≠ .func f a b := by
  rcases x with ⟨rfl, rfl⟩ | ⟨a, n, rfl, rfl⟩ | ⟨i, o, rfl, _⟩ <;> exact ⟨rfl, fun _ _ _ h => by cases h⟩
def knCells (n : Kn) (kv : Value) : List Value := [.int .i64 n.k, .string n.t, .int .i64 n.i, kv]
def knVal (n : Kn) (kv : Value) : Value := .agg (List.toArray (knCells n kv))
theorem kn_aCells {c : Nat} {h : AHeap} {n : Kn} {kv : Value} (x : ISl c h kv n.ks) : aCells (knVal n kv) = some (knCells n kv) := by
  have e : (List.all (List.toArray (knCells n kv)).toList isCell) = true := by
    show (true && (true && (true && (isCell kv && true)))) = true
    rw [x.cell.1]; rfl
  show (if (List.all (List.toArray (knCells n kv)).toList isCell) = true then some (List.toArray (knCells n kv)).toList else none) = _
  rw [if_pos e]
/-- A slice of nodes that can be read. -/
def KSl (c : Nat) (h : AHeap) (v : Value) (ns : List Kn) : Prop :=
  (v = .slice none 0 0 ∧ ns = []) ∨ (∃ a n, v = .slice (some a) 0 n ∧ ns = []) ∨
  ∃ i o, v = slc i 0 ns.length ∧ h.at? i = some o ∧ i < c ∧ ns.length * 4 ≤ o.cells.length ∧ ∀ (j : Nat) (n : Kn), ns[j]? = some n → ∃ kv, (o.cells.drop (j * 4)).take 4 = knCells n kv ∧ ISl c h kv n.ks
theorem KSl.ext {c : Nat} {h h' : AHeap} {v : Value} {ns : List Kn} (x : KSl c h v ns) (e : Ext c h h') : KSl c h' v ns := by
  rcases x with x | x | ⟨i, o, h1, h2, h3, h4, h5⟩
  · exact .inl x
  · exact .inr (.inl x)
  · exact .inr (.inr ⟨i, o, h1, e.at? h3 h2, h3, h4, fun j n hn => let ⟨kv, a, b⟩ := h5 j n hn; ⟨kv, a, b.ext e⟩⟩)
theorem KSl.len {c : Nat} {h : AHeap} {v : Value} {ns : List Kn} (x : KSl c h v ns) : aLen v = some (.int .i64 ns.length) := by
  rcases x with ⟨rfl, rfl⟩ | ⟨a, n, rfl, rfl⟩ | ⟨i, o, rfl, _⟩ <;> rfl
theorem KSl.cell {c : Nat} {h : AHeap} {v : Value} {ns : List Kn} (x : KSl c h v ns) : isCell v = true ∧ ∀ f a b, v ≠ .func f a b := by
  rcases x with ⟨rfl, rfl⟩ | ⟨a, n, rfl, rfl⟩ | ⟨i, o, rfl, _⟩ <;> exact ⟨rfl, fun _ _ _ h => by cases h⟩
theorem drop_take_get {cs : List Value} {a : Nat} {l : List Value} (h : (cs.drop a).take 4 = l) {c : Nat} (hc : c < 4) : cs[a + c]? = l[c]? := by
  rw [← h, List.getElem?_take, if_pos hc, List.getElem?_drop]
theorem KSl.at {c : Nat} {h : AHeap} {v : Value} {ns : List Kn} (x : KSl c h v ns) {j : Nat} (hj : j < ns.length) : ∃ i kv, aIdx v (.int .i64 (j : Int)) 4 = some (ptr i (j * 4)) ∧ ISl c h kv ns[j].ks ∧
    ∀ h', Ext c h h' → aLdN h' (ptr i (j * 4)) 4 = some (knVal ns[j] kv) ∧ aLd1 h' (ptr i (j * 4)) = some (.int .i64 ns[j].k) ∧ aLd1 h' (ptr i (j * 4 + 1)) = some (.string ns[j].t) ∧ aLd1 h' (ptr i (j * 4 + 2)) = some (.int .i64 ns[j].i) ∧ aLd1 h' (ptr i (j * 4 + 3)) = some kv := by
  rcases x with ⟨rfl, rfl⟩ | ⟨a, n, rfl, rfl⟩ | ⟨i, o, rfl, h2, h3, h4, h5⟩
  · simp at hj
  · simp at hj
  · obtain ⟨kv, e1, e2⟩ := h5 j ns[j] (List.getElem?_eq_getElem hj)
    refine ⟨i, kv, by simp [aIdx, slc, hj], e2, fun h' e => ?_⟩
    have r : Row h' i o.cells := ⟨o, e.at? h3 h2, rfl⟩
    refine ⟨?_, r.ld1 (drop_take_get (c := 0) e1 (by omega)), r.ld1 (drop_take_get (c := 1) e1 (by omega)), r.ld1 (drop_take_get (c := 2) e1 (by omega)), r.ld1 (drop_take_get (c := 3) e1 (by omega))⟩
    rw [r.ldN (by omega), e1]; rfl
/-- A struct's cells in memory of its own. -/
theorem ld4 {h : AHeap} {i : Nat} {a b c d : Value} (r : Row h i [a, b, c, d]) : aLd1 h (ptr i 0) = some a ∧ aLd1 h (ptr i 1) = some b ∧ aLd1 h (ptr i 2) = some c ∧ aLd1 h (ptr i 3) = some d ∧ aLdN h (ptr i 0) 4 = some (.agg (List.toArray [a, b, c, d])) :=
  ⟨r.ld1 rfl, r.ld1 rfl, r.ld1 rfl, r.ld1 rfl, r.ldN (off := 0) (n := 4) (Nat.le_refl _)⟩
theorem ld2 {h : AHeap} {i : Nat} {a b : Value} (r : Row h i [a, b]) : aLd1 h (ptr i 0) = some a ∧ aLd1 h (ptr i 1) = some b ∧ aLdN h (ptr i 0) 2 = some (.agg (List.toArray [a, b])) :=
  ⟨r.ld1 rfl, r.ld1 rfl, r.ldN (off := 0) (n := 2) (Nat.le_refl _)⟩
/-- All cells of a struct of one's own are written. -/
theorem Own.stN {b : Nat} {h : AHeap} {i n : Nat} {e : TypeId} {cs vs : List Value} {v : Value} (x : Own b h i e cs) (hv : aCells v = some vs) (hl : vs.length = n) (hc : cs.length = n) :
    ∃ h', aSt h (ptr i 0) v n = some h' ∧ Ext b h h' ∧ Own b h' i e vs ∧ h'.size = h.size := by
  obtain ⟨h', h1, h2, h3, h4, _⟩ := x.st (off := 0) (n := n) hv hl (by omega)
  refine ⟨h', h1, h2, ?_, h4⟩
  have : splice cs 0 vs = vs := by
    unfold splice
    rw [List.take_zero, List.nil_append, List.drop_eq_nil_of_le (by omega), List.append_nil]
  rw [this] at h3; exact h3
theorem aCells_int (k : IntKind) (n : Int) : aCells (.int k n) = some [.int k n] := rfl
theorem aCells_str (s : ByteArray) : aCells (.string s) = some [.string s] := rfl
theorem aCells_one {v : Value} (h : isCell v = true) : aCells v = some [v] := by
  cases v <;> simp [isCell] at h <;> simp [aCells, isCell]
end Go.Proofs.Ytadmoackacickaa
/- Trees: their size, their copy. -/
set_option linter.unusedSimpArgs false
namespace Go.Proofs.Ytadmoackacickaa
open Go Go.AH

/-- A tree's value. -/
def trVal (nv : Value) (top : Int) : Value := .agg (List.toArray [nv, .int .i64 top])
theorem tr_aCells {c : Nat} {h : AHeap} {nv : Value} {ns : List Kn} (x : KSl c h nv ns) (top : Int) : aCells (trVal nv top) = some [nv, .int .i64 top] := by
  have e : (List.all (List.toArray [nv, .int .i64 top]).toList isCell) = true := by
    show (isCell nv && (true && true)) = true
    rw [x.cell.1]; rfl
  show (if (List.all (List.toArray [nv, .int .i64 top]).toList isCell) = true then some (List.toArray [nv, .int .i64 top]).toList else none) = _
  rw [if_pos e]
end Go.Proofs.Ytadmoackacickaa
/- Trees: their copy. -/
set_option linter.unusedSimpArgs false
namespace Go.Proofs.Ytadmoackacickaa
open Go Go.AH

theorem ints_set (ys : List Int) (j : Nat) (v : Int) : (ints ys).set j (.int .i64 v) = ints (ys.set j v) := by simp [ints, List.map_set]
end Go.Proofs.Ytadmoackacickaa
/- Trees: what is alike. -/
set_option linter.unusedSimpArgs false
namespace Go.Proofs.Ytadmoackacickaa
open Go Go.AH

theorem eqI_loop {d N c c' : Nat} {v v' : Value} {xs : List Int} {h : AHeap} (hl : xs.length ≤ 1048576) (x : ISl c h v xs) (x' : ISl c' h v' xs) : ∀ (k j m : Nat), xs.length - j = k → j ≤ xs.length → k < m →
    s32_0 hk0 (call Try.prog Ms d) N m v v' (j : Int) h = some (.bool true, h) := by
  intro k
  induction k with
  | zero =>
    intro j m hk hj hm
    obtain ⟨m, rfl⟩ : ∃ q, m = q + 1 := ⟨m - 1, by omega⟩
    have : ¬ ((j : Int) < (xs.length : Int)) := by omega
    rw [s32_0_eq, x.len, Option.bind_some]
    simp only [asI, if_true, Option.bind_some, decide_eq_false this, cond_false]
  | succ k ih =>
    intro j m hk hj hm
    obtain ⟨m, rfl⟩ : ∃ q, m = q + 1 := ⟨m - 1, by omega⟩
    have hlt : j < xs.length := by omega
    have hI : ((j : Int) < (xs.length : Int)) := by omega
    obtain ⟨p, e1, e2⟩ := x.at hlt
    obtain ⟨p', e1', e2'⟩ := x'.at hlt
    have wj : IntKind.i64.wrap ((j : Int) + 1) = ((j + 1 : Nat) : Int) := by rw [wr (by omega) (by omega)]; omega
    rw [s32_0_eq, x.len, Option.bind_some]
    simp only [asI, if_true, Option.bind_some, decide_eq_true hI, cond_true, e1, e2, e1', e2', wj]
    rw [bne_self_eq_false, cond_false]
    exact ih (j + 1) m (by omega) (by omega) (by omega)
theorem l32 {d c c' : Nat} (hd : 1048577 < d) {v v' : Value} {xs : List Int} {h : AHeap} (hl : xs.length ≤ 1048576) (x : ISl c h v xs) (x' : ISl c' h v' xs) : call Try.prog Ms (d + 1) 32 [v, v'] h = some (.bool true, h) := by
  rw [c32, e32, x.len, Option.bind_some]
  simp only [asI, if_true, Option.bind_some, x'.len]
  rw [bne_self_eq_false, cond_false]
  exact eqI_loop hl x x' xs.length 0 d (by omega) (by omega) (by omega)
theorem l106 {d c : Nat} (hd : 1048577 < d) {kv kv' : Value} {n : Kn} {h : AHeap} (x : ISl c h kv n.ks) (x' : ISl c h kv' n.ks) (hc : c ≤ h.size) (hl : n.ks.length ≤ 1048576) :
    ∃ h', call Try.prog Ms (d + 2) 106 [knVal n kv, knVal n kv'] h = some (.bool true, h') ∧ Ext h.size h h' := by
  have e1 := Ext.new (Nat.le_refl h.size) 73 (knCells n kv)
  have r1 : Row (h.new 73 (knCells n kv)) h.size [.int .i64 n.k, .string n.t, .int .i64 n.i, kv] := (Own.new (b := h.size) (Nat.le_refl _) 73 (knCells n kv)).row
  have s1 : (h.new 73 (knCells n kv)).size = h.size + 1 := rfl
  rw [c106, e106, kn_aCells x, Option.bind_some]
  simp only [aNew]
  generalize h.new 73 (knCells n kv) = h1 at e1 r1 s1 ⊢
  have e2 := Ext.new (Nat.le_refl h1.size) 73 (knCells n kv')
  have r2 : Row (h1.new 73 (knCells n kv')) h1.size [.int .i64 n.k, .string n.t, .int .i64 n.i, kv'] := (Own.new (b := h1.size) (Nat.le_refl _) 73 (knCells n kv')).row
  have s2 : (h1.new 73 (knCells n kv')).size = h1.size + 1 := rfl
  rw [kn_aCells x', Option.bind_some]
  generalize h1.new 73 (knCells n kv') = h2 at e2 r2 s2 ⊢
  obtain ⟨a0, a1, a2, a3, _⟩ := ld4 (r1.ext e2 (by omega))
  obtain ⟨b0, b1, b2, b3, _⟩ := ld4 r2
  have E : Ext h.size h h2 := e1.trans (e2.mono (by omega))
  have c3 := l32 hd hl (x.ext (E.mono hc)) (x'.ext (E.mono hc))
  refine ⟨h2, ?_, E⟩
  simp only [aOff_ptr, Nat.zero_add, Option.bind_some, asI, asS, if_true, a0, a1, a2, a3, b0, b1, b2, b3]
  rw [bne_self_eq_false, cond_false, beq_self_eq_true, Bool.not_true, cond_false, bne_self_eq_false, cond_false, c3, Option.bind_some]
  rfl
theorem eqK_loop {d N c : Nat} (hd : 1048577 < d) {v v' : Value} {ns : List Kn} (hl : ns.length ≤ 1048576) (hN : ∀ n ∈ ns, n.t.size ≤ 1048576 ∧ n.ks.length ≤ 1048576) : ∀ (k j m : Nat) (h : AHeap), ns.length - j = k → j ≤ ns.length → k < m → KSl c h v ns → KSl c h v' ns → c ≤ h.size →
    ∃ h', s61_0 hk0 (call Try.prog Ms (d + 2)) N m v v' (j : Int) h = some (.bool true, h') ∧ Ext h.size h h' := by
  intro k
  induction k with
  | zero =>
    intro j m h hk hj hm x x' hc
    obtain ⟨m, rfl⟩ : ∃ q, m = q + 1 := ⟨m - 1, by omega⟩
    have : ¬ ((j : Int) < (ns.length : Int)) := by omega
    refine ⟨h, ?_, Ext.refl _ _⟩
    rw [s61_0_eq, x.len, Option.bind_some]
    simp only [asI, if_true, Option.bind_some, decide_eq_false this, cond_false]
  | succ k ih =>
    intro j m h hk hj hm x x' hc
    obtain ⟨m, rfl⟩ : ∃ q, m = q + 1 := ⟨m - 1, by omega⟩
    have hlt : j < ns.length := by omega
    have hI : ((j : Int) < (ns.length : Int)) := by omega
    obtain ⟨i, kv, e1, e2, e3⟩ := x.at hlt
    obtain ⟨e4, _⟩ := e3 h (Ext.refl _ _)
    obtain ⟨i', kv', e1', e2', e3'⟩ := x'.at hlt
    obtain ⟨e4', _⟩ := e3' h (Ext.refl _ _)
    obtain ⟨h2, c2, x2⟩ := l106 hd e2 e2' hc (hN ns[j] (List.getElem_mem hlt)).2
    have wj : IntKind.i64.wrap ((j : Int) + 1) = ((j + 1 : Nat) : Int) := by rw [wr (by omega) (by omega)]; omega
    obtain ⟨h3, c3, x3⟩ := ih (j + 1) m h2 (by omega) (by omega) (by omega) (x.ext (x2.mono hc)) (x'.ext (x2.mono hc)) (Nat.le_trans hc x2.size)
    refine ⟨h3, ?_, x2.trans (x3.mono x2.size)⟩
    rw [s61_0_eq, x.len, Option.bind_some]
    simp only [asI, if_true, Option.bind_some, decide_eq_true hI, cond_true, e1, e4, e1', e4', wj]
    rw [c2, Option.bind_some]
    simp only [asB, Option.bind_some, Bool.not_true, cond_false]
    exact c3
theorem l23 {d c : Nat} (hd : 1048577 < d) {nv nv' : Value} {ns : List Kn} {top : Int} {h : AHeap} (x : KSl c h nv ns) (x' : KSl c h nv' ns) (hc : c ≤ h.size) (hl : ns.length ≤ 1048576) (hN : ∀ n ∈ ns, n.t.size ≤ 1048576 ∧ n.ks.length ≤ 1048576) :
    ∃ h', call Try.prog Ms (d + 4) 23 [trVal nv top, trVal nv' top] h = some (.bool true, h') ∧ Ext h.size h h' := by
  have e1 := Ext.new (Nat.le_refl h.size) 35 [nv, .int .i64 top]
  have r1 := (Own.new (b := h.size) (Nat.le_refl _) 35 [nv, .int .i64 top]).row
  have s1 : (h.new 35 [nv, .int .i64 top]).size = h.size + 1 := rfl
  rw [c23, e23, tr_aCells x, Option.bind_some]
  simp only [aNew]
  generalize h.new 35 [nv, .int .i64 top] = h1 at e1 r1 s1 ⊢
  have e2 := Ext.new (Nat.le_refl h1.size) 35 [nv', .int .i64 top]
  have r2 := (Own.new (b := h1.size) (Nat.le_refl _) 35 [nv', .int .i64 top]).row
  have s2 : (h1.new 35 [nv', .int .i64 top]).size = h1.size + 1 := rfl
  rw [tr_aCells x', Option.bind_some]
  generalize h1.new 35 [nv', .int .i64 top] = h2 at e2 r2 s2 ⊢
  have r1' := r1.ext e2 (by omega)
  obtain ⟨a0, _, _⟩ := ld2 r1'
  obtain ⟨b0, _, _⟩ := ld2 r2
  have E : Ext h.size h h2 := e1.trans (e2.mono (by omega))
  obtain ⟨h3, c3, x3⟩ := eqK_loop (d := d) (N := d + 2) hd hl hN ns.length 0 (d + 2) h2 (by omega) (by omega) (by omega) (x.ext (E.mono hc)) (x'.ext (E.mono hc)) (Nat.le_trans hc E.size)
  obtain ⟨_, a1, _⟩ := ld2 (r1'.ext x3 (by omega))
  obtain ⟨_, b1, _⟩ := ld2 (r2.ext x3 (by omega))
  have c61' : call Try.prog Ms (d + 3) 61 [nv, nv'] h2 = some (.bool true, h3) := by
    rw [c61, e61, x.len, Option.bind_some]
    simp only [asI, if_true, Option.bind_some, x'.len]
    rw [bne_self_eq_false, cond_false]
    exact c3
  refine ⟨h3, ?_, E.trans (x3.mono E.size)⟩
  simp only [aOff_ptr, Nat.zero_add, Option.bind_some, a0, b0]
  rw [c61', Option.bind_some]
  simp only [asB, Option.bind_some, Bool.not_true, cond_false, a1, b1, asI, if_true]
  rw [bne_self_eq_false, cond_false]
end Go.Proofs.Ytadmoackacickaa
/- The reference's looks at a node. -/
set_option linter.unusedSimpArgs false
namespace Go.Proofs.Ytadmoackacickaa
open Go Go.AH

end Go.Proofs.Ytadmoackacickaa
/- The reference's TreeOk. -/
set_option linter.unusedSimpArgs false
namespace Go.Proofs.Ytadmoackacickaa
open Go Go.AH

def RowE (h : AHeap) (i : Nat) (e : TypeId) (cs : List Value) : Prop := ∃ o, h.at? i = some o ∧ o.elem = e ∧ o.cells = cs
theorem RowE.row {h : AHeap} {i : Nat} {e : TypeId} {cs : List Value} (x : RowE h i e cs) : Row h i cs := let ⟨o, a, _, b⟩ := x; ⟨o, a, b⟩
theorem Own.rowE {b : Nat} {h : AHeap} {i : Nat} {e : TypeId} {cs : List Value} (x : Own b h i e cs) : RowE h i e cs := let ⟨_, _, a, _⟩ := x; ⟨_, a, rfl, rfl⟩
theorem RowE.new (h : AHeap) (e : TypeId) (cs : List Value) : RowE (h.new e cs) h.size e cs := Own.rowE (Own.new (Nat.le_refl h.size) e cs)
end Go.Proofs.Ytadmoackacickaa
/- impl's looks at a node. -/
set_option linter.unusedSimpArgs false
namespace Go.Proofs.Ytadmoackacickaa
open Go Go.AH

end Go.Proofs.Ytadmoackacickaa
/- impl's looks at the kids of a node. -/
set_option linter.unusedSimpArgs false
namespace Go.Proofs.Ytadmoackacickaa
open Go Go.AH

end Go.Proofs.Ytadmoackacickaa
/- impl's kidsOk, nodeOk. -/
set_option linter.unusedSimpArgs false
namespace Go.Proofs.Ytadmoackacickaa
open Go Go.AH

end Go.Proofs.Ytadmoackacickaa
/- impl's TreeOk. -/
set_option linter.unusedSimpArgs false
namespace Go.Proofs.Ytadmoackacickaa
open Go Go.AH

end Go.Proofs.Ytadmoackacickaa
/- The plain law: both TreeOk say the same. -/
set_option linter.unusedSimpArgs false
namespace Go.Proofs.Ytadmoackacickaa
open Go Go.AH

end Go.Proofs.Ytadmoackacickaa
/- The plain law: both TreeOk say the same (2). -/
set_option linter.unusedSimpArgs false
namespace Go.Proofs.Ytadmoackacickaa
open Go Go.AH

end Go.Proofs.Ytadmoackacickaa
/- FnExactTreeOk, as the small evaluator runs it. -/
set_option linter.unusedSimpArgs false
namespace Go.Proofs.Ytadmoackacickaa
open Go Go.AH

end Go.Proofs.Ytadmoackacickaa
/- Sizes and nests of nodes: the reference's. -/
set_option linter.unusedSimpArgs false
namespace Go.Proofs.Ytadmoackacickaa
open Go Go.AH

end Go.Proofs.Ytadmoackacickaa
/- impl's NestOf. -/
set_option linter.unusedSimpArgs false
namespace Go.Proofs.Ytadmoackacickaa
open Go Go.AH

theorem ints_splice (ys : List Int) {j : Nat} (hj : j < ys.length) (v : Int) : splice (ints ys) j [.int .i64 v] = ints (ys.set j v) := by
  rw [← ints_set]; unfold splice
  rw [List.set_eq_take_append_cons_drop, if_pos (by simp [ints]; omega)]; simp
end Go.Proofs.Ytadmoackacickaa
/- NestOf: both say the same. -/
set_option linter.unusedSimpArgs false
namespace Go.Proofs.Ytadmoackacickaa
open Go Go.AH

end Go.Proofs.Ytadmoackacickaa
/- SizesOf: frames; the reference's; impl's loops. -/
set_option linter.unusedSimpArgs false
namespace Go.Proofs.Ytadmoackacickaa
open Go Go.AH

/-- A row that may be written, with its root. -/
def OwnR (h : AHeap) (i root : Nat) (e : TypeId) (cs : List Value) : Prop := ∃ ep, h.at? i = some ⟨root, ep, false, e, cs⟩
/-- All rows are as they were but ints of a root. -/
def Kr (root : Nat) (h h' : AHeap) : Prop := ∀ j o, h.at? j = some o → (o.elem ≠ 3 ∨ o.root ≠ root) → h'.at? j = some o
theorem Kr.refl (root : Nat) (h : AHeap) : Kr root h h := fun _ _ h _ => h
theorem Kr.trans {root : Nat} {h h' h'' : AHeap} (x : Kr root h h') (y : Kr root h' h'') : Kr root h h'' := fun j o a b => y j o (x j o a b) b
theorem OwnR.lt {h : AHeap} {i root : Nat} {e : TypeId} {cs : List Value} (x : OwnR h i root e cs) : root ≤ i ∧ i < h.size := let ⟨_, a⟩ := x; ⟨(at?_obj a).2.2.1, (at?_obj a).2.1⟩
theorem OwnR.ext {h h' : AHeap} {i root : Nat} {e : TypeId} {cs : List Value} (x : OwnR h i root e cs) (k : Ext h.size h h') : OwnR h' i root e cs := let ⟨ep, a⟩ := x; ⟨ep, k.at? (at?_obj a).2.1 a⟩
theorem OwnR.new (h : AHeap) (e : TypeId) (cs : List Value) : OwnR (h.new e cs) h.size h.size e cs := ⟨_, at?_new_same h e cs⟩
theorem OwnR.row {h : AHeap} {i root : Nat} {e : TypeId} {cs : List Value} (x : OwnR h i root e cs) : Row h i cs := let ⟨_, a⟩ := x; ⟨_, a, rfl⟩
theorem stR {b : Nat} {h : AHeap} {r rt j : Nat} {ys : List Int} (o : OwnR h r rt 3 (ints ys)) (hb : b ≤ rt) (hj : j < ys.length) (v : Int) :
    ∃ h', aSt h (ptr r j) (.int .i64 v) 1 = some h' ∧ Ext b h h' ∧ Kr rt h h' ∧ OwnR h' r rt 3 (ints (ys.set j v)) ∧ h'.size = h.size := by
  obtain ⟨ep, h1⟩ := o
  have hi := at?_obj h1
  have hfit : j + 1 ≤ (ints ys).length := by simp [ints]; omega
  refine ⟨h.put r ⟨rt, ep, false, 3, ints ys⟩ (splice (ints ys) j [.int .i64 v]), by simp [aSt, ptr, h1, aCells_int, hfit], Ext.put (Nat.le_trans hb hi.2.2.1) hb _, fun k o ho hk => ?_, ⟨h.ep 3 rt + 1, ?_⟩, rfl⟩
  · exact at?_put_other ho (fun e => by subst e; rw [h1] at ho; cases ho; rcases hk with a | a <;> exact a rfl) _ (fun hh => hk.elim (fun a => a hh.1) (fun a => a hh.2))
  · rw [← ints_splice ys hj]; exact at?_put_same h1 _
end Go.Proofs.Ytadmoackacickaa
