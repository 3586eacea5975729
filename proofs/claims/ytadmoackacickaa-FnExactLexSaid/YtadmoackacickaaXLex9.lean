/- Numbers. -/
import Derived.Test.YtadmoackacickaaXLex8
set_option linter.unusedSimpArgs false
namespace Go.Proofs.Ytadmoackacickaa
open Go Go.AH

def numGo (s : ByteArray) : Nat → Nat → Int → Int
  | 0, _, n => n
  | f + 1, i, n => numGo s f (i + 1) (IntKind.i64.wrap ((IntKind.i64.wrap (10 * n)) + (IntKind.i64.wrap (IntKind.u8.wrap (bt s i - 48)))))
/-- A token in memory of its own. -/
def TB (b : Nat) (h : AHeap) (i : Nat) (t : Tok) : Prop := Own b h i 53 t.cells
theorem TB.new (h : AHeap) (t : Tok) : TB h.size (h.new 53 t.cells) h.size t := Own.new (Nat.le_refl _) _ _
theorem TB.row {b : Nat} {h : AHeap} {i : Nat} {t : Tok} (x : TB b h i t) : Row h i t.cells := Own.row x
theorem TB.ext {b c : Nat} {h h' : AHeap} {i : Nat} {t : Tok} (x : TB b h i t) (y : Ext c h h') (hi : i < c) : TB b h' i t := Own.ext x y hi
theorem TB.stAll {b : Nat} {h : AHeap} {i : Nat} {t : Tok} (x : TB b h i t) (u : Tok) : ∃ h', aSt h (ptr i 0) u.val 4 = some h' ∧ Ext b h h' ∧ TB b h' i u := by
  obtain ⟨h', h1, h2, h3, _, _⟩ := Own.st (off := 0) (n := 4) x u.aCells rfl (Nat.le_refl _)
  exact ⟨h', h1, h2, h3⟩
theorem TB.ldAll {h : AHeap} {i : Nat} {t : Tok} (x : Row h i t.cells) : aLdN h (ptr i 0) 4 = some t.val := x.ldN (off := 0) (n := 4) (Nat.le_refl _)
theorem TB.stK {b : Nat} {h : AHeap} {i : Nat} {t : Tok} (x : TB b h i t) (v : Int) : ∃ h', aSt h (ptr i 0) (.int .i64 v) 1 = some h' ∧ Ext b h h' ∧ TB b h' i { t with k := v } := by
  obtain ⟨h', h1, h2, h3, _, _⟩ := Own.st (off := 0) (n := 1) (v := .int .i64 v) x rfl rfl (by show 0 + 1 ≤ 4; omega)
  exact ⟨h', h1, h2, h3⟩
theorem TB.stT {b : Nat} {h : AHeap} {i : Nat} {t : Tok} (x : TB b h i t) (v : ByteArray) : ∃ h', aSt h (ptr i 2) (.string v) 1 = some h' ∧ Ext b h h' ∧ TB b h' i { t with text := v } := by
  obtain ⟨h', h1, h2, h3, _, _⟩ := Own.st (off := 2) (n := 1) (v := .string v) x rfl rfl (by show 2 + 1 ≤ 4; omega)
  exact ⟨h', h1, h2, h3⟩
theorem TB.stI {b : Nat} {h : AHeap} {i : Nat} {t : Tok} (x : TB b h i t) (v : Int) : ∃ h', aSt h (ptr i 3) (.int .i64 v) 1 = some h' ∧ Ext b h h' ∧ TB b h' i { t with i := v } := by
  obtain ⟨h', h1, h2, h3, _, _⟩ := Own.st (off := 3) (n := 1) (v := .int .i64 v) x rfl rfl (by show 3 + 1 ≤ 4; omega)
  exact ⟨h', h1, h2, h3⟩
theorem isS2_tok (t : Tok) : isS2 t.val = true := rfl
/-- impl's loop over the digits: what was told lies in p; out it goes through q. -/
theorem num95 {d N q p e b c : Nat} {s : ByteArray} (hs : s.size ≤ 3000) (he : e ≤ s.size) : ∀ (n i m : Nat) (t u : Tok) (h : AHeap), e - i = n → i ≤ e → n < m → TB b h p t → TB c h q u → q < b → c ≤ b →
    ∃ h', s95_1 hk0 (call Try.prog Ms d) N m s (ptr q 0) (e : Int) (ptr p 0) (i : Int) h = some (.tuple (List.toArray [({ t with i := numGo s n i t.i } : Tok).val, .int .i64 0]), h') ∧ Ext c h h' := by
  intro n
  induction n with
  | zero =>
    intro i m t u h hn hi hm tp tq hqb hcb
    obtain ⟨m, rfl⟩ : ∃ k, m = k + 1 := ⟨m - 1, by omega⟩
    have : ¬ ((i : Int) < (e : Int)) := by omega
    obtain ⟨h1, s1, x1, t1⟩ := tq.stAll t
    refine ⟨h1, ?_, x1⟩
    rw [s95_1_eq]
    simp only [this, decide_false, cond_false, TB.ldAll tp.row, Option.bind_some, s1, TB.ldAll t1.row, List.all_cons, isS2_tok, numGo]
    rfl
  | succ n ih =>
    intro i m t u h hn hi hm tp tq hqb hcb
    obtain ⟨m, rfl⟩ : ∃ k, m = k + 1 := ⟨m - 1, by omega⟩
    have hI : (i : Int) < (e : Int) := by omega
    obtain ⟨_, _, _, a3⟩ := ld_at tp.row
    obtain ⟨h1, s1, x1, t1⟩ := tp.stI (IntKind.i64.wrap ((IntKind.i64.wrap (10 * t.i)) + (IntKind.i64.wrap (IntKind.u8.wrap (bt s i - 48)))))
    obtain ⟨h2, r, x2⟩ := ih (i + 1) m _ u h1 (by omega) (by omega) (by omega) t1 (tq.ext x1 hqb) hqb hcb
    refine ⟨h2, ?_, (x1.mono hcb).trans x2⟩
    have wj : IntKind.i64.wrap ((i : Int) + 1) = ((i + 1 : Nat) : Int) := by rw [wr (by omega) (by omega)]; omega
    rw [s95_1_eq]
    simp only [hI, decide_true, cond_true, aOff_ptr, Nat.zero_add, a3, Option.bind_some, asI, if_true, strIx (show i < s.size by omega), s1, wj, r, numGo]
end Go.Proofs.Ytadmoackacickaa
