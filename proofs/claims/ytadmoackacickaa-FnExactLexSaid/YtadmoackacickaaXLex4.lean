/- Tokens. -/
import Derived.Test.YtadmoackacickaaXLex3
set_option linter.unusedSimpArgs false
namespace Go.Proofs.Ytadmoackacickaa
open Go Go.AH

structure Tok where
  k : Int
  at' : Int
  text : ByteArray
  i : Int
def Tok.cells (t : Tok) : List Value := [.int .i64 t.k, .int .i64 t.at', .string t.text, .int .i64 t.i]
def Tok.val (t : Tok) : Value := .agg t.cells.toArray
def tokEq (a b : Tok) : Bool := a.k == b.k && (a.at' == b.at' && (a.text.toList == b.text.toList && a.i == b.i))
theorem Tok.aCells (t : Tok) : aCells t.val = some t.cells := rfl
theorem ld_at {h : AHeap} {i : Nat} {t : Tok} (r : Row h i t.cells) :
    aLd1 h (ptr i 0) = some (.int .i64 t.k) ∧ aLd1 h (ptr i 1) = some (.int .i64 t.at') ∧ aLd1 h (ptr i 2) = some (.string t.text) ∧ aLd1 h (ptr i 3) = some (.int .i64 t.i) :=
  ⟨r.ld1 rfl, r.ld1 rfl, r.ld1 rfl, r.ld1 rfl⟩
theorem aOff_ptr (i o n : Nat) : aOff (ptr i o) n = some (ptr i (o + n)) := rfl
theorem l54 (d : Nat) (a b : Tok) (h : AHeap) : ∃ h', call Try.prog Ms (d + 1) 54 [a.val, b.val] h = some (.bool (tokEq a b), h') ∧ Ext h.size h h' := by
  have e1 := Ext.new (Nat.le_refl h.size) 53 a.cells
  have e2 : Ext (h.size + 1) (h.new 53 a.cells) ((h.new 53 a.cells).new 53 b.cells) := Ext.new (h := h.new 53 a.cells) (Nat.le_refl (h.new 53 a.cells).size) 53 b.cells
  refine ⟨(h.new 53 a.cells).new 53 b.cells, ?_, e1.trans (e2.mono (by omega))⟩
  have r1 : Row ((h.new 53 a.cells).new 53 b.cells) h.size a.cells := (Own.new (b := h.size) (Nat.le_refl _) 53 a.cells).row.ext e2 (by omega)
  have r2 : Row ((h.new 53 a.cells).new 53 b.cells) (h.new 53 a.cells).size b.cells := (Own.new (b := 0) (Nat.zero_le _) 53 b.cells).row
  obtain ⟨a0, a1, a2, a3⟩ := ld_at r1
  obtain ⟨b0, b1, b2, b3⟩ := ld_at r2
  rw [c54, e54]
  simp only [Tok.aCells, Option.bind_some, aNew, aOff_ptr, Nat.zero_add, a0, a1, a2, a3, b0, b1, b2, b3, asI, asS, if_true, tokEq]
  cases hk : (a.k == b.k) <;> cases ha : (a.at' == b.at') <;> cases ht : (a.text.toList == b.text.toList) <;> cases hi : (a.i == b.i) <;> simp [bne, hk, ha, ht, hi]
end Go.Proofs.Ytadmoackacickaa
