/- The tokens of a text, plainly: marks. -/
import Derived.Test.YtadmoackacickaaXLex10
import Derived.Laws.Strings
set_option linter.unusedSimpArgs false
namespace Go.Proofs.Ytadmoackacickaa
open Go Go.AH

theorem ext1 {s : ByteArray} {i : Nat} (h : i < s.size) : (s.extract i (i + 1)).toList = [s.data[i]'h] := by
  rw [ByteArray.toList_eq, ByteArray.data_extract]
  have h' : i < s.data.size := h
  apply List.ext_getElem
  · simp; omega
  · intro n h1 h2
    simp at h2
    subst h2
    simp
theorem ext2 {s : ByteArray} {i : Nat} (h : i + 1 < s.size) : (s.extract i (i + 2)).toList = [s.data[i]'(Nat.lt_of_succ_lt h), s.data[i + 1]'h] := by
  rw [ByteArray.toList_eq, ByteArray.data_extract]
  have h' : i + 1 < s.data.size := h
  apply List.ext_getElem
  · simp; omega
  · intro n h1 h2
    simp at h2
    match n, h2 with
    | 0, _ => simp
    | 1, _ => simp
def hitM (s : ByteArray) (i : Nat) (m : ByteArray) : Bool := decide (i + m.size ≤ s.size) && (s.extract i (i + m.size)).toList == m.toList
theorem bt_eq {s : ByteArray} {i : Nat} (h : i < s.size) (c : UInt8) : (s.data[i]'h == c) = (bt s i == (c.toNat : Int)) := by
  have h2 : s.data[i]? = some (s.data[i]'h) := Array.getElem?_eq_getElem (by exact h)
  simp only [bt, h2, Option.getD_some]
  rw [Bool.eq_iff_iff, beq_iff_eq, beq_iff_eq]
  exact ⟨fun e => by rw [e], fun e => UInt8.toNat_inj.1 (Int.ofNat.inj e)⟩
theorem hit1 {s : ByteArray} {i : Nat} (h : i < s.size) (c : UInt8) : hitM s i ⟨#[c]⟩ = (bt s i == (c.toNat : Int)) := by
  have e : (⟨#[c]⟩ : ByteArray).size = 1 := rfl
  unfold hitM
  rw [e, ext1 h, ByteArray.toList_eq, ← bt_eq h]
  have : i + 1 ≤ s.size := h
  simp [this]
theorem hit2 {s : ByteArray} {i : Nat} (h : i + 1 < s.size) (c c' : UInt8) : hitM s i ⟨#[c, c']⟩ = (bt s i == (c.toNat : Int) && bt s (i + 1) == (c'.toNat : Int)) := by
  have e : (⟨#[c, c']⟩ : ByteArray).size = 2 := rfl
  unfold hitM
  rw [e, ext2 h, ByteArray.toList_eq, ← bt_eq h, ← bt_eq (Nat.lt_of_succ_lt h)]
  have : i + 2 ≤ s.size := h
  simp [this]
theorem hit2' {s : ByteArray} {i : Nat} (h : ¬ i + 1 < s.size) (c c' : UInt8) : hitM s i ⟨#[c, c']⟩ = false := by
  have e : (⟨#[c, c']⟩ : ByteArray).size = 2 := rfl
  unfold hitM
  rw [e]
  have : ¬ (i + 2 ≤ s.size) := by omega
  simp [this]
theorem hit_ext {s m : ByteArray} {i : Nat} (h : hitM s i m = true) : s.extract i (i + m.size) = m := by
  unfold hitM at h
  simp only [Bool.and_eq_true, beq_iff_eq, ByteArray.toList_eq] at h
  exact ByteArray.ext (Array.toList_inj.1 h.2)
def marksL : List ByteArray := [⟨#[123]⟩, ⟨#[125]⟩, ⟨#[40]⟩, ⟨#[41]⟩, ⟨#[91]⟩, ⟨#[93]⟩, ⟨#[59]⟩, ⟨#[44]⟩, ⟨#[46, 46]⟩, ⟨#[46]⟩, ⟨#[61, 61]⟩, ⟨#[61]⟩, ⟨#[126, 61]⟩, ⟨#[60, 61]⟩, ⟨#[60]⟩, ⟨#[43]⟩, ⟨#[45]⟩, ⟨#[42]⟩, ⟨#[47]⟩, ⟨#[37]⟩, ⟨#[35]⟩]
def markOf (s : ByteArray) (i : Nat) : Option ByteArray := marksL.find? (hitM s i)
theorem size2 (a b : UInt8) : (⟨#[a, b]⟩ : ByteArray).size = 2 := rfl
theorem size1 (a : UInt8) : (⟨#[a]⟩ : ByteArray).size = 1 := rfl
def ofMark (i : Nat) : Option ByteArray → Tok × Nat × Nat
  | some m => (⟨5, i, m, 0⟩, 0, i + m.size)
  | none => (tok0, 2, 0)
/-- A token at a byte, its code, its end. -/
def tokR (s : ByteArray) (i : Nat) : Tok × Nat × Nat :=
  if isLet (bt s i) = true then
    if isWd (s.extract i (endOf isLet s i)) = true then (⟨2, i, s.extract i (endOf isLet s i), 0⟩, 0, endOf isLet s i)
    else if endOf isLet s i - i > 12 then (tok0, 4, 0)
    else (⟨1, i, s.extract i (endOf isLet s i), 0⟩, 0, endOf isLet s i)
  else if isDig (bt s i) = true then
    if numBad s i = true then (tok0, 3, 0) else (numTok s i, 0, endOf isDig s i)
  else if bt s i = 34 then
    if endOf isPln s (i + 1) ≥ s.size ∨ bt s (endOf isPln s (i + 1)) ≠ 34 ∨ endOf isPln s (i + 1) - i - 1 > 160 then (tok0, 5, 0)
    else (⟨4, i, s.extract (i + 1) (endOf isPln s (i + 1)), 0⟩, 0, endOf isPln s (i + 1) + 1)
  else ofMark i (markOf s i)
def lexGo (s : ByteArray) : Nat → Nat → List Tok → List Tok × Nat × Nat
  | 0, _, acc => (acc, 0, 0)
  | f + 1, i, acc =>
    if s.size ≤ i then (acc, 0, 0)
    else if bt s i = 9 ∨ bt s i = 10 ∨ bt s i = 32 then lexGo s f (i + 1) acc
    else if bt s i = 45 ∧ i + 1 < s.size ∧ bt s (i + 1) = 45 then lexGo s f (endOf (fun b => b != 10) s i) acc
    else if (tokR s i).2.1 ≠ 0 then ([], (tokR s i).2.1, i)
    else lexGo s f (tokR s i).2.2 (acc ++ [(tokR s i).1])
end Go.Proofs.Ytadmoackacickaa
