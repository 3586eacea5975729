/- Words. -/
import Derived.Test.YtadmoackacickaaXLex2
set_option linter.unusedSimpArgs false
namespace Go.Proofs.Ytadmoackacickaa
open Go Go.AH

theorem cond_twice {α : Type} (b : Bool) (x y z : α) : (bif b then (bif b then x else y) else z) = bif b then x else z := by cases b <;> rfl
theorem cond_or (b c : Bool) (h : AHeap) : (bif b then some (Value.bool true, h) else some (Value.bool c, h)) = some (Value.bool (b || c), h) := by cases b <;> rfl
theorem cond_or0 (b : Bool) (h : AHeap) : (bif b then some (Value.bool true, h) else some (Value.bool false, h)) = some (Value.bool b, h) := by cases b <;> rfl
theorem cond_self (b : Bool) (r : Option (Value × AHeap)) (h : AHeap) : (bif b then some (Value.bool b, h) else r) = bif b then some (Value.bool true, h) else r := by cases b <;> rfl
def wordsL : List ByteArray := [⟨#[108, 111, 99, 97, 108]⟩, ⟨#[102, 110]⟩, ⟨#[105, 102]⟩, ⟨#[101, 108, 115, 101]⟩, ⟨#[119, 104, 105, 108, 101]⟩, ⟨#[114, 101, 116, 117, 114, 110]⟩, ⟨#[116, 114, 117, 101]⟩, ⟨#[102, 97, 108, 115, 101]⟩, ⟨#[110, 105, 108]⟩, ⟨#[97, 110, 100]⟩, ⟨#[111, 114]⟩, ⟨#[110, 111, 116]⟩]
def isWd (t : ByteArray) : Bool := wordsL.any fun w => t.toList == w.toList
theorem l93 (d : Nat) (t : ByteArray) (h : AHeap) : call Try.prog Ms (d + 1) 93 [.string t] h = some (.bool (isWd t), h) := by
  rw [c93, e93]
  simp only [cond_twice]
  simp only [cond_or]
  simp only [isWd, wordsL, List.any_cons, List.any_nil]

theorem in_loop {d N : Nat} {t : ByteArray} {h : AHeap} {i : Nat} {ws : List ByteArray} (hr : Row h i (ws.map Value.string)) (hw : ws.length ≤ 3000) :
    ∀ (n j m : Nat), ws.length - j = n → j ≤ ws.length → n < m →
      s118_0 hk0 (call Try.prog Ms d) N m (slc i 0 ws.length) t (j : Int) h = some (.bool ((ws.drop j).any fun w => w.toList == t.toList), h) := by
  intro n
  induction n with
  | zero =>
    intro j m hn hj hm
    obtain ⟨m, rfl⟩ : ∃ k, m = k + 1 := ⟨m - 1, by omega⟩
    have : ¬ ((j : Int) < (ws.length : Int)) := by omega
    rw [s118_0_eq, List.drop_eq_nil_of_le (by omega)]
    simp [aLen, slc, asI, this]
  | succ n ih =>
    intro j m hn hj hm
    obtain ⟨m, rfl⟩ : ∃ k, m = k + 1 := ⟨m - 1, by omega⟩
    have hlt : j < ws.length := by omega
    have hI : (j : Int) < (ws.length : Int) := by omega
    have hix : aIdx (slc i 0 ws.length) (.int .i64 (j : Int)) 1 = some (ptr i j) := by simp [aIdx, slc, hlt]
    have hld : aLd1 h (ptr i j) = some (.string ws[j]) := hr.ld1 (by simp [hlt])
    have hlen : aLen (slc i 0 ws.length) = some (.int .i64 ws.length) := rfl
    rw [s118_0_eq]
    simp only [hlen, Option.bind_some, asI, if_true, hI, decide_true, cond_true, hix, hld, asS]
    rw [List.drop_eq_getElem_cons hlt, List.any_cons]
    cases hb : (ws[j].toList == t.toList) with
    | true => simp
    | false =>
      rw [cond_false, wr (by omega) (by omega), Bool.false_or]
      exact ih (j + 1) m (by omega) (by omega) (by omega)
theorem l88 {d : Nat} (hd : 3000 < d) (t : ByteArray) (h : AHeap) : ∃ h', call Try.prog Ms (d + 2) 88 [.string t] h = some (.bool (isWd t), h') ∧ Ext h.size h h' := by
  refine ⟨h.new 9 (wordsL.map Value.string), ?_, Ext.new (Nat.le_refl _) _ _⟩
  rw [c88, e88, c143, e143]
  simp only [aNewS, Option.bind_some]
  rw [c118, e118]
  have := in_loop (d := d) (N := d) (t := t) (h := h.new 9 (wordsL.map Value.string)) (i := h.size) (ws := wordsL) (Own.new (b := h.size) (Nat.le_refl _) _ _).row (by decide) _ 0 d rfl (by decide) (by simp [wordsL]; omega)
  have e : (ptr h.size 0, h) = (ptr h.size 0, h) := rfl
  rw [show (slc h.size 0 12) = slc h.size 0 wordsL.length from rfl]
  erw [this]
  simp only [Option.bind_some, asB, List.drop_zero]
  congr 3
  simp only [isWd]
  congr 1
  funext w
  exact Bool.beq_comm ..
end Go.Proofs.Ytadmoackacickaa
