/- Runs of bytes. -/
import Derived.Test.YtadmoackacickaaXLex1
set_option linter.unusedSimpArgs false
namespace Go.Proofs.Ytadmoackacickaa
open Go Go.AH

def bt (s : ByteArray) (i : Nat) : Int := ((s.data[i]?).getD 0).toNat
theorem strIx {s : ByteArray} {i : Nat} (hi : i < s.size) : aStrIx (.string s) (.int .i64 (i : Int)) = some (.int .u8 (bt s i)) := by
  have h1 : s[i]? = some (s[i]'hi) := by simp [hi]
  have h2 : s.data[i]? = some (s[i]'hi) := Array.getElem?_eq_getElem (by exact hi)
  simp [aStrIx, h1, bt, h2]
theorem wr {x : Int} (h0 : -1000000 ≤ x) (h1 : x ≤ 4611686018427387904) : IntKind.i64.wrap x = x := by
  simp [IntKind.wrap, IntKind.bits, IntKind.signed]; omega
def endGo (p : Int → Bool) (s : ByteArray) : Nat → Nat → Nat
  | 0, i => i
  | f + 1, i => if i < s.size ∧ p (bt s i) = true then endGo p s f (i + 1) else i
def endOf (p : Int → Bool) (s : ByteArray) (i : Nat) : Nat := endGo p s (s.size - i) i
theorem endOf_stop {p : Int → Bool} {s : ByteArray} {i : Nat} (h : ¬ (i < s.size ∧ p (bt s i) = true)) : endOf p s i = i := by
  unfold endOf
  cases s.size - i with
  | zero => rfl
  | succ f => simp only [endGo]; rw [if_neg h]
theorem endOf_step {p : Int → Bool} {s : ByteArray} {i : Nat} (h : i < s.size) (hp : p (bt s i) = true) : endOf p s i = endOf p s (i + 1) := by
  unfold endOf
  obtain ⟨f, hf⟩ : ∃ f, s.size - i = f + 1 := ⟨s.size - i - 1, by omega⟩
  rw [hf, show s.size - (i + 1) = f by omega]
  simp only [endGo]; rw [if_pos ⟨h, hp⟩]
theorem endOf_bd {p : Int → Bool} {s : ByteArray} : ∀ (n i : Nat), s.size - i = n → i ≤ s.size → i ≤ endOf p s i ∧ endOf p s i ≤ s.size := by
  intro n
  induction n with
  | zero => intro i hn hi; rw [endOf_stop (by omega)]; omega
  | succ n ih =>
    intro i hn hi
    by_cases h : i < s.size ∧ p (bt s i) = true
    · rw [endOf_step h.1 h.2]
      have := ih (i + 1) (by omega) (by omega)
      omega
    · rw [endOf_stop h]; omega
theorem run_loop {d N g : Nat} {p : Int → Bool} {s : ByteArray} (hs : s.size ≤ 3000) (hg : ∀ n h, call Try.prog Ms d g [.int .u8 n] h = some (.bool (p n), h)) (h : AHeap) :
    ∀ (n i m : Nat), s.size - i = n → i ≤ s.size → n < m → s51_0 hk0 (call Try.prog Ms d) N m s (i : Int) (.func (.func g) #[] #[]) h = some (.int .i64 (endOf p s i : Nat), h) := by
  intro n
  induction n with
  | zero =>
    intro i m hn hi hm
    obtain ⟨m, rfl⟩ : ∃ k, m = k + 1 := ⟨m - 1, by omega⟩
    rw [s51_0_eq, endOf_stop (by omega)]
    have : ¬ ((i : Int) < (s.size : Int)) := by omega
    simp [this]
  | succ n ih =>
    intro i m hn hi hm
    obtain ⟨m, rfl⟩ : ∃ k, m = k + 1 := ⟨m - 1, by omega⟩
    have hlt : i < s.size := by omega
    have : (i : Int) < (s.size : Int) := by omega
    rw [s51_0_eq]
    simp only [this, decide_true, cond_true, strIx hlt, Option.bind_some, asI, if_true, aCallV, List.append_nil, List.nil_append, hg, asB]
    cases hp : p (bt s i) with
    | true =>
      rw [endOf_step hlt hp, cond_true, wr (by omega) (by omega)]
      exact ih (i + 1) m (by omega) (by omega) (by omega)
    | false =>
      rw [endOf_stop (by simp [hp])]; rfl
theorem l51 {d g : Nat} {p : Int → Bool} {s : ByteArray} (hs : s.size ≤ 3000) (hd : 3000 < d) (hg : ∀ n h, call Try.prog Ms d g [.int .u8 n] h = some (.bool (p n), h)) {i : Nat} (hi : i ≤ s.size) (h : AHeap) :
    call Try.prog Ms (d + 1) 51 [.string s, .int .i64 (i : Int), .func (.func g) #[] #[]] h = some (.int .i64 (endOf p s i : Nat), h) := by
  rw [c51, e51]
  exact run_loop hs hg h _ i d rfl hi (by omega)
end Go.Proofs.Ytadmoackacickaa
