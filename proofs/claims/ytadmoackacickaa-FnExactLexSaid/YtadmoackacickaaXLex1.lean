/- The lexers' small functions. -/
import Derived.Test.YtadmoackacickaaXLaw
import Derived.Test.YtadmoackacickaaXE0
import Derived.Test.YtadmoackacickaaXE1
set_option linter.unusedSimpArgs false
namespace Go.Proofs.Ytadmoackacickaa
open Go Go.AH

def isLet (x : Int) : Bool := decide (97 ≤ x ∧ x ≤ 122) || decide (65 ≤ x ∧ x ≤ 90)
def isDig (x : Int) : Bool := decide (48 ≤ x ∧ x ≤ 57)
def isPln (x : Int) : Bool := decide (32 ≤ x ∧ x ≤ 126) && x != 34
theorem l87 (d : Nat) (n : Int) (h : AHeap) : call Try.prog Ms (d + 1) 87 [.int .u8 n] h = some (.bool (isLet n), h) := by
  rw [c87, e87]; unfold isLet
  by_cases h1 : 97 ≤ n <;> by_cases h2 : n ≤ 122 <;> by_cases h3 : 65 ≤ n <;> by_cases h4 : n ≤ 90 <;> simp [h1, h2, h3, h4]
theorem l92 (d : Nat) (n : Int) (h : AHeap) : call Try.prog Ms (d + 1) 92 [.int .u8 n] h = some (.bool (isLet n), h) := by
  rw [c92, e92]; unfold isLet
  by_cases h1 : 97 ≤ n <;> by_cases h2 : n ≤ 122 <;> by_cases h3 : 65 ≤ n <;> by_cases h4 : n ≤ 90 <;> simp [h1, h2, h3, h4]
theorem l89 (d : Nat) (n : Int) (h : AHeap) : call Try.prog Ms (d + 1) 89 [.int .u8 n] h = some (.bool (isDig n), h) := by
  rw [c89, e89]; unfold isDig
  by_cases h1 : 48 ≤ n <;> by_cases h2 : n ≤ 57 <;> simp [h1, h2]
theorem l94 (d : Nat) (n : Int) (h : AHeap) : call Try.prog Ms (d + 1) 94 [.int .u8 n] h = some (.bool (isDig n), h) := by
  rw [c94, e94]; unfold isDig
  by_cases h1 : 48 ≤ n <;> by_cases h2 : n ≤ 57 <;> simp [h1, h2]
theorem l90 (d : Nat) (n : Int) (h : AHeap) : call Try.prog Ms (d + 1) 90 [.int .u8 n] h = some (.bool (isPln n), h) := by
  rw [c90, e90]; unfold isPln
  by_cases h1 : 32 ≤ n <;> by_cases h2 : n ≤ 126 <;> simp [h1, h2]
theorem l96 (d : Nat) (n : Int) (h : AHeap) : call Try.prog Ms (d + 1) 96 [.int .u8 n] h = some (.bool (isPln n), h) := by
  rw [c96, e96]; unfold isPln
  by_cases h1 : 32 ≤ n <;> by_cases h2 : n ≤ 126 <;> simp [h1, h2]
theorem l52 (d : Nat) (n : Int) (h : AHeap) : call Try.prog Ms (d + 1) 52 [.int .u8 n] h = some (.bool (n != 10), h) := by rw [c52, e52]
end Go.Proofs.Ytadmoackacickaa
