/- The marks of a text, as impl finds them. -/
import Derived.Test.YtadmoackacickaaXLex11
set_option linter.unusedSimpArgs false
namespace Go.Proofs.Ytadmoackacickaa
open Go Go.AH

def twoM (t : ByteArray) : Bool := t.toList == (⟨#[46, 46]⟩ : ByteArray).toList || (t.toList == (⟨#[61, 61]⟩ : ByteArray).toList || (t.toList == (⟨#[126, 61]⟩ : ByteArray).toList || t.toList == (⟨#[60, 61]⟩ : ByteArray).toList))
theorem two_hit {s : ByteArray} {i : Nat} (h : i + 1 < s.size) : twoM (s.extract i (i + 2)) = (hitM s i ⟨#[46, 46]⟩ || (hitM s i ⟨#[61, 61]⟩ || (hitM s i ⟨#[126, 61]⟩ || hitM s i ⟨#[60, 61]⟩))) := by
  have : i + 2 ≤ s.size := h
  simp only [twoM, hitM, size2, this, decide_true, Bool.true_and]
theorem markOf_eq {s : ByteArray} {i : Nat} (hi : i < s.size) : markOf s i = if (decide (i + 1 < s.size) && twoM (s.extract i (i + 2))) = true then some (s.extract i (i + 2)) else if oneM (bt s i) = true then some (s.extract i (i + 1)) else none := by
  have E1 : ∀ c : UInt8, bt s i = (c.toNat : Int) → s.extract i (i + 1) = ⟨#[c]⟩ := fun c h => by
    have := hit_ext (s := s) (m := ⟨#[c]⟩) (i := i) (by rw [hit1 hi, h]; simp)
    exact this
  by_cases h2 : i + 1 < s.size
  · have E2 : ∀ c c' : UInt8, bt s i = (c.toNat : Int) → bt s (i + 1) = (c'.toNat : Int) → s.extract i (i + 2) = ⟨#[c, c']⟩ := fun c c' h h' => by
      have := hit_ext (s := s) (m := ⟨#[c, c']⟩) (i := i) (by rw [hit2 h2, h, h']; simp)
      exact this
    rw [two_hit h2]
    simp only [markOf, marksL, List.find?, hit1 hi, hit2 h2, h2, decide_true, Bool.true_and, oneM, List.any_cons, List.any_nil, Bool.or_false]
    generalize bt s i = x at E1 E2 ⊢
    generalize bt s (i + 1) = y at E2 ⊢
    generalize s.extract i (i + 1) = z1 at E1 ⊢
    generalize s.extract i (i + 2) = z2 at E2 ⊢
    by_cases h123 : x = 123
    · subst h123
      have e1 := E1 123 rfl
      subst e1
      simp
    by_cases h125 : x = 125
    · subst h125
      have e1 := E1 125 rfl
      subst e1
      simp
    by_cases h40 : x = 40
    · subst h40
      have e1 := E1 40 rfl
      subst e1
      simp
    by_cases h41 : x = 41
    · subst h41
      have e1 := E1 41 rfl
      subst e1
      simp
    by_cases h91 : x = 91
    · subst h91
      have e1 := E1 91 rfl
      subst e1
      simp
    by_cases h93 : x = 93
    · subst h93
      have e1 := E1 93 rfl
      subst e1
      simp
    by_cases h59 : x = 59
    · subst h59
      have e1 := E1 59 rfl
      subst e1
      simp
    by_cases h44 : x = 44
    · subst h44
      have e1 := E1 44 rfl
      subst e1
      simp
    by_cases h46 : x = 46
    · subst h46
      have e1 := E1 46 rfl
      subst e1
      by_cases hy : y = 46
      · subst hy; have e2 := E2 46 46 rfl rfl; subst e2; rfl
      · simp [beq_eq_false_iff_ne.2 hy]
    by_cases h61 : x = 61
    · subst h61
      have e1 := E1 61 rfl
      subst e1
      by_cases hy : y = 61
      · subst hy; have e2 := E2 61 61 rfl rfl; subst e2; rfl
      · simp [beq_eq_false_iff_ne.2 hy]
    by_cases h60 : x = 60
    · subst h60
      have e1 := E1 60 rfl
      subst e1
      by_cases hy : y = 61
      · subst hy; have e2 := E2 60 61 rfl rfl; subst e2; rfl
      · simp [beq_eq_false_iff_ne.2 hy]
    by_cases h43 : x = 43
    · subst h43
      have e1 := E1 43 rfl
      subst e1
      simp
    by_cases h45 : x = 45
    · subst h45
      have e1 := E1 45 rfl
      subst e1
      simp
    by_cases h42 : x = 42
    · subst h42
      have e1 := E1 42 rfl
      subst e1
      simp
    by_cases h47 : x = 47
    · subst h47
      have e1 := E1 47 rfl
      subst e1
      simp
    by_cases h37 : x = 37
    · subst h37
      have e1 := E1 37 rfl
      subst e1
      simp
    by_cases h35 : x = 35
    · subst h35
      have e1 := E1 35 rfl
      subst e1
      simp
    by_cases h126 : x = 126
    · subst h126
      by_cases hy : y = 61
      · subst hy; have e2 := E2 126 61 rfl rfl; subst e2; rfl
      · simp [beq_eq_false_iff_ne.2 hy]
    have n123 : (x == ((UInt8.toNat 123 : Nat) : Int)) = false := beq_eq_false_iff_ne.2 h123
    have n125 : (x == ((UInt8.toNat 125 : Nat) : Int)) = false := beq_eq_false_iff_ne.2 h125
    have n40 : (x == ((UInt8.toNat 40 : Nat) : Int)) = false := beq_eq_false_iff_ne.2 h40
    have n41 : (x == ((UInt8.toNat 41 : Nat) : Int)) = false := beq_eq_false_iff_ne.2 h41
    have n91 : (x == ((UInt8.toNat 91 : Nat) : Int)) = false := beq_eq_false_iff_ne.2 h91
    have n93 : (x == ((UInt8.toNat 93 : Nat) : Int)) = false := beq_eq_false_iff_ne.2 h93
    have n59 : (x == ((UInt8.toNat 59 : Nat) : Int)) = false := beq_eq_false_iff_ne.2 h59
    have n44 : (x == ((UInt8.toNat 44 : Nat) : Int)) = false := beq_eq_false_iff_ne.2 h44
    have n46 : (x == ((UInt8.toNat 46 : Nat) : Int)) = false := beq_eq_false_iff_ne.2 h46
    have n61 : (x == ((UInt8.toNat 61 : Nat) : Int)) = false := beq_eq_false_iff_ne.2 h61
    have n60 : (x == ((UInt8.toNat 60 : Nat) : Int)) = false := beq_eq_false_iff_ne.2 h60
    have n43 : (x == ((UInt8.toNat 43 : Nat) : Int)) = false := beq_eq_false_iff_ne.2 h43
    have n45 : (x == ((UInt8.toNat 45 : Nat) : Int)) = false := beq_eq_false_iff_ne.2 h45
    have n42 : (x == ((UInt8.toNat 42 : Nat) : Int)) = false := beq_eq_false_iff_ne.2 h42
    have n47 : (x == ((UInt8.toNat 47 : Nat) : Int)) = false := beq_eq_false_iff_ne.2 h47
    have n37 : (x == ((UInt8.toNat 37 : Nat) : Int)) = false := beq_eq_false_iff_ne.2 h37
    have n35 : (x == ((UInt8.toNat 35 : Nat) : Int)) = false := beq_eq_false_iff_ne.2 h35
    have n126 : (x == ((UInt8.toNat 126 : Nat) : Int)) = false := beq_eq_false_iff_ne.2 h126
    simp only [n123, n125, n40, n41, n91, n93, n59, n44, n46, n61, n60, n43, n45, n42, n47, n37, n35, n126, beq_eq_false_iff_ne.2 h123, beq_eq_false_iff_ne.2 h125, beq_eq_false_iff_ne.2 h40, beq_eq_false_iff_ne.2 h41, beq_eq_false_iff_ne.2 h91, beq_eq_false_iff_ne.2 h93, beq_eq_false_iff_ne.2 h59, beq_eq_false_iff_ne.2 h44, beq_eq_false_iff_ne.2 h46, beq_eq_false_iff_ne.2 h61, beq_eq_false_iff_ne.2 h60, beq_eq_false_iff_ne.2 h43, beq_eq_false_iff_ne.2 h45, beq_eq_false_iff_ne.2 h42, beq_eq_false_iff_ne.2 h47, beq_eq_false_iff_ne.2 h37, beq_eq_false_iff_ne.2 h35, beq_eq_false_iff_ne.2 h126, Bool.false_and, Bool.or_false]; rfl
  · simp only [markOf, marksL, List.find?, hit1 hi, hit2' h2, h2, decide_false, Bool.false_and, oneM, List.any_cons, List.any_nil, Bool.or_false]
    generalize bt s i = x at E1 ⊢
    generalize s.extract i (i + 1) = z1 at E1 ⊢
    by_cases h123 : x = 123
    · subst h123
      have e1 := E1 123 rfl
      subst e1
      simp
    by_cases h125 : x = 125
    · subst h125
      have e1 := E1 125 rfl
      subst e1
      simp
    by_cases h40 : x = 40
    · subst h40
      have e1 := E1 40 rfl
      subst e1
      simp
    by_cases h41 : x = 41
    · subst h41
      have e1 := E1 41 rfl
      subst e1
      simp
    by_cases h91 : x = 91
    · subst h91
      have e1 := E1 91 rfl
      subst e1
      simp
    by_cases h93 : x = 93
    · subst h93
      have e1 := E1 93 rfl
      subst e1
      simp
    by_cases h59 : x = 59
    · subst h59
      have e1 := E1 59 rfl
      subst e1
      simp
    by_cases h44 : x = 44
    · subst h44
      have e1 := E1 44 rfl
      subst e1
      simp
    by_cases h46 : x = 46
    · subst h46
      have e1 := E1 46 rfl
      subst e1
      simp
    by_cases h61 : x = 61
    · subst h61
      have e1 := E1 61 rfl
      subst e1
      simp
    by_cases h60 : x = 60
    · subst h60
      have e1 := E1 60 rfl
      subst e1
      simp
    by_cases h43 : x = 43
    · subst h43
      have e1 := E1 43 rfl
      subst e1
      simp
    by_cases h45 : x = 45
    · subst h45
      have e1 := E1 45 rfl
      subst e1
      simp
    by_cases h42 : x = 42
    · subst h42
      have e1 := E1 42 rfl
      subst e1
      simp
    by_cases h47 : x = 47
    · subst h47
      have e1 := E1 47 rfl
      subst e1
      simp
    by_cases h37 : x = 37
    · subst h37
      have e1 := E1 37 rfl
      subst e1
      simp
    by_cases h35 : x = 35
    · subst h35
      have e1 := E1 35 rfl
      subst e1
      simp
    have n123 : (x == ((UInt8.toNat 123 : Nat) : Int)) = false := beq_eq_false_iff_ne.2 h123
    have n125 : (x == ((UInt8.toNat 125 : Nat) : Int)) = false := beq_eq_false_iff_ne.2 h125
    have n40 : (x == ((UInt8.toNat 40 : Nat) : Int)) = false := beq_eq_false_iff_ne.2 h40
    have n41 : (x == ((UInt8.toNat 41 : Nat) : Int)) = false := beq_eq_false_iff_ne.2 h41
    have n91 : (x == ((UInt8.toNat 91 : Nat) : Int)) = false := beq_eq_false_iff_ne.2 h91
    have n93 : (x == ((UInt8.toNat 93 : Nat) : Int)) = false := beq_eq_false_iff_ne.2 h93
    have n59 : (x == ((UInt8.toNat 59 : Nat) : Int)) = false := beq_eq_false_iff_ne.2 h59
    have n44 : (x == ((UInt8.toNat 44 : Nat) : Int)) = false := beq_eq_false_iff_ne.2 h44
    have n46 : (x == ((UInt8.toNat 46 : Nat) : Int)) = false := beq_eq_false_iff_ne.2 h46
    have n61 : (x == ((UInt8.toNat 61 : Nat) : Int)) = false := beq_eq_false_iff_ne.2 h61
    have n60 : (x == ((UInt8.toNat 60 : Nat) : Int)) = false := beq_eq_false_iff_ne.2 h60
    have n43 : (x == ((UInt8.toNat 43 : Nat) : Int)) = false := beq_eq_false_iff_ne.2 h43
    have n45 : (x == ((UInt8.toNat 45 : Nat) : Int)) = false := beq_eq_false_iff_ne.2 h45
    have n42 : (x == ((UInt8.toNat 42 : Nat) : Int)) = false := beq_eq_false_iff_ne.2 h42
    have n47 : (x == ((UInt8.toNat 47 : Nat) : Int)) = false := beq_eq_false_iff_ne.2 h47
    have n37 : (x == ((UInt8.toNat 37 : Nat) : Int)) = false := beq_eq_false_iff_ne.2 h37
    have n35 : (x == ((UInt8.toNat 35 : Nat) : Int)) = false := beq_eq_false_iff_ne.2 h35
    simp only [n123, n125, n40, n41, n91, n93, n59, n44, n46, n61, n60, n43, n45, n42, n47, n37, n35, beq_eq_false_iff_ne.2 h123, beq_eq_false_iff_ne.2 h125, beq_eq_false_iff_ne.2 h40, beq_eq_false_iff_ne.2 h41, beq_eq_false_iff_ne.2 h91, beq_eq_false_iff_ne.2 h93, beq_eq_false_iff_ne.2 h59, beq_eq_false_iff_ne.2 h44, beq_eq_false_iff_ne.2 h46, beq_eq_false_iff_ne.2 h61, beq_eq_false_iff_ne.2 h60, beq_eq_false_iff_ne.2 h43, beq_eq_false_iff_ne.2 h45, beq_eq_false_iff_ne.2 h42, beq_eq_false_iff_ne.2 h47, beq_eq_false_iff_ne.2 h37, beq_eq_false_iff_ne.2 h35, Bool.false_and, Bool.or_false]; rfl
end Go.Proofs.Ytadmoackacickaa
