import Derived.Test.YtnjnggejbpkgoaaGreatXAJ
import Derived.Test.YtnjnggejbpkgoaaGreatXAK
set_option linter.unusedSimpArgs false
set_option linter.unusedVariables false
/- Plain: both read heads and forwarded words alike. -/
namespace Go.Proofs.YtnjnggejbpkgoaaGreat
open Go Go.AH Go.AM
theorem m63_eq (x lo hi : Int) : m63 x lo hi = some (decide (lo ≤ x ∧ x ≤ hi)) := by
 unfold m63
 by_cases h : x ≥ lo
 ·rw [decide_eq_true h, cond_true]
  exact congrArg some (decide_eq_decide.2 ⟨fun a => ⟨h, a⟩, fun a => a.2⟩)
 ·rw [decide_eq_false h, cond_false, decide_eq_false (fun a => h a.1)]
theorem m59_eq (x lo hi : Int) : m59 x lo hi = some (decide (lo ≤ x ∧ x ≤ hi)) := m63_eq x lo hi
def hok (x : Hd) : Bool :=
 if x.k = 1 then decide (1 ≤ x.s ∧ x.s ≤ 21) && x.n == 0 else if x.k = 2 then x.s == 3 && decide (1 ≤ x.n ∧ x.n ≤ 1000000000) else
 if x.k = 3 then (x.s == 16 || x.s == 32 || x.s == 64 || x.s == 128 || x.s == 256) && x.n == 0 else
 if x.k = 4 then decide (1 ≤ x.s ∧ x.s ≤ 25) && Int.tmod x.s 2 == 1 && decide (1 ≤ x.n ∧ x.n ≤ 1000000000) else
 if x.k = 5 then x.s == 2 && x.n == 0 else if x.k = 6 then x.s == 126 && decide (1 ≤ x.n ∧ x.n ≤ 1000000000) else false
theorem m132_eq (x : Hd) : m132 x = some (hok x) := by
 obtain ⟨k, s, n⟩ := x
 unfold m132 m155 m156 hok
 simp only [m63_eq, oBs]
 by_cases h1 : k = 1
 ·subst h1; cases decide (1 ≤ s ∧ s ≤ 21) <;> simp
 have g1 : (k == 1) = false := beq_eq_false_iff_ne.2 h1
 by_cases h2 : k = 2
 ·subst h2; cases h : (s == 3) <;> simp [h]
 have g2 : (k == 2) = false := beq_eq_false_iff_ne.2 h2
 by_cases h3 : k = 3
 ·subst h3
  by_cases a1 : s = 16
  ·simp [a1]
  have b1 : (s == 16) = false := beq_eq_false_iff_ne.2 a1
  by_cases a2 : s = 32
  ·simp [a2]
  have b2 : (s == 32) = false := beq_eq_false_iff_ne.2 a2
  by_cases a3 : s = 64
  ·simp [a3]
  have b3 : (s == 64) = false := beq_eq_false_iff_ne.2 a3
  by_cases a4 : s = 128
  ·simp [a4]
  have b4 : (s == 128) = false := beq_eq_false_iff_ne.2 a4
  by_cases a5 : s = 256
  ·simp [a5]
  have b5 : (s == 256) = false := beq_eq_false_iff_ne.2 a5
  simp [b1, b2, b3, b4, b5]
 have g3 : (k == 3) = false := beq_eq_false_iff_ne.2 h3
 by_cases h4 : k = 4
 ·subst h4; cases decide (1 ≤ s ∧ s ≤ 25) <;> cases h : (Int.tmod s 2 == 1) <;> simp [h]
 have g4 : (k == 4) = false := beq_eq_false_iff_ne.2 h4
 by_cases h5 : k = 5
 ·subst h5; cases h : (s == 2) <;> simp [h]
 have g5 : (k == 5) = false := beq_eq_false_iff_ne.2 h5
 by_cases h6 : k = 6
 ·subst h6; cases h : (s == 126) <;> simp [h]
 have g6 : (k == 6) = false := beq_eq_false_iff_ne.2 h6
 simp [h1, h2, h3, h4, h5, h6, g1, g2, g3, g4, g5, g6]
theorem m130_eq (x : Hd) : m130 x = some (hok x) := by
 obtain ⟨k, s, n⟩ := x
 unfold m130 hok
 simp only [m59_eq, oBs]
 by_cases h1 : k = 1
 ·subst h1; cases decide (1 ≤ s ∧ s ≤ 21) <;> simp
 have g1 : (k == 1) = false := beq_eq_false_iff_ne.2 h1
 by_cases h2 : k = 2
 ·subst h2; cases h : (s == 3) <;> simp [h]
 have g2 : (k == 2) = false := beq_eq_false_iff_ne.2 h2
 by_cases h3 : k = 3
 ·subst h3
  by_cases a1 : s = 16
  ·simp [a1]
  have b1 : (s == 16) = false := beq_eq_false_iff_ne.2 a1
  by_cases a2 : s = 32
  ·simp [a2]
  have b2 : (s == 32) = false := beq_eq_false_iff_ne.2 a2
  by_cases a3 : s = 64
  ·simp [a3]
  have b3 : (s == 64) = false := beq_eq_false_iff_ne.2 a3
  by_cases a4 : s = 128
  ·simp [a4]
  have b4 : (s == 128) = false := beq_eq_false_iff_ne.2 a4
  by_cases a5 : s = 256
  ·simp [a5]
  have b5 : (s == 256) = false := beq_eq_false_iff_ne.2 a5
  simp [b1, b2, b3, b4, b5]
 have g3 : (k == 3) = false := beq_eq_false_iff_ne.2 h3
 by_cases h4 : k = 4
 ·subst h4; cases decide (1 ≤ s ∧ s ≤ 25) <;> cases h : (Int.tmod s 2 == 1) <;> simp [h]
 have g4 : (k == 4) = false := beq_eq_false_iff_ne.2 h4
 by_cases h5 : k = 5
 ·subst h5; cases h : (s == 2) <;> simp [h]
 have g5 : (k == 5) = false := beq_eq_false_iff_ne.2 h5
 by_cases h6 : k = 6
 ·subst h6; cases h : (s == 126) <;> simp [h]
 have g6 : (k == 6) = false := beq_eq_false_iff_ne.2 h6
 simp [h1, h2, h3, h4, h5, h6, g1, g2, g3, g4, g5, g6]
theorem wu {x : Int} (h0 : 0 ≤ x) (h1 : x < 18446744073709551616) : IntKind.u64.wrap x = x := by
 have hb : IntKind.u64.bits = 64 := rfl
 unfold IntKind.wrap
 simp only [hb]
 have : x % 2 ^ 64 = x := by omega
 rw [this]
 exact if_neg (by simp [IntKind.signed])
theorem bvAnd (n m : Nat) (hn : n < 18446744073709551616) (hm : m < 18446744073709551616) : (BitVec.ofInt IntKind.u64.bits (n : Int) &&& BitVec.ofInt IntKind.u64.bits (m : Int)).toNat = n &&& m := by
 show (BitVec.ofInt 64 (n : Int) &&& BitVec.ofInt 64 (m : Int)).toNat = n &&& m
 rw [BitVec.toNat_and, BitVec.toNat_ofInt, BitVec.toNat_ofInt]
 congr 1 <;> omega
theorem fd4 (n : Nat) : Int.fdiv (n : Int) (2 ^ (min (Int.toNat 4) IntKind.u64.bits)) = ((n / 16 : Nat) : Int) := by
 show Int.fdiv (n : Int) 16 = _
 rw [Int.fdiv_eq_ediv_of_nonneg _ (by decide)]; omega
theorem fd20 (n : Nat) : Int.fdiv (n : Int) (2 ^ (min (Int.toNat 20) IntKind.u64.bits)) = ((n / 1048576 : Nat) : Int) := by
 show Int.fdiv (n : Int) 1048576 = _
 rw [Int.fdiv_eq_ediv_of_nonneg _ (by decide)]; omega
theorem fd63 (n : Nat) : Int.fdiv (n : Int) (2 ^ (min (Int.toNat 63) IntKind.u64.bits)) = ((n / 9223372036854775808 : Nat) : Int) := by
 show Int.fdiv (n : Int) 9223372036854775808 = _
 rw [Int.fdiv_eq_ediv_of_nonneg _ (by decide)]; omega
def hdOf (n : Nat) : Hd := ⟨((n % 16 : Nat) : Int), ((n / 16 % 65536 : Nat) : Int), ((n / 1048576 : Nat) : Int)⟩
def rdHead (n : Nat) : Hd × Bool := if hok (hdOf n) then (hdOf n, true) else (⟨0, 0, 0⟩, false)
theorem and15 (n : Nat) (hn : n < 18446744073709551616) : (BitVec.ofInt IntKind.u64.bits (n : Int) &&& BitVec.ofInt IntKind.u64.bits 15).toNat = n % 16 := by
 have := bvAnd n 15 hn (by decide)
 exact this.trans (Nat.and_two_pow_sub_one_eq_mod n 4)
theorem and16 (n : Nat) (hn : n < 18446744073709551616) : (BitVec.ofInt IntKind.u64.bits (n : Int) &&& BitVec.ofInt IntKind.u64.bits 65535).toNat = n % 65536 := by
 have := bvAnd n 65535 hn (by decide)
 exact this.trans (Nat.and_two_pow_sub_one_eq_mod n 16)
theorem and32 (n : Nat) (hn : n < 18446744073709551616) : (BitVec.ofInt IntKind.u64.bits (n : Int) &&& BitVec.ofInt IntKind.u64.bits 4294967295).toNat = n % 4294967296 := by
 have := bvAnd n 4294967295 hn (by decide)
 exact this.trans (Nat.and_two_pow_sub_one_eq_mod n 32)
theorem and63 (n : Nat) (hn : n < 18446744073709551616) : (BitVec.ofInt IntKind.u64.bits (n : Int) &&& BitVec.ofInt IntKind.u64.bits 9223372036854775807).toNat = n % 9223372036854775808 := by
 have := bvAnd n 9223372036854775807 hn (by decide)
 exact this.trans (Nat.and_two_pow_sub_one_eq_mod n 63)
theorem m103_eq (n : Nat) (hn : n < 18446744073709551616) : m103 (n : Int) = some (rdHead n) := by
 unfold m103
 rw [fd4, fd20, and15 n hn, and16 _ (by omega), wu (by omega) (by omega), wu (by omega) (by omega), wr (by omega) (by omega), wr (by omega) (by omega), wr (by omega) (by omega)]
 show (m132 (hdOf n)).bind _ = _
 rw [m132_eq, oBs]
 unfold rdHead
 cases hok (hdOf n) <;> rfl
theorem m129_eq (x : Hd) : m129 x = some (if hok x then (IntKind.u64.wrap (IntKind.u64.wrap (IntKind.u64.wrap x.k + IntKind.u64.wrap (IntKind.u64.wrap x.s * 16)) + IntKind.u64.wrap (IntKind.u64.wrap x.n * 1048576)), true) else (0, false)) := by
 unfold m129
 show (m130 x).bind _ = _
 rw [m130_eq, oBs]
 cases hok x <;> rfl
theorem hok_n {x : Hd} (h : hok x = true) : x.n ≤ 1000000000 := by
 obtain ⟨k, s, n⟩ := x
 unfold hok at h
 show n ≤ 1000000000
 split at h
 ·simp at h; omega
 split at h
 ·simp at h; omega
 split at h
 ·simp at h; omega
 split at h
 ·simp at h; omega
 split at h
 ·simp at h; omega
 split at h
 ·simp at h; omega
 ·cases h
theorem hok_s {x : Hd} (h : hok x = true) : 1 ≤ x.s ∧ x.s ≤ 256 ∧ 1 ≤ x.k ∧ x.k ≤ 6 := by
 obtain ⟨k, s, n⟩ := x
 unfold hok at h
 show 1 ≤ s ∧ s ≤ 256 ∧ 1 ≤ k ∧ k ≤ 6
 split at h
 ·next e => have e' : k = 1 := e; simp at h; omega
 split at h
 ·next e => have e' : k = 2 := e; simp at h; omega
 split at h
 ·next e => have e' : k = 3 := e; simp at h; omega
 split at h
 ·next e => have e' : k = 4 := e; simp at h; omega
 split at h
 ·next e => have e' : k = 5 := e; simp at h; omega
 split at h
 ·next e => have e' : k = 6 := e; simp at h; omega
 ·cases h
theorem m90_eq (n : Nat) (hn : n < 18446744073709551616) : m90 (n : Int) = some (rdHead n) := by
 unfold m90
 rw [fd4, fd20, and15 n hn, and16 _ (by omega), and32 _ (by omega), wu (by omega) (by omega), wu (by omega) (by omega), wu (by omega) (by omega), wr (by omega) (by omega), wr (by omega) (by omega), wr (by omega) (by omega)]
 rw [m129_eq, oBs]
 by_cases hb : n / 1048576 < 4294967296
 ·rw [show n / 1048576 % 4294967296 = n / 1048576 from Nat.mod_eq_of_lt hb]
  by_cases hh : hok (hdOf n) = true
  ·have hh' : hok ⟨((n % 16 : Nat) : Int), ((n / 16 % 65536 : Nat) : Int), ((n / 1048576 : Nat) : Int)⟩ = true := hh
   rw [show rdHead n = (hdOf n, true) from if_pos hh, if_pos hh']
   have hn' := hok_n hh
   have hn2 : ((n / 1048576 : Nat) : Int) ≤ 1000000000 := hn'
   show (bif (IntKind.u64.wrap (IntKind.u64.wrap (IntKind.u64.wrap ((n % 16 : Nat) : Int) + IntKind.u64.wrap (IntKind.u64.wrap ((n / 16 % 65536 : Nat) : Int) * 16)) + IntKind.u64.wrap (IntKind.u64.wrap ((n / 1048576 : Nat) : Int) * 1048576))) != (n : Int) then _ else _) = _
   rw [wu (x := ((n % 16 : Nat) : Int)) (by omega) (by omega), wu (x := ((n / 16 % 65536 : Nat) : Int)) (by omega) (by omega), wu (x := ((n / 1048576 : Nat) : Int)) (by omega) (by omega), wu (x := ((n / 16 % 65536 : Nat) : Int) * 16) (by omega) (by omega),
    wu (x := ((n / 1048576 : Nat) : Int) * 1048576) (by omega) (by omega), wu (x := ((n % 16 : Nat) : Int) + ((n / 16 % 65536 : Nat) : Int) * 16) (by omega) (by omega), wu (by omega) (by omega)]
   have : ((n % 16 : Nat) : Int) + ((n / 16 % 65536 : Nat) : Int) * 16 + ((n / 1048576 : Nat) : Int) * 1048576 = (n : Int) := by omega
   rw [this, bne_self_eq_false, cond_false]
   rfl
  ·have hh' : ¬ hok ⟨((n % 16 : Nat) : Int), ((n / 16 % 65536 : Nat) : Int), ((n / 1048576 : Nat) : Int)⟩ = true := hh
   rw [show rdHead n = (⟨0, 0, 0⟩, false) from if_neg hh, if_neg hh']
   rfl
 ·have h2 : rdHead n = (⟨0, 0, 0⟩, false) := by
   unfold rdHead
   rw [if_neg]
   intro h
   have := hok_n h
   have : ((n / 1048576 : Nat) : Int) ≤ 1000000000 := this
   omega
  rw [h2]
  cases hh : hok ⟨((n % 16 : Nat) : Int), ((n / 16 % 65536 : Nat) : Int), ((n / 1048576 % 4294967296 : Nat) : Int)⟩ with
  | false => rfl
  | true =>
   rw [if_pos rfl]
   show (bif !true then _ else bif (IntKind.u64.wrap (IntKind.u64.wrap (IntKind.u64.wrap ((n % 16 : Nat) : Int) + IntKind.u64.wrap (IntKind.u64.wrap ((n / 16 % 65536 : Nat) : Int) * 16)) + IntKind.u64.wrap (IntKind.u64.wrap ((n / 1048576 % 4294967296 : Nat) : Int) * 1048576))) != (n : Int) then _ else _) = _
   have hn2 : ((n / 1048576 % 4294967296 : Nat) : Int) ≤ 1000000000 := hok_n hh
   rw [wu (x := ((n % 16 : Nat) : Int)) (by omega) (by omega), wu (x := ((n / 16 % 65536 : Nat) : Int)) (by omega) (by omega), wu (x := ((n / 1048576 % 4294967296 : Nat) : Int)) (by omega) (by omega), wu (x := ((n / 16 % 65536 : Nat) : Int) * 16) (by omega) (by omega),
    wu (x := ((n / 1048576 % 4294967296 : Nat) : Int) * 1048576) (by omega) (by omega), wu (x := ((n % 16 : Nat) : Int) + ((n / 16 % 65536 : Nat) : Int) * 16) (by omega) (by omega), wu (by omega) (by omega)]
   rw [show (((n % 16 : Nat) : Int) + ((n / 16 % 65536 : Nat) : Int) * 16 + ((n / 1048576 % 4294967296 : Nat) : Int) * 1048576 != (n : Int)) = true from bne_iff_ne.2 (by omega)]
   rfl
def fwd (n : Nat) : Int × Bool := if 9223372036854775808 ≤ n ∧ n % 9223372036854775808 ≤ 2147483647 then (((n % 9223372036854775808 : Nat) : Int), true) else (0, false)
theorem m91_eq (n : Nat) (hn : n < 18446744073709551616) : m91 (n : Int) = some (fwd n) := by
 unfold m91 fwd
 rw [fd63, and63 n hn, wu (by omega) (by omega)]
 by_cases h : 9223372036854775808 ≤ n
 ·rw [show (((n / 9223372036854775808 : Nat) : Int) == 0) = false from beq_eq_false_iff_ne.2 (by omega), cond_false]
  by_cases h2 : n % 9223372036854775808 ≤ 2147483647
  ·rw [decide_eq_false (by omega), cond_false, if_pos ⟨h, h2⟩, wr (by omega) (by omega)]
  ·rw [decide_eq_true (by omega), cond_true, if_neg (fun a => h2 a.2)]
 ·rw [show (((n / 9223372036854775808 : Nat) : Int) == 0) = true from beq_iff_eq.2 (by omega), cond_true, if_neg (fun a => h a.1)]
theorem andT (n : Nat) (hn : n < 18446744073709551616) : (BitVec.ofInt IntKind.u64.bits (n : Int) &&& BitVec.ofInt IntKind.u64.bits 9223372036854775808).toNat = n / 9223372036854775808 * 9223372036854775808 := by
 have h := bvAnd n 9223372036854775808 hn (by decide)
 refine h.trans ?_
 have e1 := Nat.and_div_two_pow (a := n) (b := 9223372036854775808) (n := 63)
 have e2 := Nat.and_mod_two_pow (a := n) (b := 9223372036854775808) (n := 63)
 rw [show (9223372036854775808 : Nat) / 2 ^ 63 = 1 from rfl, Nat.and_one_is_mod] at e1
 rw [show (9223372036854775808 : Nat) % 2 ^ 63 = 0 from rfl, Nat.and_zero] at e2
 omega
theorem m102_eq (n : Nat) (hn : n < 18446744073709551616) : m102 (n : Int) = some (fwd n) := by
 have e : ~~~(BitVec.ofInt IntKind.u64.bits 9223372036854775808) = BitVec.ofInt IntKind.u64.bits 9223372036854775807 := by decide
 unfold m102 fwd
 rw [e, and63 n hn, andT n hn, wu (x := ((n % 9223372036854775808 : Nat) : Int)) (by omega) (by omega), wu (by omega) (by omega)]
 by_cases h : 9223372036854775808 ≤ n
 ·rw [show (((n / 9223372036854775808 * 9223372036854775808 : Nat) : Int) == 0) = false from beq_eq_false_iff_ne.2 (by omega), cond_false]
  by_cases h2 : n % 9223372036854775808 ≤ 2147483647
  ·rw [decide_eq_false (by omega), cond_false, if_pos ⟨h, h2⟩, wr (by omega) (by omega)]
  ·rw [decide_eq_true (by omega), cond_true, if_neg (fun a => h2 a.2)]
 ·rw [show (((n / 9223372036854775808 * 9223372036854775808 : Nat) : Int) == 0) = true from beq_iff_eq.2 (by omega), cond_true, if_neg (fun a => h a.1)]
theorem head_fwd {n : Nat} (h : (rdHead n).2 = true) : (fwd n).2 = false := by
 unfold rdHead at h
 by_cases hh : hok (hdOf n) = true
 ·have : ((n / 1048576 : Nat) : Int) ≤ 1000000000 := hok_n hh
  unfold fwd
  rw [if_neg (by omega)]
 ·rw [if_neg hh] at h; cases h
open Go Go.AH Go.AM
structure ArI (a : Ar) : Prop where
 w : ∀ x ∈ a.ws, 0 ≤ x ∧ x < 18446744073709551616
 r : ∀ x ∈ a.rs, (-9223372036854775808 ≤ x.t ∧ x.t ≤ 9223372036854775807) ∧ (-9223372036854775808 ≤ x.n ∧ x.n ≤ 9223372036854775807)
 i : ∀ x ∈ [a.semi, a.to, a.top, a.scan, a.old, a.cop, a.ser], -9223372036854775808 ≤ x ∧ x ≤ 9223372036854775807
theorem m138_eq (t : Int) : m138 t = m101 t := rfl
theorem m112_eq (v : Vl) : m112 v = m100 v := rfl
def kindOf (t : Int) : Int := if t = 3 then 1 else if t = 4 then 2 else if t = 5 then 4 else if t = 6 then 6 else if t = 8 then 3 else if t = 9 then 5 else 0
theorem m101_eq (t : Int) : m101 t = some (kindOf t) := by
 unfold m101 kindOf
 by_cases h3 : t = 3
 ·subst h3; rfl
 rw [beq_eq_false_iff_ne.2 h3, cond_false, if_neg h3]
 by_cases h4 : t = 4
 ·subst h4; rfl
 rw [beq_eq_false_iff_ne.2 h4, cond_false, if_neg h4]
 by_cases h5 : t = 5
 ·subst h5; rfl
 rw [beq_eq_false_iff_ne.2 h5, cond_false, if_neg h5]
 by_cases h6 : t = 6
 ·subst h6; rfl
 rw [beq_eq_false_iff_ne.2 h6, cond_false, if_neg h6]
 by_cases h8 : t = 8
 ·subst h8; rfl
 rw [beq_eq_false_iff_ne.2 h8, cond_false, if_neg h8]
 by_cases h9 : t = 9
 ·subst h9; rfl
 rw [beq_eq_false_iff_ne.2 h9, cond_false, if_neg h9]
theorem m100_eq (v : Vl) : m100 v = some (kindOf v.t != 0) := by
 unfold m100
 rw [m101_eq]; rfl
def vok (v : Vl) : Bool :=
 if v.t = 0 then v.n == 0 else if v.t = 1 then v.n == 0 || v.n == 1 else if v.t = 2 then true else if v.t = 7 then decide (1 ≤ v.n ∧ v.n ≤ 20) else kindOf v.t != 0 && decide (v.n > 0)
theorem m57_eq (v : Vl) : m57 v = some (vok v) := by
 obtain ⟨t, n⟩ := v
 unfold m57 vok
 by_cases h0 : t = 0
 ·subst h0; rfl
 rw [beq_eq_false_iff_ne.2 h0, cond_false, if_neg h0]
 by_cases h1 : t = 1
 ·subst h1; cases h : (n == 0) <;> simp [h]
 rw [beq_eq_false_iff_ne.2 h1, cond_false, if_neg h1]
 by_cases h2 : t = 2
 ·subst h2; rfl
 rw [beq_eq_false_iff_ne.2 h2, cond_false, if_neg h2]
 by_cases h7 : t = 7
 ·subst h7; rw [m59_eq]; rfl
 rw [beq_eq_false_iff_ne.2 h7, cond_false, if_neg h7, m100_eq, oBs]
 cases (kindOf t != 0) <;> rfl
theorem m108_eq (v : Vl) : m108 v = some (vok v) := by
 obtain ⟨t, n⟩ := v
 unfold m108 vok
 by_cases h0 : t = 0
 ·subst h0; rfl
 rw [beq_eq_false_iff_ne.2 h0, cond_false, if_neg h0]
 by_cases h1 : t = 1
 ·subst h1
  rw [m63_eq]
  show some (decide (0 ≤ n ∧ n ≤ 1)) = some (n == 0 || n == 1)
  refine congrArg some ?_
  by_cases a : n = 0
  ·subst a; rfl
  by_cases b : n = 1
  ·subst b; rfl
  rw [decide_eq_false (by omega), beq_eq_false_iff_ne.2 a, beq_eq_false_iff_ne.2 b]; rfl
 rw [beq_eq_false_iff_ne.2 h1, cond_false, if_neg h1]
 by_cases h2 : t = 2
 ·subst h2; rfl
 rw [beq_eq_false_iff_ne.2 h2, cond_false, if_neg h2]
 by_cases h7 : t = 7
 ·subst h7; rw [m63_eq]; rfl
 rw [beq_eq_false_iff_ne.2 h7, cond_false, if_neg h7, m138_eq, m101_eq, oBs]
 cases (kindOf t != 0) <;> rfl
theorem ArI.word {a : Ar} (I : ArI a) {i w : Int} (e : rd a.ws i = some w) : ∃ n : Nat, w = (n : Int) ∧ n < 18446744073709551616 := by
 obtain ⟨_, _, h⟩ := rd_some e
 obtain ⟨h0, h1⟩ := I.w w (List.mem_of_getElem? h)
 exact ⟨w.toNat, by omega, by omega⟩
theorem m55_72 {a : Ar} (I : ArI a) (p : Int) : m55 a p = m72 a p := by
 unfold m55 m72
 cases e : rd a.ws p with
 | none => rfl
 | some w =>
  obtain ⟨n, rfl, hn⟩ := I.word e
  rw [oBs, oBs, m90_eq n hn, m103_eq n hn]
theorem m72_eq {a : Ar} {p : Int} {n : Nat} (e : rd a.ws p = some (n : Int)) (hn : n < 18446744073709551616) : m72 a p = some (rdHead n).1 := by
 unfold m72
 rw [e, oBs, m103_eq n hn]; rfl
theorem m61_eq {a : Ar} {p : Int} {n : Nat} (e : rd a.ws p = some (n : Int)) (hn : n < 18446744073709551616) : m61 a p = some (if (fwd n).2 then (fwd n).1 else p) := by
 unfold m61
 rw [e, oBs, m91_eq n hn, oBs]
 cases (fwd n).2 <;> rfl
open Go Go.AH Go.AM
structure Num (a : Ar) : Prop where
 semi : 256 ≤ a.semi ∧ a.semi ≤ 4000
 len : (a.ws.length : Int) = 2 * a.semi
 to : 0 ≤ a.to ∧ a.to ≤ 1
 ser : 1 ≤ a.ser ∧ a.ser ≤ 1000000000
 roots : (a.rs.length : Int) ≤ 24
 top : a.to * a.semi + 1 ≤ a.top ∧ a.top ≤ (a.to + 1) * a.semi
theorem mulB {t s : Int} (ht : 0 ≤ t ∧ t ≤ 2) (hs : 256 ≤ s ∧ s ≤ 4000) : 0 ≤ t * s ∧ t * s ≤ 8000 := by
 have : t = 0 ∨ t = 1 ∨ t = 2 := by omega
 rcases this with rfl | rfl | rfl <;> omega
theorem m64_eq {a : Ar} {t : Int} (ht : 0 ≤ t ∧ t ≤ 2) (hs : 256 ≤ a.semi ∧ a.semi ≤ 4000) : m64 a t = some (t * a.semi + 1) := by
 have := mulB ht hs
 unfold m64
 rw [wr (x := t * a.semi) (by omega) (by omega), wr (by omega) (by omega)]
theorem m65_eq {a : Ar} {t : Int} (ht : 0 ≤ t ∧ t ≤ 1) (hs : 256 ≤ a.semi ∧ a.semi ≤ 4000) : m65 a t = some ((t + 1) * a.semi) := by
 have := mulB (t := t + 1) (by omega) hs
 unfold m65
 rw [wr (x := t + 1) (by omega) (by omega), wr (by omega) (by omega)]
theorem m88_eq {a : Ar} {t : Int} (ht : 0 ≤ t ∧ t ≤ 2) (hs : 256 ≤ a.semi ∧ a.semi ≤ 4000) : m88 a t = some (t * a.semi + 1) := m64_eq ht hs
theorem m89_eq {a : Ar} (ht : 0 ≤ a.to ∧ a.to ≤ 1) (hs : 256 ≤ a.semi ∧ a.semi ≤ 4000) : m89 a = some ((a.to + 1) * a.semi) := by
 have := mulB (t := a.to + 1) (by omega) hs
 unfold m89
 rw [wr (x := a.to + 1) (by omega) (by omega), wr (by omega) (by omega)]
theorem m33_num {a : Ar} (I : ArI a) (h : ¬ Num a) : m33 a = some false := by
 unfold m33
 rw [m63_eq, oBs]
 by_cases c1 : ¬ (256 ≤ a.semi ∧ a.semi ≤ 4000)
 ·rw [decide_eq_false c1]; rfl
 replace c1 := Decidable.not_not.1 c1
 rw [decide_eq_true c1, Bool.not_true, cond_false, wr (x := 2 * a.semi) (by omega) (by omega)]
 by_cases c2 : ¬ ((a.ws.length : Int) = 2 * a.semi)
 ·rw [bne_iff_ne.2 c2, cond_true]
 replace c2 := Decidable.not_not.1 c2
 rw [show ((a.ws.length : Int) != 2 * a.semi) = false by rw [c2]; exact bne_self_eq_false _, cond_false, m63_eq, oBs]
 by_cases c1003 : ¬ (0 ≤ a.to ∧ a.to ≤ 1)
 ·rw [decide_eq_false c1003]; rfl
 replace c1003 := Decidable.not_not.1 c1003
 rw [decide_eq_true c1003, Bool.not_true, cond_false, m64_eq (by omega) c1, oBs, m65_eq c1003 c1, oBs, m63_eq, oBs]
 by_cases c1004 : ¬ (a.to * a.semi + 1 ≤ a.top ∧ a.top ≤ (a.to + 1) * a.semi)
 ·rw [decide_eq_false c1004]; rfl
 replace c1004 := Decidable.not_not.1 c1004
 rw [decide_eq_true c1004, Bool.not_true, cond_false, m63_eq, oBs]
 by_cases c1005 : ¬ (1 ≤ a.ser ∧ a.ser ≤ 1000000000)
 ·rw [decide_eq_false c1005]; rfl
 replace c1005 := Decidable.not_not.1 c1005
 rw [decide_eq_true c1005, Bool.not_true, cond_false]
 by_cases c4 : (a.rs.length : Int) > 24
 ·rw [decide_eq_true c4, cond_true]
 ·exact absurd ⟨c1, c2, c1003, c1005, by omega, c1004⟩ h
theorem m51_num {a : Ar} (I : ArI a) (h : ¬ Num a) : m51 a = some false := by
 unfold m51
 rw [m59_eq, oBs]
 by_cases c1 : ¬ (256 ≤ a.semi ∧ a.semi ≤ 4000)
 ·rw [decide_eq_false c1]; rfl
 replace c1 := Decidable.not_not.1 c1
 rw [decide_eq_true c1, Bool.not_true, cond_false, wr (x := 2 * a.semi) (by omega) (by omega)]
 by_cases c2 : ¬ ((a.ws.length : Int) = 2 * a.semi)
 ·rw [bne_iff_ne.2 c2, cond_true]
 replace c2 := Decidable.not_not.1 c2
 rw [show ((a.ws.length : Int) != 2 * a.semi) = false by rw [c2]; exact bne_self_eq_false _, cond_false, m59_eq, oBs]
 by_cases c1003 : ¬ (0 ≤ a.to ∧ a.to ≤ 1)
 ·rw [decide_eq_false c1003]; rfl
 replace c1003 := Decidable.not_not.1 c1003
 rw [decide_eq_true c1003, Bool.not_true, cond_false, m59_eq, oBs]
 by_cases c1005 : ¬ (1 ≤ a.ser ∧ a.ser ≤ 1000000000)
 ·rw [decide_eq_false c1005]; rfl
 replace c1005 := Decidable.not_not.1 c1005
 rw [decide_eq_true c1005, Bool.not_true, cond_false]
 by_cases c4 : (a.rs.length : Int) > 24
 ·rw [decide_eq_true c4, cond_true]
 rw [decide_eq_false c4, cond_false, m88_eq (by omega) c1, oBs, m89_eq c1003 c1, oBs, m59_eq, oBs]
 by_cases c1004 : ¬ (a.to * a.semi + 1 ≤ a.top ∧ a.top ≤ (a.to + 1) * a.semi)
 ·rw [decide_eq_false c1004]; rfl
 replace c1004 := Decidable.not_not.1 c1004
 exact absurd ⟨c1, c2, c1003, c1005, by omega, c1004⟩ h
open Go Go.AH Go.AM
def cycOk (a : Ar) : Bool :=
 if a.cyc = true then decide (((1 - a.to) * a.semi + 1 ≤ a.old ∧ a.old ≤ (2 - a.to) * a.semi) ∧ (0 ≤ a.cop ∧ a.cop ≤ a.old - ((1 - a.to) * a.semi + 1)) ∧ a.top + a.old - ((1 - a.to) * a.semi + 1) - a.cop ≤ (a.to + 1) * a.semi)
 else decide (a.scan = 0 ∧ a.old = 0 ∧ a.cop = 0)
theorem m51_ok {a : Ar} (I : ArI a) (N : Num a) : m51 a = some (cycOk a) := by
 obtain ⟨c1, c2, c1003, c1005, c4, c1004⟩ := N
 have b0 := mulB (t := a.to) (by omega) c1
 have b1 := mulB (t := a.to + 1) (by omega) c1
 have b2 := mulB (t := 1 - a.to) (by omega) c1
 have b3 := mulB (t := 2 - a.to) (by omega) c1
 unfold m51
 rw [m59_eq, oBs, decide_eq_true c1, Bool.not_true, cond_false, wr (x := 2 * a.semi) (by omega) (by omega), show ((a.ws.length : Int) != 2 * a.semi) = false by rw [c2]; exact bne_self_eq_false _, cond_false,
  m59_eq, oBs, decide_eq_true c1003, Bool.not_true, cond_false, m59_eq, oBs, decide_eq_true c1005, Bool.not_true, cond_false, decide_eq_false (by omega : ¬ (a.rs.length : Int) > 24), cond_false,
  m88_eq (by omega) c1, oBs, m89_eq c1003 c1, oBs, m59_eq, oBs, decide_eq_true c1004, Bool.not_true, cond_false]
 unfold cycOk
 cases hc : a.cyc with
 | false =>
  rw [if_neg (by decide), Bool.not_false, cond_true]
  by_cases d1 : a.scan = 0
  ·rw [beq_iff_eq.2 d1, cond_true]
   by_cases d2 : a.old = 0
   ·rw [beq_iff_eq.2 d2, cond_true]
    by_cases d3 : a.cop = 0
    ·rw [beq_iff_eq.2 d3, decide_eq_true ⟨d1, d2, d3⟩]
    ·rw [beq_eq_false_iff_ne.2 d3, decide_eq_false (fun x => d3 x.2.2)]
   ·rw [beq_eq_false_iff_ne.2 d2, cond_false, decide_eq_false (fun x => d2 x.2.1)]
  ·rw [beq_eq_false_iff_ne.2 d1, cond_false, decide_eq_false (fun x => d1 x.1)]
 | true =>
  rw [if_pos rfl, Bool.not_true, cond_false, wr (x := 1 - a.to) (by omega) (by omega), m88_eq (by omega) c1, oBs, m59_eq, oBs, wr (x := 2 - a.to) (by omega) (by omega), wr (x := (2 - a.to) * a.semi) (by omega) (by omega)]
  by_cases d1 : (1 - a.to) * a.semi + 1 ≤ a.old ∧ a.old ≤ (2 - a.to) * a.semi
  ·rw [decide_eq_true d1, Bool.not_true, cond_false, wr (x := a.old - ((1 - a.to) * a.semi + 1)) (by omega) (by omega), m59_eq, oBs]
   by_cases d2 : 0 ≤ a.cop ∧ a.cop ≤ a.old - ((1 - a.to) * a.semi + 1)
   ·rw [decide_eq_true d2, Bool.not_true, cond_false, oBs, wr (x := a.top + a.old) (by omega) (by omega), wr (x := a.top + a.old - ((1 - a.to) * a.semi + 1)) (by omega) (by omega),
     wr (x := a.top + a.old - ((1 - a.to) * a.semi + 1) - a.cop) (by omega) (by omega)]
    exact congrArg some (decide_eq_decide.2 ⟨fun x => ⟨d1, d2, x⟩, fun x => x.2.2⟩)
   ·rw [decide_eq_false d2, decide_eq_false (fun x => d2 x.2.1)]; rfl
  ·rw [decide_eq_false d1, decide_eq_false (fun x => d1 x.1)]; rfl
open Go Go.AH Go.AM
def sq : Nat → Int → List Int
 | 0, _ => []
 | k + 1, i => i :: sq k (i + 2)
theorem sq_loop : ∀ (f k : Nat) (s : Int) (l : List Int) (i : Int), 0 ≤ i → i ≤ 1000 → s ≤ 256 → k < f → 2 * (k : Int) ≤ s - i + 1 → s - i - 1 < 2 * (k : Int) → (l.length : Int) ≤ i →
  mS92_5 f s l i = some (l ++ sq k i) ∧ mS113_3 f s l i = some (l ++ sq k i)
 | 0, _, _, _, _, _, _, _, h, _, _, _ => absurd h (Nat.not_lt_zero _)
 | f + 1, 0, s, l, i, h0, h1, hs, hf, h2, h3, hl => by
  rw [mS92_5, mS113_3, wr (x := i + 1) (by omega) (by omega), wr (x := i + 2) (by omega) (by omega), decide_eq_false (by omega : ¬ i < s), decide_eq_false (by omega : ¬ i + 1 ≤ s), cond_false, cond_false, sq, List.append_nil]
  exact ⟨rfl, rfl⟩
 | f + 1, k + 1, s, l, i, h0, h1, hs, hf, h2, h3, hl => by
  rw [mS92_5, mS113_3, wr (x := i + 1) (by omega) (by omega), wr (x := i + 2) (by omega) (by omega), decide_eq_true (by omega : i < s), decide_eq_true (by omega : i + 1 ≤ s), cond_true, cond_true]
  have g : grow l i = some (l ++ [i]) := if_pos (by omega)
  rw [g, oBs, oBs, sq, show l ++ i :: sq k (i + 2) = (l ++ [i]) ++ sq k (i + 2) by simp]
  exact sq_loop f k s (l ++ [i]) (i + 2) (by omega) (by omega) hs (by omega) (by omega) (by omega) (by simp; omega)
theorem sq_len : ∀ (k : Nat) (i : Int), (sq k i).length = k
 | 0, _ => rfl
 | k + 1, i => by rw [sq, List.length_cons, sq_len]
theorem sq_at : ∀ (k : Nat) (i : Int) (j : Nat), j < k → (sq k i)[j]? = some (i + 2 * (j : Int))
 | 0, _, _, h => absurd h (Nat.not_lt_zero _)
 | k + 1, i, 0, _ => by rw [sq]; simp
 | k + 1, i, j + 1, h => by
  rw [sq, List.getElem?_cons_succ, sq_at k (i + 2) j (by omega)]
  exact congrArg some (by omega)
theorem sq_mem {k : Nat} {i x : Int} : x ∈ sq k i ↔ ∃ j : Nat, j < k ∧ x = i + 2 * (j : Int) := by
 constructor
 ·intro h
  obtain ⟨j, hj, e⟩ := List.mem_iff_getElem.1 h
  have hk : j < k := by rw [sq_len] at hj; exact hj
  have := sq_at k i j hk
  rw [List.getElem?_eq_getElem hj, e] at this
  exact ⟨j, hk, Option.some.inj this⟩
 ·rintro ⟨j, hj, rfl⟩
  exact List.mem_of_getElem? (sq_at k i j hj)
def slots (k s : Int) : List Int := if k = 2 ∨ k = 4 then sq ((s - 1) / 2).toNat 2 else if k = 3 ∨ k = 5 then sq (s / 2).toNat 1 else if k = 6 then sq ((s - 4) / 2).toNat 5 else []
theorem slot_none (s : Int) (hs : 0 ≤ s ∧ s ≤ 256) : mS92_5 20000 s [] (IntKind.i64.wrap (s + 1)) = some [] := by
 rw [wr (by omega) (by omega), mS92_5, wr (by omega) (by omega), decide_eq_false (by omega), cond_false]
theorem mkC_eq (s : Int) (hs : 0 ≤ s ∧ s ≤ 256) : (mkC (IntKind.i64.wrap (Int.tdiv s 2)) : Option (List Int)) = some [] := by
 have : Int.tdiv s 2 = s / 2 := by rw [Int.tdiv_eq_ediv_of_nonneg hs.1]
 rw [this, wr (by omega) (by omega)]
 exact if_pos (by omega)
theorem hok_any {k s n : Int} (h : hok ⟨k, s, n⟩ = true) : hok ⟨k, s, if k = 2 ∨ k = 4 ∨ k = 6 then 1 else 0⟩ = true := by
 have hb := hok_s h
 have h1 : 1 ≤ k ∧ k ≤ 6 := hb.2.2
 have : k = 1 ∨ k = 2 ∨ k = 3 ∨ k = 4 ∨ k = 5 ∨ k = 6 := by omega
 unfold hok at h ⊢
 rcases this with rfl | rfl | rfl | rfl | rfl | rfl <;> simp at h ⊢ <;> first | exact h.1 | exact h | (refine ⟨h.1, ?_⟩; exact h.2.1) | omega
theorem slots_eq {k s n : Int} (h : hok ⟨k, s, n⟩ = true) : m92 k s = some (slots k s) ∧ m113 k s = some (slots k s) ∧ ∀ x ∈ slots k s, 1 ≤ x ∧ x + 1 ≤ s := by
 have hb := hok_s h
 have hs : 1 ≤ s ∧ s ≤ 256 := ⟨hb.1, hb.2.1⟩
 have h1 : 1 ≤ k ∧ k ≤ 6 := hb.2.2
 have ha := hok_any h
 have C := mkC_eq s ⟨by omega, hs.2⟩
 have L : ∀ i : Int, 1 ≤ i → i ≤ 5 → i ≤ s + 1 → mS92_5 20000 s [] i = some (sq ((s - i + 1) / 2).toNat i) ∧ mS113_3 20000 s [] i = some (sq ((s - i + 1) / 2).toNat i) ∧ ∀ x ∈ sq ((s - i + 1) / 2).toNat i, 1 ≤ x ∧ x + 1 ≤ s := fun i i0 i1 i2 => by
  have r := sq_loop 20000 ((s - i + 1) / 2).toNat s [] i (by omega) (by omega) hs.2 (by omega) (by omega) (by omega) (by simp; omega)
  rw [List.nil_append] at r
  refine ⟨r.1, r.2, fun x hx => ?_⟩
  obtain ⟨j, hj, rfl⟩ := sq_mem.1 hx
  omega
 have hk : k = 1 ∨ k = 2 ∨ k = 3 ∨ k = 4 ∨ k = 5 ∨ k = 6 := by omega
 rcases hk with rfl | rfl | rfl | rfl | rfl | rfl
 ·refine ⟨?_, rfl, fun x hx => by cases hx⟩
  have e : m130 ⟨1, s, 0⟩ = some true := by rw [m130_eq]; exact congrArg some ha
  show ((m130 ⟨1, s, 0⟩).bind fun r => bif !r then some [] else mS92_5 20000 s [] (IntKind.i64.wrap (s + 1))) = _
  rw [e, oBs, Bool.not_true, cond_false]
  exact slot_none s ⟨by omega, hs.2⟩
 ·obtain ⟨r1, r2, r3⟩ := L 2 (by decide) (by decide) (by omega)
  rw [show s - 2 + 1 = s - 1 by omega] at r1 r2 r3
  rw [show slots 2 s = sq ((s - 1) / 2).toNat 2 by unfold slots; simp]
  refine ⟨?_, ?_, r3⟩
  ·have e : m130 ⟨2, s, 1⟩ = some true := by rw [m130_eq]; exact congrArg some ha
   show ((m130 ⟨2, s, 1⟩).bind fun r => bif !r then some [] else mS92_5 20000 s [] 2) = _
   rw [e, oBs, Bool.not_true, cond_false]
   exact r1
  ·show (mkC (IntKind.i64.wrap (Int.tdiv s 2)) : Option (List Int)).bind (fun l => mS113_3 20000 s l 2) = _
   rw [C, oBs]; exact r2
 ·obtain ⟨r1, r2, r3⟩ := L 1 (by decide) (by decide) (by omega)
  rw [show s - 1 + 1 = s by omega] at r1 r2 r3
  rw [show slots 3 s = sq (s / 2).toNat 1 by unfold slots; simp]
  refine ⟨?_, ?_, r3⟩
  ·have e : m130 ⟨3, s, 0⟩ = some true := by rw [m130_eq]; exact congrArg some ha
   show ((m130 ⟨3, s, 0⟩).bind fun r => bif !r then some [] else mS92_5 20000 s [] 1) = _
   rw [e, oBs, Bool.not_true, cond_false]
   exact r1
  ·show (mkC (IntKind.i64.wrap (Int.tdiv s 2)) : Option (List Int)).bind (fun l => mS113_3 20000 s l 1) = _
   rw [C, oBs]; exact r2
 ·obtain ⟨r1, r2, r3⟩ := L 2 (by decide) (by decide) (by omega)
  rw [show s - 2 + 1 = s - 1 by omega] at r1 r2 r3
  rw [show slots 4 s = sq ((s - 1) / 2).toNat 2 by unfold slots; simp]
  refine ⟨?_, ?_, r3⟩
  ·have e : m130 ⟨4, s, 1⟩ = some true := by rw [m130_eq]; exact congrArg some ha
   show ((m130 ⟨4, s, 1⟩).bind fun r => bif !r then some [] else mS92_5 20000 s [] 2) = _
   rw [e, oBs, Bool.not_true, cond_false]
   exact r1
  ·show (mkC (IntKind.i64.wrap (Int.tdiv s 2)) : Option (List Int)).bind (fun l => mS113_3 20000 s l 2) = _
   rw [C, oBs]; exact r2
 ·obtain ⟨r1, r2, r3⟩ := L 1 (by decide) (by decide) (by omega)
  rw [show s - 1 + 1 = s by omega] at r1 r2 r3
  rw [show slots 5 s = sq (s / 2).toNat 1 by unfold slots; simp]
  refine ⟨?_, ?_, r3⟩
  ·have e : m130 ⟨5, s, 0⟩ = some true := by rw [m130_eq]; exact congrArg some ha
   show ((m130 ⟨5, s, 0⟩).bind fun r => bif !r then some [] else mS92_5 20000 s [] 1) = _
   rw [e, oBs, Bool.not_true, cond_false]
   exact r1
  ·show (mkC (IntKind.i64.wrap (Int.tdiv s 2)) : Option (List Int)).bind (fun l => mS113_3 20000 s l 1) = _
   rw [C, oBs]; exact r2
 ·obtain ⟨r1, r2, r3⟩ := L 5 (by decide) (by decide) (by have : s = 126 := (by unfold hok at h; simp at h; exact h.1); omega)
  rw [show s - 5 + 1 = s - 4 by omega] at r1 r2 r3
  rw [show slots 6 s = sq ((s - 4) / 2).toNat 5 by unfold slots; simp]
  refine ⟨?_, ?_, r3⟩
  ·have e : m130 ⟨6, s, 1⟩ = some true := by rw [m130_eq]; exact congrArg some ha
   show ((m130 ⟨6, s, 1⟩).bind fun r => bif !r then some [] else mS92_5 20000 s [] 5) = _
   rw [e, oBs, Bool.not_true, cond_false]
   exact r1
  ·show (mkC (IntKind.i64.wrap (Int.tdiv s 2)) : Option (List Int)).bind (fun l => mS113_3 20000 s l 5) = _
   rw [C, oBs]; exact r2
open Go Go.AH Go.AM
theorem m95_eq (a : Ar) (p i : Int) : m95 a p i = (rd a.ws (IntKind.i64.wrap (p + i))).bind fun w => some (IntKind.i64.wrap w) := rfl
theorem wbig {n : Nat} (h : 160 < n) (hn : n < 18446744073709551616) : ¬ (0 ≤ IntKind.i64.wrap (n : Int) ∧ IntKind.i64.wrap (n : Int) ≤ 160) := by
 by_cases c : n < 9223372036854775808
 ·rw [wr (by omega) (by omega)]; omega
 ·have hb : IntKind.i64.bits = 64 := rfl
  unfold IntKind.wrap
  simp only [hb]
  have : (n : Int) % 2 ^ 64 = n := by omega
  rw [this, if_pos]
  ·omega
  ·simp; exact ⟨rfl, by omega⟩
theorem text_eq {a : Ar} (I : ArI a) (is : List Int) (p s : Int) : m94 a p s = m134 a is p s := by
 unfold m94 m134
 rw [m95_eq]
 cases e : rd a.ws (IntKind.i64.wrap (p + 1)) with
 | none => rfl
 | some w =>
  obtain ⟨n, rfl, hn⟩ := I.word e
  rw [oBs, oBs, oBs, m59_eq, oBs]
  by_cases h : n ≤ 160
  ·rw [wr (x := (n : Int)) (by omega) (by omega), decide_eq_true (by omega : 0 ≤ (n : Int) ∧ (n : Int) ≤ 160), decide_eq_false (by omega : ¬ (n : Int) > 160), Bool.not_true, cond_false, cond_false]
   have hm : 0 ≤ Int.tmod (n : Int) 8 ∧ Int.tmod (n : Int) 8 < 8 := ⟨Int.tmod_nonneg 8 (by omega), Int.tmod_lt_of_pos _ (by decide)⟩
   rw [wr (x := 8 * Int.tmod (n : Int) 8) (by omega) (by omega), wu (x := 8 * Int.tmod (n : Int) 8) (by omega) (by omega)]
   cases h1 : (s != IntKind.i64.wrap (1 + IntKind.i64.wrap (Int.tdiv (IntKind.i64.wrap ((n : Int) + 7)) 8))) with
   | true => rw [show (IntKind.i64.wrap (1 + IntKind.i64.wrap (Int.tdiv (IntKind.i64.wrap ((n : Int) + 7)) 8)) != s) = true from bne_iff_ne.2 (fun x => (bne_iff_ne.1 h1) x.symm)]
   | false =>
    have h1' : s = IntKind.i64.wrap (1 + IntKind.i64.wrap (Int.tdiv (IntKind.i64.wrap ((n : Int) + 7)) 8)) := bne_eq_false_iff_eq.1 h1
    rw [show (IntKind.i64.wrap (1 + IntKind.i64.wrap (Int.tdiv (IntKind.i64.wrap ((n : Int) + 7)) 8)) != s) = false by rw [← h1']; exact bne_self_eq_false _]
  ·rw [decide_eq_false (wbig (by omega) hn), decide_eq_true (by omega : (n : Int) > 160)]; rfl
open Go Go.AH Go.AM
def oldOk (a : Ar) (is ml : List Int) : Option Bool :=
 bif !(decide ((1 - a.to) * a.semi + 1 ≤ a.old ∧ a.old ≤ (2 - a.to) * a.semi)) then some false else
  (m66 a is ml ((1 - a.to) * a.semi + 1) a.old 2).bind fun r => bif !r.1 then some false else (m68 a).bind fun l => bif decide (IntKind.i64.wrap (a.top + l) > (a.to + 1) * a.semi) then some false else (m69 a r.2.1 []).bind fun q => some q.1
def m33b (a : Ar) : Option Bool :=
 (m66 a (List.replicate a.ws.length 0) [] (a.to * a.semi + 1) a.top 1).bind fun r => bif !r.1 then some false else
  bif !a.cyc then (bif a.scan != 0 then some false else bif a.old != 0 then some false else bif a.cop != 0 then some false else (m69 a r.2.1 []).bind fun q => some q.1)
  else bif !(decide (1 ≤ a.scan ∧ a.scan ≤ a.top)) then some false else
   bif a.scan != a.top then (rd r.2.1 a.scan).bind fun w => bif w != 1 then some false else oldOk a r.2.1 r.2.2 else oldOk a r.2.1 r.2.2
theorem mkL_eq (n : Nat) (h : n ≤ 2000000) (z : Int) : mkL (n : Int) z = some (List.replicate n z) := by
 unfold mkL
 rw [if_pos ⟨Int.natCast_nonneg n, by omega⟩, Int.toNat_natCast]
theorem m67_eq {a : Ar} (h : 0 ≤ a.to ∧ a.to ≤ 1) : m67 a = some (1 - a.to) := by
 unfold m67
 rw [wr (by omega) (by omega)]
theorem m33_ok {a : Ar} (N : Num a) : m33 a = m33b a := by
 obtain ⟨c1, c2, c1003, c1005, c4, c1004⟩ := N
 have e1 : (mkL (a.ws.length : Int) (0 : Int)) = some (List.replicate a.ws.length 0) := mkL_eq _ (by omega) 0
 have e61 : m67 a = some (1 - a.to) := m67_eq c1003
 have e58 : m64 a (1 - a.to) = some ((1 - a.to) * a.semi + 1) := m64_eq (by omega) c1
 have e59 : m65 a (1 - a.to) = some ((2 - a.to) * a.semi) := by rw [m65_eq (by omega) c1, show 1 - a.to + 1 = 2 - a.to by omega]
 have e2640 : m64 a a.to = some (a.to * a.semi + 1) := m64_eq (by omega) c1
 have e2650 : m65 a a.to = some ((a.to + 1) * a.semi) := m65_eq c1003 c1
 unfold m33 m33b oldOk
 generalize m66 a = f66
 generalize m69 a = f69
 generalize m68 a = f68
 rw [m63_eq, oBs, decide_eq_true c1, Bool.not_true, cond_false, wr (x := 2 * a.semi) (by omega) (by omega), show ((a.ws.length : Int) != 2 * a.semi) = false by rw [c2]; exact bne_self_eq_false _, cond_false,
  m63_eq, oBs, decide_eq_true c1003, Bool.not_true, cond_false, e2640, oBs, e2650, oBs, m63_eq, oBs, decide_eq_true c1004, Bool.not_true, cond_false,
  m63_eq, oBs, decide_eq_true c1005, Bool.not_true, cond_false, decide_eq_false (by omega : ¬ (a.rs.length : Int) > 24), cond_false, e1, oBs, oBs]
 cases f66 (List.replicate a.ws.length 0) [] (a.to * a.semi + 1) a.top 1 with
 | none => rfl
 | some r =>
 rw [oBs, oBs]
 obtain ⟨b, is, ml⟩ := r
 cases b with
 | false => rfl
 | true =>
 cases a.cyc with
 | false => rfl
 | true =>
 rw [e61, oBs, e58, oBs, m63_eq, oBs]
 cases decide (1 ≤ a.scan ∧ a.scan ≤ a.top) with
 | false => rfl
 | true =>
 cases a.scan != a.top with
 | false =>
  simp only [cond_false, Bool.not_true, oBs, e59, m63_eq]
 | true =>
  show ((rd is a.scan).bind _) = (rd is a.scan).bind _
  cases rd is a.scan with
  | none => rfl
  | some w =>
  show (bif w != 1 then _ else _) = (bif w != 1 then _ else _)
  cases w != 1 with
  | true => rfl
  | false =>
   simp only [cond_false, Bool.not_true, oBs, e59, m63_eq]
open Go Go.AH Go.AM
theorem rd_set {α : Type} {l : List α} {p q : Int} {x : α} (h0 : 0 ≤ p) (h1 : p < l.length) : rd (l.set p.toNat x) q = if q = p then some x else rd l q := by
 by_cases h : q = p
 ·subst h
  rw [if_pos rfl]
  unfold rd
  rw [if_pos h0, List.getElem?_set_self (by omega)]
 ·rw [if_neg h]
  unfold rd
  by_cases hq : 0 ≤ q
  ·rw [if_pos hq, if_pos hq, List.getElem?_set_ne (by omega)]
  ·rw [if_neg hq, if_neg hq]
theorem upd_eq {α : Type} {l : List α} {p : Int} {x : α} (h0 : 0 ≤ p) (h1 : p < l.length) : upd l p x = some (l.set p.toNat x) := if_pos ⟨h0, h1⟩
theorem rd_ex {α : Type} {l : List α} {p : Int} (h0 : 0 ≤ p) (h1 : p < l.length) : ∃ x, rd l p = some x := by
 unfold rd
 rw [if_pos h0, List.getElem?_eq_getElem (by omega)]
 exact ⟨_, rfl⟩
def hd (a : Ar) (p : Int) : Hd × Bool := match rd a.ws p with | some w => rdHead w.toNat | none => (⟨0, 0, 0⟩, false)
def fw (a : Ar) (p : Int) : Int × Bool := match rd a.ws p with | some w => fwd w.toNat | none => (0, false)
theorem hd_ex {a : Ar} (I : ArI a) {p : Int} (h0 : 0 ≤ p) (h1 : p < a.ws.length) : ∃ w, rd a.ws p = some w ∧ m90 w = some (hd a p) ∧ m103 w = some (hd a p) ∧ m91 w = some (fw a p) ∧ m102 w = some (fw a p) := by
 obtain ⟨w, e⟩ := rd_ex h0 h1
 obtain ⟨n, rfl, hn⟩ := I.word e
 have eh : hd a p = rdHead n := by unfold hd; rw [e]; rfl
 have ef : fw a p = fwd n := by unfold fw; rw [e]; rfl
 exact ⟨_, e, by rw [m90_eq n hn, eh], by rw [m103_eq n hn, eh], by rw [m91_eq n hn, ef], by rw [m102_eq n hn, ef]⟩
theorem hd_hok {a : Ar} {p : Int} (h : (hd a p).2 = true) : hok (hd a p).1 = true := by
 unfold hd at h ⊢
 cases e : rd a.ws p with
 | none => rw [e] at h; cases h
 | some w =>
  rw [e] at h
  simp only at h ⊢
  unfold rdHead at h ⊢
  by_cases c : hok (hdOf w.toNat) = true
  ·rw [if_pos c]; exact c
  ·rw [if_neg c] at h; cases h
theorem hd_bad {a : Ar} {p : Int} (h : (hd a p).2 = false) : (hd a p).1 = ⟨0, 0, 0⟩ := by
 unfold hd at h ⊢
 cases e : rd a.ws p with
 | none => rfl
 | some w =>
  rw [e] at h
  simp only at h ⊢
  unfold rdHead at h ⊢
  by_cases c : hok (hdOf w.toNat) = true
  ·rw [if_pos c] at h; cases h
  ·rw [if_neg c]
theorem hd_fw {a : Ar} {p : Int} (h : (hd a p).2 = true) : (fw a p).2 = false := by
 unfold hd at h
 unfold fw
 cases e : rd a.ws p with
 | none => rfl
 | some w =>
  rw [e] at h
  exact head_fwd h
theorem fw_nn {a : Ar} {p : Int} : 0 ≤ (fw a p).1 := by
 unfold fw
 cases e : rd a.ws p with
 | none => exact Int.le_refl _
 | some w =>
  simp only
  unfold fwd
  split
  ·exact Int.natCast_nonneg _
  ·exact Int.le_refl _
theorem m55_hd {a : Ar} (I : ArI a) {p : Int} (h0 : 0 ≤ p) (h1 : p < a.ws.length) : m55 a p = some (hd a p).1 := by
 obtain ⟨w, e, e1, _⟩ := hd_ex I h0 h1
 unfold m55
 rw [e, oBs, e1]; rfl
theorem m72_hd {a : Ar} (I : ArI a) {p : Int} (h0 : 0 ≤ p) (h1 : p < a.ws.length) : m72 a p = some (hd a p).1 := by
 rw [← m55_72 I, m55_hd I h0 h1]
def tile1 (a : Ar) : Nat → List Int → Int → Option (List Int)
 | 0, _, _ => none
 | f + 1, M, p => if p < a.top then
   (if (hd a p).2 = true ∧ (hd a p).1.n < a.ser ∧ p + (hd a p).1.s + 1 ≤ a.top then tile1 a f (M.set p.toNat 1) (p + (hd a p).1.s + 1) else none)
  else some M
def aft52 (a : Ar) (M : List Int) : Option (Bool × List Int) :=
 bif !a.cyc then some (true, M) else (mkL (a.ws.length : Int) ((false : Bool))).bind fun l11 => (m88 a (IntKind.i64.wrap (1 - a.to))).bind fun r12 => mS52_3 a 20000 M l11 0 r12
theorem tile1_ref {a : Ar} (I : ArI a) (hl : (a.ws.length : Int) ≤ 8000) (ht : a.top ≤ a.ws.length) : ∀ (f : Nat) (M : List Int) (p : Int), M.length = a.ws.length → 1 ≤ p → p ≤ a.top → (a.top - p).toNat < f →
  (tile1 a f M p = none → ∃ l, mS52_0 a f M p = some (false, l)) ∧ (∀ M', tile1 a f M p = some M' → mS52_0 a f M p = aft52 a M')
 | 0, _, _, _, _, _, h => absurd h (Nat.not_lt_zero _)
 | f + 1, M, p, hM, h0, h1, hf => by
  rw [tile1, mS52_0]
  by_cases c : p < a.top
  ·rw [if_pos c, bne_iff_ne.2 (by omega : p ≠ a.top), cond_true]
   obtain ⟨w, e, e1, _⟩ := hd_ex I (p := p) (by omega) (by omega)
   rw [e, oBs, e1, oBs]
   cases hh : (hd a p).2 with
   | false =>
    rw [if_neg (fun x => by cases x.1)]
    exact ⟨fun _ => ⟨_, rfl⟩, fun M' h => by cases h⟩
   | true =>
    have hs := hok_s (hd_hok hh)
    rw [Bool.not_true, cond_false, wr (x := p + (hd a p).1.s) (by omega) (by omega), wr (x := p + (hd a p).1.s + 1) (by omega) (by omega)]
    by_cases c1 : p + (hd a p).1.s + 1 ≤ a.top
    ·rw [decide_eq_false (by omega : ¬ p + (hd a p).1.s + 1 > a.top), cond_false]
     by_cases c2 : (hd a p).1.n < a.ser
     ·rw [decide_eq_false (by omega : ¬ (hd a p).1.n ≥ a.ser), cond_false, if_pos ⟨rfl, c2, c1⟩, upd_eq (by omega) (by omega), oBs]
      exact tile1_ref I hl ht f (M.set p.toNat 1) (p + (hd a p).1.s + 1) (by simp [hM]) (by omega) c1 (by omega)
     ·rw [decide_eq_true (by omega : (hd a p).1.n ≥ a.ser), cond_true, if_neg (fun x => c2 x.2.1)]
      exact ⟨fun _ => ⟨_, rfl⟩, fun M' h => by cases h⟩
    ·rw [decide_eq_true (by omega : p + (hd a p).1.s + 1 > a.top), cond_true, if_neg (fun x => c1 x.2.2)]
     exact ⟨fun _ => ⟨_, rfl⟩, fun M' h => by cases h⟩
  ·rw [if_neg c, show (p != a.top) = false by rw [show p = a.top by omega]; exact bne_self_eq_false _, cond_false]
   exact ⟨fun h => (by cases h), fun M' h => by cases h; rfl⟩
theorem tile1_ch {a : Ar} (ht : a.top ≤ a.ws.length) : ∀ (f : Nat) (M : List Int) (p : Int) (M' : List Int), M.length = a.ws.length → 1 ≤ p → p ≤ a.top → tile1 a f M p = some M' →
  M'.length = a.ws.length ∧ ∀ q, rd M' q = rd M q ∨ (p ≤ q ∧ q < a.top ∧ rd M' q = some 1 ∧ (hd a q).2 = true ∧ (hd a q).1.n < a.ser ∧ q + (hd a q).1.s + 1 ≤ a.top)
 | 0, _, _, _, _, _, _, h => by cases h
 | f + 1, M, p, M', hM, h0, h1, h => by
  rw [tile1] at h
  by_cases c : p < a.top
  ·rw [if_pos c] at h
   by_cases d : (hd a p).2 = true ∧ (hd a p).1.n < a.ser ∧ p + (hd a p).1.s + 1 ≤ a.top
   ·rw [if_pos d] at h
    have hs := hok_s (hd_hok d.1)
    obtain ⟨h2, h3⟩ := tile1_ch ht f _ _ M' (by simp [hM]) (by omega) d.2.2 h
    refine ⟨h2, fun q => ?_⟩
    rcases h3 q with x | ⟨x1, x2, x3⟩
    ·rw [rd_set (by omega) (by omega)] at x
     by_cases hq : q = p
     ·subst hq
      rw [if_pos rfl] at x
      exact .inr ⟨Int.le_refl _, c, x, d.1, d.2⟩
     ·rw [if_neg hq] at x
      exact .inl x
    ·exact .inr ⟨by omega, x2, x3⟩
   ·rw [if_neg d] at h; cases h
  ·rw [if_neg c] at h
   cases h
   exact ⟨hM, fun q => .inl rfl⟩
def live (M : List Int) (p : Int) : Prop := rd M p = some 1 ∨ rd M p = some 2
def Dup (a : Ar) (M : List Int) : Prop := ∃ p q, p ≠ q ∧ live M p ∧ live M q ∧ (hd a p).1.n = (hd a q).1.n ∧ (hd a p).1.n > 0
structure Ser (a : Ar) (M ml : List Int) : Prop where
 m : ∀ x, 0 < x → (x ∈ ml ↔ ∃ p, live M p ∧ (hd a p).1.n = x)
 d : ¬ Dup a M
theorem mem_insM {l : List Int} {k x : Int} : x ∈ insM l k ↔ x ∈ l ∨ x = k := by
 unfold insM
 by_cases h : k ∈ l
 ·rw [if_pos h]
  exact ⟨fun y => .inl y, fun y => y.elim id (fun z => z ▸ h)⟩
 ·rw [if_neg h]; simp
theorem live_set {M : List Int} {p q x : Int} (h0 : 0 ≤ p) (h1 : p < M.length) (hx : x = 1 ∨ x = 2) : live (M.set p.toNat x) q ↔ (q = p ∨ live M q) := by
 unfold live
 rw [rd_set h0 h1]
 by_cases h : q = p
 ·rw [if_pos h]
  rcases hx with rfl | rfl <;> simp [h]
 ·rw [if_neg h]; simp [h]
theorem Ser.add {a : Ar} {M ml : List Int} {p x : Int} (S : Ser a M ml) (h0 : 0 ≤ p) (h1 : p < M.length) (hx : x = 1 ∨ x = 2) (hn : ¬ ((hd a p).1.n > 0 ∧ (hd a p).1.n ∈ ml)) : Ser a (M.set p.toNat x) (insM ml (hd a p).1.n) := by
 refine ⟨fun y hy => ?_, fun ⟨u, v, huv, hu, hv, he, hp⟩ => ?_⟩
 ·rw [mem_insM, S.m y hy]
  constructor
  ·rintro (⟨q, h, e⟩ | e)
   ·exact ⟨q, (live_set h0 h1 hx).2 (.inr h), e⟩
   ·exact ⟨p, (live_set h0 h1 hx).2 (.inl rfl), e.symm⟩
  ·rintro ⟨q, h, e⟩
   rcases (live_set h0 h1 hx).1 h with rfl | h
   ·exact .inr e.symm
   ·exact .inl ⟨q, h, e⟩
 ·rcases (live_set h0 h1 hx).1 hu with rfl | hu'
  ·rcases (live_set h0 h1 hx).1 hv with rfl | hv'
   ·exact huv rfl
   ·exact hn ⟨hp, (S.m _ hp).2 ⟨v, hv', he.symm⟩⟩
  ·rcases (live_set h0 h1 hx).1 hv with rfl | hv'
   ·exact hn ⟨he ▸ hp, (S.m _ (he ▸ hp)).2 ⟨u, hu', he⟩⟩
   ·exact S.d ⟨u, v, huv, hu', hv', he, hp⟩
theorem Dup.of {a : Ar} {M M' ml : List Int} {p : Int} (S : Ser a M ml) (hp : ¬ live M p) (hp' : live M' p) (hk : ∀ q, live M q → live M' q) (h : (hd a p).1.n > 0) (hm : (hd a p).1.n ∈ ml) : Dup a M' := by
 obtain ⟨q, h1, h2⟩ := (S.m _ h).1 hm
 exact ⟨p, q, fun e => hp (e ▸ h1), hp', hk q h1, h2.symm, h⟩
open Go Go.AH Go.AM
def hb (a : Ar) (K : List Int → List Int → Int → Option (Bool × List Int × List Int)) (is ml : List Int) (x2 x3 p : Int) : Option (Bool × List Int × List Int) :=
 bif !(hd a p).2 then some (false, is, ml) else bif decide ((hd a p).1.n ≥ a.ser) then some (false, is, ml) else bif decide ((hd a p).1.n > 0) then bif (decide ((hd a p).1.n ∈ ml)) then some (false, is, ml) else
  (upd is p x3).bind fun l22 => bif decide ((IntKind.i64.wrap ((IntKind.i64.wrap (p + (hd a p).1.s)) + 1)) > x2) then some (false, l22, (insM ml (hd a p).1.n)) else K l22 ((insM ml (hd a p).1.n)) (IntKind.i64.wrap ((IntKind.i64.wrap (p + (hd a p).1.s)) + 1))
 else (upd is p x3).bind fun l22 => bif decide ((IntKind.i64.wrap ((IntKind.i64.wrap (p + (hd a p).1.s)) + 1)) > x2) then some (false, l22, (insM ml (hd a p).1.n)) else K l22 ((insM ml (hd a p).1.n)) (IntKind.i64.wrap ((IntKind.i64.wrap (p + (hd a p).1.s)) + 1))
theorem hb_bad {a : Ar} {K : List Int → List Int → Int → Option (Bool × List Int × List Int)} {is ml : List Int} {x2 x3 p : Int} (h0 : 0 ≤ p) (h1 : p < is.length) (hl : (is.length : Int) ≤ 8000)
  (h : ¬ ((hd a p).2 = true ∧ (hd a p).1.n < a.ser ∧ p + (hd a p).1.s + 1 ≤ x2) ∨ ((hd a p).1.n > 0 ∧ (hd a p).1.n ∈ ml)) : ∃ r, hb a K is ml x2 x3 p = some (false, r) := by
 unfold hb
 cases hh : (hd a p).2 with
 | false => exact ⟨_, rfl⟩
 | true =>
 have hs := hok_s (hd_hok hh)
 rw [Bool.not_true, cond_false]
 by_cases c1 : (hd a p).1.n < a.ser
 ·rw [decide_eq_false (by omega : ¬ (hd a p).1.n ≥ a.ser), cond_false, wr (x := p + (hd a p).1.s) (by omega) (by omega), wr (x := p + (hd a p).1.s + 1) (by omega) (by omega), upd_eq h0 h1, oBs]
  by_cases c2 : p + (hd a p).1.s + 1 ≤ x2
  ·rcases h with h | h
   ·exact absurd ⟨hh, c1, c2⟩ h
   ·rw [decide_eq_true h.1, cond_true, decide_eq_true h.2, cond_true]; exact ⟨_, rfl⟩
  ·rw [decide_eq_true (by omega : p + (hd a p).1.s + 1 > x2), cond_true]
   cases decide ((hd a p).1.n > 0) <;> cases decide ((hd a p).1.n ∈ ml) <;> exact ⟨_, rfl⟩
 ·rw [decide_eq_true (by omega : (hd a p).1.n ≥ a.ser), cond_true]; exact ⟨_, rfl⟩
theorem hb_ok {a : Ar} {K : List Int → List Int → Int → Option (Bool × List Int × List Int)} {is ml : List Int} {x2 x3 p : Int} (h0 : 0 ≤ p) (h1 : p < is.length) (hl : (is.length : Int) ≤ 8000)
  (d : (hd a p).2 = true ∧ (hd a p).1.n < a.ser ∧ p + (hd a p).1.s + 1 ≤ x2) (h : ¬ ((hd a p).1.n > 0 ∧ (hd a p).1.n ∈ ml)) : hb a K is ml x2 x3 p = K (is.set p.toNat x3) (insM ml (hd a p).1.n) (p + (hd a p).1.s + 1) := by
 unfold hb
 have hs := hok_s (hd_hok d.1)
 rw [d.1, Bool.not_true, cond_false, decide_eq_false (by omega : ¬ (hd a p).1.n ≥ a.ser), cond_false, wr (x := p + (hd a p).1.s) (by omega) (by omega), wr (x := p + (hd a p).1.s + 1) (by omega) (by omega), upd_eq h0 h1, oBs,
  decide_eq_false (by omega : ¬ p + (hd a p).1.s + 1 > x2), cond_false]
 by_cases c : (hd a p).1.n > 0
 ·rw [decide_eq_true c, cond_true, decide_eq_false (fun x => h ⟨c, x⟩), cond_false]
 ·rw [decide_eq_false c, cond_false]
theorem st66a {a : Ar} (I : ArI a) (f : Nat) {is ml S : List Int} {x2 x9 p : Int} (h0 : 0 ≤ p) (h1 : p < a.ws.length) (c : p < x2) : mS66_0 a (f + 1) is ml x2 1 x9 S p = hb a (fun l m q => mS66_0 a f l m x2 1 x9 S q) is ml x2 1 p := by
 obtain ⟨w, e, _, e1, _, e2⟩ := hd_ex I h0 h1
 rw [mS66_0, decide_eq_true c, cond_true, e, oBs, e2, oBs, e1, show ((1 : Int) == 2) = false from rfl, cond_false]
 cases (fw a p).2 <;> rfl
theorem tile1_prog {a : Ar} (I : ArI a) (hl : (a.ws.length : Int) ≤ 8000) (ht : a.top ≤ a.ws.length) : ∀ (f : Nat) (M ml : List Int) (p : Int), M.length = a.ws.length → 1 ≤ p → p ≤ a.top → (a.top - p).toNat < f →
  Ser a M ml → (∀ q, p ≤ q → q < a.top → ¬ live M q) →
  (tile1 a f M p = none → ∃ r, mS66_0 a f M ml a.top 1 0 [] p = some (false, r)) ∧
  (∀ M', tile1 a f M p = some M' → (∃ ml', mS66_0 a f M ml a.top 1 0 [] p = some (true, M', ml') ∧ Ser a M' ml') ∨ (Dup a M' ∧ ∃ r, mS66_0 a f M ml a.top 1 0 [] p = some (false, r)))
 | 0, _, _, _, _, _, _, h, _, _ => absurd h (Nat.not_lt_zero _)
 | f + 1, M, ml, p, hM, h0, h1, hf, S, hv => by
  by_cases c : p < a.top
  ·rw [st66a I f (by omega) (by omega) c, tile1, if_pos c]
   by_cases d : (hd a p).2 = true ∧ (hd a p).1.n < a.ser ∧ p + (hd a p).1.s + 1 ≤ a.top
   ·rw [if_pos d]
    have hs := hok_s (hd_hok d.1)
    by_cases c2 : (hd a p).1.n > 0 ∧ (hd a p).1.n ∈ ml
    ·have hb := hb_bad (K := fun l m q => mS66_0 a f l m a.top 1 0 [] q) (is := M) (x2 := a.top) (x3 := 1) (by omega : 0 ≤ p) (by omega) (by omega) (.inr c2)
     refine ⟨fun _ => hb, fun M' hM' => .inr ⟨?_, hb⟩⟩
     obtain ⟨k1, k2⟩ := tile1_ch ht f _ _ M' (by simp [hM]) (by omega) d.2.2 hM'
     have hk : ∀ q, rd M' q = rd M q ∨ rd M' q = some 1 := fun q => by
      rcases k2 q with x | x
      ·rw [rd_set (by omega) (by omega)] at x
       by_cases hq : q = p
       ·rw [if_pos hq] at x; exact .inr x
       ·rw [if_neg hq] at x; exact .inl x
      ·exact .inr x.2.2.1
     refine Dup.of S (hv p (Int.le_refl _) c) ?_ (fun q hq => ?_) c2.1 c2.2
     ·rcases k2 p with x | x
      ·rw [rd_set (by omega) (by omega), if_pos rfl] at x; exact .inl x
      ·omega
     ·rcases hk q with x | x
      ·unfold live at hq ⊢; rw [x]; exact hq
      ·exact .inl x
    ·rw [hb_ok (by omega) (by omega) (by omega) d c2]
     refine tile1_prog I hl ht f _ _ _ (by simp [hM]) (by omega) d.2.2 (by omega) (S.add (by omega) (by omega) (.inl rfl) c2) (fun q q0 q1 hq => ?_)
     rcases (live_set (by omega) (by omega) (.inl rfl)).1 hq with x | x
     ·omega
     ·exact hv q (by omega) q1 x
   ·rw [if_neg d]
    exact ⟨fun _ => hb_bad (by omega) (by omega) (by omega) (.inl d), fun M' h => by cases h⟩
  ·rw [tile1, if_neg c, mS66_0, decide_eq_false (by omega), cond_false]
   exact ⟨fun h => (by cases h), fun M' h => by cases h; exact .inl ⟨ml, rfl, S⟩⟩
def tile2 (a : Ar) : Nat → List Int → List Int → Int → Int → Option (List Int)
 | 0, _, _, _, _ => none
 | f + 1, M, S, c, p => if p < a.old then
   (if (hd a p).2 = true then (if (hd a p).1.n < a.ser ∧ p + (hd a p).1.s + 1 ≤ a.old then tile2 a f (M.set p.toNat 2) S c (p + (hd a p).1.s + 1) else none)
   else if (fw a p).2 = true ∧ rd M (fw a p).1 = some 1 ∧ ¬ (fw a p).1 ∈ S ∧ p + (hd a (fw a p).1).1.s + 1 ≤ a.old then tile2 a f (M.set p.toNat 3) ((fw a p).1 :: S) (c + (hd a (fw a p).1).1.s + 1) (p + (hd a (fw a p).1).1.s + 1) else none)
  else if c = a.cop then some M else none
def sc52 (a : Ar) (M : List Int) : Option (Bool × List Int) :=
 bif a.scan == a.top then some (true, M) else (m59 a.scan 0 (IntKind.i64.wrap (((M.length : Int)) - 1))).bind fun r24 => bif r24 then (rd M a.scan).bind fun w26 => some (w26 == 1, M) else some (false, M)
theorem rd1_set {M : List Int} {p q x : Int} (h0 : 0 ≤ p) (h1 : p < M.length) (hx : x ≠ 1) (h : rd (M.set p.toNat x) q = some 1) : rd M q = some 1 := by
 rw [rd_set h0 h1] at h
 by_cases hq : q = p
 ·rw [if_pos hq] at h; exact absurd (Option.some.inj h) hx
 ·rw [if_neg hq] at h; exact h
theorem tile2_ref {a : Ar} (I : ArI a) (hl : (a.ws.length : Int) ≤ 8000) (ht : a.old ≤ a.ws.length) : ∀ (f : Nat) (M : List Int) (L : List Bool) (S : List Int) (c p : Int), M.length = a.ws.length → L.length = a.ws.length → 1 ≤ p → p ≤ a.old → 0 ≤ c → c ≤ p → (a.old - p).toNat < f →
  (∀ q, rd M q = some 1 → (hd a q).2 = true) → (∀ q b, rd L q = some b → (b = true ↔ q ∈ S)) →
  (tile2 a f M S c p = none → ∃ l, mS52_3 a f M L c p = some (false, l)) ∧ (∀ M', tile2 a f M S c p = some M' → mS52_3 a f M L c p = sc52 a M')
 | 0, _, _, _, _, _, _, _, _, _, _, _, h, _, _ => absurd h (Nat.not_lt_zero _)
 | f + 1, M, L, S, c, p, hM, hL, h0, h1, hc0, hc1, hf, hO, hS => by
  rw [tile2, mS52_3]
  by_cases cc : p < a.old
  ·rw [if_pos cc, bne_iff_ne.2 (by omega : p ≠ a.old), cond_true]
   obtain ⟨w, e, e1, _, e2, _⟩ := hd_ex I (p := p) (by omega) (by omega)
   rw [e, oBs, e1, oBs, e2]
   cases hh : (hd a p).2 with
   | false =>
    rw [if_neg (by decide), Bool.not_false, cond_true, oBs]
    cases hw : (fw a p).2 with
    | false =>
     rw [if_neg (fun x => by cases x.1)]
     exact ⟨fun _ => ⟨_, rfl⟩, fun M' h => by cases h⟩
    | true =>
     have hn : 0 ≤ (fw a p).1 := fw_nn
     rw [Bool.not_true, cond_false]
     by_cases c1 : (fw a p).1 < a.ws.length
     ·rw [decide_eq_false (by omega : ¬ (fw a p).1 ≥ (a.ws.length : Int)), cond_false]
      obtain ⟨m, em⟩ := rd_ex (l := M) hn (by omega)
      rw [em, oBs]
      by_cases c2 : m = 1
      ·subst c2
       rw [bne_self_eq_false, cond_false]
       obtain ⟨b, eb⟩ := rd_ex (l := L) hn (by omega)
       have hb := hS _ _ eb
       rw [eb, oBs]
       cases b with
       | true =>
        rw [if_neg (fun x => x.2.2.1 (hb.1 rfl))]
        exact ⟨fun _ => ⟨_, rfl⟩, fun M' h => by cases h⟩
       | false =>
        have hb' : ¬ (fw a p).1 ∈ S := fun x => by cases hb.2 x
        have hs := hok_s (hd_hok (hO _ em))
        rw [cond_false, upd_eq hn (by omega), oBs, m55_hd I hn c1, oBs, wr (x := p + _) (by omega) (by omega), wr (x := p + _ + 1) (by omega) (by omega),
         wr (x := c + _) (by omega) (by omega), wr (x := c + _ + 1) (by omega) (by omega)]
        by_cases c1003 : p + (hd a (fw a p).1).1.s + 1 ≤ a.old
        ·rw [decide_eq_false (by omega : ¬ p + (hd a (fw a p).1).1.s + 1 > a.old), cond_false, upd_eq (by omega) (by omega), oBs, if_pos ⟨rfl, rfl, hb', c1003⟩]
         refine tile2_ref I hl ht f _ _ _ _ _ (by simp [hM]) (by simp [hL]) (by omega) c1003 (by omega) (by omega) (by omega) (fun q hq => hO q (rd1_set (by omega) (by omega) (by decide) hq)) (fun q b hq => ?_)
         rw [rd_set hn (by omega)] at hq
         by_cases hqq : q = (fw a p).1
         ·rw [if_pos hqq] at hq
          cases hq
          simp [hqq]
         ·rw [if_neg hqq] at hq
          rw [hS q b hq]; simp [hqq]
        ·rw [decide_eq_true (by omega : p + (hd a (fw a p).1).1.s + 1 > a.old), cond_true, if_neg (fun x => c1003 x.2.2.2)]
         exact ⟨fun _ => ⟨_, rfl⟩, fun M' h => by cases h⟩
      ·rw [bne_iff_ne.2 c2, cond_true, if_neg (fun x => c2 (Option.some.inj x.2.1))]
       exact ⟨fun _ => ⟨_, rfl⟩, fun M' h => by cases h⟩
     ·rw [decide_eq_true (by omega : (fw a p).1 ≥ (a.ws.length : Int)), cond_true, if_neg (fun x => c1 (by have := (rd_some x.2.1).2.1; omega))]
      exact ⟨fun _ => ⟨_, rfl⟩, fun M' h => by cases h⟩
   | true =>
    have hs := hok_s (hd_hok hh)
    rw [if_pos rfl, Bool.not_true, cond_false, wr (x := p + _) (by omega) (by omega), wr (x := p + _ + 1) (by omega) (by omega)]
    by_cases c2 : (hd a p).1.n < a.ser
    ·rw [decide_eq_false (by omega : ¬ (hd a p).1.n ≥ a.ser), cond_false]
     by_cases c1003 : p + (hd a p).1.s + 1 ≤ a.old
     ·rw [decide_eq_false (by omega : ¬ p + (hd a p).1.s + 1 > a.old), cond_false, upd_eq (by omega) (by omega), oBs, if_pos ⟨c2, c1003⟩]
      exact tile2_ref I hl ht f _ _ _ _ _ (by simp [hM]) hL (by omega) c1003 (by omega) (by omega) (by omega) (fun q hq => hO q (rd1_set (by omega) (by omega) (by decide) hq)) hS
     ·rw [decide_eq_true (by omega : p + (hd a p).1.s + 1 > a.old), cond_true, if_neg (fun x => c1003 x.2)]
      exact ⟨fun _ => ⟨_, rfl⟩, fun M' h => by cases h⟩
    ·rw [decide_eq_true (by omega : (hd a p).1.n ≥ a.ser), cond_true, if_neg (fun x => c2 x.1)]
     exact ⟨fun _ => ⟨_, rfl⟩, fun M' h => by cases h⟩
  ·rw [if_neg cc, show (p != a.old) = false by rw [show p = a.old by omega]; exact bne_self_eq_false _, cond_false]
   by_cases c2 : c = a.cop
   ·rw [if_pos c2, beq_iff_eq.2 c2, cond_true]
    exact ⟨fun h => (by cases h), fun M' h => by cases h; rfl⟩
   ·rw [if_neg c2, beq_eq_false_iff_ne.2 c2, cond_false]
    exact ⟨fun _ => ⟨_, rfl⟩, fun M' h => by cases h⟩
open Go Go.AH Go.AM
def Mx23 (a : Ar) (M M' : List Int) (q : Int) : Prop :=
 (rd M' q = some 2 ∧ (hd a q).2 = true ∧ (hd a q).1.n < a.ser ∧ q + (hd a q).1.s + 1 ≤ a.old) ∨ (rd M' q = some 3 ∧ (hd a q).2 = false ∧ (fw a q).2 = true ∧ rd M (fw a q).1 = some 1)
theorem tile2_ch {a : Ar} (hl : (a.ws.length : Int) ≤ 8000) (ht : a.old ≤ a.ws.length) : ∀ (f : Nat) (M S : List Int) (c p : Int) (M' : List Int), M.length = a.ws.length → 1 ≤ p → p ≤ a.old → 
  (∀ q, rd M q = some 1 → (hd a q).2 = true) → tile2 a f M S c p = some M' →
  M'.length = a.ws.length ∧ (c ≤ a.cop ∧ a.cop ≤ c + (a.old - p)) ∧ ∀ q, rd M' q = rd M q ∨ (p ≤ q ∧ q < a.old ∧ Mx23 a M M' q)
 | 0, _, _, _, _, _, _, _, _, _, h => by cases h
 | f + 1, M, S, c, p, M', hM, h0, h1, hO, h => by
  rw [tile2] at h
  by_cases cc : p < a.old
  ·rw [if_pos cc] at h
   by_cases d : (hd a p).2 = true
   ·rw [if_pos d] at h
    have hs := hok_s (hd_hok d)
    by_cases d2 : (hd a p).1.n < a.ser ∧ p + (hd a p).1.s + 1 ≤ a.old
    ·rw [if_pos d2] at h
     obtain ⟨h2, h3, h4⟩ := tile2_ch hl ht f _ _ _ _ M' (by simp [hM]) (by omega) d2.2 (fun q hq => hO q (rd1_set (by omega) (by omega) (by decide) hq)) h
     refine ⟨h2, by omega, fun q => ?_⟩
     rcases h4 q with x | ⟨x1, x2, x3⟩
     ·rw [rd_set (by omega) (by omega)] at x
      by_cases hq : q = p
      ·subst hq
       rw [if_pos rfl] at x
       exact .inr ⟨Int.le_refl _, cc, .inl ⟨x, d, d2⟩⟩
      ·rw [if_neg hq] at x
       exact .inl x
     ·refine .inr ⟨by omega, x2, x3.elim .inl (fun y => .inr ⟨y.1, y.2.1, y.2.2.1, rd1_set (by omega) (by omega) (by decide) y.2.2.2⟩)⟩
    ·rw [if_neg d2] at h; cases h
   ·rw [if_neg d] at h
    by_cases d2 : (fw a p).2 = true ∧ rd M (fw a p).1 = some 1 ∧ ¬ (fw a p).1 ∈ S ∧ p + (hd a (fw a p).1).1.s + 1 ≤ a.old
    ·rw [if_pos d2] at h
     have hs := hok_s (hd_hok (hO _ d2.2.1))
     obtain ⟨h2, h3, h4⟩ := tile2_ch hl ht f _ _ _ _ M' (by simp [hM]) (by omega) d2.2.2.2 (fun q hq => hO q (rd1_set (by omega) (by omega) (by decide) hq)) h
     refine ⟨h2, by omega, fun q => ?_⟩
     rcases h4 q with x | ⟨x1, x2, x3⟩
     ·rw [rd_set (by omega) (by omega)] at x
      by_cases hq : q = p
      ·subst hq
       rw [if_pos rfl] at x
       exact .inr ⟨Int.le_refl _, cc, .inr ⟨x, by simpa using d, d2.1, d2.2.1⟩⟩
      ·rw [if_neg hq] at x
       exact .inl x
     ·refine .inr ⟨by omega, x2, x3.elim .inl (fun y => .inr ⟨y.1, y.2.1, y.2.2.1, rd1_set (by omega) (by omega) (by decide) y.2.2.2⟩)⟩
    ·rw [if_neg d2] at h; cases h
  ·rw [if_neg cc] at h
   by_cases d : c = a.cop
   ·rw [if_pos d] at h
    cases h
    exact ⟨hM, by omega, fun q => .inl rfl⟩
   ·rw [if_neg d] at h; cases h
def fb (a : Ar) (K : List Int → Int → List Int → Int → Option (Bool × List Int × List Int)) (is ml : List Int) (x2 x9 : Int) (sx : List Int) (p : Int) : Option (Bool × List Int × List Int) :=
 bif decide ((fw a p).1 ≥ ((is.length : Int))) then some (false, is, ml) else (rd is (fw a p).1).bind fun w7 => bif w7 != 1 then some (false, is, ml) else bif (decide ((fw a p).1 ∈ sx)) then some (false, is, ml) else (upd is p 3).bind fun l11 => (m72 a (fw a p).1).bind fun r12 =>
  bif decide ((IntKind.i64.wrap ((IntKind.i64.wrap (p + r12.s)) + 1)) > x2) then some (false, l11, ml) else K l11 (IntKind.i64.wrap ((IntKind.i64.wrap (x9 + r12.s)) + 1)) ((insM sx (fw a p).1)) (IntKind.i64.wrap ((IntKind.i64.wrap (p + r12.s)) + 1))
theorem st66b {a : Ar} (I : ArI a) (f : Nat) {is ml S : List Int} {x2 x9 p : Int} (h0 : 0 ≤ p) (h1 : p < a.ws.length) (c : p < x2) : mS66_0 a (f + 1) is ml x2 2 x9 S p =
  bif (fw a p).2 then fb a (fun l n s q => mS66_0 a f l ml x2 2 n s q) is ml x2 x9 S p else hb a (fun l m q => mS66_0 a f l m x2 2 x9 S q) is ml x2 2 p := by
 obtain ⟨w, e, _, e1, _, e2⟩ := hd_ex I h0 h1
 rw [mS66_0, decide_eq_true c, cond_true, e, oBs, e2, oBs, e1, show ((2 : Int) == 2) = true from rfl, cond_true]
 cases (fw a p).2 <;> rfl
theorem live_3 {M : List Int} {p q : Int} (h0 : 0 ≤ p) (h1 : p < M.length) (hp : ¬ live M p) : live (M.set p.toNat 3) q ↔ live M q := by
 unfold live at *
 rw [rd_set h0 h1]
 by_cases h : q = p
 ·rw [if_pos h, h]; simp at hp ⊢; exact hp
 ·rw [if_neg h]
theorem tile2_prog {a : Ar} (I : ArI a) (hl : (a.ws.length : Int) ≤ 8000) (ht : a.old ≤ a.ws.length) : ∀ (f : Nat) (M ml S sx : List Int) (c p : Int), M.length = a.ws.length → 1 ≤ p → p ≤ a.old → 0 ≤ c → c ≤ p → (a.old - p).toNat < f →
  (∀ q, rd M q = some 1 → (hd a q).2 = true) → (∀ x, x ∈ sx ↔ x ∈ S) → Ser a M ml → (∀ q, p ≤ q → q < a.old → ¬ live M q) →
  (tile2 a f M S c p = none → ∃ r, mS66_0 a f M ml a.old 2 c sx p = some (false, r)) ∧
  (∀ M', tile2 a f M S c p = some M' → (∃ ml', mS66_0 a f M ml a.old 2 c sx p = some (true, M', ml') ∧ Ser a M' ml') ∨ (Dup a M' ∧ ∃ r, mS66_0 a f M ml a.old 2 c sx p = some (false, r)))
 | 0, _, _, _, _, _, _, _, _, _, _, _, h, _, _, _, _ => absurd h (Nat.not_lt_zero _)
 | f + 1, M, ml, S, sx, c, p, hM, h0, h1, hc0, hc1, hf, hO, hS, Sr, hv => by
  by_cases cc : p < a.old
  ·rw [st66b I f (by omega) (by omega) cc, tile2, if_pos cc]
   cases hh : (hd a p).2 with
   | true =>
    rw [hd_fw hh, cond_false, if_pos rfl]
    have hs := hok_s (hd_hok hh)
    by_cases d2 : (hd a p).1.n < a.ser ∧ p + (hd a p).1.s + 1 ≤ a.old
    ·have d := And.intro hh d2
     rw [if_pos d2]
     by_cases c2 : (hd a p).1.n > 0 ∧ (hd a p).1.n ∈ ml
     ·have hb := hb_bad (K := fun l m q => mS66_0 a f l m a.old 2 c sx q) (is := M) (x2 := a.old) (x3 := 2) (by omega : 0 ≤ p) (by omega) (by omega) (.inr c2)
      refine ⟨fun _ => hb, fun M' hM' => .inr ⟨?_, hb⟩⟩
      obtain ⟨k1, _, k2⟩ := tile2_ch hl ht f _ _ _ _ M' (by simp [hM]) (by omega) d2.2 (fun q hq => hO q (rd1_set (by omega) (by omega) (by decide) hq)) hM'
      refine Dup.of Sr (hv p (Int.le_refl _) cc) ?_ (fun q hq => ?_) c2.1 c2.2
      ·rcases k2 p with x | x
       ·rw [rd_set (by omega) (by omega), if_pos rfl] at x; exact .inr x
       ·omega
      ·rcases k2 q with x | x
       ·rw [rd_set (by omega) (by omega)] at x
        by_cases hq' : q = p
        ·rw [if_pos hq'] at x; exact .inr x
        ·rw [if_neg hq'] at x
         unfold live at hq ⊢; rw [x]; exact hq
       ·exact absurd hq (hv q (by omega) x.2.1)
     ·rw [hb_ok (by omega) (by omega) (by omega) d c2]
      refine tile2_prog I hl ht f _ _ _ _ _ _ (by simp [hM]) (by omega) d2.2 (by omega) (by omega) (by omega) (fun q hq => hO q (rd1_set (by omega) (by omega) (by decide) hq)) hS (Sr.add (by omega) (by omega) (.inr rfl) c2) (fun q q0 q1 hq => ?_)
      rcases (live_set (by omega) (by omega) (.inr rfl)).1 hq with x | x
      ·omega
      ·exact hv q (by omega) q1 x
    ·rw [if_neg d2]
     exact ⟨fun _ => hb_bad (by omega) (by omega) (by omega) (.inl fun x => d2 x.2), fun M' h => by cases h⟩
   | false =>
    rw [if_neg (by decide)]
    cases hw : (fw a p).2 with
    | false =>
     rw [if_neg (fun x => by cases x.1), cond_false]
     exact ⟨fun _ => hb_bad (by omega) (by omega) (by omega) (.inl fun x => by rw [hh] at x; cases x.1), fun M' h => by cases h⟩
    | true =>
     have hn : 0 ≤ (fw a p).1 := fw_nn
     rw [cond_true]
     unfold fb
     by_cases c1 : (fw a p).1 < a.ws.length
     ·rw [decide_eq_false (by omega : ¬ (fw a p).1 ≥ (M.length : Int)), cond_false]
      obtain ⟨m, em⟩ := rd_ex (l := M) hn (by omega)
      rw [em, oBs]
      by_cases c2 : m = 1
      ·subst c2
       rw [bne_self_eq_false, cond_false]
       by_cases c1004 : (fw a p).1 ∈ S
       ·rw [decide_eq_true ((hS _).2 c1004), cond_true, if_neg (fun x => x.2.2.1 c1004)]
        exact ⟨fun _ => ⟨_, rfl⟩, fun M' h => by cases h⟩
       ·rw [decide_eq_false (fun x => c1004 ((hS _).1 x)), cond_false]
        have hs := hok_s (hd_hok (hO _ em))
        rw [upd_eq (by omega) (by omega), oBs, m72_hd I hn c1, oBs, wr (x := p + _) (by omega) (by omega), wr (x := p + _ + 1) (by omega) (by omega),
         wr (x := c + _) (by omega) (by omega), wr (x := c + _ + 1) (by omega) (by omega)]
        by_cases c1003 : p + (hd a (fw a p).1).1.s + 1 ≤ a.old
        ·rw [decide_eq_false (by omega : ¬ p + (hd a (fw a p).1).1.s + 1 > a.old), cond_false, if_pos ⟨rfl, rfl, c1004, c1003⟩]
         have hp := hv p (Int.le_refl _) cc
         have L3 : ∀ q, live (M.set p.toNat 3) q ↔ live M q := fun q => live_3 (by omega) (by omega) hp
         refine tile2_prog I hl ht f _ _ _ _ _ _ (by simp [hM]) (by omega) c1003 (by omega) (by omega) (by omega) (fun q hq => hO q (rd1_set (by omega) (by omega) (by decide) hq)) (fun x => ?_) ?_ (fun q q0 q1 hq => hv q (by omega) q1 ((L3 q).1 hq))
         ·rw [mem_insM, hS x, List.mem_cons]
          exact Or.comm
         ·refine ⟨fun x hx => ?_, fun ⟨u, v, huv, hu, hv, he⟩ => Sr.d ⟨u, v, huv, (L3 u).1 hu, (L3 v).1 hv, he⟩⟩
          rw [Sr.m x hx]
          exact ⟨fun ⟨q, h, e⟩ => ⟨q, (L3 q).2 h, e⟩, fun ⟨q, h, e⟩ => ⟨q, (L3 q).1 h, e⟩⟩
        ·rw [decide_eq_true (by omega : p + (hd a (fw a p).1).1.s + 1 > a.old), cond_true, if_neg (fun x => c1003 x.2.2.2)]
         exact ⟨fun _ => ⟨_, rfl⟩, fun M' h => by cases h⟩
      ·rw [bne_iff_ne.2 c2, cond_true, if_neg (fun x => c2 (Option.some.inj x.2.1))]
       exact ⟨fun _ => ⟨_, rfl⟩, fun M' h => by cases h⟩
     ·rw [decide_eq_true (by omega : (fw a p).1 ≥ (M.length : Int)), cond_true, if_neg (fun x => c1 (by have := (rd_some x.2.1).2.1; omega))]
      exact ⟨fun _ => ⟨_, rfl⟩, fun M' h => by cases h⟩
  ·rw [tile2, if_neg cc, mS66_0, decide_eq_false (by omega), cond_false, show ((2 : Int) != 2) = false from rfl, cond_false]
   by_cases c2 : c = a.cop
   ·rw [if_pos c2, beq_iff_eq.2 c2]
    exact ⟨fun h => (by cases h), fun M' h => by cases h; exact .inl ⟨ml, rfl, Sr⟩⟩
   ·rw [if_neg c2, beq_eq_false_iff_ne.2 c2]
    exact ⟨fun _ => ⟨_, rfl⟩, fun M' h => by cases h⟩
open Go Go.AH Go.AM
theorem hd_n (a : Ar) (p : Int) : 0 ≤ (hd a p).1.n := by
 unfold hd
 cases rd a.ws p with
 | none => exact Int.le_refl _
 | some w =>
  simp only
  unfold rdHead
  split
  ·exact Int.natCast_nonneg _
  ·exact Int.le_refl _
theorem grow_eq {α : Type} {l : List α} {x : α} (h : l.length ≤ 2000000) : grow l x = some (l ++ [x]) := if_pos h
theorem rd_lt {α : Type} {l : List α} {p : Int} {x : α} (h : rd l p = some x) : 0 ≤ p ∧ p < l.length := ⟨(rd_some h).1, (rd_some h).2.1⟩
theorem rd_mem {α : Type} {l : List α} {p : Int} {x : α} (h : rd l p = some x) : x ∈ l := List.mem_of_getElem? (rd_some h).2.2
theorem dup_in (a : Ar) (K : List Int → List Int → Int → Option Bool) (M l : List Int) (x6 n : Int) (hl : l.length ≤ 8000) (h6 : 0 ≤ x6 ∧ x6 ≤ 8000) : ∀ (f : Nat) (i : Int), 0 ≤ i → i ≤ l.length → ((l.length : Int) - i).toNat < f → (∀ j, 0 ≤ j → j < i → rd l j ≠ some n) →
  mS53_2 a K f M l x6 n i = if n ∈ l then some false else K M (l ++ [n]) (x6 + 1)
 | 0, _, _, _, h, _ => absurd h (Nat.not_lt_zero _)
 | f + 1, i, h0, h1, hf, hi => by
  rw [mS53_2]
  by_cases c : i < (l.length : Int)
  ·obtain ⟨x, e⟩ := rd_ex h0 c
   rw [decide_eq_true c, cond_true, e, oBs]
   by_cases d : x = n
   ·rw [beq_iff_eq.2 d, cond_true, if_pos (d ▸ rd_mem e)]
   ·rw [beq_eq_false_iff_ne.2 d, cond_false, wr (x := i + 1) (by omega) (by omega)]
    refine dup_in a K M l x6 n hl h6 f (i + 1) (by omega) (by omega) (by omega) (fun j j0 j1 => ?_)
    by_cases hj : j = i
    ·rw [hj, e]; exact fun y => d (Option.some.inj y)
    ·exact hi j j0 (by omega)
  ·rw [decide_eq_false c, cond_false, grow_eq (by omega), oBs, wr (x := x6 + 1) (by omega) (by omega), if_neg]
   intro hm
   obtain ⟨k, hk, e⟩ := List.mem_iff_getElem.1 hm
   exact hi k (by omega) (by omega) (by rw [rd_at hk, e])
structure Dn (a : Ar) (M l : List Int) (x : Int) : Prop where
 len : (l.length : Int) ≤ x
 m : ∀ n, n ∈ l ↔ n > 0 ∧ ∃ p, p < x ∧ live M p ∧ (hd a p).1.n = n
 d : ∀ p q, p < x → q < x → live M p → live M q → (hd a p).1.n = (hd a q).1.n → (hd a p).1.n > 0 → p = q
theorem Dn.skip {a : Ar} {M l : List Int} {x : Int} (D : Dn a M l x) (h : live M x → (hd a x).1.n = 0) : Dn a M l (x + 1) := by
 refine ⟨by have := D.len; omega, fun n => ?_, fun p q hp hq lp lq he hn => ?_⟩
 ·rw [D.m n]
  constructor
  ·rintro ⟨h1, p, h2, h3⟩
   exact ⟨h1, p, by omega, h3⟩
  ·rintro ⟨h1, p, h2, h3, h4⟩
   refine ⟨h1, p, ?_, h3, h4⟩
   by_cases e : p = x
   ·subst e; have := h h3; omega
   ·omega
 ·by_cases e : p = x
  ·subst e; have := h lp; omega
  ·by_cases e' : q = x
   ·subst e'; have := h lq; omega
   ·exact D.d p q (by omega) (by omega) lp lq he hn
theorem dup_loop {a : Ar} (I : ArI a) (hl : (a.ws.length : Int) ≤ 8000) {M : List Int} (hM : M.length = a.ws.length) : ∀ (f : Nat) (l : List Int) (x : Int), 0 ≤ x → x ≤ M.length → ((M.length : Int) - x).toNat < f → Dn a M l x →
  (Dup a M → mS53_0 a f M l x = some false) ∧ (¬ Dup a M → mS53_0 a f M l x = some true)
 | 0, _, _, _, _, h, _ => absurd h (Nat.not_lt_zero _)
 | f + 1, l, x, h0, h1, hf, D => by
  rw [mS53_0]
  have hlen := D.len
  by_cases c : x < (M.length : Int)
  ·obtain ⟨w, e⟩ := rd_ex h0 c
   rw [decide_eq_true c, cond_true, e, oBs, wr (x := x + 1) (by omega) (by omega), m55_hd I h0 (by omega), oBs]
   have key : live M x → (Dup a M → (bif (hd a x).1.n == 0 then mS53_0 a f M l (x + 1) else mS53_2 a (mS53_0 a f) 20000 M l x (hd a x).1.n 0) = some false) ∧
     (¬ Dup a M → (bif (hd a x).1.n == 0 then mS53_0 a f M l (x + 1) else mS53_2 a (mS53_0 a f) 20000 M l x (hd a x).1.n 0) = some true) := fun lx => by
    by_cases z : (hd a x).1.n = 0
    ·rw [beq_iff_eq.2 z, cond_true]
     exact dup_loop I hl hM f l (x + 1) (by omega) (by omega) (by omega) (D.skip fun _ => z)
    ·have zp : (hd a x).1.n > 0 := by have := hd_n a x; omega
     rw [beq_eq_false_iff_ne.2 z, cond_false, dup_in a (mS53_0 a f) M l x (hd a x).1.n (by omega) ⟨h0, by omega⟩ 20000 0 (Int.le_refl _) (by omega) (by omega) (fun j j0 j1 => by omega)]
     by_cases hm : (hd a x).1.n ∈ l
     ·rw [if_pos hm]
      obtain ⟨_, p, hp, lp, en⟩ := (D.m _).1 hm
      exact ⟨fun _ => rfl, fun h => absurd ⟨x, p, by omega, lx, lp, en.symm, zp⟩ h⟩
     ·rw [if_neg hm]
      refine dup_loop I hl hM f _ (x + 1) (by omega) (by omega) (by omega) ⟨by simp; omega, fun n => ?_, fun p q hp hq lp lq he hn => ?_⟩
      ·rw [List.mem_append, List.mem_singleton, D.m n]
       constructor
       ·rintro (⟨k1, p, k2, k3⟩ | rfl)
        ·exact ⟨k1, p, by omega, k3⟩
        ·exact ⟨zp, x, by omega, lx, rfl⟩
       ·rintro ⟨k1, p, k2, k3, k4⟩
        by_cases ep : p = x
        ·subst ep; exact .inr k4.symm
        ·exact .inl ⟨k1, p, by omega, k3, k4⟩
      ·by_cases ep : p = x
       ·by_cases eq : q = x
        ·omega
        ·subst ep
         exact absurd ((D.m _).2 ⟨zp, q, by omega, lq, he.symm⟩) hm
       ·by_cases eq : q = x
        ·subst eq
         exact absurd ((D.m _).2 ⟨zp, p, by omega, lp, he⟩) hm
        ·exact D.d p q (by omega) (by omega) lp lq he hn
   by_cases w1 : w = 1
   ·subst w1
    exact key (.inl e)
   ·rw [bne_iff_ne.2 w1, cond_true]
    by_cases w2 : w = 2
    ·subst w2
     exact key (.inr e)
    ·rw [bne_iff_ne.2 w2, cond_true]
     refine dup_loop I hl hM f l (x + 1) (by omega) (by omega) (by omega) (D.skip fun lx => ?_)
     rcases lx with y | y <;> rw [e] at y <;> cases y
     ·exact absurd rfl w1
     ·exact absurd rfl w2
  ·rw [decide_eq_false c, cond_false]
   refine ⟨fun ⟨p, q, hpq, lp, lq, he, hn⟩ => absurd (D.d p q ?_ ?_ lp lq he hn) hpq, fun _ => rfl⟩
   ·have : p < M.length := lp.elim (fun y => (rd_lt y).2) (fun y => (rd_lt y).2)
    omega
   ·have : q < M.length := lq.elim (fun y => (rd_lt y).2) (fun y => (rd_lt y).2)
    omega
theorem live_0 {M : List Int} {p : Int} (h : live M p) : 0 ≤ p ∧ p < M.length := h.elim rd_lt rd_lt
theorem m53_dup {a : Ar} (I : ArI a) (hl : (a.ws.length : Int) ≤ 8000) {M : List Int} (hM : M.length = a.ws.length) : (Dup a M → m53 a M = some false) ∧ (¬ Dup a M → m53 a M = some true) :=
 dup_loop I hl hM 20000 [] 0 (Int.le_refl _) (by omega) (by omega) ⟨by simp, fun n => ⟨fun h => (by cases h), fun ⟨_, p, h, lp, _⟩ => (by have := (live_0 lp).1; omega)⟩, fun p q hp _ lp _ _ _ => by have := (live_0 lp).1; omega⟩
open Go Go.AH Go.AM
structure Mk (a : Ar) (M : List Int) : Prop where
 num : Num a
 cy : cycOk a = true
 len : M.length = a.ws.length
 m0 : ∀ p w, rd M p = some w → w = 0 ∨ w = 1 ∨ w = 2 ∨ w = 3
 m1 : ∀ p, rd M p = some 1 → a.to * a.semi + 1 ≤ p ∧ (hd a p).2 = true ∧ (hd a p).1.n < a.ser ∧ p + (hd a p).1.s + 1 ≤ a.top
 m2 : ∀ p, rd M p = some 2 → a.cyc = true ∧ (1 - a.to) * a.semi + 1 ≤ p ∧ (hd a p).2 = true ∧ (hd a p).1.n < a.ser ∧ p + (hd a p).1.s + 1 ≤ a.old
 m3 : ∀ p, rd M p = some 3 → a.cyc = true ∧ ((1 - a.to) * a.semi + 1 ≤ p ∧ p < a.old) ∧ (hd a p).2 = false ∧ (fw a p).2 = true ∧ rd M (fw a p).1 = some 1
 d : ¬ Dup a M
 sc : a.cyc = true → a.scan = a.top ∨ rd M a.scan = some 1
 tl : ∃ M1, tile1 a 20000 (List.replicate a.ws.length 0) (a.to * a.semi + 1) = some M1 ∧ ((a.cyc = false ∧ M = M1) ∨ (a.cyc = true ∧ tile2 a 20000 M1 [] 0 ((1 - a.to) * a.semi + 1) = some M))
def scanOk (a : Ar) (M : List Int) : Prop := a.scan = a.top ∨ rd M a.scan = some 1
theorem sc52_eq {a : Ar} {M : List Int} (hM : M.length = a.ws.length) (hl : (a.ws.length : Int) ≤ 8000) : (scanOk a M → sc52 a M = some (true, M)) ∧ (¬ scanOk a M → sc52 a M = some (false, M)) := by
 unfold sc52 scanOk
 by_cases h : a.scan = a.top
 ·rw [beq_iff_eq.2 h, cond_true]
  exact ⟨fun _ => rfl, fun x => absurd (.inl h) x⟩
 ·rw [beq_eq_false_iff_ne.2 h, cond_false, wr (by omega) (by omega), m59_eq, oBs]
  by_cases c : 0 ≤ a.scan ∧ a.scan ≤ (M.length : Int) - 1
  ·obtain ⟨w, e⟩ := rd_ex (l := M) c.1 (by omega)
   rw [decide_eq_true c, cond_true, e, oBs]
   by_cases hw : w = 1
   ·subst hw; exact ⟨fun _ => rfl, fun x => absurd (.inr rfl) x⟩
   ·rw [beq_eq_false_iff_ne.2 hw]
    exact ⟨fun x => x.elim (fun y => absurd y h) (fun y => absurd (Option.some.inj y) hw), fun _ => rfl⟩
  ·rw [decide_eq_false c, cond_false]
   exact ⟨fun x => x.elim (fun y => absurd y h) (fun y => absurd (by have := rd_lt y; omega) c), fun _ => rfl⟩
theorem rd_rep {n : Nat} {p w : Int} (h : rd (List.replicate n (0 : Int)) p = some w) : w = 0 := (List.mem_replicate.1 (rd_mem h)).2
theorem Ser.zero (a : Ar) (n : Nat) : Ser a (List.replicate n 0) [] := by
 have nl : ∀ p, ¬ live (List.replicate n 0) p := fun p h => h.elim (fun x => by have := rd_rep x; omega) (fun x => by have := rd_rep x; omega)
 exact ⟨fun x hx => ⟨fun h => (by cases h), fun ⟨p, h, _⟩ => absurd h (nl p)⟩, fun ⟨p, q, _, h, _⟩ => nl p h⟩
def rest (a : Ar) (M : List Int) : Option Bool := (m69 a M []).bind fun q => some q.1
def aft66 (a : Ar) (r : Bool × List Int × List Int) : Option Bool :=
 bif !r.1 then some false else
  bif !a.cyc then (bif a.scan != 0 then some false else bif a.old != 0 then some false else bif a.cop != 0 then some false else rest a r.2.1)
  else bif !(decide (1 ≤ a.scan ∧ a.scan ≤ a.top)) then some false else
   bif a.scan != a.top then (rd r.2.1 a.scan).bind fun w => bif w != 1 then some false else oldOk a r.2.1 r.2.2 else oldOk a r.2.1 r.2.2
theorem m33b_eq (a : Ar) : m33b a = (m66 a (List.replicate a.ws.length 0) [] (a.to * a.semi + 1) a.top 1).bind (aft66 a) := rfl
theorem aft_f (a : Ar) (r : List Int × List Int) : aft66 a (false, r) = some false := rfl
theorem aft_c (a : Ar) (M ml : List Int) (hc : a.cyc = true) : aft66 a (true, M, ml) = (bif !(decide (1 ≤ a.scan ∧ a.scan ≤ a.top)) then some false else bif a.scan != a.top then (rd M a.scan).bind fun w => bif w != 1 then some false else oldOk a M ml else oldOk a M ml) := by
 unfold aft66
 rw [hc]; rfl
theorem aft_n (a : Ar) (M ml : List Int) (hc : a.cyc = false) : aft66 a (true, M, ml) = (bif a.scan != 0 then some false else bif a.old != 0 then some false else bif a.cop != 0 then some false else rest a M) := by
 unfold aft66
 rw [hc]; rfl
theorem oldOk_eq (a : Ar) (M ml : List Int) (co : (1 - a.to) * a.semi + 1 ≤ a.old ∧ a.old ≤ (2 - a.to) * a.semi) (l : Int) (e : m68 a = some l) : oldOk a M ml = (m66 a M ml ((1 - a.to) * a.semi + 1) a.old 2).bind fun r => bif !r.1 then some false else bif decide (IntKind.i64.wrap (a.top + l) > (a.to + 1) * a.semi) then some false else rest a r.2.1 := by
 unfold oldOk
 rw [decide_eq_true co, e, Bool.not_true, cond_false]
 rfl
theorem heads {a : Ar} (I : ArI a) (N : Num a) : (m28 a = some false ∧ m33b a = some false) ∨ ∃ M, Mk a M ∧ m28 a = mS28_2 a 20000 M 0 ∧ m33b a = rest a M := by
 have N' := N
 obtain ⟨c1, c2, c1003, c1005, c4, c1004⟩ := N'
 have b0 := mulB (t := a.to) (by omega) c1
 have b1 := mulB (t := a.to + 1) (by omega) c1
 have b2 := mulB (t := 1 - a.to) (by omega) c1
 have b3 := mulB (t := 2 - a.to) (by omega) c1
 have hl : (a.ws.length : Int) ≤ 8000 := by omega
 have htop : a.top ≤ a.ws.length := by
  have : a.to = 0 ∨ a.to = 1 := by omega
  rcases this with h | h <;> rw [h] at c1004 <;> omega
 have Z := Ser.zero a a.ws.length
 have zl : ∀ p, ¬ live (List.replicate a.ws.length 0) p := fun p h => h.elim (fun x => by have := rd_rep x; omega) (fun x => by have := rd_rep x; omega)
 have R1 := tile1_ref I hl htop 20000 (List.replicate a.ws.length 0) (a.to * a.semi + 1) (by simp) (by omega) (by omega) (by omega)
 have P1 := tile1_prog I hl htop 20000 (List.replicate a.ws.length 0) [] (a.to * a.semi + 1) (by simp) (by omega) (by omega) (by omega) Z (fun q _ _ => zl q)
 have C1 := tile1_ch htop 20000 (List.replicate a.ws.length 0) (a.to * a.semi + 1)
 have e43 : m52 a (List.replicate a.ws.length 0) = mS52_0 a 20000 (List.replicate a.ws.length 0) (a.to * a.semi + 1) := by
  unfold m52
  rw [m88_eq (by omega) c1, oBs]
 have e13 : m28 a = bif !cycOk a then some false else (mS52_0 a 20000 (List.replicate a.ws.length 0) (a.to * a.semi + 1)).bind fun r5 => bif !r5.1 then some false else (m53 a r5.2).bind fun r7 => bif (!r7) then some false else mS28_2 a 20000 r5.2 0 := by
  unfold m28
  rw [m51_ok I N, oBs, mkL_eq _ (by omega), oBs, e43]
 rw [e13]
 rw [m33b_eq]
 unfold m66
 cases t1 : tile1 a 20000 (List.replicate a.ws.length 0) (a.to * a.semi + 1) with
 | none =>
  obtain ⟨l, h1⟩ := R1.1 t1
  obtain ⟨r, h2⟩ := P1.1 t1
  rw [h1, h2]
  refine .inl ⟨?_, aft_f a r⟩
  cases cycOk a <;> rfl
 | some M1 =>
 have h1 := R1.2 _ t1
 have h2 := P1.2 _ t1
 obtain ⟨l1, d1⟩ := C1 M1 (by simp) (by omega) (by omega) t1
 rw [h1]
 unfold aft52
 have d1' : ∀ p w, rd M1 p = some w → w = 0 ∨ (w = 1 ∧ a.to * a.semi + 1 ≤ p ∧ (hd a p).2 = true ∧ (hd a p).1.n < a.ser ∧ p + (hd a p).1.s + 1 ≤ a.top) := fun p w e => by
  rcases d1 p with x | ⟨x1, x2, x3, x4⟩
  ·rw [e] at x; exact .inl (rd_rep x.symm)
  ·rw [e] at x3; cases x3; exact .inr ⟨rfl, x1, x4⟩
 have d11 : ∀ p, rd M1 p = some 1 → a.to * a.semi + 1 ≤ p ∧ (hd a p).2 = true ∧ (hd a p).1.n < a.ser ∧ p + (hd a p).1.s + 1 ≤ a.top := fun p e => by
  rcases d1' p 1 e with x | x
  ·cases x
  ·exact x.2
 cases hc : a.cyc with
 | false =>
  rw [Bool.not_false, cond_true, oBs, Bool.not_true, cond_false]
  have eco : cycOk a = decide (a.scan = 0 ∧ a.old = 0 ∧ a.cop = 0) := by unfold cycOk; rw [hc]; rfl
  rw [eco]
  by_cases cc : a.scan = 0 ∧ a.old = 0 ∧ a.cop = 0
  ·rw [decide_eq_true cc, Bool.not_true, cond_false]
   have hD := m53_dup I hl l1
   rcases h2 with ⟨ml', e, S⟩ | ⟨D, r, e⟩
   ·refine .inr ⟨M1, ⟨N, by rw [eco, decide_eq_true cc], l1, fun p w e => ?_, d11, fun p e => ?_, fun p e => ?_, S.d, fun x => (by rw [hc] at x; cases x), M1, t1, .inl ⟨hc, rfl⟩⟩, ?_, ?_⟩
    ·rcases d1' p w e with x | x
     ·exact .inl x
     ·exact .inr (.inl x.1)
    ·rcases d1' p 2 e with x | x
     ·cases x
     ·cases x.1
    ·rcases d1' p 3 e with x | x
     ·cases x
     ·cases x.1
    ·rw [hD.2 S.d, oBs, Bool.not_true, cond_false]
    ·rw [e, oBs, aft_n a _ _ hc, cc.1, cc.2.1, cc.2.2, bne_self_eq_false, cond_false, cond_false, cond_false]
   ·rw [e, hD.1 D]
    exact .inl ⟨rfl, aft_f a r⟩
  ·rw [decide_eq_false cc]
   refine .inl ⟨rfl, ?_⟩
   rcases h2 with ⟨ml', e, S⟩ | ⟨D, r, e⟩
   ·rw [e, oBs, aft_n a _ _ hc]
    by_cases x1 : a.scan = 0
    ·by_cases x2 : a.old = 0
     ·by_cases x3 : a.cop = 0
      ·exact absurd ⟨x1, x2, x3⟩ cc
      ·rw [bne_iff_ne.2 x3, x1, x2]; rfl
     ·rw [bne_iff_ne.2 x2, x1]; rfl
    ·rw [bne_iff_ne.2 x1]; rfl
   ·rw [e, oBs, aft_f]
 | true =>
  rw [Bool.not_true, cond_false]
  have eco : cycOk a = decide (((1 - a.to) * a.semi + 1 ≤ a.old ∧ a.old ≤ (2 - a.to) * a.semi) ∧ (0 ≤ a.cop ∧ a.cop ≤ a.old - ((1 - a.to) * a.semi + 1)) ∧ a.top + a.old - ((1 - a.to) * a.semi + 1) - a.cop ≤ (a.to + 1) * a.semi) := by
   unfold cycOk; rw [hc]; rfl
  -- the program's look at scan
  have SC : ∀ {X : Type} (y n : Option X), (scanOk a M1 → (bif !(decide (1 ≤ a.scan ∧ a.scan ≤ a.top)) then n else bif a.scan != a.top then (rd M1 a.scan).bind fun w => bif w != 1 then n else y else y) = y) ∧
    (¬ scanOk a M1 → (bif !(decide (1 ≤ a.scan ∧ a.scan ≤ a.top)) then n else bif a.scan != a.top then (rd M1 a.scan).bind fun w => bif w != 1 then n else y else y) = n) := fun y n => by
   unfold scanOk
   by_cases hs : a.scan = a.top
   ·rw [decide_eq_true (by omega), hs, bne_self_eq_false]
    exact ⟨fun _ => rfl, fun x => absurd (.inl rfl) x⟩
   ·rw [bne_iff_ne.2 hs, cond_true]
    by_cases hr : rd M1 a.scan = some 1
    ·have := d11 _ hr
     have hk := hok_s (hd_hok this.2.1)
     rw [decide_eq_true (by omega), hr]
     exact ⟨fun _ => rfl, fun x => absurd (.inr rfl) x⟩
    ·refine ⟨fun x => x.elim (fun x => absurd x hs) (fun x => absurd x hr), fun _ => ?_⟩
     by_cases hq : 1 ≤ a.scan ∧ a.scan ≤ a.top
     ·obtain ⟨w, e⟩ := rd_ex (l := M1) (p := a.scan) (by omega) (by omega)
      have hw : w ≠ 1 := fun x => hr (by rw [e, x])
      rw [decide_eq_true hq, e, oBs, bne_iff_ne.2 hw]; rfl
     ·rw [decide_eq_false hq]; rfl
  by_cases co : (1 - a.to) * a.semi + 1 ≤ a.old ∧ a.old ≤ (2 - a.to) * a.semi
  ·have hold : a.old ≤ a.ws.length := by
    have : a.to = 0 ∨ a.to = 1 := by omega
    rcases this with h | h <;> rw [h] at co <;> omega
   -- where the two halves lie
   have apart : ∀ q, (1 - a.to) * a.semi + 1 ≤ q → q < a.old → ¬ (a.to * a.semi + 1 ≤ q ∧ q < a.top) := fun q q0 q1 x => by
    have : a.to = 0 ∨ a.to = 1 := by omega
    rcases this with h | h <;> rw [h] at co c1004 x q0 <;> omega
   have fresh : ∀ q, (1 - a.to) * a.semi + 1 ≤ q → q < a.old → ¬ live M1 q := fun q q0 q1 x => by
    rcases x with x | x
    ·have y := d11 q x
     have hk := hok_s (hd_hok y.2.1)
     exact apart q q0 q1 ⟨y.1, by omega⟩
    ·rcases d1' q 2 x with y | y
     ·cases y
     ·cases y.1
   have hO : ∀ q, rd M1 q = some 1 → (hd a q).2 = true := fun q e => (d11 q e).2.1
   have eL : (mkL (a.ws.length : Int) (false : Bool)) = some (List.replicate a.ws.length false) := by
    unfold mkL
    rw [if_pos ⟨Int.natCast_nonneg _, by omega⟩, Int.toNat_natCast]
   rw [eL, oBs, wr (x := 1 - a.to) (by omega) (by omega), m88_eq (by omega) c1, oBs]
   have R2 := tile2_ref I hl hold 20000 M1 (List.replicate a.ws.length false) [] 0 ((1 - a.to) * a.semi + 1) l1 (by simp) (by omega) (by omega) (Int.le_refl _) (by omega) (by omega) hO (fun q b e => by
    have : b = false := (List.mem_replicate.1 (rd_mem e)).2
    subst this
    exact ⟨fun x => (by cases x), fun x => (by cases x)⟩)
   have P2 := fun ml' S => tile2_prog I hl hold 20000 M1 ml' [] [] 0 ((1 - a.to) * a.semi + 1) l1 (by omega) (by omega) (Int.le_refl _) (by omega) (by omega) hO (fun x => Iff.rfl) S fresh
   have C2 := tile2_ch hl hold 20000 M1 [] 0 ((1 - a.to) * a.semi + 1)
   cases t2 : tile2 a 20000 M1 [] 0 ((1 - a.to) * a.semi + 1) with
   | none =>
    obtain ⟨l, k1⟩ := R2.1 t2
    rw [k1]
    refine .inl ⟨by cases cycOk a <;> rfl, ?_⟩
    rcases h2 with ⟨ml', e, S⟩ | ⟨D, r, e⟩
    ·rw [e, oBs, aft_c a _ _ hc]
     obtain ⟨r, k2⟩ := (P2 ml' S).1 t2
     have hold2 : oldOk a M1 ml' = some false := by
      unfold oldOk m66
      rw [decide_eq_true co, Bool.not_true, cond_false, k2, oBs]
      rfl
     rw [hold2]
     by_cases hs : scanOk a M1
     ·exact (SC _ _).1 hs
     ·exact (SC _ _).2 hs
    ·rw [e, oBs, aft_f]
   | some M2 =>
    have k1 := R2.2 _ t2
    obtain ⟨l2, cp, d2⟩ := C2 M2 l1 (by omega) (by omega) hO t2
    have one : ∀ q, rd M2 q = some 1 ↔ rd M1 q = some 1 := fun q => by
     rcases d2 q with x | ⟨x1, x2, x3⟩
     ·rw [x]
     ·refine ⟨fun y => ?_, fun y => absurd (Or.inl y) (fresh q x1 x2)⟩
      rcases x3 with x3 | x3 <;> rw [x3.1] at y <;> cases y
    have lm : ∀ q, live M1 q → live M2 q := fun q hq => by
     rcases d2 q with x | ⟨x1, x2, x3⟩
     ·unfold live at hq ⊢; rw [x]; exact hq
     ·exact absurd hq (fresh q x1 x2)
    have dm : Dup a M1 → Dup a M2 := fun ⟨p, q, h, lp, lq, e⟩ => ⟨p, q, h, lm p lp, lm q lq, e⟩
    have so : scanOk a M1 ↔ scanOk a M2 := by unfold scanOk; rw [one]
    rw [k1]
    have e62 : m68 a = some (a.old - ((1 - a.to) * a.semi + 1) - a.cop) := by
     unfold m68
     rw [hc, Bool.not_true, cond_false, m67_eq c1003, oBs, m64_eq (by omega) c1, oBs, wr (x := a.old - _) (by omega) (by omega), wr (by omega) (by omega)]
    have eold := fun ml' => oldOk_eq a M1 ml' co _ e62
    unfold m66 at eold
    rw [wr (x := a.top + (a.old - ((1 - a.to) * a.semi + 1) - a.cop)) (by omega) (by omega)] at eold
    by_cases cr : a.top + a.old - ((1 - a.to) * a.semi + 1) - a.cop ≤ (a.to + 1) * a.semi
    ·rw [eco, decide_eq_true ⟨co, by omega, cr⟩, Bool.not_true, cond_false]
     rw [decide_eq_false (by omega : ¬ a.top + (a.old - ((1 - a.to) * a.semi + 1) - a.cop) > (a.to + 1) * a.semi)] at eold
     by_cases hs : scanOk a M2
     ·rw [(sc52_eq l2 hl).1 hs, oBs, Bool.not_true, cond_false]
      have hD := m53_dup I hl l2
      by_cases D : Dup a M2
      ·rw [hD.1 D]
       refine .inl ⟨rfl, ?_⟩
       rcases h2 with ⟨ml', e, S⟩ | ⟨D', r, e⟩
       ·rw [e, oBs, aft_c a _ _ hc]
        rw [(SC _ _).1 (so.2 hs)]
        rcases (P2 ml' S).2 _ t2 with ⟨ml2, e2, S2⟩ | ⟨D2, r, e2⟩
        ·exact absurd D S2.d
        ·rw [eold, e2]; rfl
       ·rw [e, oBs, aft_f]
      ·rw [hD.2 D, oBs, Bool.not_true, cond_false]
       refine .inr ⟨M2, ⟨N, by rw [eco, decide_eq_true ⟨co, by omega, cr⟩], l2, fun p w e => ?_, fun p e => d11 p ((one p).1 e), fun p e => ?_, fun p e => ?_, D, fun _ => hs, M1, t1, .inr ⟨hc, t2⟩⟩, rfl, ?_⟩
       ·rcases d2 p with x | ⟨x1, x2, x3⟩
        ·rw [e] at x
         rcases d1' p w x.symm with y | y
         ·exact .inl y
         ·exact .inr (.inl y.1)
        ·rcases x3 with x3 | x3 <;> rw [e] at x3 <;> have := Option.some.inj x3.1 <;> omega
       ·rcases d2 p with x | ⟨x1, x2, x3⟩
        ·rw [e] at x
         rcases d1' p 2 x.symm with y | y
         ·cases y
         ·cases y.1
        ·rcases x3 with x3 | x3
         ·exact ⟨hc, x1, x3.2⟩
         ·rw [e] at x3; cases x3.1
       ·rcases d2 p with x | ⟨x1, x2, x3⟩
        ·rw [e] at x
         rcases d1' p 3 x.symm with y | y
         ·cases y
         ·cases y.1
        ·rcases x3 with x3 | x3
         ·rw [e] at x3; cases x3.1
         ·exact ⟨hc, ⟨x1, x2⟩, x3.2.1, x3.2.2.1, (one _).2 x3.2.2.2⟩
       ·rcases h2 with ⟨ml', e, S⟩ | ⟨D', r, e⟩
        ·rw [e, oBs, aft_c a _ _ hc]
         rw [(SC _ _).1 (so.2 hs)]
         rcases (P2 ml' S).2 _ t2 with ⟨ml2, e2, S2⟩ | ⟨D2, r, e2⟩
         ·rw [eold, e2, oBs, Bool.not_true, cond_false, cond_false]
         ·exact absurd D2 D
        ·exact absurd (dm D') D
     ·rw [(sc52_eq l2 hl).2 hs]
      refine .inl ⟨rfl, ?_⟩
      rcases h2 with ⟨ml', e, S⟩ | ⟨D', r, e⟩
      ·rw [e, oBs, aft_c a _ _ hc]
       exact (SC _ _).2 (fun x => hs (so.1 x))
      ·rw [e, oBs, aft_f]
    ·rw [eco, decide_eq_false (fun x => cr x.2.2)]
     refine .inl ⟨rfl, ?_⟩
     rcases h2 with ⟨ml', e, S⟩ | ⟨D', r, e⟩
     ·rw [e, oBs, aft_c a _ _ hc]
      have eo : oldOk a M1 ml' = some false := by
       rw [eold]
       rw [decide_eq_true (by omega : a.top + (a.old - ((1 - a.to) * a.semi + 1) - a.cop) > (a.to + 1) * a.semi)]
       rcases (P2 ml' S).2 _ t2 with ⟨ml2, e2, S2⟩ | ⟨D2, r, e2⟩ <;> rw [e2] <;> rfl
      rw [eo]
      by_cases hs : scanOk a M1
      ·exact (SC _ _).1 hs
      ·exact (SC _ _).2 hs
     ·rw [e, oBs, aft_f]
  ·rw [eco, decide_eq_false (fun x => co x.1)]
   refine .inl ⟨rfl, ?_⟩
   rcases h2 with ⟨ml', e, S⟩ | ⟨D', r, e⟩
   ·rw [e, oBs, aft_c a _ _ hc]
    have eo : oldOk a M1 ml' = some false := by
     unfold oldOk
     rw [decide_eq_false co]; rfl
    rw [eo]
    by_cases hs : scanOk a M1
    ·exact (SC _ _).1 hs
    ·exact (SC _ _).2 hs
   ·rw [e, oBs, aft_f]
end Go.Proofs.YtnjnggejbpkgoaaGreat
