/- Marks. -/
import Derived.Test.YtadmoackacickaaXLex5
set_option linter.unusedSimpArgs false
namespace Go.Proofs.Ytadmoackacickaa
open Go Go.AH

def dig (x : Int) : ByteArray := ⟨#[UInt8.ofNat (IntKind.u8.wrap (IntKind.i64.wrap (48 + Int.tmod x 10))).toNat]⟩
def mtGo : Nat → Int → ByteArray → ByteArray
  | 0, _, t => t
  | f + 1, x, t => if x > 0 then mtGo f (IntKind.i64.wrap (Int.tdiv x 10)) (dig x ++ t) else (⟨#[109]⟩ : ByteArray) ++ t
def markT (x : Int) : ByteArray := if x ≤ 0 then ⟨#[109, 48]⟩ else mtGo 19 x ⟨#[]⟩
theorem size_dig (x : Int) (t : ByteArray) : (dig x ++ t).size = t.size + 1 := by
  rw [ByteArray.size_append]; show 1 + t.size = _; omega
theorem mt_loop {d N : Nat} : ∀ (f m : Nat) (x : Int) (t : ByteArray) (h : AHeap), x < 10 ^ f → f ≤ 18 → t.size + f ≤ 100 → f < m →
    ∃ h', s55_0 hk0 (call Try.prog Ms d) N m x t h = some (.string (mtGo (f + 1) x t), h') ∧ Ext h.size h h' := by
  intro f
  induction f with
  | zero =>
    intro m x t h hx _ ht hm
    obtain ⟨m, rfl⟩ : ∃ k, m = k + 1 := ⟨m - 1, by omega⟩
    have hx' : ¬ x > 0 := by simp at hx; omega
    have hz : (⟨#[109]⟩ : ByteArray).size + t.size ≤ most := by show 1 + t.size ≤ 140737488355328; omega
    refine ⟨h, ?_, Ext.refl _ _⟩
    rw [s55_0_eq]
    simp only [hx', decide_false, cond_false, aBin, hz, if_true, Option.bind_some, asS, mtGo, if_false]
  | succ f ih =>
    intro m x t h hx hf ht hm
    obtain ⟨m, rfl⟩ : ∃ k, m = k + 1 := ⟨m - 1, by omega⟩
    rw [s55_0_eq]
    by_cases hx' : x > 0
    · have e1 := Ext.new (Nat.le_refl h.size) 5 [Value.int .u8 (IntKind.u8.wrap (IntKind.i64.wrap (48 + Int.tmod x 10)))]
      have r1 := (Own.new (b := h.size) (Nat.le_refl _) 5 [Value.int .u8 (IntKind.u8.wrap (IntKind.i64.wrap (48 + Int.tmod x 10)))]).row
      have hz : (dig x).size + t.size ≤ most := by show 1 + t.size ≤ 140737488355328; omega
      have hcv : aCvStr (h.new 5 [Value.int .u8 (IntKind.u8.wrap (IntKind.i64.wrap (48 + Int.tmod x 10)))]) (slc h.size 0 1) = some (.string (dig x)) := by
        simp [aCvStr, slc, r1.rd (off := 0) (n := 1) (by simp), bytesOf, dig]
      have hdv : IntKind.i64.wrap (Int.tdiv x 10) = x / 10 := by
        rw [Int.tdiv_eq_ediv_of_nonneg (by omega)]
        have : x < 10 ^ 18 := Int.lt_of_lt_of_le hx (by exact_mod_cast Nat.pow_le_pow_right (by omega) (by omega))
        simp [IntKind.wrap, IntKind.bits, IntKind.signed]; omega
      obtain ⟨h2, hr, he⟩ := ih m (IntKind.i64.wrap (Int.tdiv x 10)) (dig x ++ t) (h.new 5 [Value.int .u8 (IntKind.u8.wrap (IntKind.i64.wrap (48 + Int.tmod x 10)))]) (by
        rw [hdv]; rw [Int.pow_succ] at hx; omega) (by omega) (by rw [size_dig]; omega) (by omega)
      refine ⟨h2, ?_, e1.trans (he.mono (by simp [AHeap.new]))⟩
      simp only [hx', decide_true, cond_true, aNewS, hcv, Option.bind_some, asS, aBin, hz, if_true]
      have e : mtGo (f + 1 + 1) x t = mtGo (f + 1) (IntKind.i64.wrap (Int.tdiv x 10)) (dig x ++ t) := by rw [mtGo, if_pos hx']
      rw [hr, e]
    · have hz : (⟨#[109]⟩ : ByteArray).size + t.size ≤ most := by show 1 + t.size ≤ 140737488355328; omega
      refine ⟨h, ?_, Ext.refl _ _⟩
      simp only [hx', decide_false, cond_false, aBin, hz, if_true, Option.bind_some, asS]
      rw [mtGo, if_neg hx']
theorem l55 {d : Nat} (hd : 3000 < d) {x : Int} (hx : x < 10 ^ 18) (h : AHeap) : ∃ h', call Try.prog Ms (d + 1) 55 [.int .i64 x] h = some (.string (markT x), h') ∧ Ext h.size h h' := by
  rw [c55, e55]
  by_cases h0 : x ≤ 0
  · exact ⟨h, by simp [h0, markT], Ext.refl _ _⟩
  · obtain ⟨h', hr, he⟩ := mt_loop (d := d) (N := d) 18 d x ⟨#[]⟩ h hx (by omega) (by decide) (by omega)
    refine ⟨h', ?_, he⟩
    simp only [h0, decide_false, cond_false, markT, if_false]
    exact hr
end Go.Proofs.Ytadmoackacickaa
