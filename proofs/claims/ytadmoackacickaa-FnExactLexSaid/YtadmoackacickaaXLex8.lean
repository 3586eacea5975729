/- Marks are held. -/
import Derived.Test.YtadmoackacickaaXLex7
set_option linter.unusedSimpArgs false
namespace Go.Proofs.Ytadmoackacickaa
open Go Go.AH

theorem vbeq_str (t : ByteArray) : vbeq (.string t) (.string t) = true := by
  simp [vbeq, vbeq1, BEq.beq, ByteArray.beq]
  exact Array.isEqv_self _
theorem marked_drop : ∀ (n j : Nat) (k : Int), j ≤ n → (marked k n).drop j = marked (k + 4 * j) (n - j)
  | n, 0, k, _ => by simp
  | n + 1, j + 1, k, h => by
    simp only [marked, List.drop_succ_cons]
    rw [marked_drop n j (k + 4) (by omega), Nat.add_sub_add_right, show k + 4 + 4 * (j : Int) = k + 4 * ((j + 1 : Nat) : Int) by omega]
  | 0, j + 1, k, h => by omega
theorem marked_at {n j : Nat} {k : Int} (h : j < (marked k n).length) : (marked k n)[j] = mTok (k + 4 * j) := by
  have h1 := marked_drop n j k (by rw [marked_len] at h; omega)
  rw [List.drop_eq_getElem_cons h] at h1
  obtain ⟨q, hq⟩ : ∃ q, n - j = q + 1 := ⟨n - j - 1, by rw [marked_len] at h; omega⟩
  rw [hq] at h1
  simp only [marked, List.cons.injEq] at h1
  exact h1.1
theorem flat_get (ts : List Tok) (j c : Nat) (hj : j < ts.length) (hc : c < 4) : (flat ts)[j * 4 + c]? = ts[j].cells[c]? := by
  have h := flat_at ts j hj
  rw [← h, List.getElem?_take, if_pos hc, List.getElem?_drop]
theorem TS.ld {h : AHeap} {v : Value} {ts : List Tok} (x : TS h v ts) {j : Nat} (hj : j < ts.length) : ∃ i, aIdx v (.int .i64 (j : Int)) 4 = some (ptr i (j * 4)) ∧ i < h.size ∧
    (∀ h', Ext h.size h h' → aLd1 h' (ptr i (j * 4)) = some (.int .i64 ts[j].k) ∧ aLd1 h' (ptr i (j * 4 + 1)) = some (.int .i64 ts[j].at') ∧ aLd1 h' (ptr i (j * 4 + 2)) = some (.string ts[j].text) ∧ aLd1 h' (ptr i (j * 4 + 3)) = some (.int .i64 ts[j].i)) := by
  rcases x with ⟨rfl, rfl⟩ | ⟨i, rfl, hr, hi⟩
  · simp at hj
  · refine ⟨i, by simp [aIdx, slc, hj], hi, fun h' e => ?_⟩
    have r := hr.ext e hi
    exact ⟨r.ld1 (flat_get ts j 0 hj (by omega)), r.ld1 (flat_get ts j 1 hj (by omega)), r.ld1 (flat_get ts j 2 hj (by omega)), r.ld1 (flat_get ts j 3 hj (by omega))⟩
theorem held_loop {d N L : Nat} (hd : 3000 < d) (hL : L ≤ 3000) {v : Value} : ∀ (n j m : Nat) (h : AHeap), L - j = n → j ≤ L → n < m → TS h v (marked 1 L) →
    ∃ h', s18_0 hk0 (call Try.prog Ms (d + 1)) N m v (1 + 4 * (j : Int)) (j : Int) h = some (.int .i64 (1 + 4 * L), h') ∧ Ext h.size h h' := by
  intro n
  induction n with
  | zero =>
    intro j m h hn hj hm x
    obtain ⟨m, rfl⟩ : ∃ q, m = q + 1 := ⟨m - 1, by omega⟩
    have : j = L := by omega
    subst this
    refine ⟨h, ?_, Ext.refl _ _⟩
    have hl := x.len
    rw [marked_len] at hl
    rw [s18_0_eq]; simp [hl, asI]
  | succ n ih =>
    intro j m h hn hj hm x
    obtain ⟨m, rfl⟩ : ∃ q, m = q + 1 := ⟨m - 1, by omega⟩
    have hl := x.len
    rw [marked_len] at hl
    have hI : (j : Int) < (L : Int) := by omega
    obtain ⟨i, hix, _, hld⟩ := x.ld (j := j) (by rw [marked_len]; omega)
    rw [marked_at (by rw [marked_len]; omega)] at hld
    obtain ⟨a0, a1, a2, a3⟩ := hld h (Ext.refl _ _)
    obtain ⟨h1, c1, x1⟩ := l55 hd (x := 1 + 4 * (j : Int) + 2) (Int.lt_of_le_of_lt (b := 100000) (by omega) (by decide)) h
    obtain ⟨b0, b1, b2, b3⟩ := hld h1 x1
    obtain ⟨h2, r, x2⟩ := ih (j + 1) m h1 (by omega) (by omega) (by omega) (x.ext x1)
    refine ⟨h2, ?_, x1.trans (x2.mono x1.size)⟩
    have w1 : IntKind.i64.wrap (1 + 4 * (j : Int) + 1) = 1 + 4 * (j : Int) + 1 := wr (by omega) (by omega)
    have w2 : IntKind.i64.wrap (1 + 4 * (j : Int) + 1 + 1) = 1 + 4 * (j : Int) + 2 := by rw [wr (by omega) (by omega)]; omega
    have w3 : IntKind.i64.wrap (1 + 4 * (j : Int) + 2 + 1) = 1 + 4 * (j : Int) + 3 := by rw [wr (by omega) (by omega)]; omega
    have w4 : IntKind.i64.wrap (1 + 4 * (j : Int) + 3 + 1) = 1 + 4 * ((j + 1 : Nat) : Int) := by rw [wr (by omega) (by omega)]; omega
    have wj : IntKind.i64.wrap ((j : Int) + 1) = ((j + 1 : Nat) : Int) := by rw [wr (by omega) (by omega)]; omega
    rw [s18_0_eq]
    simp only [mTok] at a0 a1 a2 a3 b0 b1 b2 b3
    simp only [hl, Option.bind_some, asI, if_true, hI, decide_true, cond_true, hix, aOff_ptr, Nat.add_zero, a0, a1, a2, b2, b3, w1, w2, w3, w4, wj, c1, asS, vbeq_str, bne_self_eq_false, cond_false, beq_self_eq_true, Bool.not_true, r]
theorem l18 {d L : Nat} (hd : 3000 < d) (hL : L ≤ 3000) {v : Value} {h : AHeap} (x : TS h v (marked 1 L)) :
    ∃ h', call Try.prog Ms (d + 2) 18 [v, .int .i64 1] h = some (.int .i64 (1 + 4 * L), h') ∧ Ext h.size h h' := by
  rw [c18, e18]
  obtain ⟨h', r, e⟩ := held_loop (N := d + 1) hd hL L 0 (d + 1) h (by omega) (by omega) (by omega) x
  exact ⟨h', by simpa using r, e⟩
end Go.Proofs.Ytadmoackacickaa
