/- Tokens are marked; marks are held. -/
import Derived.Test.YtadmoackacickaaXLex6
set_option linter.unusedSimpArgs false
namespace Go.Proofs.Ytadmoackacickaa
open Go Go.AH

def mTok (k : Int) : Tok := ⟨k, k + 1, markT (k + 2), k + 3⟩
def marked : Int → Nat → List Tok
  | _, 0 => []
  | k, n + 1 => mTok k :: marked (k + 4) n
theorem splice_at (pre l : List Value) (a v : Value) {n : Nat} (hn : n = pre.length) : splice (pre ++ a :: l) n [v] = pre ++ v :: l := by
  subst hn
  simp [splice]
/-- One cell is written. -/
theorem Own.st1 {b : Nat} {h : AHeap} {i n : Nat} {pre l : List Value} {a v : Value} (x : Own b h i 53 (pre ++ a :: l)) (hn : n = pre.length) (hv : aCells v = some [v]) :
    ∃ h', aSt h (ptr i n) v 1 = some h' ∧ Ext b h h' ∧ Own b h' i 53 (pre ++ v :: l) := by
  obtain ⟨h', h1, h2, h3, _, _⟩ := x.st (off := n) (n := 1) hv rfl (by subst hn; simp)
  exact ⟨h', h1, h2, by rw [splice_at pre l a v hn] at h3; exact h3⟩
theorem flat_app (xs ys : List Tok) : flat (xs ++ ys) = flat xs ++ flat ys := by simp [flat]
theorem mark_loop {d N i b : Nat} (hd : 3000 < d) : ∀ (n : Nat) (done todo : List Tok) (m : Nat) (k : Int) (h : AHeap), todo.length = n → n < m → done.length + n ≤ 3000 → 0 ≤ k → k + 4 * n ≤ 100000 →
    Own b h i 53 (flat done ++ flat todo) →
    ∃ h', s17_0 hk0 (call Try.prog Ms (d + 1)) N m (slc i 0 (done.length + n)) k (done.length : Int) h = some (.int .i64 (k + 4 * n), h') ∧ Ext b h h' ∧ Own b h' i 53 (flat done ++ flat (marked k n)) := by
  intro n
  induction n with
  | zero =>
    intro done todo m k h ht hm hs hk0' hk ho
    obtain ⟨m, rfl⟩ : ∃ q, m = q + 1 := ⟨m - 1, by omega⟩
    have : todo = [] := List.length_eq_zero_iff.1 ht
    subst this
    refine ⟨h, ?_, Ext.refl _ _, ho⟩
    rw [s17_0_eq]
    simp [aLen, slc, asI]
  | succ n ih =>
    intro done todo m k h ht hm hs hk0' hk ho
    obtain ⟨m, rfl⟩ : ∃ q, m = q + 1 := ⟨m - 1, by omega⟩
    cases todo with
    | nil => simp at ht
    | cons t todo =>
      have hI : (done.length : Int) < ((done.length + (n + 1) : Nat) : Int) := by omega
      have hlen : aLen (slc i 0 (done.length + (n + 1))) = some (.int .i64 ((done.length + (n + 1) : Nat) : Int)) := rfl
      have hix : aIdx (slc i 0 (done.length + (n + 1))) (.int .i64 (done.length : Int)) 4 = some (ptr i (done.length * 4)) := by simp [aIdx, slc]; omega
      have hfl := flat_len done
      have e0 : flat done ++ flat (t :: todo) = flat done ++ .int .i64 t.k :: (.int .i64 t.at' :: .string t.text :: .int .i64 t.i :: flat todo) := by simp [flat, Tok.cells]
      rw [e0] at ho
      obtain ⟨h1, s1, x1, o1⟩ := Own.st1 (v := .int .i64 k) ho (n := done.length * 4) hfl.symm rfl
      rw [show flat done ++ Value.int .i64 k :: (.int .i64 t.at' :: .string t.text :: .int .i64 t.i :: flat todo) = (flat done ++ [.int .i64 k]) ++ .int .i64 t.at' :: (.string t.text :: .int .i64 t.i :: flat todo) by simp] at o1
      obtain ⟨h2, s2, x2, o2⟩ := Own.st1 (v := .int .i64 (k + 1)) o1 (n := done.length * 4 + 1) (by simp [hfl]) rfl
      obtain ⟨h3, c3, x3⟩ := l55 hd (x := k + 2) (Int.lt_of_le_of_lt (b := 100000) (by omega) (by decide)) h2
      have o3 := o2.ext x3 o2.lt.2
      rw [show (flat done ++ [Value.int .i64 k]) ++ .int .i64 (k + 1) :: (.string t.text :: .int .i64 t.i :: flat todo) = (flat done ++ [.int .i64 k, .int .i64 (k + 1)]) ++ .string t.text :: (.int .i64 t.i :: flat todo) by simp] at o3
      obtain ⟨h4, s4, x4, o4⟩ := Own.st1 (v := .string (markT (k + 2))) o3 (n := done.length * 4 + 2) (by simp [hfl]) rfl
      rw [show (flat done ++ [Value.int .i64 k, .int .i64 (k + 1)]) ++ .string (markT (k + 2)) :: (.int .i64 t.i :: flat todo) = (flat done ++ [.int .i64 k, .int .i64 (k + 1), .string (markT (k + 2))]) ++ .int .i64 t.i :: flat todo by simp] at o4
      obtain ⟨h5, s5, x5, o5⟩ := Own.st1 (v := .int .i64 (k + 3)) o4 (n := done.length * 4 + 3) (by simp [hfl]) rfl
      rw [show (flat done ++ [Value.int .i64 k, .int .i64 (k + 1), .string (markT (k + 2))]) ++ .int .i64 (k + 3) :: flat todo = flat (done ++ [mTok k]) ++ flat todo by simp [flat_app, flat, mTok, Tok.cells]] at o5
      obtain ⟨h6, r6, x6, o6⟩ := ih (done ++ [mTok k]) todo m (k + 4) h5 (by simpa using ht) (by omega) (by simp; omega) (by omega) (by omega) o5
      refine ⟨h6, ?_, x1.trans (x2.trans ((x3.mono (Nat.le_of_lt (Nat.lt_of_le_of_lt o2.lt.1 o2.lt.2))).trans (x4.trans (x5.trans x6)))), ?_⟩
      · have w1 : IntKind.i64.wrap (k + 1) = k + 1 := wr (by omega) (by omega)
        have w2 : IntKind.i64.wrap (k + 1 + 1) = k + 2 := by rw [wr (by omega) (by omega)]; omega
        have w3 : IntKind.i64.wrap (k + 2 + 1) = k + 3 := by rw [wr (by omega) (by omega)]; omega
        have w4 : IntKind.i64.wrap (k + 3 + 1) = k + 4 := by rw [wr (by omega) (by omega)]; omega
        have wj : IntKind.i64.wrap ((done.length : Int) + 1) = ((done ++ [mTok k]).length : Int) := by rw [wr (by omega) (by omega)]; simp
        rw [s17_0_eq]
        simp only [hlen, Option.bind_some, asI, if_true, hI, decide_true, cond_true, hix, aOff_ptr, Nat.add_zero, s1, w1, s2, w2, c3, asS, s4, w3, s5, w4, wj]
        rw [show done.length + (n + 1) = (done ++ [mTok k]).length + n by simp; omega, r6]
        rw [show k + 4 + 4 * (n : Int) = k + 4 * ((n + 1 : Nat) : Int) by omega]
      · rw [show flat done ++ flat (marked k (n + 1)) = flat (done ++ [mTok k]) ++ flat (marked (k + 4) n) by simp [marked, flat_app, flat]]
        exact o6
/-- A slice of tokens that may be written. -/
def OS (b : Nat) (h : AHeap) (v : Value) (ts : List Tok) : Prop := (v = .slice none 0 0 ∧ ts = []) ∨ ∃ i, v = slc i 0 ts.length ∧ Own b h i 53 (flat ts)
theorem OS.ts {b : Nat} {h : AHeap} {v : Value} {ts : List Tok} (x : OS b h v ts) : TS h v ts := by
  rcases x with hx | ⟨i, hv, ho⟩
  · exact .inl hx
  · exact .inr ⟨i, hv, ho.row, ho.lt.2⟩
theorem OS.ext {b : Nat} {h h' : AHeap} {v : Value} {ts : List Tok} (x : OS b h v ts) (e : Ext h.size h h') : OS b h' v ts := by
  rcases x with hx | ⟨i, hv, ho⟩
  · exact .inl hx
  · exact .inr ⟨i, hv, ho.ext e ho.lt.2⟩
theorem marked_len (k : Int) (n : Nat) : (marked k n).length = n := by
  induction n generalizing k with
  | zero => rfl
  | succ n ih => simp [marked, ih]
theorem l17 {d b : Nat} (hd : 3000 < d) {v : Value} {ts : List Tok} {h : AHeap} (x : OS b h v ts) (hs : ts.length ≤ 3000) :
    ∃ h', call Try.prog Ms (d + 2) 17 [v, .int .i64 1] h = some (.int .i64 (1 + 4 * ts.length), h') ∧ Ext b h h' ∧ OS b h' v (marked 1 ts.length) := by
  rw [c17, e17]
  rcases x with ⟨rfl, rfl⟩ | ⟨i, rfl, ho⟩
  · refine ⟨h, ?_, Ext.refl _ _, .inl ⟨rfl, rfl⟩⟩
    rw [s17_0_eq]; simp [aLen, asI]
  · obtain ⟨h', r, e, o⟩ := mark_loop (N := d + 1) (i := i) (b := b) hd ts.length [] ts (d + 1) 1 h rfl (by omega) (by simpa using hs) (by omega) (by omega) (by simpa [flat] using ho)
    refine ⟨h', ?_, e, .inr ⟨i, by rw [marked_len], by simpa [flat] using o⟩⟩
    simpa using r
end Go.Proofs.Ytadmoackacickaa
