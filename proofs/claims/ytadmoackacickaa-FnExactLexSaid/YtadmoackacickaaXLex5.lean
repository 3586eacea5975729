/- Slices of tokens. -/
import Derived.Test.YtadmoackacickaaXLex4
set_option linter.unusedSimpArgs false
namespace Go.Proofs.Ytadmoackacickaa
open Go Go.AH

def flat (ts : List Tok) : List Value := (ts.map Tok.cells).flatten
theorem flat_len : ∀ ts : List Tok, (flat ts).length = ts.length * 4
  | [] => rfl
  | t :: ts => by
    have := flat_len ts
    simp only [flat, List.map_cons, List.flatten_cons, List.length_append, List.length_cons] at *
    simp only [Tok.cells, List.length_cons, List.length_nil] at *
    omega
theorem flat_at : ∀ (ts : List Tok) (j : Nat) (hj : j < ts.length), ((flat ts).drop (j * 4)).take 4 = ts[j].cells
  | t :: ts, 0, _ => by simp [flat, Tok.cells]
  | t :: ts, j + 1, hj => by
    have := flat_at ts j (by simpa using hj)
    rw [show (j + 1) * 4 = 4 + j * 4 by omega, ← List.drop_drop]
    simpa [flat, Tok.cells] using this
/-- A slice of tokens. -/
def TS (h : AHeap) (v : Value) (ts : List Tok) : Prop := (v = .slice none 0 0 ∧ ts = []) ∨ ∃ i, v = slc i 0 ts.length ∧ Row h i (flat ts) ∧ i < h.size
theorem TS.len {h : AHeap} {v : Value} {ts : List Tok} (x : TS h v ts) : aLen v = some (.int .i64 ts.length) := by
  rcases x with ⟨rfl, rfl⟩ | ⟨i, rfl, _, _⟩ <;> rfl
theorem TS.ext {h h' : AHeap} {v : Value} {ts : List Tok} (x : TS h v ts) (e : Ext h.size h h') : TS h' v ts := by
  rcases x with hx | ⟨i, hv, hr, hi⟩
  · exact .inl hx
  · exact .inr ⟨i, hv, hr.ext e hi, Nat.lt_of_lt_of_le hi e.size⟩
theorem TS.at' {h : AHeap} {v : Value} {ts : List Tok} (x : TS h v ts) {j : Nat} (hj : j < ts.length) : ∃ p, aIdx v (.int .i64 (j : Int)) 4 = some p ∧ aLdN h p 4 = some ts[j].val := by
  rcases x with ⟨rfl, rfl⟩ | ⟨i, rfl, hr, _⟩
  · simp at hj
  · refine ⟨ptr i (j * 4), by simp [aIdx, slc, hj], ?_⟩
    rw [hr.ldN (by rw [flat_len]; omega), flat_at ts j hj]; rfl
def eqAll (xs ys : List Tok) : Bool := xs.length == ys.length && (xs.zip ys).all fun p => tokEq p.1 p.2
theorem eq_loop {d N : Nat} {a b : Value} {xs ys : List Tok} (hl : xs.length = ys.length) (hs : xs.length ≤ 3000) : ∀ (n j m : Nat) (h : AHeap), xs.length - j = n → j ≤ xs.length → n < m → TS h a xs → TS h b ys →
    ∃ h', s16_0 hk0 (call Try.prog Ms (d + 1)) N m a b (j : Int) h = some (.bool (((xs.drop j).zip (ys.drop j)).all fun p => tokEq p.1 p.2), h') ∧ Ext h.size h h' := by
  intro n
  induction n with
  | zero =>
    intro j m h hn hj hm ha hb
    obtain ⟨m, rfl⟩ : ∃ k, m = k + 1 := ⟨m - 1, by omega⟩
    have : ¬ ((j : Int) < (xs.length : Int)) := by omega
    refine ⟨h, ?_, Ext.refl _ _⟩
    rw [s16_0_eq, List.drop_eq_nil_of_le (by omega)]
    simp [ha.len, asI, this]
  | succ n ih =>
    intro j m h hn hj hm ha hb
    obtain ⟨m, rfl⟩ : ∃ k, m = k + 1 := ⟨m - 1, by omega⟩
    have hlt : j < xs.length := by omega
    have hlt2 : j < ys.length := by omega
    have hI : (j : Int) < (xs.length : Int) := by omega
    obtain ⟨p, hp1, hp2⟩ := ha.at' hlt
    obtain ⟨q, hq1, hq2⟩ := hb.at' hlt2
    obtain ⟨h1, hc, he⟩ := l54 d xs[j] ys[j] h
    rw [s16_0_eq, List.drop_eq_getElem_cons hlt, List.drop_eq_getElem_cons hlt2]
    simp only [ha.len, Option.bind_some, asI, if_true, hI, decide_true, cond_true, hp1, hp2, hq1, hq2, hc, asB, List.zip_cons_cons, List.all_cons]
    cases tokEq xs[j] ys[j] with
    | false => exact ⟨h1, rfl, he⟩
    | true =>
      simp only [Bool.not_true, cond_false, Bool.true_and]
      rw [wr (by omega) (by omega)]
      obtain ⟨h2, hr, he2⟩ := ih (j + 1) m h1 (by omega) (by omega) (by omega) (ha.ext he) (hb.ext he)
      exact ⟨h2, hr, he.trans (he2.mono he.size)⟩
theorem l16 {d : Nat} (hd : 3000 < d) {a b : Value} {xs ys : List Tok} {h : AHeap} (ha : TS h a xs) (hb : TS h b ys) (hs : xs.length ≤ 3000) :
    ∃ h', call Try.prog Ms (d + 2) 16 [a, b] h = some (.bool (eqAll xs ys), h') ∧ Ext h.size h h' := by
  rw [c16, e16]
  simp only [ha.len, hb.len, Option.bind_some, asI, if_true]
  by_cases hl : xs.length = ys.length
  · obtain ⟨h', hr, he⟩ := eq_loop (d := d) (N := d + 1) (a := a) (b := b) hl hs _ 0 (d + 1) h rfl (by omega) (by omega) ha hb
    refine ⟨h', ?_, he⟩
    have : ((xs.length : Int) != (ys.length : Int)) = false := by simp [hl]
    rw [this, cond_false]
    rw [show ((0 : Nat) : Int) = 0 from rfl] at hr
    rw [hr]; simp [eqAll, hl]
  · refine ⟨h, ?_, Ext.refl _ _⟩
    have : ((xs.length : Int) != (ys.length : Int)) = true := by simp; omega
    rw [this]; simp [eqAll, hl]
end Go.Proofs.Ytadmoackacickaa
