/- FnExactLex, as the small evaluator runs it. -/
import Derived.Test.YtadmoackacickaaXLex17
set_option linter.unusedSimpArgs false
namespace Go.Proofs.Ytadmoackacickaa
open Go Go.AH

theorem beq_list (l : List UInt8) : (l == l) = true := by simp
theorem tokEq_self (t : Tok) : tokEq t t = true := by simp [tokEq]
theorem eqAll_self (ts : List Tok) : eqAll ts ts = true := by
  unfold eqAll
  simp only [beq_self_eq_true, Bool.true_and, List.all_eq_true]
  intro p hp
  have : p.1 = p.2 := by
    induction ts with
    | nil => simp at hp
    | cons t ts ih =>
      rw [List.zip_cons_cons, List.mem_cons] at hp
      rcases hp with rfl | hp
      · rfl
      · exact ih hp
  rw [this]; exact tokEq_self p.2
theorem ex3 (v : Value) (c n : Int) : aExt (.tuple (List.toArray [v, .int .i64 c, .int .i64 n])) 0 = some v ∧ aExt (.tuple (List.toArray [v, .int .i64 c, .int .i64 n])) 1 = some (.int .i64 c) ∧ aExt (.tuple (List.toArray [v, .int .i64 c, .int .i64 n])) 2 = some (.int .i64 n) := ⟨rfl, rfl, rfl⟩
theorem l16' {d : Nat} (hd : 3010 < d) {a b : Value} {xs : List Tok} {h : AHeap} (ha : TS h a xs) (hb : TS h b xs) (hs : xs.length ≤ 3000) :
    ∃ h', call Try.prog Ms (d + 4) 16 [a, b] h = some (.bool true, h') ∧ Ext h.size h h' := by
  obtain ⟨h', c, x⟩ := l16 (d := d + 2) (by omega) ha hb hs
  exact ⟨h', by rw [← eqAll_self xs]; exact c, x⟩
theorem l18' {d L : Nat} (hd : 3010 < d) (hL : L ≤ 3000) {v : Value} {h : AHeap} (x : TS h v (marked 1 L)) :
    ∃ h', call Try.prog Ms (d + 4) 18 [v, .int .i64 1] h = some (.int .i64 (1 + 4 * L), h') ∧ Ext h.size h h' := l18 (d := d + 2) (by omega) hL x
theorem l17' {d b : Nat} (hd : 3010 < d) {v : Value} {ts : List Tok} {h : AHeap} (x : OS b h v ts) (hs : ts.length ≤ 3000) :
    ∃ h', call Try.prog Ms (d + 4) 17 [v, .int .i64 1] h = some (.int .i64 (1 + 4 * ts.length), h') ∧ Ext b h h' ∧ OS b h' v (marked 1 ts.length) := l17 (d := d + 2) (by omega) x hs
theorem notNeg (n : Nat) : decide ((1 + 4 * (n : Int)) < 0) = false := by simp; omega
theorem g3_1 {d L : Nat} (hd : 3010 < d) (hL : L ≤ 3000) {v : Value} {h : AHeap} (x : TS h v (marked 1 L)) : ∃ h', s3_1 hk0 (call Try.prog Ms (d + 4)) (d + 4) v (1 + 4 * L) h = some (.bool true, h') := by
  obtain ⟨h8, c8, _⟩ := l18' hd hL x
  refine ⟨h8, ?_⟩
  rw [s3_1_j, s3_1_eq, c8, Option.bind_some]
  simp only [asI, if_true, Option.bind_some, notNeg, cond_false, bne_self_eq_false]
theorem g3_0 {d : Nat} (hd : 3010 < d) (s : ByteArray) {b : Nat} {h : AHeap} {v1 v2 : Value} (o : OS b h v2 (lexR s).1) (hb : b ≤ h.size) (w : ∀ h', Ext b h h' → TS h' v1 (lexR s).1) (hl : (lexR s).1.length ≤ 3000) :
    ∃ h', s3_0 hk0 (call Try.prog Ms (d + 4)) (d + 4) s v1 ((lexR s).2.1 : Int) ((lexR s).2.2 : Int) v2 h = some (.bool true, h') := by
  obtain ⟨h4, c4, x4, o4⟩ := l17' hd o hl
  obtain ⟨h5, c5, x5⟩ := l18' hd hl o4.ts
  have X5 := x4.trans (x5.mono (Nat.le_trans hb x4.size))
  obtain ⟨h6, v6, c6, x6, o6, _⟩ := l15 hd s h5
  have X6 := X5.trans (x6.mono (Nat.le_trans hb X5.size))
  obtain ⟨h7, c7, x7⟩ := l16' hd o6.ts (w h6 X6) hl
  have o7 : TS h7 v2 (marked 1 (lexR s).1.length) := ((o4.ts.ext x5).ext x6).ext x7
  obtain ⟨h8, c8⟩ := g3_1 hd hl o7
  refine ⟨h8, ?_⟩
  rw [s3_0_j, s3_0_eq, c4, Option.bind_some]
  simp only [asI, if_true, Option.bind_some]
  rw [c5, Option.bind_some]
  simp only [asI, if_true, Option.bind_some, notNeg, cond_false, bne_self_eq_false]
  rw [c6, Option.bind_some]
  simp only [ex3, Option.bind_some, asI, if_true]
  rw [c7, Option.bind_some]
  simp only [asB, Option.bind_some, Bool.not_true, cond_false, bne_self_eq_false]
  exact c8
theorem l3 {d : Nat} (hd : 3010 < d) (s : ByteArray) (h : AHeap) : ∃ h', call Try.prog Ms (d + 5) 3 [.string s] h = some (.bool true, h') := by
  rw [c3, e3]
  by_cases hbig : ((s.size : Int) > 1048576)
  · rw [decide_eq_true hbig, cond_true]; exact ⟨h, rfl⟩
  · rw [decide_eq_false hbig, cond_false]
    obtain ⟨h1, v1, c1, _, o1, hl⟩ := l14 hd s h
    obtain ⟨h2, v2, c2, x2, o2, _⟩ := l15 hd s h1
    have w2 : TS h2 v1 (lexR s).1 := o1.ts.ext x2
    obtain ⟨h3, c3, x3⟩ := l16' hd o2.ts w2 hl
    have X3 := x2.trans (x3.mono x2.size)
    obtain ⟨h8, c8⟩ := g3_0 hd s (o2.ext x3) X3.size (fun h' x => o1.ts.ext (X3.trans x)) hl
    refine ⟨h8, ?_⟩
    clear hl o1 o2 w2 X3 x3 x2
    generalize (lexR s).2.1 = k1 at c1 c2 c8
    generalize (lexR s).2.2 = k2 at c1 c2 c8
    rw [c1, Option.bind_some]
    simp only [ex3, Option.bind_some, asI, if_true]
    rw [c2, Option.bind_some]
    simp only [ex3, Option.bind_some, asI, if_true]
    rw [c3, Option.bind_some]
    simp only [asB, Option.bind_some, Bool.not_true, cond_false]
    rw [bne_self_eq_false, cond_false, bne_self_eq_false, cond_false, c8]
end Go.Proofs.Ytadmoackacickaa
