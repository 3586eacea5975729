/- The reference's token: ends and loops. -/
import Derived.Test.YtadmoackacickaaXLex13
set_option linter.unusedSimpArgs false
namespace Go.Proofs.Ytadmoackacickaa
open Go Go.AH

theorem cond_same {α : Type} {c : Bool} {x y : α} (h : c = true → x = y) : (bif c then x else y) = y := by
  cases c with
  | false => rfl
  | true => exact h rfl
theorem skip {R : Type} {p : Int → Bool} {s : ByteArray} (f : Nat → Int → R) (hf : ∀ (n j : Nat), j < s.size → p (bt s j) = true → f (n + 1) (j : Int) = f n ((j + 1 : Nat) : Int)) :
    ∀ (k j m : Nat), s.size - j = k → j ≤ s.size → k < m → ∃ m', f m (j : Int) = f (m' + 1) ((endOf p s j : Nat) : Int) := by
  intro k
  induction k with
  | zero =>
    intro j m hk hj hm
    obtain ⟨m, rfl⟩ : ∃ q, m = q + 1 := ⟨m - 1, by omega⟩
    rw [endOf_stop (by omega)]
    exact ⟨m, rfl⟩
  | succ k ih =>
    intro j m hk hj hm
    obtain ⟨m, rfl⟩ : ∃ q, m = q + 1 := ⟨m - 1, by omega⟩
    by_cases hp : p (bt s j) = true
    · rw [hf m j (by omega) hp, endOf_step (by omega) hp]
      exact ih (j + 1) m (by omega) (by omega) (by omega)
    · rw [endOf_stop (by simp [hp])]
      exact ⟨m, rfl⟩
theorem endOf_no {p : Int → Bool} {s : ByteArray} : ∀ (k j : Nat), s.size - j = k → endOf p s j < s.size → p (bt s (endOf p s j)) = false := by
  intro k
  induction k with
  | zero => intro j hk h; rw [endOf_stop (by omega)] at h; omega
  | succ k ih =>
    intro j hk h
    by_cases hp : p (bt s j) = true
    · rw [endOf_step (by omega) hp] at h ⊢
      exact ih (j + 1) (by omega) h
    · rw [endOf_stop (by simp [hp])]
      simpa using hp
def Is50 (b : Nat) (h : AHeap) (r : Option (Value × AHeap)) (T : Tok × Nat × Nat) : Prop :=
  ∃ (h' : AHeap) (t : Tok) (e : Int), r = some (.tuple (List.toArray [t.val, .int .i64 (T.2.1 : Int), .int .i64 e]), h') ∧ Ext b h h' ∧ (T.2.1 = 0 → t = T.1 ∧ e = (T.2.2 : Int))
theorem Is50.of {b : Nat} {h h1 : AHeap} {r : Option (Value × AHeap)} {T : Tok × Nat × Nat} (x : Ext b h h1) (y : Is50 b h1 r T) : Is50 b h r T :=
  let ⟨h', t, e, h1, h2, h3⟩ := y; ⟨h', t, e, h1, x.trans h2, h3⟩
theorem ret50 {b c : Nat} {h : AHeap} {p q : Nat} {t u : Tok} {T : Tok × Nat × Nat} (x : TB b h p t) (y : TB c h q u) {k e : Int} (hk : k = (T.2.1 : Int)) (hT : T.2.1 = 0 → u = T.1 ∧ e = (T.2.2 : Int)) :
    Is50 b h ((aLdN h (ptr q 0) 4).bind fun v => (aSt h (ptr p 0) v 4).bind fun h1 => (aLdN h1 (ptr p 0) 4).bind fun v' => bif List.all [v', .int .i64 k, .int .i64 e] isS2 then some (Value.tuple (List.toArray [v', .int .i64 k, .int .i64 e]), h1) else none) T := by
  obtain ⟨h1, s1, x1, t1⟩ := x.stAll u
  refine ⟨h1, u, e, ?_, x1, hT⟩
  subst hk
  rw [TB.ldAll y.row, Option.bind_some, s1, Option.bind_some, TB.ldAll t1.row, Option.bind_some]; rfl
theorem g50_1 {C : ACall} {N b c p q e : Nat} {h : AHeap} {t u : Tok} (x : TB b h p t) (y : TB c h q u) : Is50 b h (s50_1 hk0 C N (ptr p 0) (e : Int) (ptr q 0) h) (u, 0, e) := by
  rw [s50_1_j, s50_1_eq]; exact ret50 x y rfl (fun _ => ⟨rfl, rfl⟩)
theorem g50_6 {C : ACall} {N b c p q i e : Nat} {s : ByteArray} {h : AHeap} {t : Tok} (x : TB b h p t) (y : TB c h q ⟨0, i, ⟨#[]⟩, 0⟩) (hpc : p < c) (hbc : b ≤ c) (h1 : i + 1 ≤ e) (h2 : e ≤ s.size) (hs : s.size ≤ 3000) :
    Is50 b h (s50_6 hk0 C N s (i : Int) (ptr p 0) (e : Int) (ptr q 0) h) (⟨4, i, s.extract (i + 1) e, 0⟩, 0, e + 1) := by
  have w1 : IntKind.i64.wrap ((i : Int) + 1) = ((i + 1 : Nat) : Int) := by rw [wr (by omega) (by omega)]; omega
  have w2 : IntKind.i64.wrap ((e : Int) + 1) = ((e + 1 : Nat) : Int) := by rw [wr (by omega) (by omega)]; omega
  obtain ⟨h3, s3, x3, y3⟩ := y.stK 4
  obtain ⟨h4, s4, x4, y4⟩ := y3.stT (s.extract (i + 1) e)
  have z := (x.ext x3 hpc).ext x4 hpc
  rw [s50_6_j, s50_6_eq, w1, w2, subS h1 h2]
  simp only [aOff_ptr, Nat.zero_add, Option.bind_some, s3, asS, s4]
  exact Is50.of ((x3.trans x4).mono hbc) (ret50 z y4 rfl (fun _ => ⟨rfl, rfl⟩))
theorem num50 {C : ACall} {N p q e b c : Nat} {s : ByteArray} (hs : s.size ≤ 3000) (he : e ≤ s.size) : ∀ (n i m : Nat) (t u : Tok) (h : AHeap), e - i = n → i ≤ e → n < m → TB b h p t → TB c h q u → p < c → b ≤ c →
    Is50 b h (s50_4 hk0 C N m s (ptr p 0) (e : Int) (ptr q 0) (i : Int) h) ({ u with i := numGo s n i u.i }, 0, e) := by
  intro n
  induction n with
  | zero =>
    intro i m t u h hn hi hm tp tq hpc hbc
    obtain ⟨m, rfl⟩ : ∃ k, m = k + 1 := ⟨m - 1, by omega⟩
    have : ¬ ((i : Int) < (e : Int)) := by omega
    rw [s50_4_eq]
    simp only [this, decide_false, cond_false]
    exact ret50 tp tq rfl (fun _ => ⟨rfl, rfl⟩)
  | succ n ih =>
    intro i m t u h hn hi hm tp tq hpc hbc
    obtain ⟨m, rfl⟩ : ∃ k, m = k + 1 := ⟨m - 1, by omega⟩
    have hI : (i : Int) < (e : Int) := by omega
    obtain ⟨_, _, _, a3⟩ := ld_at tq.row
    obtain ⟨h1, s1, x1, t1⟩ := tq.stI (IntKind.i64.wrap ((IntKind.i64.wrap (u.i * 10)) + (IntKind.i64.wrap (IntKind.u8.wrap (bt s i - 48)))))
    have r := ih (i + 1) m t _ h1 (by omega) (by omega) (by omega) (tp.ext x1 hpc) t1 hpc hbc
    have wj : IntKind.i64.wrap ((i : Int) + 1) = ((i + 1 : Nat) : Int) := by rw [wr (by omega) (by omega)]; omega
    rw [s50_4_eq]
    simp only [hI, decide_true, cond_true, aOff_ptr, Nat.zero_add, a3, Option.bind_some, asI, if_true, strIx (show i < s.size by omega), s1, wj]
    refine Is50.of (x1.mono hbc) ?_
    rw [numGo, show 10 * u.i = u.i * 10 by omega]
    exact r
theorem g50_3 {C : ACall} {N b c p q i e : Nat} {s : ByteArray} {h : AHeap} {t : Tok} (x : TB b h p t) (y : TB c h q ⟨0, i, ⟨#[]⟩, 0⟩) (hpc : p < c) (hbc : b ≤ c) (h1 : i ≤ e) (h2 : e ≤ s.size) (hs : s.size ≤ 3000) (hN : 3000 < N) :
    Is50 b h (s50_3 hk0 C N s (i : Int) (ptr p 0) (e : Int) (ptr q 0) h) (⟨3, i, s.extract i e, numGo s (e - i) i 0⟩, 0, e) := by
  obtain ⟨h3, s3, x3, y3⟩ := y.stK 3
  obtain ⟨h4, s4, x4, y4⟩ := y3.stT (s.extract i e)
  have z := (x.ext x3 hpc).ext x4 hpc
  rw [s50_3_j, s50_3_eq, subS h1 h2]
  simp only [aOff_ptr, Nat.zero_add, Option.bind_some, s3, asS, s4]
  exact Is50.of ((x3.trans x4).mono hbc) (num50 hs h2 (e - i) i N t _ h4 rfl h1 (by omega) z y4 hpc hbc)
end Go.Proofs.Ytadmoackacickaa
