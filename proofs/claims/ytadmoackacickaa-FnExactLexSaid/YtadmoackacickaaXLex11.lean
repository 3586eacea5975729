/- impl's token: the ends of its walks. -/
import Derived.Test.YtadmoackacickaaXLexM
set_option linter.unusedSimpArgs false
namespace Go.Proofs.Ytadmoackacickaa
open Go Go.AH

def tkv (k a : Int) (t : ByteArray) (i : Int) : Value := .agg (List.toArray [.int .i64 k, .int .i64 a, .string t, .int .i64 i])
theorem ret53 {b : Nat} {h : AHeap} {p : Nat} {t : Tok} (x : TB b h p t) (u : Tok) (n c : Int) : ∃ h', ((aSt h (ptr p 0) (.agg (List.toArray [.int .i64 u.k, .int .i64 u.at', .string u.text, .int .i64 u.i])) 4).bind fun h1 => (aLdN h1 (ptr p 0) 4).bind fun v =>
    bif List.all [v, .int .i64 n, .int .i64 c] isS2 then some (Value.tuple (List.toArray [v, .int .i64 n, .int .i64 c]), h1) else none) = some (.tuple (List.toArray [u.val, .int .i64 n, .int .i64 c]), h') ∧ Ext b h h' := by
  obtain ⟨h1, s1, x1, t1⟩ := x.stAll u
  refine ⟨h1, ?_, x1⟩
  have s1' : aSt h (ptr p 0) (.agg (List.toArray [.int .i64 u.k, .int .i64 u.at', .string u.text, .int .i64 u.i])) 4 = some h1 := s1
  rw [s1', Option.bind_some, TB.ldAll t1.row, Option.bind_some]; rfl
theorem r53_3 {C : ACall} {N b p : Nat} {h : AHeap} {t : Tok} (x : TB b h p t) : ∃ h', s53_3 hk0 C N (ptr p 0) h = some (.tuple (List.toArray [tok0.val, .int .i64 0, .int .i64 2]), h') ∧ Ext b h h' := by
  rw [s53_3_j, s53_3_eq]; exact ret53 x tok0 0 2
theorem r53_1 {C : ACall} {N b p i e : Nat} {s : ByteArray} {h : AHeap} {t : Tok} (x : TB b h p t) (h1 : i + 1 ≤ e) (h2 : e ≤ s.size) (hs : s.size ≤ 3000) :
    ∃ h', s53_1 hk0 C N s (i : Int) (ptr p 0) (e : Int) h = some (.tuple (List.toArray [(⟨4, i, s.extract (i + 1) e, 0⟩ : Tok).val, .int .i64 ((e + 1 : Nat) - (i : Int)), .int .i64 0]), h') ∧ Ext b h h' := by
  have w1 : IntKind.i64.wrap ((i : Int) + 1) = ((i + 1 : Nat) : Int) := by rw [wr (by omega) (by omega)]; omega
  have w2 : IntKind.i64.wrap ((e : Int) + 1) = ((e + 1 : Nat) : Int) := by rw [wr (by omega) (by omega)]; omega
  have w3 : IntKind.i64.wrap (((e + 1 : Nat) : Int) - (i : Int)) = ((e + 1 : Nat) : Int) - (i : Int) := wr (by omega) (by omega)
  rw [s53_1_j, s53_1_eq, w1, w2, w3, subS h1 h2]
  simp only [Option.bind_some, asS]
  exact ret53 x ⟨4, i, s.extract (i + 1) e, 0⟩ _ 0
theorem TB.stOther {b c : Nat} {h : AHeap} {p q : Nat} {t u : Tok} (x : TB b h p t) (y : TB c h q u) (hpc : p < c) (v : Tok) :
    ∃ h', aSt h (ptr p 0) v.val 4 = some h' ∧ Ext b h h' ∧ TB b h' p v ∧ Row h' q u.cells := by
  obtain ⟨h', h1, h2, h3, _, k⟩ := Own.st (off := 0) (n := 4) x v.aCells rfl (Nat.le_refl _)
  refine ⟨h', h1, h2, h3, k q _ y.row (fun o ho ⟨_, oi, hoi, hr⟩ => ?_) (by have := Own.lt y; omega)⟩
  obtain ⟨r, ep, hq, hr2⟩ := y
  rw [hq] at ho
  cases ho
  have := (at?_obj hoi).2.2.1
  simp only at hr
  omega
theorem r53_0 {C : ACall} {N b c p q : Nat} {h : AHeap} {t u : Tok} (x : TB b h p t) (y : TB c h q u) (hpc : p < c) :
    ∃ h', s53_0 hk0 C N (ptr p 0) (ptr q 0) h = some (.tuple (List.toArray [u.val, .int .i64 u.text.size, .int .i64 0]), h') ∧ Ext b h h' := by
  obtain ⟨h1, s1, x1, t1, k⟩ := x.stOther y hpc u
  refine ⟨h1, ?_, x1⟩
  obtain ⟨_, _, a2, _⟩ := ld_at y.row
  obtain ⟨_, _, b2, _⟩ := ld_at k
  rw [s53_0_j, s53_0_eq]
  simp only [TB.ldAll y.row, aOff_ptr, Nat.zero_add, a2, b2, s1, Option.bind_some, asS, vbeq_str, cond_true, TB.ldAll t1.row]
  rfl
theorem cond_orr {α : Type} (b c : Bool) (x y : α) : (bif b then x else (bif c then x else y)) = bif b || c then x else y := by cases b <;> rfl
def oneM (x : Int) : Bool := [123, 125, 40, 41, 91, 93, 59, 44, 46, 61, 60, 43, 45, 42, 47, 37, 35].any fun y => x == y
theorem r53_2 {C : ACall} {N b p i : Nat} {x7 : Int} {s : ByteArray} {h : AHeap} {t : Tok} (x : TB b h p t) (h2 : i < s.size) (hs : s.size ≤ 3000) :
    ∃ h', s53_2 hk0 C N s (i : Int) (ptr p 0) x7 h = some (.tuple (List.toArray [(if oneM x7 then ⟨5, i, s.extract i (i + 1), 0⟩ else tok0 : Tok).val, .int .i64 (if oneM x7 then 1 else 0), .int .i64 (if oneM x7 then 0 else 2)]), h') ∧ Ext b h h' := by
  have w1 : IntKind.i64.wrap ((i : Int) + 1) = ((i + 1 : Nat) : Int) := by rw [wr (by omega) (by omega)]; omega
  obtain ⟨h3, e3, x3⟩ := r53_3 (C := C) (N := N) x
  obtain ⟨h4, e4, x4⟩ := ret53 x ⟨5, i, s.extract i (i + 1), 0⟩ 1 0
  rw [s53_2_j, s53_2_eq, w1, subS (Nat.le_succ i) h2]
  simp only [Option.bind_some, asS, e3]
  simp only [e4]
  simp only [cond_twice, cond_orr]
  cases hb : oneM x7 with
  | true =>
    refine ⟨h4, ?_, x4⟩
    simp only [oneM, List.any_cons, List.any_nil, Bool.or_false] at hb
    rw [hb]; rfl
  | false =>
    refine ⟨h3, ?_, x3⟩
    simp only [oneM, List.any_cons, List.any_nil, Bool.or_false] at hb
    rw [hb]; rfl
end Go.Proofs.Ytadmoackacickaa
