import Derived.Test.YtadmoackacickaaXTreeA
/- The reference's looks at a node. -/
set_option linter.unusedSimpArgs false
namespace Go.Proofs.Ytadmoackacickaa
open Go Go.AH

def inR (x a b : Int) : Bool := decide (a ≤ x) && decide (x ≤ b)
theorem l98 (d : Nat) (x a b : Int) (h : AHeap) : call Try.prog Ms (d + 1) 98 [.int .i64 x, .int .i64 a, .int .i64 b] h = some (.bool (inR x a b), h) := by
  rw [c98, e98]; unfold inR
  by_cases h1 : a ≤ x
  · have : x ≥ a := h1
    rw [decide_eq_true this, cond_true]; rfl
  · have : ¬ x ≥ a := h1
    rw [decide_eq_false this, cond_false]; rfl
theorem l103 (d : Nat) (x a b : Int) (h : AHeap) : call Try.prog Ms (d + 1) 103 [.int .i64 x, .int .i64 a, .int .i64 b] h = some (.bool (inR x a b), h) := by
  rw [c103, e103]; unfold inR
  by_cases h1 : a ≤ x
  · have : x ≥ a := h1
    rw [decide_eq_true this, cond_true]; rfl
  · have : ¬ x ≥ a := h1
    rw [decide_eq_false this, cond_false]; rfl
def cls (k : Int) : Int := if inR k 1 13 = true then 1 else if inR k 14 20 = true then 2 else if k = 21 then 3 else if k = 22 then 4 else if k = 23 ∨ k = 24 then 5 else 0
theorem cond_pass {α : Type} (b : Bool) (f : Bool → α) : (bif b then f true else f b) = f b := by cases b <;> rfl
theorem cond_ge (x a b : Int) (f : Bool → Option (Value × AHeap)) : (bif decide (x ≥ a) then f (decide (x ≤ b)) else f false) = f (inR x a b) := by
  unfold inR
  by_cases h1 : a ≤ x
  · have : x ≥ a := h1
    rw [decide_eq_true this, cond_true]; rfl
  · have : ¬ x ≥ a := h1
    rw [decide_eq_false this, cond_false]; rfl
theorem l99 (d : Nat) (k : Int) (h : AHeap) : call Try.prog Ms (d + 1) 99 [.int .i64 k] h = some (.int .i64 (cls k), h) := by
  rw [c99, e99]
  rw [cond_ge k 1 13 (fun b => s99_0 hk0 (call Try.prog Ms d) d k b h), s99_0_j, s99_0_eq, cond_ge k 14 20 (fun b => s99_1 hk0 (call Try.prog Ms d) d k b h), s99_1_j, s99_1_eq]
  unfold cls
  cases inR k 1 13 with
  | true => rfl
  | false =>
    cases inR k 14 20 with
    | true => rfl
    | false =>
      simp only [cond_false, if_false, Bool.false_eq_true]
      by_cases h1 : k = 21
      · subst h1; rfl
      · rw [beq_eq_false_iff_ne.2 h1, cond_false, if_neg h1]
        by_cases h2 : k = 22
        · subst h2; rfl
        · rw [beq_eq_false_iff_ne.2 h2, cond_false, if_neg h2]
          by_cases h3 : k = 23
          · subst h3; rw [if_pos (.inl rfl), show ((23 : Int) == 23) = true from rfl, cond_true, s99_2_j, s99_2_eq]; rfl
          · rw [beq_eq_false_iff_ne.2 h3, cond_false, s99_2_j, s99_2_eq]
            by_cases h4 : k = 24
            · subst h4; rfl
            · rw [beq_eq_false_iff_ne.2 h4, if_neg (fun x => x.elim h3 h4)]; rfl
theorem IOwn.push {b : Nat} {h : AHeap} {v : Value} {xs : List Int} (x : IOwn b h v xs) (hb : b ≤ h.size) (hl : xs.length ≤ 2000000) (y : Int) :
    ∃ v' h', aApp (h.new 3 [.int .i64 y]) 3 1 8 v (slc h.size 0 1) = some (v', h') ∧ Ext b h h' ∧ IOwn b h' v' (xs ++ [y]) := by
  obtain ⟨r, rfl, o⟩ := x
  have e := Ext.new (Nat.le_refl h.size) 3 [Value.int .i64 y]
  have w := (Own.new (b := 0) (Nat.zero_le h.size) 3 [Value.int .i64 y]).row
  have hS : (h.new 3 [Value.int .i64 y]).size = h.size + 1 := rfl
  have hsrc : aSrc (h.new 3 [Value.int .i64 y]) 1 (slc h.size 0 1) = some (1, [Value.int .i64 y]) := w.src (n := 1) (esz := 1) (by show 0 + 1 * 1 ≤ 1; omega)
  obtain ⟨h', s1, x1, o1, _⟩ := (o.ext e o.lt.2).app (n := xs.length) (bytes := 8) (esz := 1) (by omega) hsrc (by simp [ints]) (by show xs.length + 1 ≤ 140737488355328; omega) (by show (xs.length + 1) * 8 ≤ 140737488355328; omega)
  refine ⟨_, h', s1, (e.mono hb).trans x1, (h.new 3 [Value.int .i64 y]).size, by simp, ?_⟩
  rw [show ints (xs ++ [y]) = ints xs ++ [.int .i64 y] by simp [ints]]
  exact o1
theorem IOwn.newS {b : Nat} {h : AHeap} (hb : b ≤ h.size) (xs : List Int) : IOwn b (h.new 3 (ints xs)) (slc h.size 0 xs.length) xs := ⟨h.size, rfl, Own.new hb 3 (ints xs)⟩
theorem IOwn.len {b : Nat} {h : AHeap} {v : Value} {xs : List Int} (x : IOwn b h v xs) : aLen v = some (.int .i64 xs.length) := x.isl.len
theorem IOwn.s2 {b : Nat} {h : AHeap} {v : Value} {xs : List Int} (x : IOwn b h v xs) (t : Bool) : List.all [v, .bool t] isS2 = true := by obtain ⟨r, rfl, _⟩ := x; rfl
/-- What l9Shape tells. -/
def Is100 (b : Nat) (h : AHeap) (r : Option (Value × AHeap)) (m : Nat) (xs : List Int) : Prop :=
  ∃ v h', r = some (.tuple (List.toArray [v, .bool ((xs.length : Int) == (m : Int))]), h') ∧ Ext b h h' ∧ IOwn b h' v xs
theorem Is100.of {b : Nat} {h h1 : AHeap} {r : Option (Value × AHeap)} {m : Nat} {xs : List Int} (x : Ext b h h1) (y : Is100 b h1 r m xs) : Is100 b h r m xs := let ⟨v, h', h1, h2, h3⟩ := y; ⟨v, h', h1, x.trans h2, h3⟩
theorem shp0 {C : ACall} {N b m : Nat} {v : Value} {xs : List Int} {h : AHeap} (x : IOwn b h v xs) (hN : 0 < N) : Is100 b h (s100_4 hk0 C N (m : Int) v 0 h) m xs := by
  obtain ⟨N, rfl⟩ : ∃ q, N = q + 1 := ⟨N - 1, by omega⟩
  rw [s100_4_j, s100_4_eq, s100_5_eq]
  have e : ((0 : Int) != 0) = false := rfl
  rw [e, cond_false, x.len, Option.bind_some]
  simp only [asI, if_true, Option.bind_some, x.s2, cond_true, Bool.cond_self]
  exact ⟨v, h, rfl, Ext.refl _ _, x⟩
theorem shpAll {C : ACall} {N b m : Nat} {all : Int} (ha : all ≠ 0) (hm : m ≤ 1048576) : ∀ (k j n1 : Nat) (v : Value) (xs : List Int) (h : AHeap), m - j = k → j ≤ m → k < n1 → b ≤ h.size → xs.length = j → IOwn b h v xs →
    Is100 b h (s100_5 hk0 C N n1 (m : Int) v all (j : Int) h) m (xs ++ List.replicate k all) := by
  intro k
  induction k with
  | zero =>
    intro j n1 v xs h hk hj hn hb hx x
    obtain ⟨n1, rfl⟩ : ∃ q, n1 = q + 1 := ⟨n1 - 1, by omega⟩
    have : ¬ ((j : Int) < (m : Int)) := by omega
    rw [s100_5_eq, decide_eq_false this, cond_false, x.len, Option.bind_some]
    simp only [asI, if_true, Option.bind_some, x.s2, cond_true, List.replicate_zero, List.append_nil]
    exact ⟨v, h, rfl, Ext.refl _ _, x⟩
  | succ k ih =>
    intro j n1 v xs h hk hj hn hb hx x
    obtain ⟨n1, rfl⟩ : ∃ q, n1 = q + 1 := ⟨n1 - 1, by omega⟩
    have hI : ((j : Int) < (m : Int)) := by omega
    have hne : (all != 0) = true := by simp [ha]
    have wj : IntKind.i64.wrap ((j : Int) + 1) = ((j + 1 : Nat) : Int) := by rw [wr (by omega) (by omega)]; omega
    obtain ⟨v', h', c, x1, o⟩ := x.push hb (by omega) all
    rw [s100_5_eq, decide_eq_true hI, cond_true, hne, cond_true, s100_6_j, s100_6_eq]
    simp only [aNewS]
    rw [c, Option.bind_some, wj]
    have := ih (j + 1) n1 v' (xs ++ [all]) h' (by omega) (by omega) (by omega) (Nat.le_trans hb x1.size) (by simp [hx]) o
    rw [List.append_assoc] at this
    exact Is100.of x1 this
theorem shpFn {C : ACall} {N b m : Nat} (hm : m ≤ 1048576) (hN : 0 < N) : ∀ (k n1 : Nat) (v : Value) (xs : List Int) (h : AHeap), m - 1 - xs.length = k → k < n1 → b ≤ h.size → xs.length ≤ m → IOwn b h v xs →
    Is100 b h (s100_0 hk0 C N n1 (m : Int) v 0 h) m (xs ++ List.replicate k 4 ++ [3]) := by
  intro k
  induction k with
  | zero =>
    intro n1 v xs h hk hn hb hx x
    obtain ⟨n1, rfl⟩ : ∃ q, n1 = q + 1 := ⟨n1 - 1, by omega⟩
    have w : IntKind.i64.wrap ((xs.length : Int) + 1) = (xs.length : Int) + 1 := wr (by omega) (by omega)
    have : ¬ ((xs.length : Int) + 1 < (m : Int)) := by omega
    obtain ⟨v', h', c, x1, o⟩ := x.push hb (by omega) 3
    rw [s100_0_eq, x.len, Option.bind_some]
    simp only [asI, if_true, Option.bind_some, w, decide_eq_false this, cond_false, aNewS]
    rw [c, Option.bind_some]
    exact Is100.of x1 (by simpa using shp0 (C := C) o hN)
  | succ k ih =>
    intro n1 v xs h hk hn hb hx x
    obtain ⟨n1, rfl⟩ : ∃ q, n1 = q + 1 := ⟨n1 - 1, by omega⟩
    have w : IntKind.i64.wrap ((xs.length : Int) + 1) = (xs.length : Int) + 1 := wr (by omega) (by omega)
    have : ((xs.length : Int) + 1 < (m : Int)) := by omega
    obtain ⟨v', h', c, x1, o⟩ := x.push hb (by omega) 4
    rw [s100_0_eq, x.len, Option.bind_some]
    simp only [asI, if_true, Option.bind_some, w, decide_eq_true this, cond_true, aNewS]
    rw [c, Option.bind_some]
    have := ih n1 v' (xs ++ [4]) h' (by simp; omega) (by omega) (Nat.le_trans hb x1.size) (by simp; omega) o
    rw [List.append_assoc xs [4]] at this
    exact Is100.of x1 this
theorem shpCall {C : ACall} {N b m : Nat} (hm : m ≤ 1048576) (hN : 0 < N) : ∀ (k n1 : Nat) (v : Value) (xs : List Int) (h : AHeap), m - xs.length = k → k < n1 → b ≤ h.size → IOwn b h v xs → xs.length ≤ 1048576 →
    Is100 b h (s100_2 hk0 C N n1 (m : Int) v 0 h) m (xs ++ List.replicate k 1) := by
  intro k
  induction k with
  | zero =>
    intro n1 v xs h hk hn hb x hx
    obtain ⟨n1, rfl⟩ : ∃ q, n1 = q + 1 := ⟨n1 - 1, by omega⟩
    have : ¬ ((xs.length : Int) < (m : Int)) := by omega
    rw [s100_2_eq, x.len, Option.bind_some]
    simp only [asI, if_true, Option.bind_some, decide_eq_false this, cond_false, List.replicate_zero, List.append_nil]
    exact shp0 x hN
  | succ k ih =>
    intro n1 v xs h hk hn hb x hx
    obtain ⟨n1, rfl⟩ : ∃ q, n1 = q + 1 := ⟨n1 - 1, by omega⟩
    have : ((xs.length : Int) < (m : Int)) := by omega
    obtain ⟨v', h', c, x1, o⟩ := x.push hb (by omega) 1
    rw [s100_2_eq, x.len, Option.bind_some]
    simp only [asI, if_true, Option.bind_some, decide_eq_true this, cond_true, aNewS]
    rw [c, Option.bind_some]
    have := ih n1 v' (xs ++ [1]) h' (by simp; omega) (by omega) (Nat.le_trans hb x1.size) o (by simp; omega)
    rw [List.append_assoc] at this
    exact Is100.of x1 this
def two2 (k : Int) : Bool := k == 8 || (k == 10 || (k == 12 || (k == 13 || k == 24)))
def one1 (k : Int) : Bool := k == 11 || (k == 14 || (k == 15 || (k == 19 || k == 23)))
/-- The classes that kids must have. -/
def shape (k : Int) (m : Nat) : List Int :=
  if k = 6 then List.replicate (m - 1) 4 ++ [3]
  else if k = 7 then List.replicate m 5
  else if two2 k = true then [1, 1]
  else if k = 9 then [1] ++ List.replicate (m - 1) 1
  else if one1 k = true then [1]
  else if k = 16 then [1, 1, 1]
  else if k = 17 then (if m = 3 then [1, 3, 3] else [1, 3])
  else if k = 18 then [1, 3]
  else if k = 20 then [6]
  else if k = 21 then List.replicate m 2
  else []
theorem cond_pass2 {α : Type} {b c : Bool} (f : Bool → α) (y : α) (hy : y = f c) : (bif b then f b else y) = f (b || c) := by cases b <;> simp [hy]
theorem shpLit {C : ACall} {N b m : Nat} {h : AHeap} (hb : b ≤ h.size) (hN : 0 < N) (xs : List Int) : Is100 b h (s100_4 hk0 C N (m : Int) (slc h.size 0 xs.length) 0 (h.new 3 (ints xs))) m xs :=
  Is100.of (Ext.new hb 3 (ints xs)) (shp0 (IOwn.newS hb xs) hN)
theorem l100 {d c : Nat} (hd : 1048577 < d) {kv : Value} {n : Kn} {h : AHeap} (x : ISl c h kv n.ks) (hl : n.ks.length ≤ 1048576) :
    Is100 h.size h (call Try.prog Ms (d + 1) 100 [knVal n kv] h) n.ks.length (shape n.k n.ks.length) := by
  have e1 := Ext.new (Nat.le_refl h.size) 73 (knCells n kv)
  have r1 : Row (h.new 73 (knCells n kv)) h.size [.int .i64 n.k, .string n.t, .int .i64 n.i, kv] := (Own.new (b := h.size) (Nat.le_refl _) 73 (knCells n kv)).row
  have s1 : (h.new 73 (knCells n kv)).size = h.size + 1 := rfl
  rw [c100, e100, kn_aCells x, Option.bind_some]
  simp only [aNew]
  generalize h.new 73 (knCells n kv) = h1 at e1 r1 s1 ⊢
  obtain ⟨_, _, _, a3, _⟩ := ld4 r1
  have e2 := Ext.new (Nat.le_refl h1.size) 3 (ints [])
  have i2 := IOwn.newS (b := h.size) (h := h1) (by omega) []
  have s2 : (h1.new 3 (ints [])).size = h1.size + 1 := rfl
  have hnil : ([] : List Value) = ints [] := rfl
  obtain ⟨b0, _, _, _, _⟩ := ld4 (r1.ext e2 (by omega))
  refine Is100.of (e1.trans (e2.mono (by omega))) ?_
  simp only [aOff_ptr, Nat.zero_add, Option.bind_some, a3, x.len, asI, if_true, aNewS, hnil, b0]
  generalize h1.new 3 (ints []) = h2 at i2 s2 ⊢
  generalize hm : n.ks.length = m at hl ⊢
  generalize n.k = k
  unfold shape
  have hb : h.size ≤ h2.size := by omega
  by_cases k6 : k = 6
  · subst k6
    rw [if_pos rfl, show ((6 : Int) == 6) = true from rfl, cond_true]
    exact shpFn (C := call Try.prog Ms d) (N := d) (b := h.size) hl (by omega) (m - 1) d _ [] h2 (by simp) (by omega) hb (by simp) i2
  rw [beq_eq_false_iff_ne.2 k6, cond_false, if_neg k6]
  by_cases k7 : k = 7
  · subst k7
    rw [if_pos rfl, show ((7 : Int) == 7) = true from rfl, cond_true, s100_4_j, s100_4_eq]
    exact shpAll (C := call Try.prog Ms d) (N := d) (b := h.size) (by decide) hl m 0 d _ [] h2 (by omega) (by omega) (by omega) hb rfl i2
  rw [beq_eq_false_iff_ne.2 k7, cond_false, if_neg k7]
  have E : ∀ f : Bool → Option (Value × AHeap), (bif k == 8 then f (k == 8) else bif k == 10 then f (k == 10) else bif k == 12 then f (k == 12) else bif k == 13 then f (k == 13) else f (k == 24)) = f (two2 k) := by
    intro f; unfold two2
    cases (k == 8) <;> cases (k == 10) <;> cases (k == 12) <;> cases (k == 13) <;> rfl
  have E1 : ∀ f : Bool → Option (Value × AHeap), (bif k == 11 then f (k == 11) else bif k == 14 then f (k == 14) else bif k == 15 then f (k == 15) else bif k == 19 then f (k == 19) else f (k == 23)) = f (one1 k) := by
    intro f; unfold one1
    cases (k == 11) <;> cases (k == 14) <;> cases (k == 15) <;> cases (k == 19) <;> rfl
  rw [E (fun t => s100_1 hk0 (call Try.prog Ms d) d (m : Int) (slc h1.size 0 0) 0 k t h2), s100_1_j, s100_1_eq]
  have hN : 0 < d := by omega
  cases two2 k with
  | true => rw [cond_true, if_pos rfl]; exact shpLit hb hN [1, 1]
  | false =>
    rw [cond_false, if_neg (by simp)]
    by_cases k9 : k = 9
    · subst k9
      rw [if_pos rfl, show ((9 : Int) == 9) = true from rfl, cond_true]
      exact Is100.of (Ext.new hb 3 (ints [1])) (shpCall (C := call Try.prog Ms d) (N := d) hl hN (m - 1) d _ [1] _ (by simp) (by omega) (by simp [AHeap.new]; omega) (IOwn.newS hb [1]) (by simp))
    rw [beq_eq_false_iff_ne.2 k9, cond_false, if_neg k9, E1 (fun t => s100_3 hk0 (call Try.prog Ms d) d (m : Int) (slc h1.size 0 0) 0 k t h2), s100_3_j, s100_3_eq]
    cases one1 k with
    | true => rw [cond_true, if_pos rfl]; exact shpLit hb hN [1]
    | false =>
      rw [cond_false, if_neg (by simp)]
      by_cases k16 : k = 16
      · subst k16
        rw [if_pos rfl, show ((16 : Int) == 16) = true from rfl, cond_true]; exact shpLit hb hN [1, 1, 1]
      rw [beq_eq_false_iff_ne.2 k16, cond_false, if_neg k16]
      by_cases k17 : k = 17
      · subst k17
        rw [if_pos rfl, show ((17 : Int) == 17) = true from rfl, cond_true]
        by_cases m3 : m = 3
        · have : ((m : Int) == 3) = true := by simp [m3]
          rw [if_pos m3, this]
          simp only [cond_true, aNewS]
          exact Is100.of (Ext.new hb 3 (ints [1, 3])) (shpLit (by simp [AHeap.new]; omega) hN [1, 3, 3])
        · have : ((m : Int) == 3) = false := by rw [beq_eq_false_iff_ne]; omega
          rw [if_neg m3, this]
          simp only [cond_false]
          exact shpLit hb hN [1, 3]
      rw [beq_eq_false_iff_ne.2 k17, cond_false, if_neg k17]
      by_cases k18 : k = 18
      · subst k18
        rw [if_pos rfl, show ((18 : Int) == 18) = true from rfl, cond_true]; exact shpLit hb hN [1, 3]
      rw [beq_eq_false_iff_ne.2 k18, cond_false, if_neg k18]
      by_cases k20 : k = 20
      · subst k20
        rw [if_pos rfl, show ((20 : Int) == 20) = true from rfl, cond_true]; exact shpLit hb hN [6]
      rw [beq_eq_false_iff_ne.2 k20, cond_false, if_neg k20]
      by_cases k21 : k = 21
      · subst k21
        rw [if_pos rfl, show ((21 : Int) == 21) = true from rfl, cond_true, s100_4_j, s100_4_eq]
        exact shpAll (C := call Try.prog Ms d) (N := d) (b := h.size) (by decide) hl m 0 d _ [] h2 (by omega) (by omega) (by omega) hb rfl i2
      rw [beq_eq_false_iff_ne.2 k21, cond_false, if_neg k21]
      exact shp0 i2 hN
/-- What stands in a node. -/
def emp (t : ByteArray) : Bool := t.toList == (⟨#[]⟩ : ByteArray).toList
def nameP (t : ByteArray) : Bool := inR (t.size : Int) 1 12 && (!isWd t && decide (endOf isLet t 0 = t.size))
def textP (t : ByteArray) : Bool := decide ((t.size : Int) ≤ 160) && decide (endOf isPln t 0 = t.size)
def nm4 (k : Int) : Bool := k == 5 || (k == 14 || (k == 15 || k == 22))
def hasP (n : Kn) : Bool :=
  if nm4 n.k = true then nameP n.t && n.i == 0
  else if n.k = 4 then textP n.t && n.i == 0
  else emp n.t && (if n.k = 2 then inR n.i 0 1 else if n.k = 3 then inR n.i 0 999999999999999 else if n.k = 10 then inR n.i 1 10 else if n.k = 11 then inR n.i 1 3 else n.i == 0)
theorem l145 {d : Nat} (hd : 1048577 < d) (t : ByteArray) (ht : t.size ≤ 1048576) (h : AHeap) : ∃ h', call Try.prog Ms (d + 3) 145 [.string t] h = some (.bool (nameP t), h') ∧ Ext h.size h h' := by
  rw [c145, e145]
  have c1 : call Try.prog Ms (d + 2) 98 [.int .i64 (t.size : Int), .int .i64 1, .int .i64 12] h = some (.bool (inR (t.size : Int) 1 12), h) := l98 (d + 1) _ _ _ _
  rw [c1, Option.bind_some]
  simp only [asB, Option.bind_some]
  unfold nameP
  cases hR : inR (t.size : Int) 1 12 with
  | false =>
    refine ⟨h, ?_, Ext.refl _ _⟩
    rw [Bool.not_false, cond_true, s145_0_j, s145_0_eq]; rfl
  | true =>
    rw [Bool.not_true, cond_false]
    obtain ⟨h2, c2, x2⟩ := l88 (d := d) (by omega) t h
    rw [c2, Option.bind_some]
    simp only [asB, Option.bind_some]
    rw [s145_0_j, s145_0_eq]
    refine ⟨h2, ?_, x2⟩
    cases isWd t with
    | true => rfl
    | false =>
      have hs : t.size ≤ 12 := by
        unfold inR at hR
        simp at hR; omega
      have l87' : ∀ (n : Int) (h : AHeap), call Try.prog Ms (d + 2) 87 [.int .u8 n] h = some (.bool (isLet n), h) := l87 (d + 1)
      rw [cond_false, s145_1_j, s145_1_eq]
      have hbd := endOf_bd (p := isLet) (s := t) _ 0 rfl (by omega)
      have hno := endOf_no (p := isLet) (s := t) _ 0 rfl
      obtain ⟨m', hm'⟩ := skip (p := isLet) (s := t) (fun n j => s145_2 hk0 (call Try.prog Ms (d + 2)) (d + 2) n t j h2) (fun n j hj hp => by
        have : ((j : Nat) : Int) < (t.size : Int) := by omega
        have wj : IntKind.i64.wrap ((j : Int) + 1) = ((j + 1 : Nat) : Int) := by rw [wr (by omega) (by omega)]; omega
        rw [s145_2_eq]
        simp only [this, decide_true, cond_true, strIx hj, Option.bind_some, asI, if_true, l87', asB, hp, wj, Bool.not_true, cond_false]) t.size 0 (d + 2) (by omega) (by omega) (by omega)
      have hm2 : s145_2 hk0 (call Try.prog Ms (d + 2)) (d + 2) (d + 2) t 0 h2 = s145_2 hk0 (call Try.prog Ms (d + 2)) (d + 2) (m' + 1) t ((endOf isLet t 0 : Nat) : Int) h2 := hm'
      rw [hm2, s145_2_eq]
      generalize endOf isLet t 0 = e at hbd hno
      by_cases he : e < t.size
      · have hI : ((e : Nat) : Int) < (t.size : Int) := by omega
        rw [decide_eq_true hI, cond_true, strIx he, Option.bind_some]
        simp only [asI, if_true, Option.bind_some]
        rw [l87', Option.bind_some]
        simp only [asB, Option.bind_some, hno he, Bool.not_false, cond_true]
        rw [decide_eq_false (show ¬ e = t.size by omega)]; rfl
      · have hI : ¬ ((e : Nat) : Int) < (t.size : Int) := by omega
        rw [decide_eq_false hI, cond_false, decide_eq_true (show e = t.size by omega)]; rfl
theorem l101 {d c : Nat} (hd : 1048577 < d) {kv : Value} {n : Kn} {h : AHeap} (x : ISl c h kv n.ks) (ht : n.t.size ≤ 1048576) :
    ∃ h', call Try.prog Ms (d + 4) 101 [knVal n kv] h = some (.bool (hasP n), h') ∧ Ext h.size h h' := by
  have e1 := Ext.new (Nat.le_refl h.size) 73 (knCells n kv)
  have r1 : Row (h.new 73 (knCells n kv)) h.size [.int .i64 n.k, .string n.t, .int .i64 n.i, kv] := (Own.new (b := h.size) (Nat.le_refl _) 73 (knCells n kv)).row
  have s1 : (h.new 73 (knCells n kv)).size = h.size + 1 := rfl
  rw [c101, e101, kn_aCells x, Option.bind_some]
  simp only [aNew]
  generalize h.new 73 (knCells n kv) = h1 at e1 r1 s1 ⊢
  obtain ⟨a0, a1, a2, a3, _⟩ := ld4 r1
  have l98' : ∀ (x a b : Int) (h : AHeap), call Try.prog Ms (d + 3) 98 [.int .i64 x, .int .i64 a, .int .i64 b] h = some (.bool (inR x a b), h) := l98 (d + 2)
  have l90' : ∀ (n : Int) (h : AHeap), call Try.prog Ms (d + 3) 90 [.int .u8 n] h = some (.bool (isPln n), h) := l90 (d + 2)
  simp only [aOff_ptr, Nat.zero_add, Option.bind_some, a0, asI, if_true]
  have E : ∀ f : Bool → Option (Value × AHeap), (bif n.k == 5 then f (n.k == 5) else bif n.k == 14 then f (n.k == 14) else bif n.k == 15 then f (n.k == 15) else f (n.k == 22)) = f (nm4 n.k) := by
    intro f; unfold nm4
    cases (n.k == 5) <;> cases (n.k == 14) <;> cases (n.k == 15) <;> rfl
  rw [E (fun t => s101_0 hk0 (call Try.prog Ms (d + 3)) (d + 3) (ptr h.size 0) n.k t h1), s101_0_j, s101_0_eq]
  unfold hasP
  cases nm4 n.k with
  | true =>
    rw [cond_true, if_pos rfl]
    obtain ⟨h2, c2, x2⟩ := l145 hd n.t ht h1
    obtain ⟨_, _, b2, _, _⟩ := ld4 (r1.ext x2 (by omega))
    refine ⟨h2, ?_, e1.trans (x2.mono (by omega))⟩
    simp only [aOff_ptr, Nat.zero_add, Option.bind_some, a1, asS]
    rw [c2, Option.bind_some]
    simp only [asB, Option.bind_some]
    cases nameP n.t with
    | true => simp only [cond_true, b2, Option.bind_some, asI, if_true, Bool.true_and]
    | false => rfl
  | false =>
    rw [cond_false, if_neg (by simp)]
    by_cases k4 : n.k = 4
    · rw [if_pos k4, k4, show ((4 : Int) == 4) = true from rfl, cond_true]
      refine ⟨h1, ?_, e1⟩
      have hbd := endOf_bd (p := isPln) (s := n.t) _ 0 rfl (by omega)
      have hno := endOf_no (p := isPln) (s := n.t) _ 0 rfl
      obtain ⟨m', hm'⟩ := skip (p := isPln) (s := n.t) (fun m j => s101_1 hk0 (call Try.prog Ms (d + 3)) (d + 3) m (ptr h.size 0) j h1) (fun m j hj hp => by
        have : ((j : Nat) : Int) < (n.t.size : Int) := by omega
        have wj : IntKind.i64.wrap ((j : Int) + 1) = ((j + 1 : Nat) : Int) := by rw [wr (by omega) (by omega)]; omega
        rw [s101_1_eq]
        simp only [aOff_ptr, Nat.zero_add, Option.bind_some, a1, asS, this, decide_true, cond_true, strIx hj, asI, if_true, l90', asB, hp, wj, Bool.not_true, cond_false]) n.t.size 0 (d + 3) (by omega) (by omega) (by omega)
      have hm2 : s101_1 hk0 (call Try.prog Ms (d + 3)) (d + 3) (d + 3) (ptr h.size 0) 0 h1 = s101_1 hk0 (call Try.prog Ms (d + 3)) (d + 3) (m' + 1) (ptr h.size 0) ((endOf isPln n.t 0 : Nat) : Int) h1 := hm'
      rw [hm2, s101_1_eq]
      unfold textP
      generalize endOf isPln n.t 0 = e at hbd hno
      simp only [aOff_ptr, Nat.zero_add, Option.bind_some, a1, asS]
      by_cases he : e < n.t.size
      · have hI : ((e : Nat) : Int) < (n.t.size : Int) := by omega
        rw [decide_eq_true hI, cond_true, strIx he, Option.bind_some]
        simp only [asI, if_true, Option.bind_some]
        rw [l90', Option.bind_some]
        simp only [asB, Option.bind_some, hno he, Bool.not_false, cond_true]
        rw [decide_eq_false (show ¬ e = n.t.size by omega)]; simp
      · have hI : ¬ ((e : Nat) : Int) < (n.t.size : Int) := by omega
        rw [decide_eq_false hI, cond_false, decide_eq_true (show e = n.t.size by omega)]
        cases decide ((n.t.size : Int) ≤ 160) with
        | true => simp only [cond_true, a2, Option.bind_some, asI, if_true, Bool.true_and]
        | false => rfl
    rw [beq_eq_false_iff_ne.2 k4, cond_false, if_neg k4, s101_2_j, s101_2_eq]
    refine ⟨h1, ?_, e1⟩
    simp only [aOff_ptr, Nat.zero_add, Option.bind_some, a0, a1, a2, asS, asI, if_true]
    have hE : (n.t.toList == (⟨#[]⟩ : ByteArray).toList) = emp n.t := rfl
    rw [hE]
    cases emp n.t with
    | false => rfl
    | true =>
      rw [Bool.not_true, cond_false, Bool.true_and]
      by_cases k2 : n.k = 2
      · rw [if_pos k2, k2, show ((2 : Int) == 2) = true from rfl, cond_true]
        by_cases i0 : n.i = 0
        · rw [i0]; rfl
        · rw [beq_eq_false_iff_ne.2 i0, cond_false]
          by_cases i1 : n.i = 1
          · rw [i1]; rfl
          · rw [beq_eq_false_iff_ne.2 i1]
            have : inR n.i 0 1 = false := by unfold inR; simp; omega
            rw [this]
      rw [beq_eq_false_iff_ne.2 k2, cond_false, if_neg k2]
      by_cases k3 : n.k = 3
      · rw [if_pos k3, k3, show ((3 : Int) == 3) = true from rfl, cond_true, l98', Option.bind_some]; rfl
      rw [beq_eq_false_iff_ne.2 k3, cond_false, if_neg k3]
      by_cases k10 : n.k = 10
      · rw [if_pos k10, k10, show ((10 : Int) == 10) = true from rfl, cond_true, l98', Option.bind_some]; rfl
      rw [beq_eq_false_iff_ne.2 k10, cond_false, if_neg k10]
      by_cases k11 : n.k = 11
      · rw [if_pos k11, k11, show ((11 : Int) == 11) = true from rfl, cond_true, l98', Option.bind_some]; rfl
      rw [beq_eq_false_iff_ne.2 k11, cond_false, if_neg k11]
end Go.Proofs.Ytadmoackacickaa
/- The reference's TreeOk. -/
set_option linter.unusedSimpArgs false
namespace Go.Proofs.Ytadmoackacickaa
open Go Go.AH

def clsOk (c k : Int) : Bool := if c = 6 then k == 9 else (cls k == c && c != 0)
abbrev FRes := (Int × Bool) × List Bool
def kidsGo (F : Int → Int → Int → List Bool → FRes) (i : Int) : List Int → List Int → Int → List Bool → FRes
  | [], _, next, seen => ((next + 1, next == i), seen)
  | kid :: ks, s :: ss, next, seen => if kid ≥ i then ((0, false), seen) else if (F kid s next seen).1.2 = true then kidsGo F i ks ss (F kid s next seen).1.1 (F kid s next seen).2 else ((0, false), (F kid s next seen).2)
  | _ :: _, [], _, seen => ((0, false), seen)
def nodeFit (n : Kn) (c : Int) : Bool := clsOk c n.k && (((shape n.k n.ks.length).length : Int) == (n.ks.length : Int) && hasP n)
def fitsP (T : List Kn) : Nat → Int → Int → Int → List Bool → FRes
  | 0, _, _, _, seen => ((0, false), seen)
  | f + 1, i, c, next, seen =>
    match T[i.toNat]? with
    | some n => if 0 ≤ i ∧ seen[i.toNat]? = some false then (if nodeFit n c = true then kidsGo (fitsP T f) i n.ks (shape n.k n.ks.length) next (seen.set i.toNat true) else ((0, false), seen.set i.toNat true)) else ((0, false), seen)
    | none => ((0, false), seen)
def bools (l : List Bool) : List Value := l.map Value.bool
theorem bools_set (ys : List Bool) (j : Nat) (v : Bool) : (bools ys).set j (.bool v) = bools (ys.set j v) := by simp [bools, List.map_set]
/-- All rows but those of bools are as they were. -/
def Keep4 (h h' : AHeap) : Prop := ∀ j o, h.at? j = some o → o.elem ≠ 4 → h'.at? j = some o
theorem Keep4.refl (h : AHeap) : Keep4 h h := fun _ _ h _ => h
theorem Keep4.trans {h h' h'' : AHeap} (x : Keep4 h h') (y : Keep4 h' h'') : Keep4 h h'' := fun j o a b => y j o (x j o a b) b
theorem Keep4.ext {h h' : AHeap} (x : Ext h.size h h') : Keep4 h h' := fun j o a _ => x.at? (at?_obj a).2.1 a
def RowE (h : AHeap) (i : Nat) (e : TypeId) (cs : List Value) : Prop := ∃ o, h.at? i = some o ∧ o.elem = e ∧ o.cells = cs
theorem RowE.row {h : AHeap} {i : Nat} {e : TypeId} {cs : List Value} (x : RowE h i e cs) : Row h i cs := let ⟨o, a, _, b⟩ := x; ⟨o, a, b⟩
theorem RowE.keep {h h' : AHeap} {i : Nat} {e : TypeId} {cs : List Value} (x : RowE h i e cs) (he : e ≠ 4) (k : Keep4 h h') : RowE h' i e cs := let ⟨o, a, b, c⟩ := x; ⟨o, k i o a (by rw [b]; exact he), b, c⟩
theorem Own.rowE {b : Nat} {h : AHeap} {i : Nat} {e : TypeId} {cs : List Value} (x : Own b h i e cs) : RowE h i e cs := let ⟨_, _, a, _⟩ := x; ⟨_, a, rfl, rfl⟩
def fv (r : FRes) : Value := .tuple (List.toArray [.int .i64 r.1.1, .bool r.1.2])
def Is57 (b : Nat) (s : Nat) (h : AHeap) (o : Option (Value × AHeap)) (i : Int) (r : FRes) (m : Nat) : Prop :=
  ∃ h', o = some (fv r, h') ∧ Ext b h h' ∧ Keep4 h h' ∧ Own b h' s 4 (bools r.2) ∧ r.2.length = m ∧ (r.1.2 = true → r.1.1 = i + 1 ∧ 0 ≤ i)
theorem Is57.of {b s m : Nat} {h h1 : AHeap} {o : Option (Value × AHeap)} {i : Int} {r : FRes} (x : Ext b h h1) (k : Keep4 h h1) (y : Is57 b s h1 o i r m) : Is57 b s h o i r m :=
  let ⟨h', h1, h2, h3, h4, h5, h6⟩ := y; ⟨h', h1, x.trans h2, k.trans h3, h4, h5, h6⟩
theorem fits_loop {D N b s : Nat} {nv : Value} {T : List Kn} {top : Int} (hT : T.length ≤ 3000) {F : Int → Int → Int → List Bool → FRes}
    {iN : Nat} (hi : iN < T.length) {kv sv : Value} {n : Kn} {sh : List Int} (hsl : sh.length = n.ks.length) (hkl : n.ks.length ≤ 1048576)
    (hF : ∀ (i c next : Int) (seen : List Bool) (h : AHeap), i < iN → 0 ≤ next → next ≤ 10000 → KSl b h nv T → Own b h s 4 (bools seen) → seen.length = T.length → Is57 b s h (call Try.prog Ms D 57 [trVal nv top, .int .i64 i, .int .i64 c, .int .i64 next, slc s 0 T.length] h) i (F i c next seen) T.length)
    {p q c0 : Nat} :
    ∀ (k j m : Nat) (next : Int) (seen : List Bool) (h : AHeap), n.ks.length - j = k → j ≤ n.ks.length → k < m → 0 ≤ next → next ≤ 10000 → KSl b h nv T → Own b h s 4 (bools seen) → seen.length = T.length →
      RowE h p 35 [nv, .int .i64 top] → RowE h q 73 (knCells n kv) → IOwn c0 h sv sh → (∀ h', Keep4 h h' → Ext b h h' → ISl b h' kv n.ks) →
      Is57 b s h (s57_6 hk0 (call Try.prog Ms D) N m (iN : Int) next (slc s 0 T.length) (ptr p 0) (ptr q 0) sv (j : Int) h) (iN : Int) (kidsGo F (iN : Int) (n.ks.drop j) (sh.drop j) next seen) T.length := by
  intro k
  induction k with
  | zero =>
    intro j m next seen h hk hj hm h0 h1 x o hs rp rq isv hkv
    obtain ⟨m, rfl⟩ : ∃ q, m = q + 1 := ⟨m - 1, by omega⟩
    have : ¬ ((j : Int) < (n.ks.length : Int)) := by omega
    obtain ⟨_, _, _, a3, _⟩ := ld4 rq.row
    have ik := hkv h (Keep4.refl h) (Ext.refl _ _)
    have w : IntKind.i64.wrap (next + 1) = next + 1 := wr (by omega) (by omega)
    rw [s57_6_eq, List.drop_eq_nil_of_le (by omega)]
    simp only [aOff_ptr, Nat.zero_add, Option.bind_some, a3, ik.len, asI, if_true, decide_eq_false this, cond_false, w, kidsGo]
    exact ⟨h, rfl, Ext.refl _ _, Keep4.refl _, o, hs, fun e => ⟨by rw [show next = iN by simpa using e], by omega⟩⟩
  | succ k ih =>
    intro j m next seen h hk hj hm h0 h1 x o hs rp rq isv hkv
    obtain ⟨m, rfl⟩ : ∃ q, m = q + 1 := ⟨m - 1, by omega⟩
    have hlt : j < n.ks.length := by omega
    have hlt2 : j < sh.length := by omega
    have hI : ((j : Int) < (n.ks.length : Int)) := by omega
    obtain ⟨_, _, _, a3, _⟩ := ld4 rq.row
    obtain ⟨_, _, ap⟩ := ld2 rp.row
    have ap' : aLdN h (ptr p 0) 2 = some (trVal nv top) := ap
    have ik := hkv h (Keep4.refl h) (Ext.refl _ _)
    obtain ⟨pk, e1, e2⟩ := ik.at hlt
    obtain ⟨ps, f1, f2⟩ := isv.isl.at hlt2
    have wj : IntKind.i64.wrap ((j : Int) + 1) = ((j + 1 : Nat) : Int) := by rw [wr (by omega) (by omega)]; omega
    rw [s57_6_eq, List.drop_eq_getElem_cons hlt, List.drop_eq_getElem_cons hlt2, kidsGo]
    simp only [aOff_ptr, Nat.zero_add, Option.bind_some, a3, ik.len, asI, if_true, decide_eq_true hI, cond_true, e1, e2]
    by_cases hge : n.ks[j] ≥ (iN : Int)
    · rw [decide_eq_true hge, cond_true, if_pos hge]
      exact ⟨h, rfl, Ext.refl _ _, Keep4.refl _, o, hs, fun e => by cases e⟩
    · rw [decide_eq_false hge, cond_false, if_neg hge]
      simp only [ap', f1, f2, Option.bind_some, if_true]
      obtain ⟨h2, c2, x2, k2, o2, hs2, ha2⟩ := hF n.ks[j] sh[j] next seen h (by omega) h0 h1 x o hs
      rw [c2, Option.bind_some]
      generalize F n.ks[j] sh[j] next seen = r at o2 hs2 ha2 ⊢
      obtain ⟨⟨af, fine⟩, seen2⟩ := r
      have t0 : aExt (fv ((af, fine), seen2)) 0 = some (.int .i64 af) := rfl
      have t1 : aExt (fv ((af, fine), seen2)) 1 = some (.bool fine) := rfl
      simp only [t0, t1, Option.bind_some, asI, asB, if_true] at ha2 ⊢
      cases fine with
      | false =>
        rw [Bool.not_false, cond_true, if_neg (by simp)]
        exact ⟨h2, rfl, x2, k2, o2, hs2, fun e => by cases e⟩
      | true =>
        obtain ⟨haf, hk0'⟩ := ha2 rfl
        rw [Bool.not_true, cond_false, if_pos rfl, wj]
        refine Is57.of x2 k2 (ih (j + 1) m af seen2 h2 (by omega) (by omega) (by omega) (by omega) (by omega) (x.ext x2) o2 hs2 (rp.keep (by decide) k2) (rq.keep (by decide) k2) (isv.keep (e := 4) (by decide) k2) (fun h' k' e' => hkv h' (k2.trans k') (x2.trans e')))
theorem RowE.new (h : AHeap) (e : TypeId) (cs : List Value) : RowE (h.new e cs) h.size e cs := Own.rowE (Own.new (Nat.le_refl h.size) e cs)
theorem fits_out {d b s e : Nat} (hd : 1048577 < d) {nv : Value} {T : List Kn} {top : Int} (hT : T.length ≤ 3000) {i c next : Int} {seen : List Bool} {h : AHeap} (he : d ≤ e)
    (hin : ¬ (0 ≤ i ∧ i ≤ (T.length : Int) - 1)) (x : KSl b h nv T) (o : Own b h s 4 (bools seen)) (hs : seen.length = T.length) :
    Is57 b s h (call Try.prog Ms (e + 6) 57 [trVal nv top, .int .i64 i, .int .i64 c, .int .i64 next, slc s 0 T.length] h) i ((0, false), seen) T.length := by
  have hbs : b ≤ h.size := Nat.le_of_lt (Nat.lt_of_le_of_lt o.lt.1 o.lt.2)
  have e1 := Ext.new (Nat.le_refl h.size) 35 [nv, .int .i64 top]
  have k1 := Keep4.ext e1
  have r1 := RowE.new h 35 [nv, .int .i64 top]
  have hcall : call Try.prog Ms (e + 6) 57 [trVal nv top, .int .i64 i, .int .i64 c, .int .i64 next, slc s 0 T.length] h = evFn hk0 Try.prog (call Try.prog Ms (e + 5)) M57 (e + 5) Try.f57 [trVal nv top, .int .i64 i, .int .i64 c, .int .i64 next, slc s 0 T.length] h := c57 (e + 5) _ _
  rw [hcall, e57, tr_aCells x, Option.bind_some]
  simp only [aNew]
  have o1 := o.ext e1 o.lt.2
  generalize h.new 35 [nv, .int .i64 top] = h1 at e1 k1 r1 o1 ⊢
  refine Is57.of (e1.mono hbs) k1 ?_
  obtain ⟨a0, _, _⟩ := ld2 r1.row
  have w : IntKind.i64.wrap ((T.length : Int) - 1) = (T.length : Int) - 1 := wr (by omega) (by omega)
  have l98' : ∀ (x a b : Int) (h : AHeap), call Try.prog Ms (e + 5) 98 [.int .i64 x, .int .i64 a, .int .i64 b] h = some (.bool (inR x a b), h) := l98 (e + 4)
  simp only [aOff_ptr, Nat.zero_add, Option.bind_some, a0, x.len, asI, if_true, w]
  rw [l98', Option.bind_some]
  simp only [asB, Option.bind_some]
  have hR : inR i 0 ((T.length : Int) - 1) = false := by unfold inR; simp; omega
  rw [hR, Bool.not_false, cond_true, s57_0_j, s57_0_eq, cond_true]
  exact ⟨h1, rfl, Ext.refl _ _, Keep4.refl _, o1, hs, fun e => by cases e⟩
theorem fits57 {d b s : Nat} (hd : 1048577 < d) {nv : Value} {T : List Kn} {top : Int} (hT : T.length ≤ 3000) (hN : ∀ n ∈ T, n.t.size ≤ 1048576 ∧ n.ks.length ≤ 1048576) : ∀ (f e : Nat) (i c next : Int) (seen : List Bool) (h : AHeap), d + f ≤ e →
    i < f → 0 ≤ next → next ≤ 10000 → KSl b h nv T → Own b h s 4 (bools seen) → seen.length = T.length →
    Is57 b s h (call Try.prog Ms (e + 6) 57 [trVal nv top, .int .i64 i, .int .i64 c, .int .i64 next, slc s 0 T.length] h) i (fitsP T f i c next seen) T.length := by
  intro f
  induction f with
  | zero =>
    intro e i c next seen h he hif _ _ x o hs
    exact fits_out hd hT (by omega) (by omega) x o hs
  | succ f ih =>
    intro e i c next seen h he hif hn0 hn1 x o hs
    obtain ⟨e, rfl⟩ : ∃ q, e = q + 1 := ⟨e - 1, by omega⟩
    have hbs : b ≤ h.size := Nat.le_of_lt (Nat.lt_of_le_of_lt o.lt.1 o.lt.2)
    have e1 := Ext.new (Nat.le_refl h.size) 35 [nv, .int .i64 top]
    have k1 := Keep4.ext e1
    have r1 := RowE.new h 35 [nv, .int .i64 top]
    have s1 : (h.new 35 [nv, .int .i64 top]).size = h.size + 1 := rfl
    have hcall : call Try.prog Ms (e + 1 + 6) 57 [trVal nv top, .int .i64 i, .int .i64 c, .int .i64 next, slc s 0 T.length] h = evFn hk0 Try.prog (call Try.prog Ms (e + 6)) M57 (e + 6) Try.f57 [trVal nv top, .int .i64 i, .int .i64 c, .int .i64 next, slc s 0 T.length] h := c57 (e + 6) _ _
    rw [hcall, e57, tr_aCells x, Option.bind_some]
    simp only [aNew]
    have x1 := x.ext (e1.mono hbs)
    have o1 := o.ext e1 o.lt.2
    generalize h.new 35 [nv, .int .i64 top] = h1 at e1 k1 r1 s1 x1 o1 ⊢
    refine Is57.of (e1.mono hbs) k1 ?_
    obtain ⟨a0, _, _⟩ := ld2 r1.row
    have w : IntKind.i64.wrap ((T.length : Int) - 1) = (T.length : Int) - 1 := wr (by omega) (by omega)
    have l98' : ∀ (x a b : Int) (h : AHeap), call Try.prog Ms (e + 6) 98 [.int .i64 x, .int .i64 a, .int .i64 b] h = some (.bool (inR x a b), h) := l98 (e + 5)
    simp only [aOff_ptr, Nat.zero_add, Option.bind_some, a0, x.len, asI, if_true, w]
    rw [l98', Option.bind_some]
    simp only [asB, Option.bind_some]
    have bad : ∀ sn : List Bool, sn.length = T.length → Own b h1 s 4 (bools sn) → Is57 b s h1 (some (.tuple (List.toArray [.int .i64 0, .bool false]), h1)) i ((0, false), sn) T.length := fun sn hsn on => ⟨h1, rfl, Ext.refl _ _, Keep4.refl _, on, hsn, fun e => by cases e⟩
    unfold fitsP
    by_cases hin : 0 ≤ i ∧ i ≤ (T.length : Int) - 1
    · obtain ⟨iN, rfl⟩ : ∃ iN : Nat, i = (iN : Int) := ⟨i.toNat, by omega⟩
      have hi : iN < T.length := by omega
      have hR : inR (iN : Int) 0 ((T.length : Int) - 1) = true := by unfold inR; simp; omega
      have hTi : T[(iN : Int).toNat]? = some T[iN] := by simp [hi]
      have hix : aIdx (slc s 0 T.length) (.int .i64 (iN : Int)) 1 = some (ptr s iN) := by simp [aIdx, slc, hi]
      have hld : aLd1 h1 (ptr s iN) = some (.bool (seen[iN]'(by omega))) := o1.row.ld1 (by simp [bools, show iN < seen.length by omega])
      have hsi : seen[(iN : Int).toNat]? = some (seen[iN]'(by omega)) := by simp [show iN < seen.length by omega]
      rw [hR, Bool.not_true, cond_false, hTi, hsi]
      simp only [hix, hld, Option.bind_some, asB]
      rw [s57_0_j, s57_0_eq]
      cases hsn : seen[iN]'(by omega) with
      | true =>
        rw [cond_true, if_neg (by simp)]
        exact bad seen hs o1
      | false =>
        rw [cond_false, if_pos ⟨by omega, rfl⟩, s57_1_j, s57_1_eq]
        obtain ⟨h2, t2, x2, o2, s2, k2⟩ := Own.stX o1 (off := iN) (n := 1) (v := .bool true) rfl rfl (by simp [bools]; omega)
        have o2' : Own b h2 s 4 (bools (seen.set iN true)) := by
          have : splice (bools seen) iN [Value.bool true] = bools (seen.set iN true) := by
            rw [← bools_set]; unfold splice
            rw [List.set_eq_take_append_cons_drop, if_pos (by simp [bools]; omega)]; simp
          rw [this] at o2; exact o2
        have K2 : Keep4 h1 h2 := k2
        have r2 := r1.keep (by decide) K2
        obtain ⟨b0, _, bT⟩ := ld2 r2.row
        have xx2 := x1.ext x2
        obtain ⟨id, kv, g1, g2, g3⟩ := xx2.at hi
        obtain ⟨g4, _⟩ := g3 h2 (Ext.refl _ _)
        have e3 := Ext.new (Nat.le_refl h2.size) 73 [.int .i64 0, .string ⟨#[]⟩, .int .i64 0, .slice none 0 0]
        have o3 := Own.new (Nat.le_refl h2.size) 73 [.int .i64 0, .string ⟨#[]⟩, .int .i64 0, .slice none 0 0]
        have s3 : (h2.new 73 [.int .i64 0, .string ⟨#[]⟩, .int .i64 0, .slice none 0 0]).size = h2.size + 1 := rfl
        simp only [hix, t2, aOff_ptr, Nat.zero_add, Option.bind_some, b0, g1, g4, aNew]
        generalize h2.new 73 [.int .i64 0, .string ⟨#[]⟩, .int .i64 0, .slice none 0 0] = h3 at e3 o3 s3 ⊢
        have hb2 : b ≤ h2.size := by omega
        obtain ⟨h4, t4, x4, o4, s4⟩ := Own.stN o3 (n := 4) (v := knVal T[iN] kv) (kn_aCells g2) rfl rfl
        have r4 : RowE h4 h2.size 73 (knCells T[iN] kv) := Own.rowE o4
        have X4 : Ext h2.size h2 h4 := e3.trans x4
        obtain ⟨d0, _, _, _, dN⟩ := ld4 r4.row
        have dN' : aLdN h4 (ptr h2.size 0) 4 = some (knVal T[iN] kv) := dN
        have l99' : ∀ (k : Int) (h : AHeap), call Try.prog Ms (e + 6) 99 [.int .i64 k] h = some (.int .i64 (cls k), h) := l99 (e + 5)
        have d0' : aLd1 h4 (ptr h2.size 0) = some (.int .i64 T[iN].k) := d0
        simp only [t4, aOff_ptr, Nat.zero_add, Option.bind_some, d0', asI, if_true]
        rw [l99', Option.bind_some]
        simp only [asI, if_true, Option.bind_some]
        have E : ∀ g : Bool → Option (Value × AHeap), (bif cls T[iN].k == c then g (c != 0) else g false) = g (cls T[iN].k == c && c != 0) := by
          intro g; cases (cls T[iN].k == c) <;> rfl
        rw [E (fun t => s57_2 hk0 (call Try.prog Ms (e + 6)) (e + 6) (iN : Int) c next (slc s 0 T.length) (ptr h.size 0) (ptr h2.size 0) t h4), s57_2_j, s57_2_eq]
        have Ecls : (bif c == 6 then s57_3 hk0 (call Try.prog Ms (e + 6)) (e + 6) (iN : Int) next (slc s 0 T.length) (ptr h.size 0) (ptr h2.size 0) (T[iN].k == 9) h4 else s57_3 hk0 (call Try.prog Ms (e + 6)) (e + 6) (iN : Int) next (slc s 0 T.length) (ptr h.size 0) (ptr h2.size 0) (cls T[iN].k == c && c != 0) h4) = s57_3 hk0 (call Try.prog Ms (e + 6)) (e + 6) (iN : Int) next (slc s 0 T.length) (ptr h.size 0) (ptr h2.size 0) (clsOk c T[iN].k) h4 := by
          unfold clsOk
          by_cases c6 : c = 6
          · subst c6; rw [show ((6 : Int) == 6) = true from rfl, cond_true, if_pos rfl]
          · rw [beq_eq_false_iff_ne.2 c6, cond_false, if_neg c6]
        simp only [aOff_ptr, Nat.zero_add, Option.bind_some, d0', asI, if_true]
        rw [Ecls, s57_3_j, s57_3_eq]
        have K4 : Keep4 h2 h4 := Keep4.ext X4
        have oo4 := o2'.ext X4 o2'.lt.2
        have r14 := r2.keep (by decide) K4
        have g24 := g2.ext (X4.mono hb2)
        have hok := hN T[iN] (List.getElem_mem hi)
        obtain ⟨sv, h5, c5, x5, i5⟩ := l100 (d := e + 5) (by omega) g24 hok.2
        have c5' : call Try.prog Ms (e + 6) 100 [knVal T[iN] kv] h4 = _ := c5
        have hb4 : b ≤ h4.size := Nat.le_trans hb2 X4.size
        have K5 : Keep4 h4 h5 := Keep4.ext x5
        have r45 := r4.keep (by decide) K5
        obtain ⟨_, _, _, _, dN5⟩ := ld4 r45.row
        have dN5' : aLdN h5 (ptr h2.size 0) 4 = some (knVal T[iN] kv) := dN5
        have oo5 := oo4.ext x5 oo4.lt.2
        refine Is57.of x2 K2 (Is57.of (X4.mono hb2) K4 (Is57.of (x5.mono hb4) K5 ?_))
        have t0 : ∀ b' : Bool, aExt (.tuple (List.toArray [sv, .bool b'])) 0 = some sv := fun _ => rfl
        have t1 : ∀ b' : Bool, aExt (.tuple (List.toArray [sv, .bool b'])) 1 = some (.bool b') := fun _ => rfl
        rw [dN', Option.bind_some, c5', Option.bind_some]
        simp only [t0, t1, Option.bind_some, asB]
        have hset : (seen.set (iN : Int).toNat true) = seen.set iN true := rfl
        have hlen1 : (seen.set iN true).length = T.length := by simp [hs]
        have bad5 : ∀ h6, Ext b h5 h6 → Keep4 h5 h6 → Own b h6 s 4 (bools (seen.set iN true)) → Is57 b s h5 (s57_4 hk0 (call Try.prog Ms (e + 6)) (e + 6) (iN : Int) next (slc s 0 T.length) (ptr h.size 0) (ptr h2.size 0) sv true h6) (iN : Int) ((0, false), seen.set iN true) T.length := by
          intro h6 xx kk oo
          rw [s57_4_j, s57_4_eq, cond_true]
          exact ⟨h6, rfl, xx, kk, oo, hlen1, fun e => by cases e⟩
        unfold nodeFit
        rw [hset]
        cases hc1 : clsOk c T[iN].k with
        | false =>
          rw [Bool.not_false, cond_true, Bool.false_and, if_neg (by simp)]
          exact bad5 h5 (Ext.refl _ _) (Keep4.refl _) oo5
        | true =>
          rw [Bool.not_true, cond_false, Bool.true_and]
          cases hc2 : (((shape T[iN].k T[iN].ks.length).length : Int) == (T[iN].ks.length : Int)) with
          | false =>
            rw [Bool.not_false, cond_true, Bool.false_and, if_neg (by simp)]
            exact bad5 h5 (Ext.refl _ _) (Keep4.refl _) oo5
          | true =>
            rw [Bool.not_true, cond_false, Bool.true_and, dN5', Option.bind_some]
            obtain ⟨h6, c6, x6⟩ := l101 (d := e + 2) (by omega) (g24.ext (x5.mono hb4)) hok.1
            have c6' : call Try.prog Ms (e + 6) 101 [knVal T[iN] kv] h5 = _ := c6
            have hb5 : b ≤ h5.size := Nat.le_trans hb4 x5.size
            have K6 : Keep4 h5 h6 := Keep4.ext x6
            have oo6 := oo5.ext x6 oo5.lt.2
            rw [c6', Option.bind_some]
            simp only [asB, Option.bind_some]
            cases hc3 : hasP T[iN] with
            | false =>
              rw [Bool.not_false, if_neg (by simp)]
              exact bad5 h6 (x6.mono hb5) K6 oo6
            | true =>
              rw [Bool.not_true, if_pos rfl, s57_4_j, s57_4_eq, cond_false, s57_5_j, s57_5_eq]
              refine Is57.of (x6.mono hb5) K6 ?_
              have xx6 := ((xx2.ext (X4.mono hb2)).ext (x5.mono hb4)).ext (x6.mono hb5)
              have gk6 := (g24.ext (x5.mono hb4)).ext (x6.mono hb5)
              have hsl : (shape T[iN].k T[iN].ks.length).length = T[iN].ks.length := by
                have := beq_iff_eq.1 hc2
                omega
              have := fits_loop (D := e + 6) (N := e + 6) (top := top) (F := fitsP T f) hT hi (kv := kv) (sv := sv) (n := T[iN]) hsl hok.2 (fun i' c' next' seen' h' a1 a2 a3 a4 a5 a6 => ih e i' c' next' seen' h' (by omega) (by omega) a2 a3 a4 a5 a6) (p := h.size) (q := h2.size)
                T[iN].ks.length 0 (e + 6) next (seen.set iN true) h6 (by omega) (by omega) (by omega) hn0 hn1 xx6 oo6 hlen1 ((r14.keep (by decide) K5).keep (by decide) K6) (r45.keep (by decide) K6) (i5.keep (e := 4) (by decide) K6) (fun h' k' e' => gk6.ext e')
              exact this
    · have hR : inR i 0 ((T.length : Int) - 1) = false := by unfold inR; simp; omega
      rw [hR, Bool.not_false, cond_true, s57_0_j, s57_0_eq, cond_true]
      have : (match T[i.toNat]? with
        | some n => if 0 ≤ i ∧ seen[i.toNat]? = some false then (if nodeFit n c = true then kidsGo (fitsP T f) i n.ks (shape n.k n.ks.length) next (seen.set i.toNat true) else ((0, false), seen.set i.toNat true)) else ((0, false), seen)
        | none => ((0, false), seen) : FRes) = ((0, false), seen) := by
        by_cases hpos : 0 ≤ i
        · rw [List.getElem?_eq_none (by omega)]
        · cases T[i.toNat]? with
          | none => rfl
          | some n => exact if_neg (fun hh => hpos hh.1)
      rw [this]
      exact bad seen hs o1
/-- What the reference says of a tree. -/
def specOk (T : List Kn) (top : Int) : Bool :=
  if T.length > 3000 then false
  else (fitsP T (T.length + 1) top 3 0 (List.replicate T.length false)).1.2 && (fitsP T (T.length + 1) top 3 0 (List.replicate T.length false)).1.1 == (T.length : Int)
theorem rep_bools (n : Nat) : (List.replicate n [Value.bool false]).flatten = bools (List.replicate n false) := by
  induction n with
  | zero => rfl
  | succ n ih => rw [List.replicate_succ, List.flatten_cons, ih]; simp [bools, List.replicate_succ]
theorem fits_big {T : List Kn} {f : Nat} {i c next : Int} {seen : List Bool} (h : (T.length : Int) ≤ i) : fitsP T f i c next seen = ((0, false), seen) := by
  cases f with
  | zero => rfl
  | succ f => unfold fitsP; rw [List.getElem?_eq_none (by omega)]
theorem l20 {d c : Nat} (hd : 1048577 < d) {nv : Value} {T : List Kn} {top : Int} {h : AHeap} (x : KSl c h nv T) (hc : c ≤ h.size) (hb : T.length ≤ 1048576) (hN : ∀ n ∈ T, n.t.size ≤ 1048576 ∧ n.ks.length ≤ 1048576) :
    ∃ h', call Try.prog Ms (d + 3010 + 7) 20 [trVal nv top] h = some (.bool (specOk T top), h') ∧ Ext h.size h h' := by
  have e1 := Ext.new (Nat.le_refl h.size) 35 [nv, .int .i64 top]
  have r1 := RowE.new h 35 [nv, .int .i64 top]
  have s1 : (h.new 35 [nv, .int .i64 top]).size = h.size + 1 := rfl
  have hcall : call Try.prog Ms (d + 3010 + 7) 20 [trVal nv top] h = evFn hk0 Try.prog (call Try.prog Ms (d + 3010 + 6)) M20 (d + 3010 + 6) Try.f20 [trVal nv top] h := c20 (d + 3010 + 6) _ _
  rw [hcall, e20, tr_aCells x, Option.bind_some]
  simp only [aNew]
  have x1 := x.ext (e1.mono hc)
  generalize h.new 35 [nv, .int .i64 top] = h1 at e1 r1 s1 x1 ⊢
  obtain ⟨a0, a1, aN⟩ := ld2 r1.row
  have aN' : aLdN h1 (ptr h.size 0) 2 = some (trVal nv top) := aN
  simp only [aOff_ptr, Nat.zero_add, Option.bind_some, a0, x.len, asI, if_true]
  unfold specOk
  by_cases hbig : (T.length : Int) > 3000
  · rw [decide_eq_true hbig, cond_true, if_pos (by omega)]; exact ⟨h1, rfl, e1⟩
  · rw [decide_eq_false hbig, cond_false, if_neg (by omega)]
    have e2 := Ext.new (Nat.le_refl h1.size) 4 (bools (List.replicate T.length false))
    have o2 := Own.new (Nat.le_refl h1.size) 4 (bools (List.replicate T.length false))
    have s2 : (h1.new 4 (bools (List.replicate T.length false))).size = h1.size + 1 := rfl
    simp only [aN', a1, Option.bind_some, asI, if_true]
    rw [mk_some _ _ _ _ _ (by omega) (by omega), Option.bind_some, rep_bools]
    have r2 := r1.keep (h' := h1.new 4 (bools (List.replicate T.length false))) (by decide) (Keep4.ext e2)
    generalize h1.new 4 (bools (List.replicate T.length false)) = h2 at e2 o2 s2 r2 ⊢
    obtain ⟨b0, b1, bN⟩ := ld2 r2.row
    have bN' : aLdN h2 (ptr h.size 0) 2 = some (trVal nv top) := bN
    have vi : ∀ z : Int, vbeq (.int .i64 z) (.int .i64 z) = true := fun z => by simp [vbeq, vbeq1]
    simp only [bN', b1, Option.bind_some, asI, if_true, tr_vbeq x, vi, cond_true]
    have x2 := (x1.mono (show c ≤ h1.size by omega)).ext e2
    have main : ∃ h3, call Try.prog Ms (d + 3010 + 6) 57 [trVal nv top, .int .i64 top, .int .i64 3, .int .i64 0, slc h1.size 0 T.length] h2 = some (fv (fitsP T (T.length + 1) top 3 0 (List.replicate T.length false)), h3) ∧ Ext h1.size h2 h3 ∧ Keep4 h2 h3 := by
      by_cases htop : top ≤ (T.length : Int)
      · obtain ⟨h3, c3, x3, k3, _⟩ := fits57 (b := h1.size) (s := h1.size) hd (nv := nv) (top := top) (by omega) hN (T.length + 1) (d + 3010) top 3 0 (List.replicate T.length false) h2 (by omega) (by omega) (by omega) (by omega) x2 o2 (by simp)
        exact ⟨h3, c3, x3, k3⟩
      · rw [fits_big (by omega)]
        obtain ⟨h3, c3, x3, k3, _⟩ := fits_out (b := h1.size) (s := h1.size) (e := d + 3010) (c := 3) (next := 0) (seen := List.replicate T.length false) hd (nv := nv) (top := top) (i := top) (T := T) (by omega) (by omega) (by omega) x2 o2 (by simp)
        exact ⟨h3, c3, x3, k3⟩
    obtain ⟨h3, c3, x3, k3⟩ := main
    have r3 := r2.keep (by decide) k3
    obtain ⟨d0, _, _⟩ := ld2 r3.row
    rw [c3, Option.bind_some]
    generalize fitsP T (T.length + 1) top 3 0 (List.replicate T.length false) = r
    obtain ⟨⟨af, fine⟩, sn⟩ := r
    have t0 : aExt (fv ((af, fine), sn)) 0 = some (.int .i64 af) := rfl
    have t1 : aExt (fv ((af, fine), sn)) 1 = some (.bool fine) := rfl
    refine ⟨h3, ?_, e1.trans ((e2.mono (by omega)).trans (x3.mono (by omega)))⟩
    simp only [t0, t1, Option.bind_some, asI, asB, if_true]
    cases fine with
    | false => rfl
    | true =>
      simp only [cond_true, aOff_ptr, Nat.zero_add, d0, Option.bind_some, x.len, asI, if_true, Bool.true_and]
end Go.Proofs.Ytadmoackacickaa
