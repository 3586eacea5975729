import Derived.Test.YtadmoackacickaaXAE
set_option linter.unusedSimpArgs false
set_option linter.unusedVariables false
/- Trees: what is alike. -/
namespace Go.Proofs.Ytadmoackacickaa
open Go Go.AH
theorem eqI_loop {d N c c' : Nat} {v v' : Value} {xs : List Int} {h : AHeap} (hl : xs.length ≤ 1048576) (x : ISl c h v xs) (x' : ISl c' h v' xs) : ∀ (k j m : Nat), xs.length - j = k → j ≤ xs.length → k < m →
  s32_0 hk0 (call Tp Ms d) N m v v' (j : Int) h = some (.bool true, h) := by
 intro k
 induction k with
 | zero =>
  intro j m hk hj hm
  obtain ⟨m, rfl⟩ : ∃ q, m = q + 1 := ⟨m - 1, by omega⟩
  have : ¬ ((j : Int) < (xs.length : Int)) := by omega
  rw [s32_0_eq, x.len, oBs]
  simp only [asI, if_true, oBs, decide_eq_false this, cond_false]
 | succ k ih =>
  intro j m hk hj hm
  obtain ⟨m, rfl⟩ : ∃ q, m = q + 1 := ⟨m - 1, by omega⟩
  have hlt : j < xs.length := by omega
  have hI : ((j : Int) < (xs.length : Int)) := by omega
  obtain ⟨p, e1, e2⟩ := x.at hlt
  obtain ⟨p', e1', e2'⟩ := x'.at hlt
  have wj : IntKind.i64.wrap ((j : Int) + 1) = ((j + 1 : Nat) : Int) := by rw [wr (by omega) (by omega)]; omega
  rw [s32_0_eq, x.len, oBs]
  simp only [asI, if_true, oBs, decide_eq_true hI, cond_true, e1, e2, e1', e2', wj]
  rw [bne_self_eq_false, cond_false]
  exact ih (j + 1) m (by omega) (by omega) (by omega)
theorem l32 {d c c' : Nat} (hd : 1048577 < d) {v v' : Value} {xs : List Int} {h : AHeap} (hl : xs.length ≤ 1048576) (x : ISl c h v xs) (x' : ISl c' h v' xs) : call Tp Ms (d + 1) 32 [v, v'] h = some (.bool true, h) := by
 rw [c32, e32, x.len, oBs]
 simp only [asI, if_true, oBs, x'.len]
 rw [bne_self_eq_false, cond_false]
 exact eqI_loop hl x x' xs.length 0 d (by omega) (by omega) (by omega)
theorem l106 {d c : Nat} (hd : 1048577 < d) {kv kv' : Value} {n : Kn} {h : AHeap} (x : ISl c h kv n.ks) (x' : ISl c h kv' n.ks) (hc : c ≤ h.size) (hl : n.ks.length ≤ 1048576) :
  ∃ h', call Tp Ms (d + 2) 106 [knVal n kv, knVal n kv'] h = some (.bool true, h') ∧ Ext h.size h h' := by
 have e1 := Ext.new (Nat.le_refl h.size) 73 (knCells n kv)
 have r1 : Row (h.new 73 (knCells n kv)) h.size [.int .i64 n.k, .string n.t, .int .i64 n.i, kv] := (Own.new (b := h.size) (Nat.le_refl _) 73 (knCells n kv)).row
 have s1 : (h.new 73 (knCells n kv)).size = h.size + 1 := rfl
 rw [c106, e106, kn_aCells x, oBs]
 simp only [aNew]
 generalize h.new 73 (knCells n kv) = h1 at e1 r1 s1 ⊢
 have e2 := Ext.new (Nat.le_refl h1.size) 73 (knCells n kv')
 have r2 : Row (h1.new 73 (knCells n kv')) h1.size [.int .i64 n.k, .string n.t, .int .i64 n.i, kv'] := (Own.new (b := h1.size) (Nat.le_refl _) 73 (knCells n kv')).row
 have s2 : (h1.new 73 (knCells n kv')).size = h1.size + 1 := rfl
 rw [kn_aCells x', oBs]
 generalize h1.new 73 (knCells n kv') = h2 at e2 r2 s2 ⊢
 obtain ⟨a0, a1, a2, a3, _⟩ := ld4 (r1.ext e2 (by omega))
 obtain ⟨b0, b1, b2, b3, _⟩ := ld4 r2
 have E : Ext h.size h h2 := e1.trans (e2.mono (by omega))
 have c3 := l32 hd hl (x.ext (E.mono hc)) (x'.ext (E.mono hc))
 refine ⟨h2, ?_, E⟩
 simp only [aOff_ptr, Nat.zero_add, oBs, asI, asS, if_true, a0, a1, a2, a3, b0, b1, b2, b3]
 rw [bne_self_eq_false, cond_false, beq_self_eq_true, Bool.not_true, cond_false, bne_self_eq_false, cond_false, c3, oBs]
 rfl
theorem eqK_loop {d N c : Nat} (hd : 1048577 < d) {v v' : Value} {ns : List Kn} (hl : ns.length ≤ 1048576) (hN : ∀ n ∈ ns, n.t.size ≤ 1048576 ∧ n.ks.length ≤ 1048576) : ∀ (k j m : Nat) (h : AHeap), ns.length - j = k → j ≤ ns.length → k < m → KSl c h v ns → KSl c h v' ns → c ≤ h.size →
  ∃ h', s61_0 hk0 (call Tp Ms (d + 2)) N m v v' (j : Int) h = some (.bool true, h') ∧ Ext h.size h h' := by
 intro k
 induction k with
 | zero =>
  intro j m h hk hj hm x x' hc
  obtain ⟨m, rfl⟩ : ∃ q, m = q + 1 := ⟨m - 1, by omega⟩
  have : ¬ ((j : Int) < (ns.length : Int)) := by omega
  refine ⟨h, ?_, Ext.refl _ _⟩
  rw [s61_0_eq, x.len, oBs]
  simp only [asI, if_true, oBs, decide_eq_false this, cond_false]
 | succ k ih =>
  intro j m h hk hj hm x x' hc
  obtain ⟨m, rfl⟩ : ∃ q, m = q + 1 := ⟨m - 1, by omega⟩
  have hlt : j < ns.length := by omega
  have hI : ((j : Int) < (ns.length : Int)) := by omega
  obtain ⟨i, kv, e1, e2, e3⟩ := x.at hlt
  obtain ⟨e4, _⟩ := e3 h (Ext.refl _ _)
  obtain ⟨i', kv', e1', e2', e3'⟩ := x'.at hlt
  obtain ⟨e4', _⟩ := e3' h (Ext.refl _ _)
  obtain ⟨h2, c2, x2⟩ := l106 hd e2 e2' hc (hN ns[j] (List.getElem_mem hlt)).2
  have wj : IntKind.i64.wrap ((j : Int) + 1) = ((j + 1 : Nat) : Int) := by rw [wr (by omega) (by omega)]; omega
  obtain ⟨h3, c3, x3⟩ := ih (j + 1) m h2 (by omega) (by omega) (by omega) (x.ext (x2.mono hc)) (x'.ext (x2.mono hc)) (Nat.le_trans hc x2.size)
  refine ⟨h3, ?_, x2.trans (x3.mono x2.size)⟩
  rw [s61_0_eq, x.len, oBs]
  simp only [asI, if_true, oBs, decide_eq_true hI, cond_true, e1, e4, e1', e4', wj]
  rw [c2, oBs]
  simp only [asB, oBs, Bool.not_true, cond_false]
  exact c3
theorem l23 {d c : Nat} (hd : 1048577 < d) {nv nv' : Value} {ns : List Kn} {top : Int} {h : AHeap} (x : KSl c h nv ns) (x' : KSl c h nv' ns) (hc : c ≤ h.size) (hl : ns.length ≤ 1048576) (hN : ∀ n ∈ ns, n.t.size ≤ 1048576 ∧ n.ks.length ≤ 1048576) :
  ∃ h', call Tp Ms (d + 4) 23 [trVal nv top, trVal nv' top] h = some (.bool true, h') ∧ Ext h.size h h' := by
 have e1 := Ext.new (Nat.le_refl h.size) 35 [nv, .int .i64 top]
 have r1 := (Own.new (b := h.size) (Nat.le_refl _) 35 [nv, .int .i64 top]).row
 have s1 : (h.new 35 [nv, .int .i64 top]).size = h.size + 1 := rfl
 rw [c23, e23, tr_aCells x, oBs]
 simp only [aNew]
 generalize h.new 35 [nv, .int .i64 top] = h1 at e1 r1 s1 ⊢
 have e2 := Ext.new (Nat.le_refl h1.size) 35 [nv', .int .i64 top]
 have r2 := (Own.new (b := h1.size) (Nat.le_refl _) 35 [nv', .int .i64 top]).row
 have s2 : (h1.new 35 [nv', .int .i64 top]).size = h1.size + 1 := rfl
 rw [tr_aCells x', oBs]
 generalize h1.new 35 [nv', .int .i64 top] = h2 at e2 r2 s2 ⊢
 have r1' := r1.ext e2 (by omega)
 obtain ⟨a0, _, _⟩ := ld2 r1'
 obtain ⟨b0, _, _⟩ := ld2 r2
 have E : Ext h.size h h2 := e1.trans (e2.mono (by omega))
 obtain ⟨h3, c3, x3⟩ := eqK_loop (d := d) (N := d + 2) hd hl hN ns.length 0 (d + 2) h2 (by omega) (by omega) (by omega) (x.ext (E.mono hc)) (x'.ext (E.mono hc)) (Nat.le_trans hc E.size)
 obtain ⟨_, a1, _⟩ := ld2 (r1'.ext x3 (by omega))
 obtain ⟨_, b1, _⟩ := ld2 (r2.ext x3 (by omega))
 have c61' : call Tp Ms (d + 3) 61 [nv, nv'] h2 = some (.bool true, h3) := by
  rw [c61, e61, x.len, oBs]
  simp only [asI, if_true, oBs, x'.len]
  rw [bne_self_eq_false, cond_false]
  exact c3
 refine ⟨h3, ?_, E.trans (x3.mono E.size)⟩
 simp only [aOff_ptr, Nat.zero_add, oBs, a0, b0]
 rw [c61', oBs]
 simp only [asB, oBs, Bool.not_true, cond_false, a1, b1, asI, if_true]
 rw [bne_self_eq_false, cond_false]
def inR (x a b : Int) : Bool := decide (a ≤ x) && decide (x ≤ b)
theorem l98 (d : Nat) (x a b : Int) (h : AHeap) : call Tp Ms (d + 1) 98 [.int .i64 x, .int .i64 a, .int .i64 b] h = some (.bool (inR x a b), h) := by
 rw [c98, e98]; unfold inR
 by_cases h1 : a ≤ x
 ·have : x ≥ a := h1
  rw [decide_eq_true this, cond_true]; rfl
 ·have : ¬ x ≥ a := h1
  rw [decide_eq_false this, cond_false]; rfl
theorem l103 (d : Nat) (x a b : Int) (h : AHeap) : call Tp Ms (d + 1) 103 [.int .i64 x, .int .i64 a, .int .i64 b] h = some (.bool (inR x a b), h) := by
 rw [c103, e103]; unfold inR
 by_cases h1 : a ≤ x
 ·have : x ≥ a := h1
  rw [decide_eq_true this, cond_true]; rfl
 ·have : ¬ x ≥ a := h1
  rw [decide_eq_false this, cond_false]; rfl
def cls (k : Int) : Int := if inR k 1 13 = true then 1 else if inR k 14 20 = true then 2 else if k = 21 then 3 else if k = 22 then 4 else if k = 23 ∨ k = 24 then 5 else 0
theorem cond_ge (x a b : Int) (f : Bool → Option (Value × AHeap)) : (bif decide (x ≥ a) then f (decide (x ≤ b)) else f false) = f (inR x a b) := by
 unfold inR
 by_cases h1 : a ≤ x
 ·have : x ≥ a := h1
  rw [decide_eq_true this, cond_true]; rfl
 ·have : ¬ x ≥ a := h1
  rw [decide_eq_false this, cond_false]; rfl
theorem l99 (d : Nat) (k : Int) (h : AHeap) : call Tp Ms (d + 1) 99 [.int .i64 k] h = some (.int .i64 (cls k), h) := by
 rw [c99, e99]
 rw [cond_ge k 1 13 (fun b => s99_0 hk0 (call Tp Ms d) d k b h), s99_0_j, s99_0_eq, cond_ge k 14 20 (fun b => s99_1 hk0 (call Tp Ms d) d k b h), s99_1_j, s99_1_eq]
 unfold cls
 cases inR k 1 13 with
 | true => rfl
 | false =>
  cases inR k 14 20 with
  | true => rfl
  | false =>
   simp only [cond_false, if_false, Bool.false_eq_true]
   by_cases h1 : k = 21
   ·subst h1; rfl
   ·rw [beq_eq_false_iff_ne.2 h1, cond_false, if_neg h1]
    by_cases h2 : k = 22
    ·subst h2; rfl
    ·rw [beq_eq_false_iff_ne.2 h2, cond_false, if_neg h2]
     by_cases h3 : k = 23
     ·subst h3; rw [if_pos (.inl rfl), show ((23 : Int) == 23) = true from rfl, cond_true, s99_2_j, s99_2_eq]; rfl
     ·rw [beq_eq_false_iff_ne.2 h3, cond_false, s99_2_j, s99_2_eq]
      by_cases h4 : k = 24
      ·subst h4; rfl
      ·rw [beq_eq_false_iff_ne.2 h4, if_neg (fun x => x.elim h3 h4)]; rfl
theorem IOwn.push {b : Nat} {h : AHeap} {v : Value} {xs : List Int} (x : IOwn b h v xs) (hb : b ≤ h.size) (hl : xs.length ≤ 2000000) (y : Int) :
  ∃ v' h', aApp (h.new 3 [.int .i64 y]) 3 1 8 v (slc h.size 0 1) = some (v', h') ∧ Ext b h h' ∧ IOwn b h' v' (xs ++ [y]) := by
 obtain ⟨r, rfl, o⟩ := x
 have e := Ext.new (Nat.le_refl h.size) 3 [Value.int .i64 y]
 have w := (Own.new (b := 0) (Nat.zero_le h.size) 3 [Value.int .i64 y]).row
 have hS : (h.new 3 [Value.int .i64 y]).size = h.size + 1 := rfl
 have hsrc : aSrc (h.new 3 [Value.int .i64 y]) 1 (slc h.size 0 1) = some (1, [Value.int .i64 y]) := w.src (n := 1) (esz := 1) (by show 0 + 1 * 1 ≤ 1; omega)
 obtain ⟨h', s1, x1, o1, _⟩ := (o.ext e o.lt.2).app (n := xs.length) (bytes := 8) (esz := 1) (by omega) hsrc (by simp [ints]) (by show xs.length + 1 ≤ 140737488355328; omega) (by show (xs.length + 1) * 8 ≤ 140737488355328; omega)
 refine ⟨_, h', s1, (e.mono hb).trans x1, (h.new 3 [Value.int .i64 y]).size, by simp, ?_⟩
 rw [show ints (xs ++ [y]) = ints xs ++ [.int .i64 y] by simp [ints]]
 exact o1
theorem IOwn.newS {b : Nat} {h : AHeap} (hb : b ≤ h.size) (xs : List Int) : IOwn b (h.new 3 (ints xs)) (slc h.size 0 xs.length) xs := ⟨h.size, rfl, Own.new hb 3 (ints xs)⟩
theorem IOwn.len {b : Nat} {h : AHeap} {v : Value} {xs : List Int} (x : IOwn b h v xs) : aLen v = some (.int .i64 xs.length) := x.isl.len
theorem IOwn.s2 {b : Nat} {h : AHeap} {v : Value} {xs : List Int} (x : IOwn b h v xs) (t : Bool) : List.all [v, .bool t] isS2 = true := by obtain ⟨r, rfl, _⟩ := x; rfl
def Is100 (b : Nat) (h : AHeap) (r : Option (Value × AHeap)) (m : Nat) (xs : List Int) : Prop :=
 ∃ v h', r = some (.tuple (List.toArray [v, .bool ((xs.length : Int) == (m : Int))]), h') ∧ Ext b h h' ∧ IOwn b h' v xs
theorem Is100.of {b : Nat} {h h1 : AHeap} {r : Option (Value × AHeap)} {m : Nat} {xs : List Int} (x : Ext b h h1) (y : Is100 b h1 r m xs) : Is100 b h r m xs := let ⟨v, h', h1, h2, h3⟩ := y; ⟨v, h', h1, x.trans h2, h3⟩
theorem shp0 {C : ACall} {N b m : Nat} {v : Value} {xs : List Int} {h : AHeap} (x : IOwn b h v xs) (hN : 0 < N) : Is100 b h (s100_4 hk0 C N (m : Int) v 0 h) m xs := by
 obtain ⟨N, rfl⟩ : ∃ q, N = q + 1 := ⟨N - 1, by omega⟩
 rw [s100_4_j, s100_4_eq, s100_5_eq]
 have e : ((0 : Int) != 0) = false := rfl
 rw [e, cond_false, x.len, oBs]
 simp only [asI, if_true, oBs, x.s2, cond_true, Bool.cond_self]
 exact ⟨v, h, rfl, Ext.refl _ _, x⟩
theorem shpAll {C : ACall} {N b m : Nat} {all : Int} (ha : all ≠ 0) (hm : m ≤ 1048576) : ∀ (k j n1 : Nat) (v : Value) (xs : List Int) (h : AHeap), m - j = k → j ≤ m → k < n1 → b ≤ h.size → xs.length = j → IOwn b h v xs →
  Is100 b h (s100_5 hk0 C N n1 (m : Int) v all (j : Int) h) m (xs ++ List.replicate k all) := by
 intro k
 induction k with
 | zero =>
  intro j n1 v xs h hk hj hn hb hx x
  obtain ⟨n1, rfl⟩ : ∃ q, n1 = q + 1 := ⟨n1 - 1, by omega⟩
  have : ¬ ((j : Int) < (m : Int)) := by omega
  rw [s100_5_eq, decide_eq_false this, cond_false, x.len, oBs]
  simp only [asI, if_true, oBs, x.s2, cond_true, List.replicate_zero, List.append_nil]
  exact ⟨v, h, rfl, Ext.refl _ _, x⟩
 | succ k ih =>
  intro j n1 v xs h hk hj hn hb hx x
  obtain ⟨n1, rfl⟩ : ∃ q, n1 = q + 1 := ⟨n1 - 1, by omega⟩
  have hI : ((j : Int) < (m : Int)) := by omega
  have hne : (all != 0) = true := by simp [ha]
  have wj : IntKind.i64.wrap ((j : Int) + 1) = ((j + 1 : Nat) : Int) := by rw [wr (by omega) (by omega)]; omega
  obtain ⟨v', h', c, x1, o⟩ := x.push hb (by omega) all
  rw [s100_5_eq, decide_eq_true hI, cond_true, hne, cond_true, s100_6_j, s100_6_eq]
  simp only [aNewS]
  rw [c, oBs, wj]
  have := ih (j + 1) n1 v' (xs ++ [all]) h' (by omega) (by omega) (by omega) (Nat.le_trans hb x1.size) (by simp [hx]) o
  rw [List.append_assoc] at this
  exact Is100.of x1 this
theorem shpFn {C : ACall} {N b m : Nat} (hm : m ≤ 1048576) (hN : 0 < N) : ∀ (k n1 : Nat) (v : Value) (xs : List Int) (h : AHeap), m - 1 - xs.length = k → k < n1 → b ≤ h.size → xs.length ≤ m → IOwn b h v xs →
  Is100 b h (s100_0 hk0 C N n1 (m : Int) v 0 h) m (xs ++ List.replicate k 4 ++ [3]) := by
 intro k
 induction k with
 | zero =>
  intro n1 v xs h hk hn hb hx x
  obtain ⟨n1, rfl⟩ : ∃ q, n1 = q + 1 := ⟨n1 - 1, by omega⟩
  have w : IntKind.i64.wrap ((xs.length : Int) + 1) = (xs.length : Int) + 1 := wr (by omega) (by omega)
  have : ¬ ((xs.length : Int) + 1 < (m : Int)) := by omega
  obtain ⟨v', h', c, x1, o⟩ := x.push hb (by omega) 3
  rw [s100_0_eq, x.len, oBs]
  simp only [asI, if_true, oBs, w, decide_eq_false this, cond_false, aNewS]
  rw [c, oBs]
  exact Is100.of x1 (by simpa using shp0 (C := C) o hN)
 | succ k ih =>
  intro n1 v xs h hk hn hb hx x
  obtain ⟨n1, rfl⟩ : ∃ q, n1 = q + 1 := ⟨n1 - 1, by omega⟩
  have w : IntKind.i64.wrap ((xs.length : Int) + 1) = (xs.length : Int) + 1 := wr (by omega) (by omega)
  have : ((xs.length : Int) + 1 < (m : Int)) := by omega
  obtain ⟨v', h', c, x1, o⟩ := x.push hb (by omega) 4
  rw [s100_0_eq, x.len, oBs]
  simp only [asI, if_true, oBs, w, decide_eq_true this, cond_true, aNewS]
  rw [c, oBs]
  have := ih n1 v' (xs ++ [4]) h' (by simp; omega) (by omega) (Nat.le_trans hb x1.size) (by simp; omega) o
  rw [List.append_assoc xs [4]] at this
  exact Is100.of x1 this
theorem shpCall {C : ACall} {N b m : Nat} (hm : m ≤ 1048576) (hN : 0 < N) : ∀ (k n1 : Nat) (v : Value) (xs : List Int) (h : AHeap), m - xs.length = k → k < n1 → b ≤ h.size → IOwn b h v xs → xs.length ≤ 1048576 →
  Is100 b h (s100_2 hk0 C N n1 (m : Int) v 0 h) m (xs ++ List.replicate k 1) := by
 intro k
 induction k with
 | zero =>
  intro n1 v xs h hk hn hb x hx
  obtain ⟨n1, rfl⟩ : ∃ q, n1 = q + 1 := ⟨n1 - 1, by omega⟩
  have : ¬ ((xs.length : Int) < (m : Int)) := by omega
  rw [s100_2_eq, x.len, oBs]
  simp only [asI, if_true, oBs, decide_eq_false this, cond_false, List.replicate_zero, List.append_nil]
  exact shp0 x hN
 | succ k ih =>
  intro n1 v xs h hk hn hb x hx
  obtain ⟨n1, rfl⟩ : ∃ q, n1 = q + 1 := ⟨n1 - 1, by omega⟩
  have : ((xs.length : Int) < (m : Int)) := by omega
  obtain ⟨v', h', c, x1, o⟩ := x.push hb (by omega) 1
  rw [s100_2_eq, x.len, oBs]
  simp only [asI, if_true, oBs, decide_eq_true this, cond_true, aNewS]
  rw [c, oBs]
  have := ih n1 v' (xs ++ [1]) h' (by simp; omega) (by omega) (Nat.le_trans hb x1.size) o (by simp; omega)
  rw [List.append_assoc] at this
  exact Is100.of x1 this
def two2 (k : Int) : Bool := k == 8 || (k == 10 || (k == 12 || (k == 13 || k == 24)))
def one1 (k : Int) : Bool := k == 11 || (k == 14 || (k == 15 || (k == 19 || k == 23)))
def shape (k : Int) (m : Nat) : List Int :=
 if k = 6 then List.replicate (m - 1) 4 ++ [3]
 else if k = 7 then List.replicate m 5
 else if two2 k = true then [1, 1]
 else if k = 9 then [1] ++ List.replicate (m - 1) 1
 else if one1 k = true then [1]
 else if k = 16 then [1, 1, 1]
 else if k = 17 then (if m = 3 then [1, 3, 3] else [1, 3])
 else if k = 18 then [1, 3]
 else if k = 20 then [6]
 else if k = 21 then List.replicate m 2
 else []
theorem shpLit {C : ACall} {N b m : Nat} {h : AHeap} (hb : b ≤ h.size) (hN : 0 < N) (xs : List Int) : Is100 b h (s100_4 hk0 C N (m : Int) (slc h.size 0 xs.length) 0 (h.new 3 (ints xs))) m xs :=
 Is100.of (Ext.new hb 3 (ints xs)) (shp0 (IOwn.newS hb xs) hN)
theorem l100 {d c : Nat} (hd : 1048577 < d) {kv : Value} {n : Kn} {h : AHeap} (x : ISl c h kv n.ks) (hl : n.ks.length ≤ 1048576) :
  Is100 h.size h (call Tp Ms (d + 1) 100 [knVal n kv] h) n.ks.length (shape n.k n.ks.length) := by
 have e1 := Ext.new (Nat.le_refl h.size) 73 (knCells n kv)
 have r1 : Row (h.new 73 (knCells n kv)) h.size [.int .i64 n.k, .string n.t, .int .i64 n.i, kv] := (Own.new (b := h.size) (Nat.le_refl _) 73 (knCells n kv)).row
 have s1 : (h.new 73 (knCells n kv)).size = h.size + 1 := rfl
 rw [c100, e100, kn_aCells x, oBs]
 simp only [aNew]
 generalize h.new 73 (knCells n kv) = h1 at e1 r1 s1 ⊢
 obtain ⟨_, _, _, a3, _⟩ := ld4 r1
 have e2 := Ext.new (Nat.le_refl h1.size) 3 (ints [])
 have i2 := IOwn.newS (b := h.size) (h := h1) (by omega) []
 have s2 : (h1.new 3 (ints [])).size = h1.size + 1 := rfl
 have hnil : ([] : List Value) = ints [] := rfl
 obtain ⟨b0, _, _, _, _⟩ := ld4 (r1.ext e2 (by omega))
 refine Is100.of (e1.trans (e2.mono (by omega))) ?_
 simp only [aOff_ptr, Nat.zero_add, oBs, a3, x.len, asI, if_true, aNewS, hnil, b0]
 generalize h1.new 3 (ints []) = h2 at i2 s2 ⊢
 generalize hm : n.ks.length = m at hl ⊢
 generalize n.k = k
 unfold shape
 have hb : h.size ≤ h2.size := by omega
 by_cases k6 : k = 6
 ·subst k6
  rw [if_pos rfl, show ((6 : Int) == 6) = true from rfl, cond_true]
  exact shpFn (C := call Tp Ms d) (N := d) (b := h.size) hl (by omega) (m - 1) d _ [] h2 (by simp) (by omega) hb (by simp) i2
 rw [beq_eq_false_iff_ne.2 k6, cond_false, if_neg k6]
 by_cases k7 : k = 7
 ·subst k7
  rw [if_pos rfl, show ((7 : Int) == 7) = true from rfl, cond_true, s100_4_j, s100_4_eq]
  exact shpAll (C := call Tp Ms d) (N := d) (b := h.size) (by decide) hl m 0 d _ [] h2 (by omega) (by omega) (by omega) hb rfl i2
 rw [beq_eq_false_iff_ne.2 k7, cond_false, if_neg k7]
 have E : ∀ f : Bool → Option (Value × AHeap), (bif k == 8 then f (k == 8) else bif k == 10 then f (k == 10) else bif k == 12 then f (k == 12) else bif k == 13 then f (k == 13) else f (k == 24)) = f (two2 k) := by
  intro f; unfold two2
  cases (k == 8) <;> cases (k == 10) <;> cases (k == 12) <;> cases (k == 13) <;> rfl
 have E1 : ∀ f : Bool → Option (Value × AHeap), (bif k == 11 then f (k == 11) else bif k == 14 then f (k == 14) else bif k == 15 then f (k == 15) else bif k == 19 then f (k == 19) else f (k == 23)) = f (one1 k) := by
  intro f; unfold one1
  cases (k == 11) <;> cases (k == 14) <;> cases (k == 15) <;> cases (k == 19) <;> rfl
 rw [E (fun t => s100_1 hk0 (call Tp Ms d) d (m : Int) (slc h1.size 0 0) 0 k t h2), s100_1_j, s100_1_eq]
 have hN : 0 < d := by omega
 cases two2 k with
 | true => rw [cond_true, if_pos rfl]; exact shpLit hb hN [1, 1]
 | false =>
  rw [cond_false, if_neg (by simp)]
  by_cases k9 : k = 9
  ·subst k9
   rw [if_pos rfl, show ((9 : Int) == 9) = true from rfl, cond_true]
   exact Is100.of (Ext.new hb 3 (ints [1])) (shpCall (C := call Tp Ms d) (N := d) hl hN (m - 1) d _ [1] _ (by simp) (by omega) (by simp [AHeap.new]; omega) (IOwn.newS hb [1]) (by simp))
  rw [beq_eq_false_iff_ne.2 k9, cond_false, if_neg k9, E1 (fun t => s100_3 hk0 (call Tp Ms d) d (m : Int) (slc h1.size 0 0) 0 k t h2), s100_3_j, s100_3_eq]
  cases one1 k with
  | true => rw [cond_true, if_pos rfl]; exact shpLit hb hN [1]
  | false =>
   rw [cond_false, if_neg (by simp)]
   by_cases k16 : k = 16
   ·subst k16
    rw [if_pos rfl, show ((16 : Int) == 16) = true from rfl, cond_true]; exact shpLit hb hN [1, 1, 1]
   rw [beq_eq_false_iff_ne.2 k16, cond_false, if_neg k16]
   by_cases k17 : k = 17
   ·subst k17
    rw [if_pos rfl, show ((17 : Int) == 17) = true from rfl, cond_true]
    by_cases m3 : m = 3
    ·have : ((m : Int) == 3) = true := by simp [m3]
     rw [if_pos m3, this]
     simp only [cond_true, aNewS]
     exact Is100.of (Ext.new hb 3 (ints [1, 3])) (shpLit (by simp [AHeap.new]; omega) hN [1, 3, 3])
    ·have : ((m : Int) == 3) = false := by rw [beq_eq_false_iff_ne]; omega
     rw [if_neg m3, this]
     simp only [cond_false]
     exact shpLit hb hN [1, 3]
   rw [beq_eq_false_iff_ne.2 k17, cond_false, if_neg k17]
   by_cases k18 : k = 18
   ·subst k18
    rw [if_pos rfl, show ((18 : Int) == 18) = true from rfl, cond_true]; exact shpLit hb hN [1, 3]
   rw [beq_eq_false_iff_ne.2 k18, cond_false, if_neg k18]
   by_cases k20 : k = 20
   ·subst k20
    rw [if_pos rfl, show ((20 : Int) == 20) = true from rfl, cond_true]; exact shpLit hb hN [6]
   rw [beq_eq_false_iff_ne.2 k20, cond_false, if_neg k20]
   by_cases k21 : k = 21
   ·subst k21
    rw [if_pos rfl, show ((21 : Int) == 21) = true from rfl, cond_true, s100_4_j, s100_4_eq]
    exact shpAll (C := call Tp Ms d) (N := d) (b := h.size) (by decide) hl m 0 d _ [] h2 (by omega) (by omega) (by omega) hb rfl i2
   rw [beq_eq_false_iff_ne.2 k21, cond_false, if_neg k21]
   exact shp0 i2 hN
def emp (t : ByteArray) : Bool := t.toList == (⟨#[]⟩ : ByteArray).toList
def nameP (t : ByteArray) : Bool := inR (t.size : Int) 1 12 && (!isWd t && decide (endOf isLet t 0 = t.size))
def textP (t : ByteArray) : Bool := decide ((t.size : Int) ≤ 160) && decide (endOf isPln t 0 = t.size)
def nm4 (k : Int) : Bool := k == 5 || (k == 14 || (k == 15 || k == 22))
def hasP (n : Kn) : Bool :=
 if nm4 n.k = true then nameP n.t && n.i == 0
 else if n.k = 4 then textP n.t && n.i == 0
 else emp n.t && (if n.k = 2 then inR n.i 0 1 else if n.k = 3 then inR n.i 0 999999999999999 else if n.k = 10 then inR n.i 1 10 else if n.k = 11 then inR n.i 1 3 else n.i == 0)
theorem l145 {d : Nat} (hd : 1048577 < d) (t : ByteArray) (ht : t.size ≤ 1048576) (h : AHeap) : ∃ h', call Tp Ms (d + 3) 145 [.string t] h = some (.bool (nameP t), h') ∧ Ext h.size h h' := by
 rw [c145, e145]
 have c1 : call Tp Ms (d + 2) 98 [.int .i64 (t.size : Int), .int .i64 1, .int .i64 12] h = some (.bool (inR (t.size : Int) 1 12), h) := l98 (d + 1) _ _ _ _
 rw [c1, oBs]
 simp only [asB, oBs]
 unfold nameP
 cases hR : inR (t.size : Int) 1 12 with
 | false =>
  refine ⟨h, ?_, Ext.refl _ _⟩
  rw [Bool.not_false, cond_true, s145_0_j, s145_0_eq]; rfl
 | true =>
  rw [Bool.not_true, cond_false]
  obtain ⟨h2, c2, x2⟩ := l88 (d := d) (by omega) t h
  rw [c2, oBs]
  simp only [asB, oBs]
  rw [s145_0_j, s145_0_eq]
  refine ⟨h2, ?_, x2⟩
  cases isWd t with
  | true => rfl
  | false =>
   have hs : t.size ≤ 12 := by
    unfold inR at hR
    simp at hR; omega
   have l87' : ∀ (n : Int) (h : AHeap), call Tp Ms (d + 2) 87 [.int .u8 n] h = some (.bool (isLet n), h) := l87 (d + 1)
   rw [cond_false, s145_1_j, s145_1_eq]
   have hbd := endOf_bd (p := isLet) (s := t) _ 0 rfl (by omega)
   have hno := endOf_no (p := isLet) (s := t) _ 0 rfl
   obtain ⟨m', hm'⟩ := skip (p := isLet) (s := t) (fun n j => s145_2 hk0 (call Tp Ms (d + 2)) (d + 2) n t j h2) (fun n j hj hp => by
    have : ((j : Nat) : Int) < (t.size : Int) := by omega
    have wj : IntKind.i64.wrap ((j : Int) + 1) = ((j + 1 : Nat) : Int) := by rw [wr (by omega) (by omega)]; omega
    rw [s145_2_eq]
    simp only [this, decide_true, cond_true, strIx hj, oBs, asI, if_true, l87', asB, hp, wj, Bool.not_true, cond_false]) t.size 0 (d + 2) (by omega) (by omega) (by omega)
   have hm2 : s145_2 hk0 (call Tp Ms (d + 2)) (d + 2) (d + 2) t 0 h2 = s145_2 hk0 (call Tp Ms (d + 2)) (d + 2) (m' + 1) t ((endOf isLet t 0 : Nat) : Int) h2 := hm'
   rw [hm2, s145_2_eq]
   generalize endOf isLet t 0 = e at hbd hno
   by_cases he : e < t.size
   ·have hI : ((e : Nat) : Int) < (t.size : Int) := by omega
    rw [decide_eq_true hI, cond_true, strIx he, oBs]
    simp only [asI, if_true, oBs]
    rw [l87', oBs]
    simp only [asB, oBs, hno he, Bool.not_false, cond_true]
    rw [decide_eq_false (show ¬ e = t.size by omega)]; rfl
   ·have hI : ¬ ((e : Nat) : Int) < (t.size : Int) := by omega
    rw [decide_eq_false hI, cond_false, decide_eq_true (show e = t.size by omega)]; rfl
theorem l101 {d c : Nat} (hd : 1048577 < d) {kv : Value} {n : Kn} {h : AHeap} (x : ISl c h kv n.ks) (ht : n.t.size ≤ 1048576) :
  ∃ h', call Tp Ms (d + 4) 101 [knVal n kv] h = some (.bool (hasP n), h') ∧ Ext h.size h h' := by
 have e1 := Ext.new (Nat.le_refl h.size) 73 (knCells n kv)
 have r1 : Row (h.new 73 (knCells n kv)) h.size [.int .i64 n.k, .string n.t, .int .i64 n.i, kv] := (Own.new (b := h.size) (Nat.le_refl _) 73 (knCells n kv)).row
 have s1 : (h.new 73 (knCells n kv)).size = h.size + 1 := rfl
 rw [c101, e101, kn_aCells x, oBs]
 simp only [aNew]
 generalize h.new 73 (knCells n kv) = h1 at e1 r1 s1 ⊢
 obtain ⟨a0, a1, a2, a3, _⟩ := ld4 r1
 have l98' : ∀ (x a b : Int) (h : AHeap), call Tp Ms (d + 3) 98 [.int .i64 x, .int .i64 a, .int .i64 b] h = some (.bool (inR x a b), h) := l98 (d + 2)
 have l90' : ∀ (n : Int) (h : AHeap), call Tp Ms (d + 3) 90 [.int .u8 n] h = some (.bool (isPln n), h) := l90 (d + 2)
 simp only [aOff_ptr, Nat.zero_add, oBs, a0, asI, if_true]
 have E : ∀ f : Bool → Option (Value × AHeap), (bif n.k == 5 then f (n.k == 5) else bif n.k == 14 then f (n.k == 14) else bif n.k == 15 then f (n.k == 15) else f (n.k == 22)) = f (nm4 n.k) := by
  intro f; unfold nm4
  cases (n.k == 5) <;> cases (n.k == 14) <;> cases (n.k == 15) <;> rfl
 rw [E (fun t => s101_0 hk0 (call Tp Ms (d + 3)) (d + 3) (ptr h.size 0) n.k t h1), s101_0_j, s101_0_eq]
 unfold hasP
 cases nm4 n.k with
 | true =>
  rw [cond_true, if_pos rfl]
  obtain ⟨h2, c2, x2⟩ := l145 hd n.t ht h1
  obtain ⟨_, _, b2, _, _⟩ := ld4 (r1.ext x2 (by omega))
  refine ⟨h2, ?_, e1.trans (x2.mono (by omega))⟩
  simp only [aOff_ptr, Nat.zero_add, oBs, a1, asS]
  rw [c2, oBs]
  simp only [asB, oBs]
  cases nameP n.t with
  | true => simp only [cond_true, b2, oBs, asI, if_true, Bool.true_and]
  | false => rfl
 | false =>
  rw [cond_false, if_neg (by simp)]
  by_cases k4 : n.k = 4
  ·rw [if_pos k4, k4, show ((4 : Int) == 4) = true from rfl, cond_true]
   refine ⟨h1, ?_, e1⟩
   have hbd := endOf_bd (p := isPln) (s := n.t) _ 0 rfl (by omega)
   have hno := endOf_no (p := isPln) (s := n.t) _ 0 rfl
   obtain ⟨m', hm'⟩ := skip (p := isPln) (s := n.t) (fun m j => s101_1 hk0 (call Tp Ms (d + 3)) (d + 3) m (ptr h.size 0) j h1) (fun m j hj hp => by
    have : ((j : Nat) : Int) < (n.t.size : Int) := by omega
    have wj : IntKind.i64.wrap ((j : Int) + 1) = ((j + 1 : Nat) : Int) := by rw [wr (by omega) (by omega)]; omega
    rw [s101_1_eq]
    simp only [aOff_ptr, Nat.zero_add, oBs, a1, asS, this, decide_true, cond_true, strIx hj, asI, if_true, l90', asB, hp, wj, Bool.not_true, cond_false]) n.t.size 0 (d + 3) (by omega) (by omega) (by omega)
   have hm2 : s101_1 hk0 (call Tp Ms (d + 3)) (d + 3) (d + 3) (ptr h.size 0) 0 h1 = s101_1 hk0 (call Tp Ms (d + 3)) (d + 3) (m' + 1) (ptr h.size 0) ((endOf isPln n.t 0 : Nat) : Int) h1 := hm'
   rw [hm2, s101_1_eq]
   unfold textP
   generalize endOf isPln n.t 0 = e at hbd hno
   simp only [aOff_ptr, Nat.zero_add, oBs, a1, asS]
   by_cases he : e < n.t.size
   ·have hI : ((e : Nat) : Int) < (n.t.size : Int) := by omega
    rw [decide_eq_true hI, cond_true, strIx he, oBs]
    simp only [asI, if_true, oBs]
    rw [l90', oBs]
    simp only [asB, oBs, hno he, Bool.not_false, cond_true]
    rw [decide_eq_false (show ¬ e = n.t.size by omega)]; simp
   ·have hI : ¬ ((e : Nat) : Int) < (n.t.size : Int) := by omega
    rw [decide_eq_false hI, cond_false, decide_eq_true (show e = n.t.size by omega)]
    cases decide ((n.t.size : Int) ≤ 160) with
    | true => simp only [cond_true, a2, oBs, asI, if_true, Bool.true_and]
    | false => rfl
  rw [beq_eq_false_iff_ne.2 k4, cond_false, if_neg k4, s101_2_j, s101_2_eq]
  refine ⟨h1, ?_, e1⟩
  simp only [aOff_ptr, Nat.zero_add, oBs, a0, a1, a2, asS, asI, if_true]
  have hE : (n.t.toList == (⟨#[]⟩ : ByteArray).toList) = emp n.t := rfl
  rw [hE]
  cases emp n.t with
  | false => rfl
  | true =>
   rw [Bool.not_true, cond_false, Bool.true_and]
   by_cases k2 : n.k = 2
   ·rw [if_pos k2, k2, show ((2 : Int) == 2) = true from rfl, cond_true]
    by_cases i0 : n.i = 0
    ·rw [i0]; rfl
    ·rw [beq_eq_false_iff_ne.2 i0, cond_false]
     by_cases i1 : n.i = 1
     ·rw [i1]; rfl
     ·rw [beq_eq_false_iff_ne.2 i1]
      have : inR n.i 0 1 = false := by unfold inR; simp; omega
      rw [this]
   rw [beq_eq_false_iff_ne.2 k2, cond_false, if_neg k2]
   by_cases k3 : n.k = 3
   ·rw [if_pos k3, k3, show ((3 : Int) == 3) = true from rfl, cond_true, l98', oBs]; rfl
   rw [beq_eq_false_iff_ne.2 k3, cond_false, if_neg k3]
   by_cases k10 : n.k = 10
   ·rw [if_pos k10, k10, show ((10 : Int) == 10) = true from rfl, cond_true, l98', oBs]; rfl
   rw [beq_eq_false_iff_ne.2 k10, cond_false, if_neg k10]
   by_cases k11 : n.k = 11
   ·rw [if_pos k11, k11, show ((11 : Int) == 11) = true from rfl, cond_true, l98', oBs]; rfl
   rw [beq_eq_false_iff_ne.2 k11, cond_false, if_neg k11]
def clsOk (c k : Int) : Bool := if c = 6 then k == 9 else (cls k == c && c != 0)
abbrev FRes := (Int × Bool) × List Bool
def kidsGo (F : Int → Int → Int → List Bool → FRes) (i : Int) : List Int → List Int → Int → List Bool → FRes
 | [], _, next, seen => ((next + 1, next == i), seen)
 | kid :: ks, s :: ss, next, seen => if kid ≥ i then ((0, false), seen) else if (F kid s next seen).1.2 = true then kidsGo F i ks ss (F kid s next seen).1.1 (F kid s next seen).2 else ((0, false), (F kid s next seen).2)
 | _ :: _, [], _, seen => ((0, false), seen)
def nodeFit (n : Kn) (c : Int) : Bool := clsOk c n.k && (((shape n.k n.ks.length).length : Int) == (n.ks.length : Int) && hasP n)
def fitsP (T : List Kn) : Nat → Int → Int → Int → List Bool → FRes
 | 0, _, _, _, seen => ((0, false), seen)
 | f + 1, i, c, next, seen =>
  match T[i.toNat]? with
  | some n => if 0 ≤ i ∧ seen[i.toNat]? = some false then (if nodeFit n c = true then kidsGo (fitsP T f) i n.ks (shape n.k n.ks.length) next (seen.set i.toNat true) else ((0, false), seen.set i.toNat true)) else ((0, false), seen)
  | none => ((0, false), seen)
def bools (l : List Bool) : List Value := l.map Value.bool
theorem bools_set (ys : List Bool) (j : Nat) (v : Bool) : (bools ys).set j (.bool v) = bools (ys.set j v) := by simp [bools, List.map_set]
def Keep4 (h h' : AHeap) : Prop := ∀ j o, h.at? j = some o → o.elem ≠ 4 → h'.at? j = some o
theorem Keep4.refl (h : AHeap) : Keep4 h h := fun _ _ h _ => h
theorem Keep4.trans {h h' h'' : AHeap} (x : Keep4 h h') (y : Keep4 h' h'') : Keep4 h h'' := fun j o a b => y j o (x j o a b) b
theorem Keep4.ext {h h' : AHeap} (x : Ext h.size h h') : Keep4 h h' := fun j o a _ => x.at? (at?_obj a).2.1 a
def RowE (h : AHeap) (i : Nat) (e : TypeId) (cs : List Value) : Prop := ∃ o, h.at? i = some o ∧ o.elem = e ∧ o.cells = cs
theorem RowE.row {h : AHeap} {i : Nat} {e : TypeId} {cs : List Value} (x : RowE h i e cs) : Row h i cs := let ⟨o, a, _, b⟩ := x; ⟨o, a, b⟩
theorem RowE.keep {h h' : AHeap} {i : Nat} {e : TypeId} {cs : List Value} (x : RowE h i e cs) (he : e ≠ 4) (k : Keep4 h h') : RowE h' i e cs := let ⟨o, a, b, c⟩ := x; ⟨o, k i o a (by rw [b]; exact he), b, c⟩
theorem Own.rowE {b : Nat} {h : AHeap} {i : Nat} {e : TypeId} {cs : List Value} (x : Own b h i e cs) : RowE h i e cs := let ⟨_, _, a, _⟩ := x; ⟨_, a, rfl, rfl⟩
def fv (r : FRes) : Value := .tuple (List.toArray [.int .i64 r.1.1, .bool r.1.2])
def Is57 (b : Nat) (s : Nat) (h : AHeap) (o : Option (Value × AHeap)) (i : Int) (r : FRes) (m : Nat) : Prop :=
 ∃ h', o = some (fv r, h') ∧ Ext b h h' ∧ Keep4 h h' ∧ Own b h' s 4 (bools r.2) ∧ r.2.length = m ∧ (r.1.2 = true → r.1.1 = i + 1 ∧ 0 ≤ i)
theorem Is57.of {b s m : Nat} {h h1 : AHeap} {o : Option (Value × AHeap)} {i : Int} {r : FRes} (x : Ext b h h1) (k : Keep4 h h1) (y : Is57 b s h1 o i r m) : Is57 b s h o i r m :=
 let ⟨h', h1, h2, h3, h4, h5, h6⟩ := y; ⟨h', h1, x.trans h2, k.trans h3, h4, h5, h6⟩
theorem fits_loop {D N b s : Nat} {nv : Value} {T : List Kn} {top : Int} (hT : T.length ≤ 3000) {F : Int → Int → Int → List Bool → FRes}
  {iN : Nat} (hi : iN < T.length) {kv sv : Value} {n : Kn} {sh : List Int} (hsl : sh.length = n.ks.length) (hkl : n.ks.length ≤ 1048576)
  (hF : ∀ (i c next : Int) (seen : List Bool) (h : AHeap), i < iN → 0 ≤ next → next ≤ 10000 → KSl b h nv T → Own b h s 4 (bools seen) → seen.length = T.length → Is57 b s h (call Tp Ms D 57 [trVal nv top, .int .i64 i, .int .i64 c, .int .i64 next, slc s 0 T.length] h) i (F i c next seen) T.length)
  {p q c0 : Nat} :
  ∀ (k j m : Nat) (next : Int) (seen : List Bool) (h : AHeap), n.ks.length - j = k → j ≤ n.ks.length → k < m → 0 ≤ next → next ≤ 10000 → KSl b h nv T → Own b h s 4 (bools seen) → seen.length = T.length →
   RowE h p 35 [nv, .int .i64 top] → RowE h q 73 (knCells n kv) → IOwn c0 h sv sh → (∀ h', Keep4 h h' → Ext b h h' → ISl b h' kv n.ks) →
   Is57 b s h (s57_6 hk0 (call Tp Ms D) N m (iN : Int) next (slc s 0 T.length) (ptr p 0) (ptr q 0) sv (j : Int) h) (iN : Int) (kidsGo F (iN : Int) (n.ks.drop j) (sh.drop j) next seen) T.length := by
 intro k
 induction k with
 | zero =>
  intro j m next seen h hk hj hm h0 h1 x o hs rp rq isv hkv
  obtain ⟨m, rfl⟩ : ∃ q, m = q + 1 := ⟨m - 1, by omega⟩
  have : ¬ ((j : Int) < (n.ks.length : Int)) := by omega
  obtain ⟨_, _, _, a3, _⟩ := ld4 rq.row
  have ik := hkv h (Keep4.refl h) (Ext.refl _ _)
  have w : IntKind.i64.wrap (next + 1) = next + 1 := wr (by omega) (by omega)
  rw [s57_6_eq, List.drop_eq_nil_of_le (by omega)]
  simp only [aOff_ptr, Nat.zero_add, oBs, a3, ik.len, asI, if_true, decide_eq_false this, cond_false, w, kidsGo]
  exact ⟨h, rfl, Ext.refl _ _, Keep4.refl _, o, hs, fun e => ⟨by rw [show next = iN by simpa using e], by omega⟩⟩
 | succ k ih =>
  intro j m next seen h hk hj hm h0 h1 x o hs rp rq isv hkv
  obtain ⟨m, rfl⟩ : ∃ q, m = q + 1 := ⟨m - 1, by omega⟩
  have hlt : j < n.ks.length := by omega
  have hlt2 : j < sh.length := by omega
  have hI : ((j : Int) < (n.ks.length : Int)) := by omega
  obtain ⟨_, _, _, a3, _⟩ := ld4 rq.row
  obtain ⟨_, _, ap⟩ := ld2 rp.row
  have ap' : aLdN h (ptr p 0) 2 = some (trVal nv top) := ap
  have ik := hkv h (Keep4.refl h) (Ext.refl _ _)
  obtain ⟨pk, e1, e2⟩ := ik.at hlt
  obtain ⟨ps, f1, f2⟩ := isv.isl.at hlt2
  have wj : IntKind.i64.wrap ((j : Int) + 1) = ((j + 1 : Nat) : Int) := by rw [wr (by omega) (by omega)]; omega
  rw [s57_6_eq, List.drop_eq_getElem_cons hlt, List.drop_eq_getElem_cons hlt2, kidsGo]
  simp only [aOff_ptr, Nat.zero_add, oBs, a3, ik.len, asI, if_true, decide_eq_true hI, cond_true, e1, e2]
  by_cases hge : n.ks[j] ≥ (iN : Int)
  ·rw [decide_eq_true hge, cond_true, if_pos hge]
   exact ⟨h, rfl, Ext.refl _ _, Keep4.refl _, o, hs, fun e => by cases e⟩
  ·rw [decide_eq_false hge, cond_false, if_neg hge]
   simp only [ap', f1, f2, oBs, if_true]
   obtain ⟨h2, c2, x2, k2, o2, hs2, ha2⟩ := hF n.ks[j] sh[j] next seen h (by omega) h0 h1 x o hs
   rw [c2, oBs]
   generalize F n.ks[j] sh[j] next seen = r at o2 hs2 ha2 ⊢
   obtain ⟨⟨af, fine⟩, seen2⟩ := r
   have t0 : aExt (fv ((af, fine), seen2)) 0 = some (.int .i64 af) := rfl
   have t1 : aExt (fv ((af, fine), seen2)) 1 = some (.bool fine) := rfl
   simp only [t0, t1, oBs, asI, asB, if_true] at ha2 ⊢
   cases fine with
   | false =>
    rw [Bool.not_false, cond_true, if_neg (by simp)]
    exact ⟨h2, rfl, x2, k2, o2, hs2, fun e => by cases e⟩
   | true =>
    obtain ⟨haf, hk0'⟩ := ha2 rfl
    rw [Bool.not_true, cond_false, if_pos rfl, wj]
    refine Is57.of x2 k2 (ih (j + 1) m af seen2 h2 (by omega) (by omega) (by omega) (by omega) (by omega) (x.ext x2) o2 hs2 (rp.keep (by decide) k2) (rq.keep (by decide) k2) (isv.keep (e := 4) (by decide) k2) (fun h' k' e' => hkv h' (k2.trans k') (x2.trans e')))
theorem RowE.new (h : AHeap) (e : TypeId) (cs : List Value) : RowE (h.new e cs) h.size e cs := Own.rowE (Own.new (Nat.le_refl h.size) e cs)
theorem fits_out {d b s e : Nat} (hd : 1048577 < d) {nv : Value} {T : List Kn} {top : Int} (hT : T.length ≤ 3000) {i c next : Int} {seen : List Bool} {h : AHeap} (he : d ≤ e)
  (hin : ¬ (0 ≤ i ∧ i ≤ (T.length : Int) - 1)) (x : KSl b h nv T) (o : Own b h s 4 (bools seen)) (hs : seen.length = T.length) :
  Is57 b s h (call Tp Ms (e + 6) 57 [trVal nv top, .int .i64 i, .int .i64 c, .int .i64 next, slc s 0 T.length] h) i ((0, false), seen) T.length := by
 have hbs : b ≤ h.size := Nat.le_of_lt (Nat.lt_of_le_of_lt o.lt.1 o.lt.2)
 have e1 := Ext.new (Nat.le_refl h.size) 35 [nv, .int .i64 top]
 have k1 := Keep4.ext e1
 have r1 := RowE.new h 35 [nv, .int .i64 top]
 have hcall : call Tp Ms (e + 6) 57 [trVal nv top, .int .i64 i, .int .i64 c, .int .i64 next, slc s 0 T.length] h = evFn hk0 Tp (call Tp Ms (e + 5)) M57 (e + 5) Try.f57 [trVal nv top, .int .i64 i, .int .i64 c, .int .i64 next, slc s 0 T.length] h := c57 (e + 5) _ _
 rw [hcall, e57, tr_aCells x, oBs]
 simp only [aNew]
 have o1 := o.ext e1 o.lt.2
 generalize h.new 35 [nv, .int .i64 top] = h1 at e1 k1 r1 o1 ⊢
 refine Is57.of (e1.mono hbs) k1 ?_
 obtain ⟨a0, _, _⟩ := ld2 r1.row
 have w : IntKind.i64.wrap ((T.length : Int) - 1) = (T.length : Int) - 1 := wr (by omega) (by omega)
 have l98' : ∀ (x a b : Int) (h : AHeap), call Tp Ms (e + 5) 98 [.int .i64 x, .int .i64 a, .int .i64 b] h = some (.bool (inR x a b), h) := l98 (e + 4)
 simp only [aOff_ptr, Nat.zero_add, oBs, a0, x.len, asI, if_true, w]
 rw [l98', oBs]
 simp only [asB, oBs]
 have hR : inR i 0 ((T.length : Int) - 1) = false := by unfold inR; simp; omega
 rw [hR, Bool.not_false, cond_true, s57_0_j, s57_0_eq, cond_true]
 exact ⟨h1, rfl, Ext.refl _ _, Keep4.refl _, o1, hs, fun e => by cases e⟩
theorem fits57 {d b s : Nat} (hd : 1048577 < d) {nv : Value} {T : List Kn} {top : Int} (hT : T.length ≤ 3000) (hN : ∀ n ∈ T, n.t.size ≤ 1048576 ∧ n.ks.length ≤ 1048576) : ∀ (f e : Nat) (i c next : Int) (seen : List Bool) (h : AHeap), d + f ≤ e →
  i < f → 0 ≤ next → next ≤ 10000 → KSl b h nv T → Own b h s 4 (bools seen) → seen.length = T.length →
  Is57 b s h (call Tp Ms (e + 6) 57 [trVal nv top, .int .i64 i, .int .i64 c, .int .i64 next, slc s 0 T.length] h) i (fitsP T f i c next seen) T.length := by
 intro f
 induction f with
 | zero =>
  intro e i c next seen h he hif _ _ x o hs
  exact fits_out hd hT (by omega) (by omega) x o hs
 | succ f ih =>
  intro e i c next seen h he hif hn0 hn1 x o hs
  obtain ⟨e, rfl⟩ : ∃ q, e = q + 1 := ⟨e - 1, by omega⟩
  have hbs : b ≤ h.size := Nat.le_of_lt (Nat.lt_of_le_of_lt o.lt.1 o.lt.2)
  have e1 := Ext.new (Nat.le_refl h.size) 35 [nv, .int .i64 top]
  have k1 := Keep4.ext e1
  have r1 := RowE.new h 35 [nv, .int .i64 top]
  have s1 : (h.new 35 [nv, .int .i64 top]).size = h.size + 1 := rfl
  have hcall : call Tp Ms (e + 1 + 6) 57 [trVal nv top, .int .i64 i, .int .i64 c, .int .i64 next, slc s 0 T.length] h = evFn hk0 Tp (call Tp Ms (e + 6)) M57 (e + 6) Try.f57 [trVal nv top, .int .i64 i, .int .i64 c, .int .i64 next, slc s 0 T.length] h := c57 (e + 6) _ _
  rw [hcall, e57, tr_aCells x, oBs]
  simp only [aNew]
  have x1 := x.ext (e1.mono hbs)
  have o1 := o.ext e1 o.lt.2
  generalize h.new 35 [nv, .int .i64 top] = h1 at e1 k1 r1 s1 x1 o1 ⊢
  refine Is57.of (e1.mono hbs) k1 ?_
  obtain ⟨a0, _, _⟩ := ld2 r1.row
  have w : IntKind.i64.wrap ((T.length : Int) - 1) = (T.length : Int) - 1 := wr (by omega) (by omega)
  have l98' : ∀ (x a b : Int) (h : AHeap), call Tp Ms (e + 6) 98 [.int .i64 x, .int .i64 a, .int .i64 b] h = some (.bool (inR x a b), h) := l98 (e + 5)
  simp only [aOff_ptr, Nat.zero_add, oBs, a0, x.len, asI, if_true, w]
  rw [l98', oBs]
  simp only [asB, oBs]
  have bad : ∀ sn : List Bool, sn.length = T.length → Own b h1 s 4 (bools sn) → Is57 b s h1 (some (.tuple (List.toArray [.int .i64 0, .bool false]), h1)) i ((0, false), sn) T.length := fun sn hsn on => ⟨h1, rfl, Ext.refl _ _, Keep4.refl _, on, hsn, fun e => by cases e⟩
  unfold fitsP
  by_cases hin : 0 ≤ i ∧ i ≤ (T.length : Int) - 1
  ·obtain ⟨iN, rfl⟩ : ∃ iN : Nat, i = (iN : Int) := ⟨i.toNat, by omega⟩
   have hi : iN < T.length := by omega
   have hR : inR (iN : Int) 0 ((T.length : Int) - 1) = true := by unfold inR; simp; omega
   have hTi : T[(iN : Int).toNat]? = some T[iN] := by simp [hi]
   have hix : aIdx (slc s 0 T.length) (.int .i64 (iN : Int)) 1 = some (ptr s iN) := by simp [aIdx, slc, hi]
   have hld : aLd1 h1 (ptr s iN) = some (.bool (seen[iN]'(by omega))) := o1.row.ld1 (by simp [bools, show iN < seen.length by omega])
   have hsi : seen[(iN : Int).toNat]? = some (seen[iN]'(by omega)) := by simp [show iN < seen.length by omega]
   rw [hR, Bool.not_true, cond_false, hTi, hsi]
   simp only [hix, hld, oBs, asB]
   rw [s57_0_j, s57_0_eq]
   cases hsn : seen[iN]'(by omega) with
   | true =>
    rw [cond_true, if_neg (by simp)]
    exact bad seen hs o1
   | false =>
    rw [cond_false, if_pos ⟨by omega, rfl⟩, s57_1_j, s57_1_eq]
    obtain ⟨h2, t2, x2, o2, s2, k2⟩ := Own.stX o1 (off := iN) (n := 1) (v := .bool true) rfl rfl (by simp [bools]; omega)
    have o2' : Own b h2 s 4 (bools (seen.set iN true)) := by
     have : splice (bools seen) iN [Value.bool true] = bools (seen.set iN true) := by
      rw [← bools_set]; unfold splice
      rw [List.set_eq_take_append_cons_drop, if_pos (by simp [bools]; omega)]; simp
     rw [this] at o2; exact o2
    have K2 : Keep4 h1 h2 := k2
    have r2 := r1.keep (by decide) K2
    obtain ⟨b0, _, bT⟩ := ld2 r2.row
    have xx2 := x1.ext x2
    obtain ⟨id, kv, g1, g2, g3⟩ := xx2.at hi
    obtain ⟨g4, _⟩ := g3 h2 (Ext.refl _ _)
    have e3 := Ext.new (Nat.le_refl h2.size) 73 [.int .i64 0, .string ⟨#[]⟩, .int .i64 0, .slice none 0 0]
    have o3 := Own.new (Nat.le_refl h2.size) 73 [.int .i64 0, .string ⟨#[]⟩, .int .i64 0, .slice none 0 0]
    have s3 : (h2.new 73 [.int .i64 0, .string ⟨#[]⟩, .int .i64 0, .slice none 0 0]).size = h2.size + 1 := rfl
    simp only [hix, t2, aOff_ptr, Nat.zero_add, oBs, b0, g1, g4, aNew]
    generalize h2.new 73 [.int .i64 0, .string ⟨#[]⟩, .int .i64 0, .slice none 0 0] = h3 at e3 o3 s3 ⊢
    have hb2 : b ≤ h2.size := by omega
    obtain ⟨h4, t4, x4, o4, s4⟩ := Own.stN o3 (n := 4) (v := knVal T[iN] kv) (kn_aCells g2) rfl rfl
    have r4 : RowE h4 h2.size 73 (knCells T[iN] kv) := Own.rowE o4
    have X4 : Ext h2.size h2 h4 := e3.trans x4
    obtain ⟨d0, _, _, _, dN⟩ := ld4 r4.row
    have dN' : aLdN h4 (ptr h2.size 0) 4 = some (knVal T[iN] kv) := dN
    have l99' : ∀ (k : Int) (h : AHeap), call Tp Ms (e + 6) 99 [.int .i64 k] h = some (.int .i64 (cls k), h) := l99 (e + 5)
    have d0' : aLd1 h4 (ptr h2.size 0) = some (.int .i64 T[iN].k) := d0
    simp only [t4, aOff_ptr, Nat.zero_add, oBs, d0', asI, if_true]
    rw [l99', oBs]
    simp only [asI, if_true, oBs]
    have E : ∀ g : Bool → Option (Value × AHeap), (bif cls T[iN].k == c then g (c != 0) else g false) = g (cls T[iN].k == c && c != 0) := by
     intro g; cases (cls T[iN].k == c) <;> rfl
    rw [E (fun t => s57_2 hk0 (call Tp Ms (e + 6)) (e + 6) (iN : Int) c next (slc s 0 T.length) (ptr h.size 0) (ptr h2.size 0) t h4), s57_2_j, s57_2_eq]
    have Ecls : (bif c == 6 then s57_3 hk0 (call Tp Ms (e + 6)) (e + 6) (iN : Int) next (slc s 0 T.length) (ptr h.size 0) (ptr h2.size 0) (T[iN].k == 9) h4 else s57_3 hk0 (call Tp Ms (e + 6)) (e + 6) (iN : Int) next (slc s 0 T.length) (ptr h.size 0) (ptr h2.size 0) (cls T[iN].k == c && c != 0) h4) = s57_3 hk0 (call Tp Ms (e + 6)) (e + 6) (iN : Int) next (slc s 0 T.length) (ptr h.size 0) (ptr h2.size 0) (clsOk c T[iN].k) h4 := by
     unfold clsOk
     by_cases c6 : c = 6
     ·subst c6; rw [show ((6 : Int) == 6) = true from rfl, cond_true, if_pos rfl]
     ·rw [beq_eq_false_iff_ne.2 c6, cond_false, if_neg c6]
    simp only [aOff_ptr, Nat.zero_add, oBs, d0', asI, if_true]
    rw [Ecls, s57_3_j, s57_3_eq]
    have K4 : Keep4 h2 h4 := Keep4.ext X4
    have oo4 := o2'.ext X4 o2'.lt.2
    have r14 := r2.keep (by decide) K4
    have g24 := g2.ext (X4.mono hb2)
    have hok := hN T[iN] (List.getElem_mem hi)
    obtain ⟨sv, h5, c5, x5, i5⟩ := l100 (d := e + 5) (by omega) g24 hok.2
    have c5' : call Tp Ms (e + 6) 100 [knVal T[iN] kv] h4 = _ := c5
    have hb4 : b ≤ h4.size := Nat.le_trans hb2 X4.size
    have K5 : Keep4 h4 h5 := Keep4.ext x5
    have r45 := r4.keep (by decide) K5
    obtain ⟨_, _, _, _, dN5⟩ := ld4 r45.row
    have dN5' : aLdN h5 (ptr h2.size 0) 4 = some (knVal T[iN] kv) := dN5
    have oo5 := oo4.ext x5 oo4.lt.2
    refine Is57.of x2 K2 (Is57.of (X4.mono hb2) K4 (Is57.of (x5.mono hb4) K5 ?_))
    have t0 : ∀ b' : Bool, aExt (.tuple (List.toArray [sv, .bool b'])) 0 = some sv := fun _ => rfl
    have t1 : ∀ b' : Bool, aExt (.tuple (List.toArray [sv, .bool b'])) 1 = some (.bool b') := fun _ => rfl
    rw [dN', oBs, c5', oBs]
    simp only [t0, t1, oBs, asB]
    have hset : (seen.set (iN : Int).toNat true) = seen.set iN true := rfl
    have hlen1 : (seen.set iN true).length = T.length := by simp [hs]
    have bad5 : ∀ h6, Ext b h5 h6 → Keep4 h5 h6 → Own b h6 s 4 (bools (seen.set iN true)) → Is57 b s h5 (s57_4 hk0 (call Tp Ms (e + 6)) (e + 6) (iN : Int) next (slc s 0 T.length) (ptr h.size 0) (ptr h2.size 0) sv true h6) (iN : Int) ((0, false), seen.set iN true) T.length := by
     intro h6 xx kk oo
     rw [s57_4_j, s57_4_eq, cond_true]
     exact ⟨h6, rfl, xx, kk, oo, hlen1, fun e => by cases e⟩
    unfold nodeFit
    rw [hset]
    cases hc1 : clsOk c T[iN].k with
    | false =>
     rw [Bool.not_false, cond_true, Bool.false_and, if_neg (by simp)]
     exact bad5 h5 (Ext.refl _ _) (Keep4.refl _) oo5
    | true =>
     rw [Bool.not_true, cond_false, Bool.true_and]
     cases hc2 : (((shape T[iN].k T[iN].ks.length).length : Int) == (T[iN].ks.length : Int)) with
     | false =>
      rw [Bool.not_false, cond_true, Bool.false_and, if_neg (by simp)]
      exact bad5 h5 (Ext.refl _ _) (Keep4.refl _) oo5
     | true =>
      rw [Bool.not_true, cond_false, Bool.true_and, dN5', oBs]
      obtain ⟨h6, c6, x6⟩ := l101 (d := e + 2) (by omega) (g24.ext (x5.mono hb4)) hok.1
      have c6' : call Tp Ms (e + 6) 101 [knVal T[iN] kv] h5 = _ := c6
      have hb5 : b ≤ h5.size := Nat.le_trans hb4 x5.size
      have K6 : Keep4 h5 h6 := Keep4.ext x6
      have oo6 := oo5.ext x6 oo5.lt.2
      rw [c6', oBs]
      simp only [asB, oBs]
      cases hc3 : hasP T[iN] with
      | false =>
       rw [Bool.not_false, if_neg (by simp)]
       exact bad5 h6 (x6.mono hb5) K6 oo6
      | true =>
       rw [Bool.not_true, if_pos rfl, s57_4_j, s57_4_eq, cond_false, s57_5_j, s57_5_eq]
       refine Is57.of (x6.mono hb5) K6 ?_
       have xx6 := ((xx2.ext (X4.mono hb2)).ext (x5.mono hb4)).ext (x6.mono hb5)
       have gk6 := (g24.ext (x5.mono hb4)).ext (x6.mono hb5)
       have hsl : (shape T[iN].k T[iN].ks.length).length = T[iN].ks.length := by
        have := beq_iff_eq.1 hc2
        omega
       have := fits_loop (D := e + 6) (N := e + 6) (top := top) (F := fitsP T f) hT hi (kv := kv) (sv := sv) (n := T[iN]) hsl hok.2 (fun i' c' next' seen' h' a1 a2 a3 a4 a5 a6 => ih e i' c' next' seen' h' (by omega) (by omega) a2 a3 a4 a5 a6) (p := h.size) (q := h2.size)
        T[iN].ks.length 0 (e + 6) next (seen.set iN true) h6 (by omega) (by omega) (by omega) hn0 hn1 xx6 oo6 hlen1 ((r14.keep (by decide) K5).keep (by decide) K6) (r45.keep (by decide) K6) (i5.keep (e := 4) (by decide) K6) (fun h' k' e' => gk6.ext e')
       exact this
  ·have hR : inR i 0 ((T.length : Int) - 1) = false := by unfold inR; simp; omega
   rw [hR, Bool.not_false, cond_true, s57_0_j, s57_0_eq, cond_true]
   have : (match T[i.toNat]? with
    | some n => if 0 ≤ i ∧ seen[i.toNat]? = some false then (if nodeFit n c = true then kidsGo (fitsP T f) i n.ks (shape n.k n.ks.length) next (seen.set i.toNat true) else ((0, false), seen.set i.toNat true)) else ((0, false), seen)
    | none => ((0, false), seen) : FRes) = ((0, false), seen) := by
    by_cases hpos : 0 ≤ i
    ·rw [List.getElem?_eq_none (by omega)]
    ·cases T[i.toNat]? with
     | none => rfl
     | some n => exact if_neg (fun hh => hpos hh.1)
   rw [this]
   exact bad seen hs o1
def specOk (T : List Kn) (top : Int) : Bool :=
 if T.length > 3000 then false
 else (fitsP T (T.length + 1) top 3 0 (List.replicate T.length false)).1.2 && (fitsP T (T.length + 1) top 3 0 (List.replicate T.length false)).1.1 == (T.length : Int)
theorem rep_bools (n : Nat) : (List.replicate n [Value.bool false]).flatten = bools (List.replicate n false) := by
 induction n with
 | zero => rfl
 | succ n ih => rw [List.replicate_succ, List.flatten_cons, ih]; simp [bools, List.replicate_succ]
theorem fits_big {T : List Kn} {f : Nat} {i c next : Int} {seen : List Bool} (h : (T.length : Int) ≤ i) : fitsP T f i c next seen = ((0, false), seen) := by
 cases f with
 | zero => rfl
 | succ f => unfold fitsP; rw [List.getElem?_eq_none (by omega)]
theorem l20 {d c : Nat} (hd : 1048577 < d) {nv : Value} {T : List Kn} {top : Int} {h : AHeap} (x : KSl c h nv T) (hc : c ≤ h.size) (hb : T.length ≤ 1048576) (hN : ∀ n ∈ T, n.t.size ≤ 1048576 ∧ n.ks.length ≤ 1048576) :
  ∃ h', call Tp Ms (d + 3010 + 7) 20 [trVal nv top] h = some (.bool (specOk T top), h') ∧ Ext h.size h h' := by
 have e1 := Ext.new (Nat.le_refl h.size) 35 [nv, .int .i64 top]
 have r1 := RowE.new h 35 [nv, .int .i64 top]
 have s1 : (h.new 35 [nv, .int .i64 top]).size = h.size + 1 := rfl
 have hcall : call Tp Ms (d + 3010 + 7) 20 [trVal nv top] h = evFn hk0 Tp (call Tp Ms (d + 3010 + 6)) M20 (d + 3010 + 6) Try.f20 [trVal nv top] h := c20 (d + 3010 + 6) _ _
 rw [hcall, e20, tr_aCells x, oBs]
 simp only [aNew]
 have x1 := x.ext (e1.mono hc)
 generalize h.new 35 [nv, .int .i64 top] = h1 at e1 r1 s1 x1 ⊢
 obtain ⟨a0, a1, aN⟩ := ld2 r1.row
 have aN' : aLdN h1 (ptr h.size 0) 2 = some (trVal nv top) := aN
 simp only [aOff_ptr, Nat.zero_add, oBs, a0, x.len, asI, if_true]
 unfold specOk
 by_cases hbig : (T.length : Int) > 3000
 ·rw [decide_eq_true hbig, cond_true, if_pos (by omega)]; exact ⟨h1, rfl, e1⟩
 ·rw [decide_eq_false hbig, cond_false, if_neg (by omega)]
  have e2 := Ext.new (Nat.le_refl h1.size) 4 (bools (List.replicate T.length false))
  have o2 := Own.new (Nat.le_refl h1.size) 4 (bools (List.replicate T.length false))
  have s2 : (h1.new 4 (bools (List.replicate T.length false))).size = h1.size + 1 := rfl
  simp only [aN', a1, oBs, asI, if_true]
  rw [mk_some _ _ _ _ _ (by omega) (by omega), oBs, rep_bools]
  have r2 := r1.keep (h' := h1.new 4 (bools (List.replicate T.length false))) (by decide) (Keep4.ext e2)
  generalize h1.new 4 (bools (List.replicate T.length false)) = h2 at e2 o2 s2 r2 ⊢
  obtain ⟨b0, b1, bN⟩ := ld2 r2.row
  have bN' : aLdN h2 (ptr h.size 0) 2 = some (trVal nv top) := bN
  have vi : ∀ z : Int, vbeq (.int .i64 z) (.int .i64 z) = true := fun z => by simp [vbeq, vbeq1]
  simp only [bN', b1, oBs, asI, if_true, tr_vbeq x, vi, cond_true]
  have x2 := (x1.mono (show c ≤ h1.size by omega)).ext e2
  have main : ∃ h3, call Tp Ms (d + 3010 + 6) 57 [trVal nv top, .int .i64 top, .int .i64 3, .int .i64 0, slc h1.size 0 T.length] h2 = some (fv (fitsP T (T.length + 1) top 3 0 (List.replicate T.length false)), h3) ∧ Ext h1.size h2 h3 ∧ Keep4 h2 h3 := by
   by_cases htop : top ≤ (T.length : Int)
   ·obtain ⟨h3, c3, x3, k3, _⟩ := fits57 (b := h1.size) (s := h1.size) hd (nv := nv) (top := top) (by omega) hN (T.length + 1) (d + 3010) top 3 0 (List.replicate T.length false) h2 (by omega) (by omega) (by omega) (by omega) x2 o2 (by simp)
    exact ⟨h3, c3, x3, k3⟩
   ·rw [fits_big (by omega)]
    obtain ⟨h3, c3, x3, k3, _⟩ := fits_out (b := h1.size) (s := h1.size) (e := d + 3010) (c := 3) (next := 0) (seen := List.replicate T.length false) hd (nv := nv) (top := top) (i := top) (T := T) (by omega) (by omega) (by omega) x2 o2 (by simp)
    exact ⟨h3, c3, x3, k3⟩
  obtain ⟨h3, c3, x3, k3⟩ := main
  have r3 := r2.keep (by decide) k3
  obtain ⟨d0, _, _⟩ := ld2 r3.row
  rw [c3, oBs]
  generalize fitsP T (T.length + 1) top 3 0 (List.replicate T.length false) = r
  obtain ⟨⟨af, fine⟩, sn⟩ := r
  have t0 : aExt (fv ((af, fine), sn)) 0 = some (.int .i64 af) := rfl
  have t1 : aExt (fv ((af, fine), sn)) 1 = some (.bool fine) := rfl
  refine ⟨h3, ?_, e1.trans ((e2.mono (by omega)).trans (x3.mono (by omega)))⟩
  simp only [t0, t1, oBs, asI, asB, if_true]
  cases fine with
  | false => rfl
  | true =>
   simp only [cond_true, aOff_ptr, Nat.zero_add, d0, oBs, x.len, asI, if_true, Bool.true_and]
theorem l147 {d : Nat} (hd : 1048577 < d) (t : ByteArray) (h : AHeap) : call Tp Ms (d + 2) 147 [.string t] h = some (.bool (nameP t), h) := by
 have c1 : ∀ (x a b : Int) (h : AHeap), call Tp Ms (d + 1) 103 [.int .i64 x, .int .i64 a, .int .i64 b] h = some (.bool (inR x a b), h) := l103 d
 have c2 : ∀ (h : AHeap), call Tp Ms (d + 1) 93 [.string t] h = some (.bool (isWd t), h) := l93 d t
 rw [c147, e147, c1, oBs]
 simp only [asB, oBs]
 unfold nameP
 cases hR : inR (t.size : Int) 1 12 with
 | false => rfl
 | true =>
  have hs : t.size ≤ 12 := by
   unfold inR at hR
   simp at hR; omega
  have l51' := l51 (d := d) (g := 92) (p := isLet) (s := t) (by omega) (by omega) (fun n h => by obtain ⟨d, rfl⟩ : ∃ k, d = k + 1 := ⟨d - 1, by omega⟩; exact l92 d n h) (i := 0) (by omega) h
  have l51'' : call Tp Ms (d + 1) 51 [.string t, .int .i64 0, .func (.func 92) #[] #[]] h = some (.int .i64 (endOf isLet t 0 : Nat), h) := l51'
  rw [cond_true, l51'', oBs]
  simp only [asI, if_true, oBs, Bool.true_and]
  generalize endOf isLet t 0 = e
  by_cases he : e = t.size
  ·have : (((e : Nat) : Int) == (t.size : Int)) = true := by rw [he]; simp
   rw [this, cond_true, c2, oBs]
   simp only [asB, oBs, decide_eq_true he, Bool.and_true]
  ·have : (((e : Nat) : Int) == (t.size : Int)) = false := by rw [beq_eq_false_iff_ne]; omega
   rw [this, cond_false, decide_eq_false he, Bool.and_false]
theorem l104 {d c : Nat} (hd : 1048577 < d) {kv : Value} {n : Kn} {h : AHeap} (x : ISl c h kv n.ks) :
  ∃ h', call Tp Ms (d + 3) 104 [knVal n kv] h = some (.bool (hasP n), h') ∧ Ext h.size h h' := by
 have e1 := Ext.new (Nat.le_refl h.size) 73 (knCells n kv)
 have r1 : Row (h.new 73 (knCells n kv)) h.size [.int .i64 n.k, .string n.t, .int .i64 n.i, kv] := (Own.new (b := h.size) (Nat.le_refl _) 73 (knCells n kv)).row
 rw [c104, e104, kn_aCells x, oBs]
 simp only [aNew]
 generalize h.new 73 (knCells n kv) = h1 at e1 r1 ⊢
 obtain ⟨a0, a1, a2, a3, _⟩ := ld4 r1
 have l103' : ∀ (x a b : Int) (h : AHeap), call Tp Ms (d + 2) 103 [.int .i64 x, .int .i64 a, .int .i64 b] h = some (.bool (inR x a b), h) := l103 (d + 1)
 simp only [aOff_ptr, Nat.zero_add, oBs, a0, asI, if_true]
 have E : ∀ f : Bool → Option (Value × AHeap), (bif n.k == 5 then f (n.k == 5) else bif n.k == 14 then f (n.k == 14) else bif n.k == 15 then f (n.k == 15) else f (n.k == 22)) = f (nm4 n.k) := by
  intro f; unfold nm4
  cases (n.k == 5) <;> cases (n.k == 14) <;> cases (n.k == 15) <;> rfl
 rw [E (fun t => s104_0 hk0 (call Tp Ms (d + 2)) (d + 2) (ptr h.size 0) n.k t h1), s104_0_j, s104_0_eq]
 refine ⟨h1, ?_, e1⟩
 unfold hasP
 have hE : (n.t.toList == (⟨#[]⟩ : ByteArray).toList) = emp n.t := rfl
 cases nm4 n.k with
 | true =>
  rw [cond_true, if_pos rfl]
  simp only [aOff_ptr, Nat.zero_add, oBs, a1, asS]
  rw [l147 hd, oBs]
  simp only [asB, oBs]
  cases nameP n.t with
  | true => simp only [cond_true, a2, oBs, asI, if_true, Bool.true_and]
  | false => rfl
 | false =>
  rw [cond_false, if_neg (by simp)]
  simp only [aOff_ptr, Nat.zero_add, oBs, a1, a2, asS, asI, if_true]
  rw [hE]
  by_cases k4 : n.k = 4
  ·rw [if_pos k4, k4, show ((4 : Int) == 4) = true from rfl, cond_true]
   unfold textP
   by_cases hs : (n.t.size : Int) ≤ 160
   ·have l51' := l51 (d := d + 1) (g := 96) (p := isPln) (s := n.t) (by omega) (by omega) (fun n h => l96 d n h) (i := 0) (by omega) h1
    have l51'' : call Tp Ms (d + 2) 51 [.string n.t, .int .i64 0, .func (.func 96) #[] #[]] h1 = some (.int .i64 (endOf isPln n.t 0 : Nat), h1) := l51'
    rw [decide_eq_true hs, cond_true, l51'', oBs, Bool.true_and]
    simp only [asI, if_true, oBs, a1, asS, vbeq_str, cond_true]
    generalize endOf isPln n.t 0 = e
    by_cases he : e = n.t.size
    ·have : (((e : Nat) : Int) == (n.t.size : Int)) = true := by rw [he]; simp
     rw [this, cond_true, decide_eq_true he, Bool.true_and, a2, oBs]
     simp only [asI, if_true, oBs]
    ·have : (((e : Nat) : Int) == (n.t.size : Int)) = false := by rw [beq_eq_false_iff_ne]; omega
     rw [this, cond_false, decide_eq_false he, Bool.false_and]
   ·rw [decide_eq_false hs, cond_false]; simp
  rw [beq_eq_false_iff_ne.2 k4, cond_false, if_neg k4]
  by_cases k2 : n.k = 2
  ·rw [if_pos k2, k2, show ((2 : Int) == 2) = true from rfl, cond_true, l103', oBs]
   cases emp n.t <;> rfl
  rw [beq_eq_false_iff_ne.2 k2, cond_false, if_neg k2]
  by_cases k3 : n.k = 3
  ·rw [if_pos k3, k3, show ((3 : Int) == 3) = true from rfl, cond_true, l103', oBs]
   cases emp n.t <;> rfl
  rw [beq_eq_false_iff_ne.2 k3, cond_false, if_neg k3]
  by_cases k10 : n.k = 10
  ·rw [if_pos k10, k10, show ((10 : Int) == 10) = true from rfl, cond_true, l103', oBs]
   cases emp n.t <;> rfl
  rw [beq_eq_false_iff_ne.2 k10, cond_false, if_neg k10]
  by_cases k11 : n.k = 11
  ·rw [if_pos k11, k11, show ((11 : Int) == 11) = true from rfl, cond_true, l103', oBs]
   cases emp n.t <;> rfl
  rw [beq_eq_false_iff_ne.2 k11, cond_false, if_neg k11, s104_1_j, s104_1_eq]
  simp only [aOff_ptr, Nat.zero_add, oBs, a1, a2, asS, asI, if_true]
  rw [hE]
  cases emp n.t <;> rfl
theorem callV0 (C : ACall) (g : FuncId) (args : List Value) (h : AHeap) : aCallV C (.func (.func g) #[] #[]) args h = C g args h := by simp only [aCallV, List.append_nil, List.nil_append]
theorem callV1 (C : ACall) (g : FuncId) (p : Value) (args : List Value) (h : AHeap) : aCallV C (.func (.func g) #[] #[p]) args h = C g (args ++ [p]) h := by simp only [aCallV, List.nil_append]
theorem callV2 (C : ACall) (g : FuncId) (p q : Value) (args : List Value) (h : AHeap) : aCallV C (.func (.func g) #[] #[p, q]) args h = C g (args ++ [p, q]) h := by simp only [aCallV, List.nil_append]
def FnV (D c : Nat) (h : AHeap) (v : Value) (P : Int → Bool) : Prop := aCells v = some [v] ∧ ∀ h', Ext c h h' → ∀ n, aCallV (call Tp Ms D) v [.int .i64 n] h' = some (.bool (P n), h')
theorem FnV.ext {D c : Nat} {h h' : AHeap} {v : Value} {P : Int → Bool} (x : FnV D c h v P) (e : Ext c h h') : FnV D c h' v P := ⟨x.1, fun h2 e2 => x.2 h2 (e.trans e2)⟩
theorem FnV.mono {D c c' : Nat} {h : AHeap} {v : Value} {P : Int → Bool} (x : FnV D c h v P) (hc : c ≤ c') : FnV D c' h v P := ⟨x.1, fun h2 e2 => x.2 h2 (e2.mono hc)⟩
def isEx (k : Int) : Bool := inR k 1 13
def isSt (k : Int) : Bool := inR k 14 20
theorem fn152 (d : Nat) (c : Nat) (h : AHeap) : FnV (d + 2) c h (.func (.func 152) #[] #[]) isEx := ⟨rfl, fun h' _ n => by
 rw [callV0]
 have l103' : ∀ (x a b : Int) (h : AHeap), call Tp Ms (d + 1) 103 [.int .i64 x, .int .i64 a, .int .i64 b] h = some (.bool (inR x a b), h) := l103 d
 rw [c152, e152, l103', oBs]; rfl⟩
theorem fn153 (d : Nat) (c : Nat) (h : AHeap) : FnV (d + 2) c h (.func (.func 153) #[] #[]) isSt := ⟨rfl, fun h' _ n => by
 rw [callV0]
 have l103' : ∀ (x a b : Int) (h : AHeap), call Tp Ms (d + 1) 103 [.int .i64 x, .int .i64 a, .int .i64 b] h = some (.bool (inR x a b), h) := l103 d
 rw [c153, e153, l103', oBs]; rfl⟩
theorem fn150 (d : Nat) (c : Nat) (h : AHeap) : FnV (d + 1) c h (.func (.func 150) #[] #[]) (fun k => k == 23 || k == 24) := ⟨rfl, fun h' _ n => by
 rw [callV0]
 rw [c150, e150]
 by_cases h1 : n = 23
 ·subst h1; rfl
 ·rw [beq_eq_false_iff_ne.2 h1, cond_false]
  simp only [beq_eq_false_iff_ne.2 h1, Bool.false_or]⟩
theorem l148 (d d' : Nat) (k : Int) (h : AHeap) : ∃ v h', call Tp Ms (d + 1) 148 [.int .i64 k] h = some (v, h') ∧ Ext h.size h h' ∧ FnV (d' + 1) h'.size h' v (fun n => n == k) := by
 have e1 := Ext.new (Nat.le_refl h.size) 3 [.int .i64 k]
 have r1 := (Own.new (b := h.size) (Nat.le_refl _) 3 [Value.int .i64 k]).row
 have s1 : (h.new 3 [.int .i64 k]).size = h.size + 1 := rfl
 refine ⟨.func (.func 185) #[] #[ptr h.size 0], h.new 3 [.int .i64 k], ?_, e1, rfl, fun h' e n => ?_⟩
 ·rw [c148, e148]; rfl
 ·rw [callV1, show [Value.int .i64 n] ++ [ptr h.size 0] = [.int .i64 n, ptr h.size 0] from rfl]
  have r2 := r1.ext e (by omega)
  have a : aLd1 h' (ptr h.size 0) = some (.int .i64 k) := r2.ld1 rfl
  rw [c185, e185, a, oBs]; rfl
def kd (T : List Kn) (k : Int) : Int := ((T[k.toNat]?).map Kn.k).getD 0
def RdI (c : Nat) (h : AHeap) (v : Value) (xs : List Int) : Prop := aLen v = some (.int .i64 xs.length) ∧ ∀ j (hj : j < xs.length), ∃ p, aIdx v (.int .i64 (j : Int)) 1 = some p ∧ ∀ h', Ext c h h' → aLd1 h' p = some (.int .i64 xs[j])
theorem ISl.rd {c : Nat} {h : AHeap} {v : Value} {xs : List Int} (x : ISl c h v xs) : RdI c h v xs := by
 refine ⟨x.len, fun j hj => ?_⟩
 obtain ⟨p, e1, _⟩ := x.at hj
 refine ⟨p, e1, fun h' e => ?_⟩
 obtain ⟨p', e1', e2'⟩ := (x.ext e).at hj
 rw [e1] at e1'; cases e1'
 exact e2'
theorem RdI.ext {c : Nat} {h h' : AHeap} {v : Value} {xs : List Int} (x : RdI c h v xs) (e : Ext c h h') : RdI c h' v xs := ⟨x.1, fun j hj => let ⟨p, a, b⟩ := x.2 j hj; ⟨p, a, fun h2 e2 => b h2 (e.trans e2)⟩⟩
theorem RdI.mono {c d : Nat} {h : AHeap} {v : Value} {xs : List Int} (x : RdI c h v xs) (hd : c ≤ d) : RdI d h v xs := ⟨x.1, fun j hj => let ⟨p, a, b⟩ := x.2 j hj; ⟨p, a, fun h2 e2 => b h2 (e2.mono hd)⟩⟩
def TreeP (c : Nat) (h : AHeap) (v : Value) (T : List Kn) : Prop := ∃ t nv top, v = ptr t 0 ∧ t < c ∧ Row h t [nv, .int .i64 top] ∧ KSl c h nv T
theorem TreeP.ext {c : Nat} {h h' : AHeap} {v : Value} {T : List Kn} (x : TreeP c h v T) (e : Ext c h h') : TreeP c h' v T := let ⟨t, nv, top, a, b, r, k⟩ := x; ⟨t, nv, top, a, b, r.ext e b, k.ext e⟩
theorem TreeP.mono {c d : Nat} {h : AHeap} {v : Value} {T : List Kn} (x : TreeP c h v T) (hd : c ≤ d) : TreeP d h v T := let ⟨t, nv, top, a, b, r, k⟩ := x; ⟨t, nv, top, a, Nat.lt_of_lt_of_le b hd, r, k.mono hd⟩
theorem TreeP.cells {c : Nat} {h : AHeap} {v : Value} {T : List Kn} (x : TreeP c h v T) : aCells v = some [v] ∧ aNil v = some v := by obtain ⟨t, nv, top, rfl, _⟩ := x; exact ⟨rfl, rfl⟩
theorem TreeP.nodes {c : Nat} {h : AHeap} {v : Value} {T : List Kn} (x : TreeP c h v T) : ∃ p nv, aOff v 0 = some p ∧ KSl c h nv T ∧ ∀ h', Ext c h h' → aLd1 h' p = some nv := by
 obtain ⟨t, nv, top, rfl, b, r, k⟩ := x
 exact ⟨ptr t 0, nv, rfl, k, fun h' e => (r.ext e b).ld1 rfl⟩
theorem KSl.kind {c : Nat} {h : AHeap} {v : Value} {ns : List Kn} (x : KSl c h v ns) {k : Int} (h0 : 0 ≤ k) (h1 : k < ns.length) : ∃ i, aIdx v (.int .i64 k) 4 = some (ptr i (k.toNat * 4)) ∧ ∀ h', Ext c h h' → aLd1 h' (ptr i (k.toNat * 4)) = some (.int .i64 (kd ns k)) := by
 obtain ⟨j, rfl⟩ : ∃ j : Nat, k = (j : Int) := ⟨k.toNat, by omega⟩
 have hj : j < ns.length := by omega
 obtain ⟨i, kv, e1, _, e3⟩ := x.at hj
 refine ⟨i, e1, fun h' e => ?_⟩
 have : kd ns (j : Int) = ns[j].k := by unfold kd; simp [hj]
 rw [this]; exact (e3 h' e).2.1
theorem l187 {D c : Nat} {tv fv : Value} {T : List Kn} {P : Int → Bool} {h : AHeap} (x : TreeP c h tv T) (f : FnV D c h fv P) {p5 p2 : Nat} (r5 : Row h p5 [fv]) (r2 : Row h p2 [tv]) {k : Int} (h0 : 0 ≤ k) (h1 : k < T.length) :
  call Tp Ms (D + 1) 187 [.int .i64 k, ptr p5 0, ptr p2 0] h = some (.bool (!P (kd T k)), h) := by
 obtain ⟨p, nv, e1, e2, e3⟩ := x.nodes
 obtain ⟨i, e4, e5⟩ := e2.kind h0 h1
 have a5 : aLd1 h (ptr p5 0) = some fv := r5.ld1 rfl
 have a2 : aLd1 h (ptr p2 0) = some tv := r2.ld1 rfl
 rw [c187, e187]
 simp only [a5, a2, oBs, x.cells.2, e1, e3 h (Ext.refl _ _), e4, aOff_ptr, Nat.add_zero, e5 h (Ext.refl _ _), asI, if_true]
 rw [f.2 h (Ext.refl _ _), oBs]
 rfl
theorem idx_loop {D N c : Nat} {cv v : Value} {xs : List Int} {Q : Int → Bool} {h : AHeap} (hQ : ∀ k ∈ xs, aCallV (call Tp Ms D) cv [.int .i64 k] h = some (.bool (Q k), h)) (hl : xs.length ≤ 1048576) (x : RdI c h v xs) :
  ∀ (k j m : Nat), xs.length - j = k → j ≤ xs.length → k < m → ∃ r : Int, s202_0 hk0 (call Tp Ms D) N m v cv (xs.length : Int) (j : Int) h = some (.int .i64 r, h) ∧ (decide (r ≥ 0) = (xs.drop j).any Q) := by
 intro k
 induction k with
 | zero =>
  intro j m hk hj hm
  obtain ⟨m, rfl⟩ : ∃ q, m = q + 1 := ⟨m - 1, by omega⟩
  have : ¬ ((j : Int) < (xs.length : Int)) := by omega
  refine ⟨-1, ?_, by rw [List.drop_eq_nil_of_le (by omega)]; rfl⟩
  rw [s202_0_eq, decide_eq_false this, cond_false]
 | succ k ih =>
  intro j m hk hj hm
  obtain ⟨m, rfl⟩ : ∃ q, m = q + 1 := ⟨m - 1, by omega⟩
  have hlt : j < xs.length := by omega
  have hI : ((j : Int) < (xs.length : Int)) := by omega
  obtain ⟨p, e1, e2⟩ := x.2 j hlt
  have wj : IntKind.i64.wrap ((j : Int) + 1) = ((j + 1 : Nat) : Int) := by rw [wr (by omega) (by omega)]; omega
  rw [s202_0_eq, decide_eq_true hI, cond_true, e1, oBs, e2 h (Ext.refl _ _), oBs]
  simp only [asI, if_true, oBs]
  rw [hQ _ (List.getElem_mem hlt), oBs, List.drop_eq_getElem_cons hlt, List.any_cons]
  simp only [asB, oBs]
  cases Q xs[j] with
  | true => exact ⟨j, rfl, by rw [Bool.true_or]; simp⟩
  | false =>
   rw [cond_false, wj, Bool.false_or]
   exact ih (j + 1) m (by omega) (by omega) (by omega)
theorem l149 {d c : Nat} (hd : 1048577 < d) {tv v fv : Value} {T : List Kn} {xs : List Int} {P : Int → Bool} {h : AHeap} (x : TreeP c h tv T) (f : FnV d c h fv P) (y : RdI c h v xs) (hc : c ≤ h.size) (hl : xs.length ≤ 1048576) (hx : ∀ k ∈ xs, 0 ≤ k ∧ k < T.length) :
  ∃ h', call Tp Ms (d + 4) 149 [tv, v, fv] h = some (.bool ((xs.map (kd T)).all P), h') ∧ Ext h.size h h' := by
 have e1 := Ext.new (Nat.le_refl h.size) 96 [tv]
 have r1 := (Own.new (b := h.size) (Nat.le_refl _) 96 [tv]).row
 have s1 : (h.new 96 [tv]).size = h.size + 1 := rfl
 rw [c149, e149, x.cells.1, oBs]
 simp only [aNew]
 generalize h.new 96 [tv] = h1 at e1 r1 s1 ⊢
 rw [f.1, oBs]
 have e2 := Ext.new (Nat.le_refl h1.size) 74 [fv]
 have r2 := (Own.new (b := h1.size) (Nat.le_refl _) 74 [fv]).row
 have s2 : (h1.new 74 [fv]).size = h1.size + 1 := rfl
 generalize h1.new 74 [fv] = h2 at e2 r2 s2 ⊢
 have E : Ext h.size h h2 := e1.trans (e2.mono (by omega))
 have r12 := r1.ext e2 (by omega)
 refine ⟨h2, ?_, E⟩
 have hf : aFn 187 [] [ptr h1.size 0, ptr h.size 0] = some (.func (.func 187) #[] #[ptr h1.size 0, ptr h.size 0]) := rfl
 have x2 := x.ext (E.mono hc)
 have f2 := f.ext (E.mono hc)
 have y2 := y.ext (E.mono hc)
 have q : ∀ k ∈ xs, aCallV (call Tp Ms (d + 1)) (.func (.func 187) #[] #[ptr h1.size 0, ptr h.size 0]) [.int .i64 k] h2 = some (.bool (!P (kd T k)), h2) := fun k hk => by
  rw [callV2, show [Value.int .i64 k] ++ [ptr h1.size 0, ptr h.size 0] = [.int .i64 k, ptr h1.size 0, ptr h.size 0] from rfl]
  exact l187 x2 f2 r2 r12 (hx k hk).1 (hx k hk).2
 obtain ⟨r, c3, hr⟩ := idx_loop (N := d + 1) (Q := fun k => !P (kd T k)) q hl y2 xs.length 0 (d + 1) (by omega) (by omega) (by omega)
 have c202' : call Tp Ms (d + 2) 202 [v, .func (.func 187) #[] #[ptr h1.size 0, ptr h.size 0]] h2 = some (.int .i64 r, h2) := by
  rw [c202, e202, y.1, oBs]
  simp only [asI, if_true, oBs]
  exact c3
 have c186' : call Tp Ms (d + 3) 186 [v, .func (.func 187) #[] #[ptr h1.size 0, ptr h.size 0]] h2 = some (.bool (decide (r ≥ 0)), h2) := by
  rw [c186, e186, c202', oBs]
  simp only [asI, if_true, oBs]
 have hb : ∀ l : List Int, (!(l.any fun k => !P (kd T k))) = (l.map (kd T)).all P := by
  intro l
  induction l with
  | nil => rfl
  | cons k l ih =>
   rw [List.any_cons, List.map_cons, List.all_cons, ← ih, Bool.not_or, Bool.not_not]
 have hr2 : (!decide (r ≥ 0)) = (xs.map (kd T)).all P := by rw [hr, List.drop_zero]; exact hb xs
 rw [hf, oBs, c186', oBs]
 simp only [asB, oBs]
 rw [hr2]
theorem nodeRow {h : AHeap} {q : Nat} {n : Kn} {kv : Value} (r : Row h q (knCells n kv)) : aLd1 h (ptr q 0) = some (.int .i64 n.k) ∧ aLd1 h (ptr q 3) = some kv ∧ aLdN h (ptr q 0) 4 = some (knVal n kv) := by
 obtain ⟨a, _, _, b, c⟩ := ld4 r
 exact ⟨a, b, c⟩
theorem kidsAre_loop {d N c : Nat} {tv fs : Value} {T : List Kn} {n : Kn} {kv : Value} {Ps : List (Value × (Int → Bool))} {q r : Nat} (hl : n.ks.length ≤ 1048576) (hp : Ps.length = n.ks.length) (hx : ∀ k ∈ n.ks, 0 ≤ k ∧ k < T.length) {h : AHeap}
  (x : TreeP c h tv T) (y : ISl c h kv n.ks) (rq : Row h q (knCells n kv)) (rf : Row h r (Ps.map Prod.fst)) (hfs : fs = slc r 0 Ps.length) (hf : ∀ j (hj : j < Ps.length), FnV d c h (Ps[j]).1 (Ps[j]).2) :
  ∀ (k j m : Nat), n.ks.length - j = k → j ≤ n.ks.length → k < m →
   s151_0 hk0 (call Tp Ms d) N m tv (ptr q 0) fs (n.ks.length : Int) (j : Int) h = some (.bool (((n.ks.drop j).zip (Ps.drop j)).all fun p => p.2.2 (kd T p.1)), h) := by
 intro k
 induction k with
 | zero =>
  intro j m hk hj hm
  obtain ⟨m, rfl⟩ : ∃ q, m = q + 1 := ⟨m - 1, by omega⟩
  have : ¬ ((j : Int) < (n.ks.length : Int)) := by omega
  rw [s151_0_eq, decide_eq_false this, cond_false, List.drop_eq_nil_of_le (by omega)]; rfl
 | succ k ih =>
  intro j m hk hj hm
  obtain ⟨m, rfl⟩ : ∃ q, m = q + 1 := ⟨m - 1, by omega⟩
  have hlt : j < n.ks.length := by omega
  have hlt2 : j < Ps.length := by omega
  have hI : ((j : Int) < (n.ks.length : Int)) := by omega
  obtain ⟨p, e1, e2⟩ := y.at hlt
  obtain ⟨pn, nv, g1, g2, g3⟩ := x.nodes
  obtain ⟨b0, b3, _⟩ := nodeRow rq
  have hk := hx _ (List.getElem_mem hlt)
  obtain ⟨i, k1, k2⟩ := g2.kind hk.1 hk.2
  have hix : aIdx fs (.int .i64 (j : Int)) 1 = some (ptr r j) := by rw [hfs]; simp [aIdx, slc, hlt2]
  have hld : aLd1 h (ptr r j) = some (Ps[j]).1 := rf.ld1 (by simp [hlt2])
  have wj : IntKind.i64.wrap ((j : Int) + 1) = ((j + 1 : Nat) : Int) := by rw [wr (by omega) (by omega)]; omega
  rw [s151_0_eq, decide_eq_true hI, cond_true, List.drop_eq_getElem_cons hlt, List.drop_eq_getElem_cons hlt2, List.zip_cons_cons, List.all_cons]
  simp only [hix, hld, oBs, x.cells.2, g1, g3 h (Ext.refl _ _), aOff_ptr, Nat.zero_add, b3, e1, e2, asI, if_true, k1, Nat.add_zero, k2 h (Ext.refl _ _)]
  rw [(hf j hlt2).2 h (Ext.refl _ _), oBs]
  simp only [asB, oBs]
  cases (Ps[j]).2 (kd T n.ks[j]) with
  | false => rfl
  | true =>
   rw [Bool.not_true, cond_false, wj, Bool.true_and]
   exact ih (j + 1) m (by omega) (by omega) (by omega)
theorem l151 {d c : Nat} (hd : 1048577 < d) {tv : Value} {T : List Kn} {n : Kn} {kv : Value} {Ps : List (Value × (Int → Bool))} {r : Nat} (hl : n.ks.length ≤ 1048576) (hps : Ps.length ≤ 10) (hx : ∀ k ∈ n.ks, 0 ≤ k ∧ k < T.length) {h : AHeap}
  (x : TreeP c h tv T) (y : ISl c h kv n.ks) (hc : c ≤ h.size) (rf : Row h r (Ps.map Prod.fst)) (hr : r < h.size) (hf : ∀ j (hj : j < Ps.length), FnV d c h (Ps[j]).1 (Ps[j]).2) :
  ∃ h', call Tp Ms (d + 1) 151 [tv, knVal n kv, slc r 0 Ps.length] h = some (.bool (decide (n.ks.length = Ps.length) && (n.ks.zip Ps).all fun p => p.2.2 (kd T p.1)), h') ∧ Ext h.size h h' := by
 have e1 := Ext.new (Nat.le_refl h.size) 73 (knCells n kv)
 have r1 : Row (h.new 73 (knCells n kv)) h.size (knCells n kv) := (Own.new (b := h.size) (Nat.le_refl _) 73 (knCells n kv)).row
 rw [c151, e151, kn_aCells y, oBs]
 simp only [aNew]
 generalize h.new 73 (knCells n kv) = h1 at e1 r1 ⊢
 refine ⟨h1, ?_, e1⟩
 obtain ⟨_, b3, _⟩ := nodeRow r1
 have hlen : aLen (slc r 0 Ps.length) = some (.int .i64 (Ps.length : Int)) := rfl
 simp only [aOff_ptr, Nat.zero_add, oBs, b3, y.len, hlen, asI, if_true]
 by_cases hp : n.ks.length = Ps.length
 ·have : ((n.ks.length : Int) != (Ps.length : Int)) = false := by simp [hp]
  rw [this, cond_false, decide_eq_true hp, Bool.true_and]
  have := kidsAre_loop (d := d) (N := d) hl hp.symm hx (x.ext (e1.mono hc)) (y.ext (e1.mono hc)) r1 (rf.ext e1 hr) rfl (fun j hj => (hf j hj).ext (e1.mono hc)) n.ks.length 0 d (by omega) (by omega) (by omega)
  rw [← hp]
  rw [← hp] at this
  exact this
 ·have : ((n.ks.length : Int) != (Ps.length : Int)) = true := by simp; omega
  rw [this, cond_true, decide_eq_false hp, Bool.false_and]
def leaf (k : Int) : Bool := k == 1 || (k == 2 || (k == 3 || (k == 4 || (k == 5 || k == 22))))
def isBl (k : Int) : Bool := k == 21
def kidsAreP (kk : List Int) (Ps : List (Int → Bool)) : Bool := decide (kk.length = Ps.length) && (kk.zip Ps).all fun p => p.2 p.1
def kidsP (k : Int) (kk : List Int) : Bool :=
 if leaf k = true then decide (kk.length = 0)
 else if k = 6 then decide (0 < kk.length) && (kk.dropLast.all (· == 22) && kk.getLast? == some 21)
 else if k = 7 then kk.all fun k => k == 23 || k == 24
 else if two2 k = true then kidsAreP kk [isEx, isEx]
 else if k = 9 then decide (0 < kk.length) && kk.all isEx
 else if one1 k = true then kidsAreP kk [isEx]
 else if k = 16 then kidsAreP kk [isEx, isEx, isEx]
 else if k = 17 then kidsAreP kk [isEx, isBl] || kidsAreP kk [isEx, isBl, isBl]
 else if k = 18 then kidsAreP kk [isEx, isBl]
 else if k = 20 then kidsAreP kk [fun k => k == 9]
 else if k = 21 then kk.all isSt
 else false
theorem zip_all {T : List Kn} : ∀ (xs : List Int) (Ps : List (Value × (Int → Bool))), ((xs.zip Ps).all fun p => p.2.2 (kd T p.1)) = (((xs.map (kd T)).zip (Ps.map Prod.snd)).all fun p => p.2 p.1)
 | [], _ => by simp
 | x :: xs, [] => by simp
 | x :: xs, p :: ps => by
  rw [List.zip_cons_cons, List.map_cons, List.map_cons, List.zip_cons_cons, List.all_cons, List.all_cons, zip_all xs ps]
theorem are151 {d c : Nat} (hd : 1048577 < d) {tv : Value} {T : List Kn} {n : Kn} {kv : Value} (Ps : List (Value × (Int → Bool))) (hl : n.ks.length ≤ 1048576) (hps : Ps.length ≤ 10) (hx : ∀ k ∈ n.ks, 0 ≤ k ∧ k < T.length) {h : AHeap}
  (x : TreeP c h tv T) (y : ISl c h kv n.ks) (hc : c ≤ h.size) (hf : ∀ j (hj : j < Ps.length), FnV d c h (Ps[j]).1 (Ps[j]).2) :
  ∃ h', call Tp Ms (d + 1) 151 [tv, knVal n kv, slc h.size 0 Ps.length] (h.new 74 (Ps.map Prod.fst)) = some (.bool (kidsAreP (n.ks.map (kd T)) (Ps.map Prod.snd)), h') ∧ Ext h.size h h' := by
 have e1 := Ext.new (Nat.le_refl h.size) 74 (Ps.map Prod.fst)
 have r1 := (Own.new (b := h.size) (Nat.le_refl _) 74 (Ps.map Prod.fst)).row
 have s1 : (h.new 74 (Ps.map Prod.fst)).size = h.size + 1 := rfl
 obtain ⟨h2, c2, x2⟩ := l151 hd hl hps hx (x.ext (e1.mono hc)) (y.ext (e1.mono hc)) (by omega) r1 (by omega) (fun j hj => (hf j hj).ext (e1.mono hc))
 refine ⟨h2, ?_, e1.trans (x2.mono (by omega))⟩
 rw [c2, zip_all]
 unfold kidsAreP
 rw [List.length_map, List.length_map]
theorem ISl.sub {c : Nat} {h : AHeap} {v : Value} {xs : List Int} (x : ISl c h v xs) (hx : 0 < xs.length) :
  ∃ v', (∀ h', Ext c h h' → aSub h' 3 v none (some (.int .i64 ((xs.length : Int) - 1))) 1 = some v') ∧ RdI c h v' xs.dropLast ∧ Go.AH.vbeq v' v' = true := by
 rcases x with ⟨rfl, rfl⟩ | ⟨a, n, rfl, rfl⟩ | ⟨i, o, rfl, h2, h3, h4, h5⟩
 ·simp at hx
 ·simp at hx
 ·have hd : (xs.dropLast).length = xs.length - 1 := by simp
  refine ⟨.slice (some ⟨i, 0, none⟩) (xs.length - 1) (xs.length - 1), fun h' e => ?_, ⟨?_, fun j hj => ⟨ptr i j, ?_, fun h' e => ?_⟩⟩, ?_⟩
  ·have hb : aBound (.int .i64 ((xs.length : Int) - 1)) xs.length = some (xs.length - 1) := by
    show (if 0 ≤ (xs.length : Int) - 1 ∧ (xs.length : Int) - 1 ≤ xs.length then some ((xs.length : Int) - 1).toNat else none) = _
    rw [if_pos ⟨by omega, by omega⟩]; congr 1; omega
   have he : (h'.at? i).map (·.elem) = some 3 := by rw [e.at? h5 h2]; simp [h3]
   show (if (h'.at? i).map (·.elem) = some 3 then (aBound (.int .i64 ((xs.length : Int) - 1)) xs.length).bind fun h => (some 0).bind fun l => some (Value.slice (some ⟨i, 0 + l * 1, none⟩) (h - l) (h - l)) else none) = _
   rw [if_pos he, hb]; rfl
  ·rw [hd]; rfl
  ·rw [hd] at hj
   simp [aIdx, hj]
  ·rw [hd] at hj
   have r : Row h' i (ints xs) := ⟨o, e.at? h5 h2, h4⟩
   rw [r.ld1 (v := .int .i64 xs[j]) (by simp [ints, show j < xs.length by omega])]
   simp [List.getElem_dropLast]
  ·exact vbeq1_self (.slice (some ⟨i, 0, none⟩) (xs.length - 1) (xs.length - 1)) rfl (fun _ _ _ h => by cases h)
theorem fill1 {a : Value} (ha : aCells a = some [a]) : aFill [.nilFunc] [(0, 1, a)] = some [a] := by simp [aFill, ha, splice]
theorem fill2 {a b : Value} (ha : aCells a = some [a]) (hb : aCells b = some [b]) : aFill [.nilFunc, .nilFunc] [(0, 1, a), (1, 1, b)] = some [a, b] := by simp [aFill, ha, hb, splice]
theorem fill3 {a b c : Value} (ha : aCells a = some [a]) (hb : aCells b = some [b]) (hc : aCells c = some [c]) : aFill [.nilFunc, .nilFunc, .nilFunc] [(0, 1, a), (1, 1, b), (2, 1, c)] = some [a, b, c] := by simp [aFill, ha, hb, hc, splice]
theorem kd_last {T : List Kn} {xs : List Int} (hx : 0 < xs.length) : (xs.map (kd T)).getLast? = some (kd T (xs[xs.length - 1]'(by omega))) := by
 rw [List.getLast?_eq_getElem?, List.length_map, List.getElem?_map, List.getElem?_eq_getElem (by omega)]; rfl
theorem l105 {d c : Nat} (hd : 1048577 < d) {tv : Value} {T : List Kn} {n : Kn} {kv : Value} (hl : n.ks.length ≤ 1048576) (hx : ∀ k ∈ n.ks, 0 ≤ k ∧ k < T.length) {h : AHeap} (x : TreeP c h tv T) (y : ISl c h kv n.ks) (hc : c ≤ h.size) :
  ∃ h', call Tp Ms (d + 7) 105 [tv, knVal n kv] h = some (.bool (kidsP n.k (n.ks.map (kd T))), h') ∧ Ext h.size h h' := by
 have e1 := Ext.new (Nat.le_refl h.size) 73 (knCells n kv)
 have r1 : Row (h.new 73 (knCells n kv)) h.size (knCells n kv) := (Own.new (b := h.size) (Nat.le_refl _) 73 (knCells n kv)).row
 have s1 : (h.new 73 (knCells n kv)).size = h.size + 1 := rfl
 rw [c105, e105, kn_aCells y, oBs]
 simp only [aNew]
 have x1 := x.ext (e1.mono hc)
 have y1 := y.ext (e1.mono hc)
 generalize h.new 73 (knCells n kv) = h1 at e1 r1 s1 x1 y1 ⊢
 obtain ⟨bf, h2, c2, e2, f2⟩ := l148 (d + 5) (d + 4) 21 h1
 have c2' : call Tp Ms (d + 6) 148 [.int .i64 21] h1 = some (bf, h2) := c2
 have s2 := e2.size
 have r2 := r1.ext e2 (by omega)
 have x2 := (x1.ext (e2.mono (by omega))).mono (show c ≤ h2.size by omega)
 have y2 := (y1.ext (e2.mono (by omega))).mono (show c ≤ h2.size by omega)
 have f2' : FnV (d + 5) h2.size h2 bf isBl := f2
 have E2 : Ext h.size h h2 := e1.trans (e2.mono (by omega))
 have f152 := fn152 (d + 3) h2.size h2
 rw [c2', oBs]
 obtain ⟨b0, b3, bN⟩ := nodeRow r2
 simp only [aOff_ptr, Nat.zero_add, oBs, b0, asI, if_true]
 have E : ∀ f : Bool → Option (Value × AHeap), (bif n.k == 1 then f (n.k == 1) else bif n.k == 2 then f (n.k == 2) else bif n.k == 3 then f (n.k == 3) else bif n.k == 4 then f (n.k == 4) else bif n.k == 5 then f (n.k == 5) else f (n.k == 22)) = f (leaf n.k) := by
  intro f; unfold leaf
  cases (n.k == 1) <;> cases (n.k == 2) <;> cases (n.k == 3) <;> cases (n.k == 4) <;> cases (n.k == 5) <;> rfl
 rw [E (fun t => s105_0 hk0 (call Tp Ms (d + 6)) (d + 6) tv (ptr h.size 0) bf n.k t h2), s105_0_j, s105_0_eq]
 suffices hs : ∃ h', _ = some (Value.bool (kidsP n.k (n.ks.map (kd T))), h') ∧ Ext h2.size h2 h' from by
  obtain ⟨h', a, b⟩ := hs
  exact ⟨h', a, E2.trans (b.mono (by omega))⟩
 unfold kidsP
 rw [List.length_map]
 have are := fun (Ps : List (Value × (Int → Bool))) (hp : Ps.length ≤ 10) (hf : ∀ j (hj : j < Ps.length), FnV (d + 5) h2.size h2 (Ps[j]).1 (Ps[j]).2) => are151 (d := d + 5) (by omega) Ps hl hp hx x2 y2 (Nat.le_refl _) hf
 cases leaf n.k with
 | true =>
  rw [cond_true, if_pos rfl]
  refine ⟨h2, ?_, Ext.refl _ _⟩
  simp only [aOff_ptr, Nat.zero_add, oBs, b3, y2.len, asI, if_true]
  have : ((n.ks.length : Int) == 0) = decide (n.ks.length = 0) := by rw [Bool.eq_iff_iff]; simp
  rw [this]
 | false =>
  rw [cond_false, if_neg (by simp)]
  by_cases k6 : n.k = 6
  ·rw [if_pos k6, k6, show ((6 : Int) == 6) = true from rfl, cond_true]
   simp only [aOff_ptr, Nat.zero_add, oBs, b3, y2.len, asI, if_true]
   have w : IntKind.i64.wrap ((n.ks.length : Int) - 1) = (n.ks.length : Int) - 1 := wr (by omega) (by omega)
   rw [w]
   by_cases hp : 0 < n.ks.length
   ·have hge : (n.ks.length : Int) - 1 ≥ 0 := by omega
    obtain ⟨v', g1, g2, g3⟩ := y2.sub hp
    obtain ⟨pf, h3, c3, e3, f3⟩ := l148 (d + 5) (d + 1) 22 h2
    have c3' : call Tp Ms (d + 6) 148 [.int .i64 22] h2 = some (pf, h3) := c3
    have s3 := e3.size
    have r3 := r2.ext e3 (by omega)
    obtain ⟨_, d3, _⟩ := nodeRow r3
    have x3 := (x2.ext e3).mono s3
    have y3 := (y2.ext e3).mono s3
    have hx' : ∀ k ∈ n.ks.dropLast, 0 ≤ k ∧ k < T.length := fun k hk => hx k (by rw [List.dropLast_eq_take] at hk; exact List.mem_of_mem_take hk)
    obtain ⟨h4, c4, e4⟩ := l149 (d := d + 2) (by omega) x3 f3 ((g2.ext e3).mono s3) (Nat.le_refl _) (by simp; omega) hx'
    have c4' : call Tp Ms (d + 6) 149 [tv, v', pf] h3 = _ := c4
    have r4 := r3.ext e4 (by omega)
    obtain ⟨_, d4, _⟩ := nodeRow r4
    have x4 := x3.ext e4
    have y4 := y3.ext e4
    refine ⟨h4, ?_, e3.trans (e4.mono s3)⟩
    rw [decide_eq_true hge, cond_true, g1 h2 (Ext.refl _ _), oBs, c3', oBs]
    simp only [d3, y3.vbeq, oBs, cond_true, g1 h3 e3, g3]
    rw [c4', oBs, decide_eq_true hp, Bool.true_and, List.map_dropLast]
    simp only [asB, oBs]
    cases ((n.ks.map (kd T)).dropLast).all (fun n => n == 22) with
    | false => rfl
    | true =>
     rw [cond_true, Bool.true_and, kd_last hp]
     obtain ⟨pn, nv, k1, k2, k3⟩ := x4.nodes
     have hk := hx _ (List.getElem_mem (show n.ks.length - 1 < n.ks.length by omega))
     obtain ⟨i, m1, m2⟩ := k2.kind hk.1 hk.2
     obtain ⟨pk, q1, q2⟩ := y4.at (show n.ks.length - 1 < n.ks.length by omega)
     have q1' : aIdx kv (.int .i64 ((n.ks.length : Int) - 1)) 1 = some pk := by
      rw [show (n.ks.length : Int) - 1 = ((n.ks.length - 1 : Nat) : Int) by omega]; exact q1
     simp only [x4.cells.2, oBs, k1, k3 h4 (Ext.refl _ _), d4, q1', q2, asI, if_true, m1, aOff_ptr, Nat.add_zero, m2 h4 (Ext.refl _ _)]
     have : (kd T (n.ks[n.ks.length - 1]'(by omega)) == 21) = (some (kd T (n.ks[n.ks.length - 1]'(by omega))) == some 21) := rfl
     rw [this]
   ·have hge : ¬ (n.ks.length : Int) - 1 ≥ 0 := by omega
    rw [decide_eq_false hge, cond_false, decide_eq_false hp, Bool.false_and]
    exact ⟨h2, rfl, Ext.refl _ _⟩
  rw [beq_eq_false_iff_ne.2 k6, cond_false, if_neg k6]
  by_cases k7 : n.k = 7
  ·rw [if_pos k7, k7, show ((7 : Int) == 7) = true from rfl, cond_true]
   obtain ⟨h3, c3, e3⟩ := l149 (d := d + 2) (by omega) x2 (fn150 (d + 1) h2.size h2) y2.rd (Nat.le_refl _) hl hx
   have c3' : call Tp Ms (d + 6) 149 [tv, kv, .func (.func 150) #[] #[]] h2 = _ := c3
   refine ⟨h3, ?_, e3⟩
   simp only [aOff_ptr, Nat.zero_add, oBs, b3]
   rw [c3', oBs]; rfl
  rw [beq_eq_false_iff_ne.2 k7, cond_false, if_neg k7]
  have E2 : ∀ f : Bool → Option (Value × AHeap), (bif n.k == 8 then f (n.k == 8) else bif n.k == 10 then f (n.k == 10) else bif n.k == 12 then f (n.k == 12) else bif n.k == 13 then f (n.k == 13) else f (n.k == 24)) = f (two2 n.k) := by
   intro f; unfold two2
   cases (n.k == 8) <;> cases (n.k == 10) <;> cases (n.k == 12) <;> cases (n.k == 13) <;> rfl
  have E1 : ∀ f : Bool → Option (Value × AHeap), (bif n.k == 11 then f (n.k == 11) else bif n.k == 14 then f (n.k == 14) else bif n.k == 15 then f (n.k == 15) else bif n.k == 19 then f (n.k == 19) else f (n.k == 23)) = f (one1 n.k) := by
   intro f; unfold one1
   cases (n.k == 11) <;> cases (n.k == 14) <;> cases (n.k == 15) <;> cases (n.k == 19) <;> rfl
  rw [E2 (fun t => s105_1 hk0 (call Tp Ms (d + 6)) (d + 6) tv (ptr h.size 0) bf n.k t h2), s105_1_j, s105_1_eq]
  have FX := f152.1
  have FB := f2'.1
  cases two2 n.k with
  | true =>
   rw [cond_true, if_pos rfl]
   obtain ⟨h3, c3, e3⟩ := are [(.func (.func 152) #[] #[], isEx), (.func (.func 152) #[] #[], isEx)] (by decide) (fun j hj => by match j, hj with | 0, _ => exact f152 | 1, _ => exact f152)
   refine ⟨h3, ?_, e3⟩
   have c3' : call Tp Ms (d + 6) 151 [tv, knVal n kv, slc h2.size 0 2] (h2.new 74 [.func (.func 152) #[] #[], .func (.func 152) #[] #[]]) = _ := c3
   rw [bN, oBs, fill2 FX FX, oBs]
   simp only [aNewS]
   rw [c3', oBs]; rfl
  | false =>
   rw [cond_false, if_neg (by simp)]
   by_cases k9 : n.k = 9
   ·rw [if_pos k9, k9, show ((9 : Int) == 9) = true from rfl, cond_true]
    simp only [aOff_ptr, Nat.zero_add, oBs, b3, y2.len, asI, if_true]
    by_cases hp : 0 < n.ks.length
    ·have hp' : (n.ks.length : Int) > 0 := by omega
     obtain ⟨h3, c3, e3⟩ := l149 (d := d + 2) (by omega) x2 (fn152 d h2.size h2) y2.rd (Nat.le_refl _) hl hx
     have c3' : call Tp Ms (d + 6) 149 [tv, kv, .func (.func 152) #[] #[]] h2 = _ := c3
     refine ⟨h3, ?_, e3⟩
     rw [decide_eq_true hp', cond_true, c3', oBs, decide_eq_true hp, Bool.true_and]; rfl
    ·have hp' : ¬ (n.ks.length : Int) > 0 := by omega
     rw [decide_eq_false hp', cond_false, decide_eq_false hp, Bool.false_and]
     exact ⟨h2, rfl, Ext.refl _ _⟩
   rw [beq_eq_false_iff_ne.2 k9, cond_false, if_neg k9, E1 (fun t => s105_2 hk0 (call Tp Ms (d + 6)) (d + 6) tv (ptr h.size 0) bf n.k t h2), s105_2_j, s105_2_eq]
   have c151 : ∀ (Ps : List (Value × (Int → Bool))) (h3 h4 : AHeap) (b : Bool), call Tp Ms (d + 5 + 1) 151 [tv, knVal n kv, slc h3.size 0 Ps.length] (h3.new 74 (Ps.map Prod.fst)) = some (.bool b, h4) →
     (call Tp Ms (d + 6) 151 [tv, knVal n kv, slc h3.size 0 Ps.length] (h3.new 74 (Ps.map Prod.fst)) = some (.bool b, h4)) := fun _ _ _ _ h => h
   cases one1 n.k with
   | true =>
    rw [cond_true, if_pos rfl]
    obtain ⟨h3, c3, e3⟩ := are [(.func (.func 152) #[] #[], isEx)] (by decide) (fun j hj => by match j, hj with | 0, _ => exact f152)
    refine ⟨h3, ?_, e3⟩
    have c3' : call Tp Ms (d + 6) 151 [tv, knVal n kv, slc h2.size 0 1] (h2.new 74 [.func (.func 152) #[] #[]]) = _ := c3
    rw [bN, oBs, fill1 FX, oBs]
    simp only [aNewS]
    rw [c3', oBs]; rfl
   | false =>
    rw [cond_false, if_neg (by simp)]
    by_cases k16 : n.k = 16
    ·rw [if_pos k16, k16, show ((16 : Int) == 16) = true from rfl, cond_true]
     obtain ⟨h3, c3, e3⟩ := are [(.func (.func 152) #[] #[], isEx), (.func (.func 152) #[] #[], isEx), (.func (.func 152) #[] #[], isEx)] (by decide) (fun j hj => by match j, hj with | 0, _ => exact f152 | 1, _ => exact f152 | 2, _ => exact f152)
     refine ⟨h3, ?_, e3⟩
     have c3' : call Tp Ms (d + 6) 151 [tv, knVal n kv, slc h2.size 0 3] (h2.new 74 [.func (.func 152) #[] #[], .func (.func 152) #[] #[], .func (.func 152) #[] #[]]) = _ := c3
     rw [bN, oBs, fill3 FX FX FX, oBs]
     simp only [aNewS]
     rw [c3', oBs]; rfl
    rw [beq_eq_false_iff_ne.2 k16, cond_false, if_neg k16]
    by_cases k17 : n.k = 17
    ·rw [if_pos k17, k17, show ((17 : Int) == 17) = true from rfl, cond_true]
     obtain ⟨h3, c3, e3⟩ := are [(.func (.func 152) #[] #[], isEx), (bf, isBl)] (by show 2 ≤ 10; omega) (fun j hj => by match j, hj with | 0, _ => exact f152 | 1, _ => exact f2')
     have c3' : call Tp Ms (d + 6) 151 [tv, knVal n kv, slc h2.size 0 2] (h2.new 74 [.func (.func 152) #[] #[], bf]) = _ := c3
     rw [bN, oBs, fill2 FX FB, oBs]
     simp only [aNewS]
     rw [c3', oBs]
     simp only [asB, oBs]
     have s3 := e3.size
     have r3 := r2.ext e3 (by omega)
     obtain ⟨_, _, dN⟩ := nodeRow r3
     have hP : (kidsAreP (n.ks.map (kd T)) (List.map Prod.snd [((Value.func (.func 152) #[] #[]), isEx), (bf, isBl)])) = kidsAreP (n.ks.map (kd T)) [isEx, isBl] := rfl
     rw [hP]
     cases kidsAreP (n.ks.map (kd T)) [isEx, isBl] with
     | true => exact ⟨h3, rfl, e3⟩
     | false =>
      obtain ⟨h4, c4, e4⟩ := are151 (d := d + 5) (by omega) [(.func (.func 152) #[] #[], isEx), (bf, isBl), (bf, isBl)] hl (by show 3 ≤ 10; omega) hx ((x2.ext e3).mono s3) ((y2.ext e3).mono s3) (Nat.le_refl _) (fun j hj => by match j, hj with | 0, _ => exact fn152 (d + 3) h3.size h3 | 1, _ => exact (f2'.ext e3).mono s3 | 2, _ => exact (f2'.ext e3).mono s3)
      have c4' : call Tp Ms (d + 6) 151 [tv, knVal n kv, slc h3.size 0 3] (h3.new 74 [.func (.func 152) #[] #[], bf, bf]) = _ := c4
      refine ⟨h4, ?_, e3.trans (e4.mono s3)⟩
      rw [cond_false, dN, oBs, fill3 FX FB FB, oBs]
      rw [c4', oBs, Bool.false_or]; rfl
    rw [beq_eq_false_iff_ne.2 k17, cond_false, if_neg k17]
    by_cases k18 : n.k = 18
    ·rw [if_pos k18, k18, show ((18 : Int) == 18) = true from rfl, cond_true]
     obtain ⟨h3, c3, e3⟩ := are [(.func (.func 152) #[] #[], isEx), (bf, isBl)] (by show 2 ≤ 10; omega) (fun j hj => by match j, hj with | 0, _ => exact f152 | 1, _ => exact f2')
     have c3' : call Tp Ms (d + 6) 151 [tv, knVal n kv, slc h2.size 0 2] (h2.new 74 [.func (.func 152) #[] #[], bf]) = _ := c3
     refine ⟨h3, ?_, e3⟩
     rw [bN, oBs, fill2 FX FB, oBs]
     simp only [aNewS]
     rw [c3', oBs]; rfl
    rw [beq_eq_false_iff_ne.2 k18, cond_false, if_neg k18]
    by_cases k20 : n.k = 20
    ·rw [if_pos k20, k20, show ((20 : Int) == 20) = true from rfl, cond_true, bN, oBs]
     obtain ⟨cf, h3, c3, e3, f3⟩ := l148 (d + 5) (d + 4) 9 h2
     have c3' : call Tp Ms (d + 6) 148 [.int .i64 9] h2 = some (cf, h3) := c3
     have s3 := e3.size
     have r3 := r2.ext e3 (by omega)
     obtain ⟨_, _, dN⟩ := nodeRow r3
     have hv : Go.AH.vbeq (knVal n kv) (knVal n kv) = true := by
      show (vbeq1 (.int .i64 n.k) (.int .i64 n.k) && (vbeq1 (.string n.t) (.string n.t) && (vbeq1 (.int .i64 n.i) (.int .i64 n.i) && (vbeq1 kv kv && true)))) = true
      have hs : vbeq1 (.string n.t) (.string n.t) = true := vbeq_str n.t
      rw [vbeq1_self kv y.cell.1 y.cell.2, hs]
      simp [vbeq1]
     have e4 := Ext.new (Nat.le_refl h3.size) 74 [cf]
     obtain ⟨h5, c5, e5⟩ := are151 (d := d + 5) (by omega) [(cf, fun k => k == 9)] hl (by show 1 ≤ 10; omega) hx ((x2.ext e3).mono s3) ((y2.ext e3).mono s3) (Nat.le_refl _) (fun j hj => by match j, hj with | 0, _ => exact f3)
     have c5' : call Tp Ms (d + 6) 151 [tv, knVal n kv, slc h3.size 0 1] (h3.new 74 [cf]) = _ := c5
     obtain ⟨_, _, dN4⟩ := nodeRow (r3.ext e4 (by omega))
     refine ⟨h5, ?_, e3.trans (e5.mono s3)⟩
     rw [c3', oBs]
     simp only [dN, oBs, hv, cond_true, fill1 f3.1, aNewS, dN4]
     rw [c5', oBs]; rfl
    rw [beq_eq_false_iff_ne.2 k20, cond_false, if_neg k20]
    by_cases k21 : n.k = 21
    ·rw [if_pos k21, k21, show ((21 : Int) == 21) = true from rfl, cond_true]
     obtain ⟨h3, c3, e3⟩ := l149 (d := d + 2) (by omega) x2 (fn153 d h2.size h2) y2.rd (Nat.le_refl _) hl hx
     have c3' : call Tp Ms (d + 6) 149 [tv, kv, .func (.func 153) #[] #[]] h2 = _ := c3
     refine ⟨h3, ?_, e3⟩
     simp only [aOff_ptr, Nat.zero_add, oBs, b3]
     rw [c3', oBs]; rfl
    rw [beq_eq_false_iff_ne.2 k21, cond_false, if_neg k21]
    exact ⟨h2, rfl, Ext.refl _ _⟩
end Go.Proofs.Ytadmoackacickaa
