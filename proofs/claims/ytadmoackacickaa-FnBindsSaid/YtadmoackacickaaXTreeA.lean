import Derived.Test.YtadmoackacickaaXLex
import Derived.Test.YtadmoackacickaaXE2
import Derived.Test.YtadmoackacickaaXE3
import Derived.Test.YtadmoackacickaaXE4
import Derived.Test.YtadmoackacickaaXE5
/- Trees in the small evaluator's heap. -/
set_option linter.unusedSimpArgs false
namespace Go.Proofs.Ytadmoackacickaa
open Go Go.AH

theorem vbeq1_self : ∀ v : Value, isCell v = true → (∀ f a c, v ≠ .func f a c) → vbeq1 v v = true := by
  intro v h hf
  cases v <;> simp [isCell] at h <;> simp [vbeq1]
  · rename_i s
    have := vbeq_str s
    simpa [vbeq, vbeq1] using this
  · rename_i f a c; exact absurd rfl (hf f a c)
structure Kn where
  k : Int
  t : ByteArray
  i : Int
  ks : List Int
def ints (xs : List Int) : List Value := xs.map (Value.int .i64)
/-- A slice of ints that can be read; its row lies below c. -/
def ISl (c : Nat) (h : AHeap) (v : Value) (xs : List Int) : Prop :=
  (v = .slice none 0 0 ∧ xs = []) ∨ (∃ a n, v = .slice (some a) 0 n ∧ xs = []) ∨ ∃ i o, v = slc i 0 xs.length ∧ h.at? i = some o ∧ o.elem = 3 ∧ o.cells = ints xs ∧ i < c
theorem ISl.ext {c : Nat} {h h' : AHeap} {v : Value} {xs : List Int} (x : ISl c h v xs) (e : Ext c h h') : ISl c h' v xs := by
  rcases x with x | x | ⟨i, o, h1, h2, h3, h4, h5⟩
  · exact .inl x
  · exact .inr (.inl x)
  · exact .inr (.inr ⟨i, o, h1, e.at? h5 h2, h3, h4, h5⟩)
theorem ISl.mono {c d : Nat} {h : AHeap} {v : Value} {xs : List Int} (x : ISl c h v xs) (hd : c ≤ d) : ISl d h v xs := by
  rcases x with x | x | ⟨i, o, h1, h2, h3, h4, h5⟩
  · exact .inl x
  · exact .inr (.inl x)
  · exact .inr (.inr ⟨i, o, h1, h2, h3, h4, Nat.lt_of_lt_of_le h5 hd⟩)
theorem ISl.len {c : Nat} {h : AHeap} {v : Value} {xs : List Int} (x : ISl c h v xs) : aLen v = some (.int .i64 xs.length) := by
  rcases x with ⟨rfl, rfl⟩ | ⟨a, n, rfl, rfl⟩ | ⟨i, o, rfl, _⟩ <;> rfl
theorem ISl.at {c : Nat} {h : AHeap} {v : Value} {xs : List Int} (x : ISl c h v xs) {j : Nat} (hj : j < xs.length) : ∃ p, aIdx v (.int .i64 (j : Int)) 1 = some p ∧ aLd1 h p = some (.int .i64 xs[j]) := by
  rcases x with ⟨rfl, rfl⟩ | ⟨a, n, rfl, rfl⟩ | ⟨i, o, rfl, h2, h3, h4, h5⟩
  · simp at hj
  · simp at hj
  · refine ⟨ptr i j, by simp [aIdx, slc, hj], ?_⟩
    have r : Row h i (ints xs) := ⟨o, h2, h4⟩
    exact r.ld1 (by simp [ints, hj])
theorem ISl.cell {c : Nat} {h : AHeap} {v : Value} {xs : List Int} (x : ISl c h v xs) : isCell v = true ∧ ∀ f a b, v ≠ .func f a b := by
  rcases x with ⟨rfl, rfl⟩ | ⟨a, n, rfl, rfl⟩ | ⟨i, o, rfl, _⟩ <;> exact ⟨rfl, fun _ _ _ h => by cases h⟩
theorem ISl.vbeq {c : Nat} {h : AHeap} {v : Value} {xs : List Int} (x : ISl c h v xs) : vbeq v v = true := by
  have := vbeq1_self v x.cell.1 x.cell.2
  rcases x with ⟨rfl, rfl⟩ | ⟨a, n, rfl, rfl⟩ | ⟨i, o, rfl, _⟩ <;> exact this
def knCells (n : Kn) (kv : Value) : List Value := [.int .i64 n.k, .string n.t, .int .i64 n.i, kv]
def knVal (n : Kn) (kv : Value) : Value := .agg (List.toArray (knCells n kv))
theorem kn_aCells {c : Nat} {h : AHeap} {n : Kn} {kv : Value} (x : ISl c h kv n.ks) : aCells (knVal n kv) = some (knCells n kv) := by
  have e : (List.all (List.toArray (knCells n kv)).toList isCell) = true := by
    show (true && (true && (true && (isCell kv && true)))) = true
    rw [x.cell.1]; rfl
  show (if (List.all (List.toArray (knCells n kv)).toList isCell) = true then some (List.toArray (knCells n kv)).toList else none) = _
  rw [if_pos e]
/-- A slice of nodes that can be read. -/
def KSl (c : Nat) (h : AHeap) (v : Value) (ns : List Kn) : Prop :=
  (v = .slice none 0 0 ∧ ns = []) ∨ (∃ a n, v = .slice (some a) 0 n ∧ ns = []) ∨
  ∃ i o, v = slc i 0 ns.length ∧ h.at? i = some o ∧ i < c ∧ o.cells.length = ns.length * 4 ∧ ∀ (j : Nat) (n : Kn), ns[j]? = some n → ∃ kv, (o.cells.drop (j * 4)).take 4 = knCells n kv ∧ ISl c h kv n.ks
theorem KSl.ext {c : Nat} {h h' : AHeap} {v : Value} {ns : List Kn} (x : KSl c h v ns) (e : Ext c h h') : KSl c h' v ns := by
  rcases x with x | x | ⟨i, o, h1, h2, h3, h4, h5⟩
  · exact .inl x
  · exact .inr (.inl x)
  · exact .inr (.inr ⟨i, o, h1, e.at? h3 h2, h3, h4, fun j n hn => let ⟨kv, a, b⟩ := h5 j n hn; ⟨kv, a, b.ext e⟩⟩)
theorem KSl.mono {c d : Nat} {h : AHeap} {v : Value} {ns : List Kn} (x : KSl c h v ns) (hd : c ≤ d) : KSl d h v ns := by
  rcases x with x | x | ⟨i, o, h1, h2, h3, h4, h5⟩
  · exact .inl x
  · exact .inr (.inl x)
  · exact .inr (.inr ⟨i, o, h1, h2, Nat.lt_of_lt_of_le h3 hd, h4, fun j n hn => let ⟨kv, a, b⟩ := h5 j n hn; ⟨kv, a, b.mono hd⟩⟩)
theorem KSl.len {c : Nat} {h : AHeap} {v : Value} {ns : List Kn} (x : KSl c h v ns) : aLen v = some (.int .i64 ns.length) := by
  rcases x with ⟨rfl, rfl⟩ | ⟨a, n, rfl, rfl⟩ | ⟨i, o, rfl, _⟩ <;> rfl
theorem KSl.cell {c : Nat} {h : AHeap} {v : Value} {ns : List Kn} (x : KSl c h v ns) : isCell v = true ∧ ∀ f a b, v ≠ .func f a b := by
  rcases x with ⟨rfl, rfl⟩ | ⟨a, n, rfl, rfl⟩ | ⟨i, o, rfl, _⟩ <;> exact ⟨rfl, fun _ _ _ h => by cases h⟩
theorem KSl.vbeq1 {c : Nat} {h : AHeap} {v : Value} {ns : List Kn} (x : KSl c h v ns) : vbeq1 v v = true := vbeq1_self v x.cell.1 x.cell.2
theorem KSl.vbeq {c : Nat} {h : AHeap} {v : Value} {ns : List Kn} (x : KSl c h v ns) : vbeq v v = true := by
  have := x.vbeq1
  rcases x with ⟨rfl, rfl⟩ | ⟨a, n, rfl, rfl⟩ | ⟨i, o, rfl, _⟩ <;> exact this
theorem drop_take_get {cs : List Value} {a : Nat} {l : List Value} (h : (cs.drop a).take 4 = l) {c : Nat} (hc : c < 4) : cs[a + c]? = l[c]? := by
  rw [← h, List.getElem?_take, if_pos hc, List.getElem?_drop]
theorem KSl.at {c : Nat} {h : AHeap} {v : Value} {ns : List Kn} (x : KSl c h v ns) {j : Nat} (hj : j < ns.length) : ∃ i kv, aIdx v (.int .i64 (j : Int)) 4 = some (ptr i (j * 4)) ∧ ISl c h kv ns[j].ks ∧
    ∀ h', Ext c h h' → aLdN h' (ptr i (j * 4)) 4 = some (knVal ns[j] kv) ∧ aLd1 h' (ptr i (j * 4)) = some (.int .i64 ns[j].k) ∧ aLd1 h' (ptr i (j * 4 + 1)) = some (.string ns[j].t) ∧ aLd1 h' (ptr i (j * 4 + 2)) = some (.int .i64 ns[j].i) ∧ aLd1 h' (ptr i (j * 4 + 3)) = some kv := by
  rcases x with ⟨rfl, rfl⟩ | ⟨a, n, rfl, rfl⟩ | ⟨i, o, rfl, h2, h3, h4, h5⟩
  · simp at hj
  · simp at hj
  · obtain ⟨kv, e1, e2⟩ := h5 j ns[j] (List.getElem?_eq_getElem hj)
    refine ⟨i, kv, by simp [aIdx, slc, hj], e2, fun h' e => ?_⟩
    have r : Row h' i o.cells := ⟨o, e.at? h3 h2, rfl⟩
    refine ⟨?_, r.ld1 (drop_take_get (c := 0) e1 (by omega)), r.ld1 (drop_take_get (c := 1) e1 (by omega)), r.ld1 (drop_take_get (c := 2) e1 (by omega)), r.ld1 (drop_take_get (c := 3) e1 (by omega))⟩
    rw [r.ldN (by omega), e1]; rfl
/-- A struct's cells in memory of its own. -/
theorem ld4 {h : AHeap} {i : Nat} {a b c d : Value} (r : Row h i [a, b, c, d]) : aLd1 h (ptr i 0) = some a ∧ aLd1 h (ptr i 1) = some b ∧ aLd1 h (ptr i 2) = some c ∧ aLd1 h (ptr i 3) = some d ∧ aLdN h (ptr i 0) 4 = some (.agg (List.toArray [a, b, c, d])) :=
  ⟨r.ld1 rfl, r.ld1 rfl, r.ld1 rfl, r.ld1 rfl, r.ldN (off := 0) (n := 4) (Nat.le_refl _)⟩
theorem ld2 {h : AHeap} {i : Nat} {a b : Value} (r : Row h i [a, b]) : aLd1 h (ptr i 0) = some a ∧ aLd1 h (ptr i 1) = some b ∧ aLdN h (ptr i 0) 2 = some (.agg (List.toArray [a, b])) :=
  ⟨r.ld1 rfl, r.ld1 rfl, r.ldN (off := 0) (n := 2) (Nat.le_refl _)⟩
/-- One cell of a row of one's own is written. -/
theorem Own.st1' {b : Nat} {h : AHeap} {i n : Nat} {e : TypeId} {cs : List Value} {v : Value} (x : Own b h i e cs) (hn : n < cs.length) (hv : aCells v = some [v]) :
    ∃ h', aSt h (ptr i n) v 1 = some h' ∧ Ext b h h' ∧ Own b h' i e (cs.set n v) ∧ h'.size = h.size := by
  obtain ⟨h', h1, h2, h3, h4, _⟩ := x.st (off := n) (n := 1) hv rfl (by omega)
  refine ⟨h', h1, h2, ?_, h4⟩
  have : splice cs n [v] = cs.set n v := by
    unfold splice
    rw [List.set_eq_take_append_cons_drop, if_pos hn]
    simp
  rw [this] at h3; exact h3
/-- All cells of a struct of one's own are written. -/
theorem Own.stN {b : Nat} {h : AHeap} {i n : Nat} {e : TypeId} {cs vs : List Value} {v : Value} (x : Own b h i e cs) (hv : aCells v = some vs) (hl : vs.length = n) (hc : cs.length = n) :
    ∃ h', aSt h (ptr i 0) v n = some h' ∧ Ext b h h' ∧ Own b h' i e vs ∧ h'.size = h.size := by
  obtain ⟨h', h1, h2, h3, h4, _⟩ := x.st (off := 0) (n := n) hv hl (by omega)
  refine ⟨h', h1, h2, ?_, h4⟩
  have : splice cs 0 vs = vs := by
    unfold splice
    rw [List.take_zero, List.nil_append, List.drop_eq_nil_of_le (by omega), List.append_nil]
  rw [this] at h3; exact h3
theorem aCells_int (k : IntKind) (n : Int) : aCells (.int k n) = some [.int k n] := rfl
theorem aCells_str (s : ByteArray) : aCells (.string s) = some [.string s] := rfl
theorem aCells_one {v : Value} (h : isCell v = true) : aCells v = some [v] := by
  cases v <;> simp [isCell] at h <;> simp [aCells, isCell]
end Go.Proofs.Ytadmoackacickaa
/- Trees: their size, their copy. -/
set_option linter.unusedSimpArgs false
namespace Go.Proofs.Ytadmoackacickaa
open Go Go.AH

theorem wrB {x : Int} (h0 : -9223372036854775808 ≤ x) (h1 : x ≤ 9223372036854775807) : IntKind.i64.wrap x = x := by
  simp [IntKind.wrap, IntKind.bits, IntKind.signed]; omega
def bigT : Nat := 9223372036854775807
theorem l144 {d c : Nat} {v : Value} {xs : List Int} {h : AHeap} (x : ISl c h v xs) (hx : xs.length ≤ bigT) {l : Int} (h0 : 0 ≤ l) (h1 : l ≤ 1048576) :
    call Try.prog Ms (d + 1) 144 [v, .int .i64 l] h = some (.int .i64 (if l - xs.length < 0 then -1 else l - xs.length), h) := by
  have w : IntKind.i64.wrap (l - (xs.length : Int)) = l - (xs.length : Int) := wrB (by unfold bigT at hx; omega) (by omega)
  rw [c144, e144, x.len, Option.bind_some]
  simp only [asI, if_true, Option.bind_some, w]
  by_cases hc : l - (xs.length : Int) < 0
  · rw [decide_eq_true hc, cond_true, if_pos hc]
  · rw [decide_eq_false hc, cond_false, if_neg hc]
/-- What is left of a bulk. -/
def szK (n : Kn) (l : Int) : Int := if l - n.t.size < 0 then -1 else if l - n.t.size - n.ks.length < 0 then -1 else l - n.t.size - n.ks.length
def szN : List Kn → Int → Int
  | [], l => l
  | n :: ns, l => if szK n l < 0 then -1 else szN ns (szK n l)
def szT (ns : List Kn) (l : Int) : Int := if l - ns.length < 0 then -1 else szN ns (l - ns.length)
def okK (n : Kn) : Prop := n.t.size ≤ bigT ∧ n.ks.length ≤ bigT
theorem szK_le {n : Kn} {l : Int} (h1 : l ≤ 1048576) : szK n l ≤ 1048576 := by
  unfold szK
  split
  · omega
  · split <;> omega
theorem l97 {d c : Nat} {kv : Value} {n : Kn} {h : AHeap} (x : ISl c h kv n.ks) (hc : c ≤ h.size) (hn : okK n) {l : Int} (h0 : 0 ≤ l) (h1 : l ≤ 1048576) :
    ∃ h', call Try.prog Ms (d + 2) 97 [knVal n kv, .int .i64 l] h = some (.int .i64 (szK n l), h') ∧ Ext h.size h h' := by
  have e1 := Ext.new (Nat.le_refl h.size) 133 (knCells n kv)
  refine ⟨h.new 133 (knCells n kv), ?_, e1⟩
  have r1 : Row (h.new 133 (knCells n kv)) h.size [.int .i64 n.k, .string n.t, .int .i64 n.i, kv] := (Own.new (b := h.size) (Nat.le_refl _) 133 (knCells n kv)).row
  obtain ⟨a0, a1, a2, a3, _⟩ := ld4 r1
  have w : IntKind.i64.wrap (l - (n.t.size : Int)) = l - (n.t.size : Int) := wrB (by have := hn.1; unfold bigT at this; omega) (by omega)
  rw [c97, e97, kn_aCells x, Option.bind_some]
  simp only [aNew, aOff_ptr, Nat.zero_add, Option.bind_some, a1, a3, asS, w]
  unfold szK
  by_cases k1 : l - (n.t.size : Int) < 0
  · rw [decide_eq_true k1, cond_true, if_pos k1]
  · have c2 := l144 (d := d) (x.ext (e1.mono hc)) hn.2 (l := l - (n.t.size : Int)) (by omega) (by omega)
    rw [decide_eq_false k1, cond_false, if_neg k1, c2, Option.bind_some]
    simp only [asI, if_true, Option.bind_some]
    by_cases k2 : l - (n.t.size : Int) - (n.ks.length : Int) < 0
    · rw [if_pos k2, decide_eq_true (show ((-1 : Int) < 0) by decide), cond_true]
    · rw [if_neg k2, decide_eq_false k2, cond_false]
theorem sz_loop {d N c : Nat} {v : Value} {ns : List Kn} (hN : ∀ n ∈ ns, okK n) (hl : ns.length ≤ 1048576) : ∀ (k j m : Nat) (l : Int) (h : AHeap), ns.length - j = k → j ≤ ns.length → k < m → KSl c h v ns → c ≤ h.size → 0 ≤ l → l ≤ 1048576 →
    ∃ h', s56_0 hk0 (call Try.prog Ms (d + 2)) N m v l (j : Int) h = some (.int .i64 (szN (ns.drop j) l), h') ∧ Ext h.size h h' := by
  intro k
  induction k with
  | zero =>
    intro j m l h hk hj hm x hc h0 h1
    obtain ⟨m, rfl⟩ : ∃ q, m = q + 1 := ⟨m - 1, by omega⟩
    have : ¬ ((j : Int) < (ns.length : Int)) := by omega
    refine ⟨h, ?_, Ext.refl _ _⟩
    rw [s56_0_eq, x.len, Option.bind_some, List.drop_eq_nil_of_le (by omega)]
    simp only [asI, if_true, Option.bind_some, decide_eq_false this, cond_false, szN]
  | succ k ih =>
    intro j m l h hk hj hm x hc h0 h1
    obtain ⟨m, rfl⟩ : ∃ q, m = q + 1 := ⟨m - 1, by omega⟩
    have hlt : j < ns.length := by omega
    have hI : ((j : Int) < (ns.length : Int)) := by omega
    obtain ⟨i, kv, e1, e2, e3⟩ := x.at hlt
    obtain ⟨e4, _⟩ := e3 h (Ext.refl _ _)
    have hok := hN ns[j] (List.getElem_mem hlt)
    obtain ⟨h2, c2, x2⟩ := l97 (d := d) e2 hc hok h0 h1
    have wj : IntKind.i64.wrap ((j : Int) + 1) = ((j + 1 : Nat) : Int) := by rw [wr (by omega) (by omega)]; omega
    rw [s56_0_eq, x.len, Option.bind_some, List.drop_eq_getElem_cons hlt, szN]
    simp only [asI, if_true, Option.bind_some, decide_eq_true hI, cond_true, e1, e4, wj]
    rw [c2, Option.bind_some]
    simp only [asI, if_true, Option.bind_some]
    by_cases hs : szK ns[j] l < 0
    · rw [decide_eq_true hs, cond_true, if_pos hs]; exact ⟨h2, rfl, x2⟩
    · rw [decide_eq_false hs, cond_false, if_neg hs]
      obtain ⟨h3, c3, x3⟩ := ih (j + 1) m (szK ns[j] l) h2 (by omega) (by omega) (by omega) (x.ext (x2.mono hc)) (Nat.le_trans hc x2.size) (by omega) (szK_le h1)
      exact ⟨h3, c3, x2.trans (x3.mono x2.size)⟩
theorem l56 {d c : Nat} (hd : 1048577 < d) {v : Value} {ns : List Kn} {h : AHeap} (x : KSl c h v ns) (hc : c ≤ h.size) (hN : ∀ n ∈ ns, okK n) (hb : ns.length ≤ bigT) :
    ∃ h', call Try.prog Ms (d + 3) 56 [v, .int .i64 1048576] h = some (.int .i64 (szT ns 1048576), h') ∧ Ext h.size h h' := by
  have w : IntKind.i64.wrap (1048576 - (ns.length : Int)) = 1048576 - (ns.length : Int) := wrB (by unfold bigT at hb; omega) (by omega)
  rw [c56, e56, x.len, Option.bind_some]
  simp only [asI, if_true, Option.bind_some, w]
  unfold szT
  by_cases hs : (1048576 : Int) - (ns.length : Int) < 0
  · rw [decide_eq_true hs, cond_true, if_pos hs]; exact ⟨h, rfl, Ext.refl _ _⟩
  · rw [decide_eq_false hs, cond_false, if_neg hs]
    exact sz_loop (d := d) (N := d + 2) hN (by omega) ns.length 0 (d + 2) _ h (by omega) (by omega) (by omega) x hc (by omega) (by omega)
/-- A tree's value. -/
def trVal (nv : Value) (top : Int) : Value := .agg (List.toArray [nv, .int .i64 top])
theorem tr_aCells {c : Nat} {h : AHeap} {nv : Value} {ns : List Kn} (x : KSl c h nv ns) (top : Int) : aCells (trVal nv top) = some [nv, .int .i64 top] := by
  have e : (List.all (List.toArray [nv, .int .i64 top]).toList isCell) = true := by
    show (isCell nv && (true && true)) = true
    rw [x.cell.1]; rfl
  show (if (List.all (List.toArray [nv, .int .i64 top]).toList isCell) = true then some (List.toArray [nv, .int .i64 top]).toList else none) = _
  rw [if_pos e]
theorem tr_vbeq {c : Nat} {h : AHeap} {nv : Value} {ns : List Kn} (x : KSl c h nv ns) (top : Int) : vbeq (trVal nv top) (trVal nv top) = true := by
  show (vbeq1 nv nv && (vbeq1 (.int .i64 top) (.int .i64 top) && true)) = true
  rw [x.vbeq1]; simp [vbeq1]
theorem l19 {d c : Nat} (hd : 1048577 < d) {nv : Value} {ns : List Kn} {top : Int} {h : AHeap} (x : KSl c h nv ns) (hc : c ≤ h.size) (hN : ∀ n ∈ ns, okK n) (hb : ns.length ≤ bigT) :
    ∃ h', call Try.prog Ms (d + 4) 19 [trVal nv top, .int .i64 1048576] h = some (.int .i64 (if szT ns 1048576 < 0 then -1 else szT ns 1048576), h') ∧ Ext h.size h h' := by
  have e1 := Ext.new (Nat.le_refl h.size) 30 [nv, .int .i64 top]
  have r1 := (Own.new (b := h.size) (Nat.le_refl _) 30 [nv, .int .i64 top]).row
  obtain ⟨a0, _, _⟩ := ld2 r1
  obtain ⟨h2, c2, x2⟩ := l56 hd (x.ext (e1.mono hc)) (Nat.le_trans hc e1.size) hN hb
  rw [c19, e19, tr_aCells x, Option.bind_some]
  simp only [aNew, aOff_ptr, Nat.zero_add, Option.bind_some, a0]
  rw [c2, Option.bind_some]
  simp only [asI, if_true, Option.bind_some]
  have X := e1.trans (x2.mono e1.size)
  by_cases hs : szT ns 1048576 < 0
  · rw [decide_eq_true hs, cond_true, if_pos hs]; exact ⟨h2, rfl, X⟩
  · rw [decide_eq_false hs, cond_false, if_neg hs]; exact ⟨h2, rfl, X⟩
theorem szN_ok : ∀ (ns : List Kn) (l : Int), l ≤ 1048576 → 0 ≤ szN ns l → ∀ n ∈ ns, n.t.size ≤ 1048576 ∧ n.ks.length ≤ 1048576
  | [], _, _, _, n, hn => by simp at hn
  | m :: ns, l, hl, h, n, hn => by
    rw [szN] at h
    by_cases hs : szK m l < 0
    · rw [if_pos hs] at h; omega
    · rw [if_neg hs] at h
      have hle := szK_le (n := m) hl
      rcases List.mem_cons.1 hn with rfl | hn
      · unfold szK at hs
        by_cases k1 : l - (n.t.size : Int) < 0
        · rw [if_pos k1] at hs; omega
        · rw [if_neg k1] at hs
          by_cases k2 : l - (n.t.size : Int) - (n.ks.length : Int) < 0
          · rw [if_pos k2] at hs; omega
          · omega
      · exact szN_ok ns _ hle h n hn
theorem szT_ok {ns : List Kn} (h : 0 ≤ szT ns 1048576) : ns.length ≤ 1048576 ∧ ∀ n ∈ ns, n.t.size ≤ 1048576 ∧ n.ks.length ≤ 1048576 := by
  unfold szT at h
  by_cases hs : (1048576 : Int) - (ns.length : Int) < 0
  · rw [if_pos hs] at h; omega
  · rw [if_neg hs] at h
    exact ⟨by omega, szN_ok ns _ (by omega) h⟩
end Go.Proofs.Ytadmoackacickaa
/- Trees: their copy. -/
set_option linter.unusedSimpArgs false
namespace Go.Proofs.Ytadmoackacickaa
open Go Go.AH

theorem Own.stX {b : Nat} {h : AHeap} {i off n : Nat} {e : TypeId} {cs vs : List Value} {v : Value} (x : Own b h i e cs) (hv : aCells v = some vs) (hl : vs.length = n) (hn : off + n ≤ cs.length) :
    ∃ h', aSt h (ptr i off) v n = some h' ∧ Ext b h h' ∧ Own b h' i e (splice cs off vs) ∧ h'.size = h.size ∧ (∀ j o, h.at? j = some o → o.elem ≠ e → h'.at? j = some o) := by
  obtain ⟨r, ep, h1, h2⟩ := x
  have hi := at?_obj h1
  refine ⟨h.put i ⟨r, ep, false, e, cs⟩ (splice cs off vs), by simp [aSt, ptr, h1, hv, hl, hn], Ext.put (Nat.le_trans h2 hi.2.2.1) h2 _, ⟨_, _, at?_put_same h1 _, h2⟩, rfl, fun j o ho he => ?_⟩
  exact at?_put_other ho (fun hj => by subst hj; rw [h1] at ho; cases ho; exact he rfl) _ (fun hh => he hh.1)
/-- Ints in memory of one's own. -/
def IOwn (b : Nat) (h : AHeap) (v : Value) (xs : List Int) : Prop := ∃ i, v = slc i 0 xs.length ∧ Own b h i 3 (ints xs)
theorem IOwn.ext {b : Nat} {h h' : AHeap} {v : Value} {xs : List Int} (x : IOwn b h v xs) (e : Ext h.size h h') : IOwn b h' v xs := let ⟨i, h1, h2⟩ := x; ⟨i, h1, h2.ext e h2.lt.2⟩
theorem IOwn.isl {b : Nat} {h : AHeap} {v : Value} {xs : List Int} (x : IOwn b h v xs) : ISl h.size h v xs := by
  obtain ⟨i, h1, h2⟩ := x
  have hl := h2.lt.2
  obtain ⟨r, ep, h3, h4⟩ := h2
  exact .inr (.inr ⟨i, _, h1, h3, rfl, rfl, hl⟩)
theorem IOwn.keep {b : Nat} {h h' : AHeap} {v : Value} {xs : List Int} {e : TypeId} (x : IOwn b h v xs) (he : (3 : TypeId) ≠ e) (k : ∀ j o, h.at? j = some o → o.elem ≠ e → h'.at? j = some o) : IOwn b h' v xs := by
  obtain ⟨i, h1, r, ep, h3, h4⟩ := x
  exact ⟨i, h1, r, ep, k i _ h3 he, h4⟩
theorem IOwn.mono {b c : Nat} {h : AHeap} {v : Value} {xs : List Int} (x : IOwn b h v xs) (hc : c ≤ b) : IOwn c h v xs := let ⟨i, h1, h2⟩ := x; ⟨i, h1, h2.mono hc⟩
/-- Ints in a row of their own. -/
def IK (b : Nat) (h : AHeap) (v : Value) (xs : List Int) : Prop := ∃ i, v = slc i 0 xs.length ∧ Own i h i 3 (ints xs) ∧ b ≤ i
theorem IK.iown {b : Nat} {h : AHeap} {v : Value} {xs : List Int} (x : IK b h v xs) : IOwn b h v xs := let ⟨i, h1, h2, h3⟩ := x; ⟨i, h1, h2.mono h3⟩
theorem IK.ext {b : Nat} {h h' : AHeap} {v : Value} {xs : List Int} (x : IK b h v xs) (e : Ext h.size h h') : IK b h' v xs := let ⟨i, h1, h2, h3⟩ := x; ⟨i, h1, h2.ext e h2.lt.2, h3⟩
theorem IK.isl {b : Nat} {h : AHeap} {v : Value} {xs : List Int} (x : IK b h v xs) : ISl h.size h v xs := x.iown.isl
theorem IK.keep {b : Nat} {h h' : AHeap} {v : Value} {xs : List Int} {e : TypeId} (x : IK b h v xs) (he : (3 : TypeId) ≠ e) (k : ∀ j o, h.at? j = some o → o.elem ≠ e → h'.at? j = some o) : IK b h' v xs := by
  obtain ⟨i, h1, ⟨r, ep, h3, h4⟩, h5⟩ := x
  exact ⟨i, h1, ⟨r, ep, k i _ h3 he, h4⟩, h5⟩
theorem IK.mono {b c : Nat} {h : AHeap} {v : Value} {xs : List Int} (x : IK b h v xs) (hc : c ≤ b) : IK c h v xs := let ⟨i, h1, h2, h3⟩ := x; ⟨i, h1, h2, Nat.le_trans hc h3⟩
theorem ints_set (ys : List Int) (j : Nat) (v : Int) : (ints ys).set j (.int .i64 v) = ints (ys.set j v) := by simp [ints, List.map_set]
theorem rep_ints (n : Nat) : (List.replicate n [Value.int .i64 0]).flatten = ints (List.replicate n 0) := by
  induction n with
  | zero => rfl
  | succ n ih => rw [List.replicate_succ, List.flatten_cons, ih]; simp [ints, List.replicate_succ]
theorem mk_some (h : AHeap) (e : TypeId) (z : List Value) (bytes n : Nat) (hn : n ≤ 100000000) (hb : n * bytes ≤ 100000000000) : aMk h e z bytes (.int .i64 (n : Int)) (.int .i64 (n : Int)) = some (slc h.size 0 n, h.new e (List.replicate n z).flatten) := by
  have : (n : Int).toNat = n := by omega
  show (if 0 ≤ (n : Int) ∧ (n : Int) ≤ n ∧ (n : Int) ≤ (140737488355328 : Nat) ∧ (n : Int).toNat * bytes ≤ 140737488355328 then some (slc h.size 0 (n : Int).toNat, h.new e (List.replicate (n : Int).toNat z).flatten) else none) = _
  rw [this, if_pos ⟨by omega, by omega, by omega, by omega⟩]
theorem cpI_loop {d N c b r : Nat} {v : Value} {xs : List Int} (hl : xs.length ≤ 1048576) (hcb : c ≤ b) : ∀ (k j m : Nat) (ys : List Int) (h : AHeap), xs.length - j = k → j ≤ xs.length → k < m → ISl c h v xs → Own b h r 3 (ints ys) → ys.length = xs.length → (∀ i, i < j → ys[i]? = xs[i]?) →
    ∃ h', s146_0 hk0 (call Try.prog Ms d) N m v (slc r 0 xs.length) (j : Int) h = some (slc r 0 xs.length, h') ∧ Ext b h h' ∧ Own b h' r 3 (ints xs) := by
  intro k
  induction k with
  | zero =>
    intro j m ys h hk hj hm x o hy hsame
    obtain ⟨m, rfl⟩ : ∃ q, m = q + 1 := ⟨m - 1, by omega⟩
    have : ¬ ((j : Int) < (xs.length : Int)) := by omega
    have e : ys = xs := List.ext_getElem? fun i => by
      by_cases hi : i < j
      · exact hsame i hi
      · rw [List.getElem?_eq_none (by omega), List.getElem?_eq_none (by omega)]
    subst e
    refine ⟨h, ?_, Ext.refl _ _, o⟩
    rw [s146_0_eq, x.len, Option.bind_some]
    simp only [asI, if_true, Option.bind_some, decide_eq_false this, cond_false]
  | succ k ih =>
    intro j m ys h hk hj hm x o hy hsame
    obtain ⟨m, rfl⟩ : ∃ q, m = q + 1 := ⟨m - 1, by omega⟩
    have hlt : j < xs.length := by omega
    have hI : ((j : Int) < (xs.length : Int)) := by omega
    obtain ⟨p, e1, e2⟩ := x.at hlt
    have hix : aIdx (slc r 0 xs.length) (.int .i64 (j : Int)) 1 = some (ptr r j) := by simp [aIdx, slc, hlt]
    obtain ⟨h2, s2, x2, o2, _⟩ := Own.st1' o (n := j) (v := .int .i64 xs[j]) (by simp [ints]; omega) rfl
    rw [ints_set] at o2
    have wj : IntKind.i64.wrap ((j : Int) + 1) = ((j + 1 : Nat) : Int) := by rw [wr (by omega) (by omega)]; omega
    obtain ⟨h3, c3, x3, o3⟩ := ih (j + 1) m (ys.set j xs[j]) h2 (by omega) (by omega) (by omega) (x.ext (x2.mono hcb)) o2 (by simp [hy]) (fun i hi => by
      by_cases he : i = j
      · subst he; rw [List.getElem?_set_self (by omega)]; simp [hlt]
      · rw [List.getElem?_set_ne (by omega)]; exact hsame i (by omega))
    refine ⟨h3, ?_, x2.trans x3, o3⟩
    rw [s146_0_eq, x.len, Option.bind_some]
    simp only [asI, if_true, Option.bind_some, decide_eq_true hI, cond_true, e1, e2, hix, s2, wj, c3]
theorem l146 {d c : Nat} (hd : 1048577 < d) {v : Value} {xs : List Int} {h : AHeap} (x : ISl c h v xs) (hc : c ≤ h.size) (hl : xs.length ≤ 1048576) :
    ∃ v' h', call Try.prog Ms (d + 1) 146 [v] h = some (v', h') ∧ Ext h.size h h' ∧ IK h.size h' v' xs := by
  have e1 := Ext.new (Nat.le_refl h.size) 3 (ints (List.replicate xs.length 0))
  have o1 := Own.new (Nat.le_refl h.size) 3 (ints (List.replicate xs.length 0))
  obtain ⟨h2, c2, x2, o2⟩ := cpI_loop (d := d) (N := d) hl hc xs.length 0 d (List.replicate xs.length 0) _ (by omega) (by omega) (by omega) (x.ext (e1.mono hc)) o1 (by simp) (fun i hi => by omega)
  refine ⟨_, h2, ?_, e1.trans x2, _, rfl, o2, Nat.le_refl _⟩
  rw [c146, e146, x.len, Option.bind_some]
  simp only [asI, if_true, Option.bind_some]
  rw [mk_some _ _ _ _ _ (by omega) (by omega), Option.bind_some, rep_ints]
  exact c2
theorem l102 {d c : Nat} (hd : 1048577 < d) {kv : Value} {n : Kn} {h : AHeap} (x : ISl c h kv n.ks) (hc : c ≤ h.size) (hl : n.ks.length ≤ 1048576) :
    ∃ kv' h', call Try.prog Ms (d + 2) 102 [knVal n kv] h = some (knVal n kv', h') ∧ Ext h.size h h' ∧ IK h.size h' kv' n.ks := by
  have e1 := Ext.new (Nat.le_refl h.size) 133 (knCells n kv)
  have r1 : Row (h.new 133 (knCells n kv)) h.size [.int .i64 n.k, .string n.t, .int .i64 n.i, kv] := (Own.new (b := h.size) (Nat.le_refl _) 133 (knCells n kv)).row
  have s1 : (h.new 133 (knCells n kv)).size = h.size + 1 := rfl
  rw [c102, e102, kn_aCells x, Option.bind_some]
  simp only [aNew]
  generalize h.new 133 (knCells n kv) = h1 at e1 r1 s1 ⊢
  have e2 := Ext.new (Nat.le_refl h1.size) 73 [.int .i64 0, .string ⟨#[]⟩, .int .i64 0, .slice none 0 0]
  have o2 := Own.new (Nat.le_refl h1.size) 73 [.int .i64 0, .string ⟨#[]⟩, .int .i64 0, .slice none 0 0]
  have s2 : (h1.new 73 [.int .i64 0, .string ⟨#[]⟩, .int .i64 0, .slice none 0 0]).size = h1.size + 1 := rfl
  generalize h1.new 73 [.int .i64 0, .string ⟨#[]⟩, .int .i64 0, .slice none 0 0] = h2 at e2 o2 s2 ⊢
  have e3 := Ext.new (Nat.le_refl h2.size) 73 [.int .i64 0, .string ⟨#[]⟩, .int .i64 0, .slice none 0 0]
  have o3 := Own.new (Nat.le_refl h2.size) 73 [.int .i64 0, .string ⟨#[]⟩, .int .i64 0, .slice none 0 0]
  have s3 : (h2.new 73 [.int .i64 0, .string ⟨#[]⟩, .int .i64 0, .slice none 0 0]).size = h2.size + 1 := rfl
  generalize h2.new 73 [.int .i64 0, .string ⟨#[]⟩, .int .i64 0, .slice none 0 0] = h3 at e3 o3 s3 ⊢
  have r3 := (r1.ext e2 (by omega)).ext e3 (by omega)
  obtain ⟨h4, t4, e4, o4, s4⟩ := Own.st1' o3 (n := 0) (v := .int .i64 n.k) (by show 0 < 4; omega) rfl
  have r4 := r3.ext e4 (by omega)
  obtain ⟨h5, t5, e5, o5, s5⟩ := Own.st1' o4 (n := 1) (v := .string n.t) (by show 1 < 4; omega) rfl
  have r5 := r4.ext e5 (by omega)
  obtain ⟨h6, t6, e6, o6, s6⟩ := Own.st1' o5 (n := 2) (v := .int .i64 n.i) (by show 2 < 4; omega) rfl
  have r6 := r5.ext e6 (by omega)
  have E6 : Ext c h h6 := ((((((e1.mono hc).trans (e2.mono (by omega))).trans (e3.mono (by omega))).trans (e4.mono (by omega))).trans (e5.mono (by omega))).trans (e6.mono (by omega)))
  obtain ⟨kv', h7, c7, e7, i7⟩ := l146 (d := d) hd (x.ext E6) (by omega) hl
  have hk := i7.isl.cell
  have s7 := e7.size
  obtain ⟨h8, t8, e8, o8, s8, k8⟩ := Own.stX (o6.ext e7 (by omega)) (off := 3) (n := 1) (v := kv') (aCells_one hk.1) rfl (by show 3 + 1 ≤ 4; omega)
  have i8 := i7.keep (e := 73) (by decide) k8
  have r8 : Row h8 h2.size [.int .i64 n.k, .string n.t, .int .i64 n.i, kv'] := o8.row
  have w2 := (((((o2.ext e3 (by omega)).ext e4 (by omega)).ext e5 (by omega)).ext e6 (by omega)).ext e7 (by omega)).ext e8 (by omega)
  obtain ⟨h9, t9, e9, o9, s9, k9⟩ := Own.stX w2 (off := 0) (n := 4) (v := knVal n kv') (kn_aCells i8.isl) rfl (by show 0 + 4 ≤ 4; omega)
  have i9 := i8.keep (e := 73) (by decide) k9
  have r9 : Row h9 h1.size [.int .i64 n.k, .string n.t, .int .i64 n.i, kv'] := o9.row
  refine ⟨kv', h9, ?_, ?_, i9.mono (by omega)⟩
  · obtain ⟨a0, _, _, _, _⟩ := ld4 r3
    obtain ⟨_, a1, _, _, _⟩ := ld4 r4
    obtain ⟨_, _, a2, _, _⟩ := ld4 r5
    obtain ⟨_, _, _, a3, _⟩ := ld4 r6
    obtain ⟨_, _, _, _, a8⟩ := ld4 r8
    obtain ⟨_, _, _, _, a9⟩ := ld4 r9
    have a8' : aLdN h8 (ptr h2.size 0) 4 = some (knVal n kv') := a8
    have a9' : aLdN h9 (ptr h1.size 0) 4 = some (knVal n kv') := a9
    simp only [aOff_ptr, Nat.zero_add, Option.bind_some, asI, asS, if_true, a0, t4, a1, t5, a2, t6, a3]
    rw [c7, Option.bind_some]
    simp only [t8, Option.bind_some, a8', t9, a9']
  · exact e1.trans ((e2.mono (by omega)).trans ((e3.mono (by omega)).trans ((e4.mono (by omega)).trans ((e5.mono (by omega)).trans ((e6.mono (by omega)).trans ((e7.mono (by omega)).trans ((e8.mono (by omega)).trans (e9.mono (by omega)))))))))
/-- Nodes in memory of one's own: so many are done. -/
def KPart (b : Nat) (h : AHeap) (r : Nat) (ns : List Kn) (j : Nat) (cells : List Value) : Prop :=
  Own b h r 73 cells ∧ cells.length = ns.length * 4 ∧ ∀ (i : Nat) (n : Kn), i < j → ns[i]? = some n → ∃ kv, (cells.drop (i * 4)).take 4 = knCells n kv ∧ IK b h kv n.ks
def KOwn (b : Nat) (h : AHeap) (v : Value) (ns : List Kn) : Prop := ∃ r cells, v = slc r 0 ns.length ∧ KPart b h r ns ns.length cells
theorem KPart.ext {b : Nat} {h h' : AHeap} {r j : Nat} {ns : List Kn} {cells : List Value} (x : KPart b h r ns j cells) (e : Ext h.size h h') : KPart b h' r ns j cells :=
  ⟨x.1.ext e x.1.lt.2, x.2.1, fun i n hi hn => let ⟨kv, h1, h2⟩ := x.2.2 i n hi hn; ⟨kv, h1, h2.ext e⟩⟩
theorem KOwn.ext {b : Nat} {h h' : AHeap} {v : Value} {ns : List Kn} (x : KOwn b h v ns) (e : Ext h.size h h') : KOwn b h' v ns := let ⟨r, cs, h1, h2⟩ := x; ⟨r, cs, h1, h2.ext e⟩
theorem KOwn.ksl {b : Nat} {h : AHeap} {v : Value} {ns : List Kn} (x : KOwn b h v ns) : KSl h.size h v ns := by
  obtain ⟨r, cs, h1, h2, h3, h4⟩ := x
  have hl := h2.lt.2
  obtain ⟨rt, ep, h5, h6⟩ := h2
  exact .inr (.inr ⟨r, _, h1, h5, hl, h3, fun j n hn => let ⟨kv, a, b⟩ := h4 j n (List.getElem?_eq_some_iff.1 hn).1 hn; ⟨kv, a, b.isl⟩⟩)
theorem splice_len {cs vs : List Value} {off : Nat} (h : off + vs.length ≤ cs.length) : (splice cs off vs).length = cs.length := by unfold splice; simp; omega
theorem splice_before {cs vs : List Value} {off i : Nat} (h : i + 4 ≤ off) (h2 : off + vs.length ≤ cs.length) : ((splice cs off vs).drop i).take 4 = (cs.drop i).take 4 := by
  apply List.ext_getElem?
  intro k
  rw [List.getElem?_take, List.getElem?_take]
  by_cases hk : k < 4
  · rw [if_pos hk, if_pos hk, List.getElem?_drop, List.getElem?_drop]
    unfold splice
    rw [List.append_assoc, List.getElem?_append_left (by simp; omega), List.getElem?_take, if_pos (by omega)]
  · rw [if_neg hk, if_neg hk]
theorem splice_here {cs vs : List Value} {off : Nat} (h : off + vs.length ≤ cs.length) (h4 : vs.length = 4) : ((splice cs off vs).drop off).take 4 = vs := by
  unfold splice
  rw [List.append_assoc, List.drop_append_of_le_length (by simp; omega)]
  rw [List.drop_eq_nil_of_le (by simp; omega), List.nil_append, List.take_append_of_le_length (by omega), ← h4, List.take_length]
theorem cpK_loop {d N c b r : Nat} (hd : 1048577 < d) {v : Value} {ns : List Kn} (hl : ns.length ≤ 1048576) (hN : ∀ n ∈ ns, n.t.size ≤ 1048576 ∧ n.ks.length ≤ 1048576) (hcb : c ≤ b) : ∀ (k j m : Nat) (cells : List Value) (h : AHeap), ns.length - j = k → j ≤ ns.length → k < m → KSl c h v ns → b ≤ h.size → KPart b h r ns j cells →
    ∃ h' cells', s58_0 hk0 (call Try.prog Ms (d + 2)) N m v (slc r 0 ns.length) (j : Int) h = some (slc r 0 ns.length, h') ∧ Ext b h h' ∧ KPart b h' r ns ns.length cells' := by
  intro k
  induction k with
  | zero =>
    intro j m cells h hk hj hm x hb o
    obtain ⟨m, rfl⟩ : ∃ q, m = q + 1 := ⟨m - 1, by omega⟩
    have : ¬ ((j : Int) < (ns.length : Int)) := by omega
    have e : j = ns.length := by omega
    subst e
    refine ⟨h, cells, ?_, Ext.refl _ _, o⟩
    rw [s58_0_eq, x.len, Option.bind_some]
    simp only [asI, if_true, Option.bind_some, decide_eq_false this, cond_false]
  | succ k ih =>
    intro j m cells h hk hj hm x hb o
    obtain ⟨m, rfl⟩ : ∃ q, m = q + 1 := ⟨m - 1, by omega⟩
    have hlt : j < ns.length := by omega
    have hI : ((j : Int) < (ns.length : Int)) := by omega
    obtain ⟨i, kv, e1, e2, e3⟩ := x.at hlt
    obtain ⟨e4, _⟩ := e3 h (Ext.refl _ _)
    have hix : aIdx (slc r 0 ns.length) (.int .i64 (j : Int)) 4 = some (ptr r (j * 4)) := by simp [aIdx, slc, hlt]
    obtain ⟨kv', h2, c2, x2, i2⟩ := l102 hd e2 (Nat.le_trans hcb hb) (hN ns[j] (List.getElem_mem hlt)).2
    have o2 := o.ext x2
    have hfit : j * 4 + (knCells ns[j] kv').length ≤ cells.length := by rw [o.2.1]; show j * 4 + 4 ≤ _; omega
    obtain ⟨h3, t3, x3, o3, s3, k3⟩ := Own.stX o2.1 (off := j * 4) (n := 4) (v := knVal ns[j] kv') (kn_aCells i2.isl) rfl hfit
    have wj : IntKind.i64.wrap ((j : Int) + 1) = ((j + 1 : Nat) : Int) := by rw [wr (by omega) (by omega)]; omega
    have o3' : KPart b h3 r ns (j + 1) (splice cells (j * 4) (knCells ns[j] kv')) := by
      refine ⟨o3, by rw [splice_len hfit]; exact o.2.1, fun i n hi hn => ?_⟩
      by_cases he : i = j
      · subst he
        rw [List.getElem?_eq_getElem hlt] at hn; cases hn
        exact ⟨kv', splice_here hfit rfl, (i2.mono hb).keep (e := 73) (by decide) k3⟩
      · obtain ⟨kv2, a, b'⟩ := o2.2.2 i n (by omega) hn
        exact ⟨kv2, by rw [splice_before (by omega) hfit]; exact a, b'.keep (e := 73) (by decide) k3⟩
    obtain ⟨h4, cells', c4, x4, o4⟩ := ih (j + 1) m _ h3 (by omega) (by omega) (by omega) ((x.ext (x2.mono (Nat.le_trans hcb hb))).ext (x3.mono hcb)) (by have := x2.size; omega) o3'
    refine ⟨h4, cells', ?_, (x2.mono hb).trans (x3.trans x4), o4⟩
    rw [s58_0_eq, x.len, Option.bind_some]
    simp only [asI, if_true, Option.bind_some, decide_eq_true hI, cond_true, e1, e4]
    rw [c2, Option.bind_some]
    simp only [hix, Option.bind_some, t3, wj, c4]
theorem rep_len (n : Nat) (z : List Value) (hz : z.length = 4) : (List.replicate n z).flatten.length = n * 4 := by
  induction n with
  | zero => rfl
  | succ n ih => rw [List.replicate_succ, List.flatten_cons, List.length_append, ih, hz]; omega
theorem l58 {d c : Nat} (hd : 1048577 < d) {v : Value} {ns : List Kn} {h : AHeap} (x : KSl c h v ns) (hc : c ≤ h.size) (hl : ns.length ≤ 1048576) (hN : ∀ n ∈ ns, n.t.size ≤ 1048576 ∧ n.ks.length ≤ 1048576) :
    ∃ v' h', call Try.prog Ms (d + 3) 58 [v] h = some (v', h') ∧ Ext h.size h h' ∧ KOwn h.size h' v' ns := by
  have hz : ([.int .i64 0, .string ⟨#[]⟩, .int .i64 0, .slice none 0 0] : List Value).length = 4 := rfl
  generalize hZ : ([.int .i64 0, .string ⟨#[]⟩, .int .i64 0, .slice none 0 0] : List Value) = z at hz
  have e1 := Ext.new (Nat.le_refl h.size) 73 (List.replicate ns.length z).flatten
  have o1 := Own.new (Nat.le_refl h.size) 73 (List.replicate ns.length z).flatten
  obtain ⟨h2, cells, c2, x2, o2⟩ := cpK_loop (d := d) (N := d + 2) hd hl hN hc ns.length 0 (d + 2) (List.replicate ns.length z).flatten _ (by omega) (by omega) (by omega) (x.ext (e1.mono hc)) e1.size ⟨o1, rep_len _ _ hz, fun i n hi => by omega⟩
  refine ⟨_, h2, ?_, e1.trans x2, _, cells, rfl, o2⟩
  rw [c58, e58, x.len, Option.bind_some, hZ]
  simp only [asI, if_true, Option.bind_some]
  rw [mk_some _ _ _ _ _ (by omega) (by omega), Option.bind_some]
  exact c2
theorem KOwn.keep {b : Nat} {h h' : AHeap} {v : Value} {ns : List Kn} {e : TypeId} (x : KOwn b h v ns) (he : (3 : TypeId) ≠ e) (he2 : (73 : TypeId) ≠ e) (k : ∀ j o, h.at? j = some o → o.elem ≠ e → h'.at? j = some o) : KOwn b h' v ns := by
  obtain ⟨r, cs, h1, ⟨rt, ep, h2, h2'⟩, h3, h4⟩ := x
  exact ⟨r, cs, h1, ⟨rt, ep, k r _ h2 he2, h2'⟩, h3, fun i n hi hn => let ⟨kv, a, b⟩ := h4 i n hi hn; ⟨kv, a, b.keep he k⟩⟩
theorem KOwn.mono {b c : Nat} {h : AHeap} {v : Value} {ns : List Kn} (x : KOwn b h v ns) (hc : c ≤ b) : KOwn c h v ns := by
  obtain ⟨r, cs, h1, h2, h3, h4⟩ := x
  exact ⟨r, cs, h1, h2.mono hc, h3, fun i n hi hn => let ⟨kv, a, b⟩ := h4 i n hi hn; ⟨kv, a, b.mono hc⟩⟩
theorem l21 {d c : Nat} (hd : 1048577 < d) {nv : Value} {ns : List Kn} {top : Int} {h : AHeap} (x : KSl c h nv ns) (hc : c ≤ h.size) (hl : ns.length ≤ 1048576) (hN : ∀ n ∈ ns, n.t.size ≤ 1048576 ∧ n.ks.length ≤ 1048576) :
    ∃ nv' h', call Try.prog Ms (d + 4) 21 [trVal nv top] h = some (trVal nv' top, h') ∧ Ext h.size h h' ∧ KOwn h.size h' nv' ns := by
  have e1 := Ext.new (Nat.le_refl h.size) 30 [nv, .int .i64 top]
  have r1 := (Own.new (b := h.size) (Nat.le_refl _) 30 [nv, .int .i64 top]).row
  have s1 : (h.new 30 [nv, .int .i64 top]).size = h.size + 1 := rfl
  rw [c21, e21, tr_aCells x, Option.bind_some]
  simp only [aNew]
  generalize h.new 30 [nv, .int .i64 top] = h1 at e1 r1 s1 ⊢
  have e2 := Ext.new (Nat.le_refl h1.size) 35 [.slice none 0 0, .int .i64 0]
  have o2 := Own.new (Nat.le_refl h1.size) 35 [.slice none 0 0, .int .i64 0]
  have s2 : (h1.new 35 [.slice none 0 0, .int .i64 0]).size = h1.size + 1 := rfl
  generalize h1.new 35 [.slice none 0 0, .int .i64 0] = h2 at e2 o2 s2 ⊢
  have e3 := Ext.new (Nat.le_refl h2.size) 35 [.slice none 0 0, .int .i64 0]
  have o3 := Own.new (Nat.le_refl h2.size) 35 [.slice none 0 0, .int .i64 0]
  have s3 : (h2.new 35 [.slice none 0 0, .int .i64 0]).size = h2.size + 1 := rfl
  generalize h2.new 35 [.slice none 0 0, .int .i64 0] = h3 at e3 o3 s3 ⊢
  have r3 := (r1.ext e2 (by omega)).ext e3 (by omega)
  have E3 : Ext c h h3 := ((e1.mono hc).trans (e2.mono (by omega))).trans (e3.mono (by omega))
  obtain ⟨nv', h4, c4, e4, k4⟩ := l58 hd (x.ext E3) (by omega) hl hN
  have s4 := e4.size
  have r4 := r3.ext e4 (by omega)
  obtain ⟨h5, t5, e5, o5, s5, q5⟩ := Own.stX (o3.ext e4 (by omega)) (off := 0) (n := 1) (v := nv') (aCells_one k4.ksl.cell.1) rfl (by show 0 + 1 ≤ 2; omega)
  have k5 := k4.keep (e := 35) (by decide) (by decide) q5
  have r5 := r4.ext e5 (by omega)
  obtain ⟨h6, t6, e6, o6, s6, q6⟩ := Own.stX o5 (off := 1) (n := 1) (v := .int .i64 top) rfl rfl (by show 1 + 1 ≤ 2; omega)
  have k6 := k5.keep (e := 35) (by decide) (by decide) q6
  have r6 : Row h6 h2.size [nv', .int .i64 top] := o6.row
  have w2 := (((o2.ext e3 (by omega)).ext e4 (by omega)).ext e5 (by omega)).ext e6 (by omega)
  obtain ⟨h7, t7, e7, o7, s7, q7⟩ := Own.stX w2 (off := 0) (n := 2) (v := trVal nv' top) (tr_aCells k6.ksl top) rfl (by show 0 + 2 ≤ 2; omega)
  have k7 := k6.keep (e := 35) (by decide) (by decide) q7
  have r7 : Row h7 h1.size [nv', .int .i64 top] := o7.row
  refine ⟨nv', h7, ?_, ?_, k7.mono (by omega)⟩
  · obtain ⟨a0, _, _⟩ := ld2 r3
    obtain ⟨_, a1, _⟩ := ld2 r5
    obtain ⟨_, _, a6⟩ := ld2 r6
    obtain ⟨_, _, a7⟩ := ld2 r7
    have a6' : aLdN h6 (ptr h2.size 0) 2 = some (trVal nv' top) := a6
    have a7' : aLdN h7 (ptr h1.size 0) 2 = some (trVal nv' top) := a7
    simp only [aOff_ptr, Nat.zero_add, Option.bind_some, a0]
    rw [c4, Option.bind_some]
    simp only [t5, Option.bind_some, a1, asI, if_true, t6, a6', t7, a7']
  · exact e1.trans ((e2.mono (by omega)).trans ((e3.mono (by omega)).trans ((e4.mono (by omega)).trans ((e5.mono (by omega)).trans ((e6.mono (by omega)).trans (e7.mono (by omega)))))))
end Go.Proofs.Ytadmoackacickaa
/- Trees: what is alike. -/
set_option linter.unusedSimpArgs false
namespace Go.Proofs.Ytadmoackacickaa
open Go Go.AH

theorem eqI_loop {d N c c' : Nat} {v v' : Value} {xs : List Int} {h : AHeap} (hl : xs.length ≤ 1048576) (x : ISl c h v xs) (x' : ISl c' h v' xs) : ∀ (k j m : Nat), xs.length - j = k → j ≤ xs.length → k < m →
    s32_0 hk0 (call Try.prog Ms d) N m v v' (j : Int) h = some (.bool true, h) := by
  intro k
  induction k with
  | zero =>
    intro j m hk hj hm
    obtain ⟨m, rfl⟩ : ∃ q, m = q + 1 := ⟨m - 1, by omega⟩
    have : ¬ ((j : Int) < (xs.length : Int)) := by omega
    rw [s32_0_eq, x.len, Option.bind_some]
    simp only [asI, if_true, Option.bind_some, decide_eq_false this, cond_false]
  | succ k ih =>
    intro j m hk hj hm
    obtain ⟨m, rfl⟩ : ∃ q, m = q + 1 := ⟨m - 1, by omega⟩
    have hlt : j < xs.length := by omega
    have hI : ((j : Int) < (xs.length : Int)) := by omega
    obtain ⟨p, e1, e2⟩ := x.at hlt
    obtain ⟨p', e1', e2'⟩ := x'.at hlt
    have wj : IntKind.i64.wrap ((j : Int) + 1) = ((j + 1 : Nat) : Int) := by rw [wr (by omega) (by omega)]; omega
    rw [s32_0_eq, x.len, Option.bind_some]
    simp only [asI, if_true, Option.bind_some, decide_eq_true hI, cond_true, e1, e2, e1', e2', wj]
    rw [bne_self_eq_false, cond_false]
    exact ih (j + 1) m (by omega) (by omega) (by omega)
theorem l32 {d c c' : Nat} (hd : 1048577 < d) {v v' : Value} {xs : List Int} {h : AHeap} (hl : xs.length ≤ 1048576) (x : ISl c h v xs) (x' : ISl c' h v' xs) : call Try.prog Ms (d + 1) 32 [v, v'] h = some (.bool true, h) := by
  rw [c32, e32, x.len, Option.bind_some]
  simp only [asI, if_true, Option.bind_some, x'.len]
  rw [bne_self_eq_false, cond_false]
  exact eqI_loop hl x x' xs.length 0 d (by omega) (by omega) (by omega)
theorem l106 {d c : Nat} (hd : 1048577 < d) {kv kv' : Value} {n : Kn} {h : AHeap} (x : ISl c h kv n.ks) (x' : ISl c h kv' n.ks) (hc : c ≤ h.size) (hl : n.ks.length ≤ 1048576) :
    ∃ h', call Try.prog Ms (d + 2) 106 [knVal n kv, knVal n kv'] h = some (.bool true, h') ∧ Ext h.size h h' := by
  have e1 := Ext.new (Nat.le_refl h.size) 73 (knCells n kv)
  have r1 : Row (h.new 73 (knCells n kv)) h.size [.int .i64 n.k, .string n.t, .int .i64 n.i, kv] := (Own.new (b := h.size) (Nat.le_refl _) 73 (knCells n kv)).row
  have s1 : (h.new 73 (knCells n kv)).size = h.size + 1 := rfl
  rw [c106, e106, kn_aCells x, Option.bind_some]
  simp only [aNew]
  generalize h.new 73 (knCells n kv) = h1 at e1 r1 s1 ⊢
  have e2 := Ext.new (Nat.le_refl h1.size) 73 (knCells n kv')
  have r2 : Row (h1.new 73 (knCells n kv')) h1.size [.int .i64 n.k, .string n.t, .int .i64 n.i, kv'] := (Own.new (b := h1.size) (Nat.le_refl _) 73 (knCells n kv')).row
  have s2 : (h1.new 73 (knCells n kv')).size = h1.size + 1 := rfl
  rw [kn_aCells x', Option.bind_some]
  generalize h1.new 73 (knCells n kv') = h2 at e2 r2 s2 ⊢
  obtain ⟨a0, a1, a2, a3, _⟩ := ld4 (r1.ext e2 (by omega))
  obtain ⟨b0, b1, b2, b3, _⟩ := ld4 r2
  have E : Ext h.size h h2 := e1.trans (e2.mono (by omega))
  have c3 := l32 hd hl (x.ext (E.mono hc)) (x'.ext (E.mono hc))
  refine ⟨h2, ?_, E⟩
  simp only [aOff_ptr, Nat.zero_add, Option.bind_some, asI, asS, if_true, a0, a1, a2, a3, b0, b1, b2, b3]
  rw [bne_self_eq_false, cond_false, beq_self_eq_true, Bool.not_true, cond_false, bne_self_eq_false, cond_false, c3, Option.bind_some]
  rfl
theorem eqK_loop {d N c : Nat} (hd : 1048577 < d) {v v' : Value} {ns : List Kn} (hl : ns.length ≤ 1048576) (hN : ∀ n ∈ ns, n.t.size ≤ 1048576 ∧ n.ks.length ≤ 1048576) : ∀ (k j m : Nat) (h : AHeap), ns.length - j = k → j ≤ ns.length → k < m → KSl c h v ns → KSl c h v' ns → c ≤ h.size →
    ∃ h', s61_0 hk0 (call Try.prog Ms (d + 2)) N m v v' (j : Int) h = some (.bool true, h') ∧ Ext h.size h h' := by
  intro k
  induction k with
  | zero =>
    intro j m h hk hj hm x x' hc
    obtain ⟨m, rfl⟩ : ∃ q, m = q + 1 := ⟨m - 1, by omega⟩
    have : ¬ ((j : Int) < (ns.length : Int)) := by omega
    refine ⟨h, ?_, Ext.refl _ _⟩
    rw [s61_0_eq, x.len, Option.bind_some]
    simp only [asI, if_true, Option.bind_some, decide_eq_false this, cond_false]
  | succ k ih =>
    intro j m h hk hj hm x x' hc
    obtain ⟨m, rfl⟩ : ∃ q, m = q + 1 := ⟨m - 1, by omega⟩
    have hlt : j < ns.length := by omega
    have hI : ((j : Int) < (ns.length : Int)) := by omega
    obtain ⟨i, kv, e1, e2, e3⟩ := x.at hlt
    obtain ⟨e4, _⟩ := e3 h (Ext.refl _ _)
    obtain ⟨i', kv', e1', e2', e3'⟩ := x'.at hlt
    obtain ⟨e4', _⟩ := e3' h (Ext.refl _ _)
    obtain ⟨h2, c2, x2⟩ := l106 hd e2 e2' hc (hN ns[j] (List.getElem_mem hlt)).2
    have wj : IntKind.i64.wrap ((j : Int) + 1) = ((j + 1 : Nat) : Int) := by rw [wr (by omega) (by omega)]; omega
    obtain ⟨h3, c3, x3⟩ := ih (j + 1) m h2 (by omega) (by omega) (by omega) (x.ext (x2.mono hc)) (x'.ext (x2.mono hc)) (Nat.le_trans hc x2.size)
    refine ⟨h3, ?_, x2.trans (x3.mono x2.size)⟩
    rw [s61_0_eq, x.len, Option.bind_some]
    simp only [asI, if_true, Option.bind_some, decide_eq_true hI, cond_true, e1, e4, e1', e4', wj]
    rw [c2, Option.bind_some]
    simp only [asB, Option.bind_some, Bool.not_true, cond_false]
    exact c3
theorem l23 {d c : Nat} (hd : 1048577 < d) {nv nv' : Value} {ns : List Kn} {top : Int} {h : AHeap} (x : KSl c h nv ns) (x' : KSl c h nv' ns) (hc : c ≤ h.size) (hl : ns.length ≤ 1048576) (hN : ∀ n ∈ ns, n.t.size ≤ 1048576 ∧ n.ks.length ≤ 1048576) :
    ∃ h', call Try.prog Ms (d + 4) 23 [trVal nv top, trVal nv' top] h = some (.bool true, h') ∧ Ext h.size h h' := by
  have e1 := Ext.new (Nat.le_refl h.size) 35 [nv, .int .i64 top]
  have r1 := (Own.new (b := h.size) (Nat.le_refl _) 35 [nv, .int .i64 top]).row
  have s1 : (h.new 35 [nv, .int .i64 top]).size = h.size + 1 := rfl
  rw [c23, e23, tr_aCells x, Option.bind_some]
  simp only [aNew]
  generalize h.new 35 [nv, .int .i64 top] = h1 at e1 r1 s1 ⊢
  have e2 := Ext.new (Nat.le_refl h1.size) 35 [nv', .int .i64 top]
  have r2 := (Own.new (b := h1.size) (Nat.le_refl _) 35 [nv', .int .i64 top]).row
  have s2 : (h1.new 35 [nv', .int .i64 top]).size = h1.size + 1 := rfl
  rw [tr_aCells x', Option.bind_some]
  generalize h1.new 35 [nv', .int .i64 top] = h2 at e2 r2 s2 ⊢
  have r1' := r1.ext e2 (by omega)
  obtain ⟨a0, _, _⟩ := ld2 r1'
  obtain ⟨b0, _, _⟩ := ld2 r2
  have E : Ext h.size h h2 := e1.trans (e2.mono (by omega))
  obtain ⟨h3, c3, x3⟩ := eqK_loop (d := d) (N := d + 2) hd hl hN ns.length 0 (d + 2) h2 (by omega) (by omega) (by omega) (x.ext (E.mono hc)) (x'.ext (E.mono hc)) (Nat.le_trans hc E.size)
  obtain ⟨_, a1, _⟩ := ld2 (r1'.ext x3 (by omega))
  obtain ⟨_, b1, _⟩ := ld2 (r2.ext x3 (by omega))
  have c61' : call Try.prog Ms (d + 3) 61 [nv, nv'] h2 = some (.bool true, h3) := by
    rw [c61, e61, x.len, Option.bind_some]
    simp only [asI, if_true, Option.bind_some, x'.len]
    rw [bne_self_eq_false, cond_false]
    exact c3
  refine ⟨h3, ?_, E.trans (x3.mono E.size)⟩
  simp only [aOff_ptr, Nat.zero_add, Option.bind_some, a0, b0]
  rw [c61', Option.bind_some]
  simp only [asB, Option.bind_some, Bool.not_true, cond_false, a1, b1, asI, if_true]
  rw [bne_self_eq_false, cond_false]
end Go.Proofs.Ytadmoackacickaa
