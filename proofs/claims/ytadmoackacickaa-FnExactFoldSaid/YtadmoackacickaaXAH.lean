import Derived.Test.YtadmoackacickaaXAF
import Derived.Test.YtadmoackacickaaXAG
import Derived.Test.YtadmoackacickaaXAD
import Derived.Test.YtadmoackacickaaRows
import Derived.Test.YtadmoackacickaaChecked
import Derived.Carry
/- Trees in the small evaluator's heap. -/
set_option linter.unusedSimpArgs false
namespace Go.Proofs.Ytadmoackacickaa
open Go Go.AH

theorem vbeq1_self : ∀ v : Value, isCell v = true → (∀ f a c, v ≠ .func f a c) → vbeq1 v v = true := by
  intro v h hf
  cases v <;> simp [isCell] at h <;> simp [vbeq1]
  · rename_i s
    have := vbeq_str s
    simpa [vbeq, vbeq1] using this
  · rename_i f a c; exact absurd rfl (hf f a c)
structure Kn where
  k : Int
  t : ByteArray
  i : Int
  ks : List Int
def ints (xs : List Int) : List Value := xs.map (Value.int .i64)
/-- A slice of ints that can be read; its row lies below c. -/
def ISl (c : Nat) (h : AHeap) (v : Value) (xs : List Int) : Prop :=
  (v = .slice none 0 0 ∧ xs = []) ∨ (∃ a n, v = .slice (some a) 0 n ∧ xs = []) ∨ ∃ i o, v = slc i 0 xs.length ∧ h.at? i = some o ∧ o.elem = 3 ∧ o.cells = ints xs ∧ i < c
theorem ISl.ext {c : Nat} {h h' : AHeap} {v : Value} {xs : List Int} (x : ISl c h v xs) (e : Ext c h h') : ISl c h' v xs := by
  rcases x with x | x | ⟨i, o, h1, h2, h3, h4, h5⟩
  · exact .inl x
  · exact .inr (.inl x)
  · exact .inr (.inr ⟨i, o, h1, e.at? h5 h2, h3, h4, h5⟩)
theorem ISl.mono {c d : Nat} {h : AHeap} {v : Value} {xs : List Int} (x : ISl c h v xs) (hd : c ≤ d) : ISl d h v xs := by
  rcases x with x | x | ⟨i, o, h1, h2, h3, h4, h5⟩
  · exact .inl x
  · exact .inr (.inl x)
  · exact .inr (.inr ⟨i, o, h1, h2, h3, h4, Nat.lt_of_lt_of_le h5 hd⟩)
theorem ISl.len {c : Nat} {h : AHeap} {v : Value} {xs : List Int} (x : ISl c h v xs) : aLen v = some (.int .i64 xs.length) := by
  rcases x with ⟨rfl, rfl⟩ | ⟨a, n, rfl, rfl⟩ | ⟨i, o, rfl, _⟩ <;> rfl
theorem ISl.at {c : Nat} {h : AHeap} {v : Value} {xs : List Int} (x : ISl c h v xs) {j : Nat} (hj : j < xs.length) : ∃ p, aIdx v (.int .i64 (j : Int)) 1 = some p ∧ aLd1 h p = some (.int .i64 xs[j]) := by
  rcases x with ⟨rfl, rfl⟩ | ⟨a, n, rfl, rfl⟩ | ⟨i, o, rfl, h2, h3, h4, h5⟩
  · simp at hj
  · simp at hj
  · refine ⟨ptr i j, by simp [aIdx, slc, hj], ?_⟩
    have r : Row h i (ints xs) := ⟨o, h2, h4⟩
    exact r.ld1 (by simp [ints, hj])
theorem ISl.cell {c : Nat} {h : AHeap} {v : Value} {xs : List Int} (x : ISl c h v xs) : isCell v = true ∧ ∀ f a b, v ≠ .func f a b := by
  rcases x with ⟨rfl, rfl⟩ | ⟨a, n, rfl, rfl⟩ | ⟨i, o, rfl, _⟩ <;> exact ⟨rfl, fun _ _ _ h => by cases h⟩
theorem ISl.vbeq {c : Nat} {h : AHeap} {v : Value} {xs : List Int} (x : ISl c h v xs) : vbeq v v = true := by
  have := vbeq1_self v x.cell.1 x.cell.2
  rcases x with ⟨rfl, rfl⟩ | ⟨a, n, rfl, rfl⟩ | ⟨i, o, rfl, _⟩ <;> exact this
def knCells (n : Kn) (kv : Value) : List Value := [.int .i64 n.k, .string n.t, .int .i64 n.i, kv]
def knVal (n : Kn) (kv : Value) : Value := .agg (List.toArray (knCells n kv))
theorem kn_aCells {c : Nat} {h : AHeap} {n : Kn} {kv : Value} (x : ISl c h kv n.ks) : aCells (knVal n kv) = some (knCells n kv) := by
  have e : (List.all (List.toArray (knCells n kv)).toList isCell) = true := by
    show (true && (true && (true && (isCell kv && true)))) = true
    rw [x.cell.1]; rfl
  show (if (List.all (List.toArray (knCells n kv)).toList isCell) = true then some (List.toArray (knCells n kv)).toList else none) = _
  rw [if_pos e]
/-- A slice of nodes that can be read. -/
def KSl (c : Nat) (h : AHeap) (v : Value) (ns : List Kn) : Prop :=
  (v = .slice none 0 0 ∧ ns = []) ∨ (∃ a n, v = .slice (some a) 0 n ∧ ns = []) ∨
  ∃ i o, v = slc i 0 ns.length ∧ h.at? i = some o ∧ i < c ∧ o.cells.length = ns.length * 4 ∧ ∀ (j : Nat) (n : Kn), ns[j]? = some n → ∃ kv, (o.cells.drop (j * 4)).take 4 = knCells n kv ∧ ISl c h kv n.ks
/-- The same, with the kind of its row. -/
def KSg (e : TypeId) (c : Nat) (h : AHeap) (v : Value) (ns : List Kn) : Prop :=
  (v = .slice none 0 0 ∧ ns = []) ∨ (∃ a n, v = .slice (some a) 0 n ∧ ns = []) ∨
  ∃ i o, v = slc i 0 ns.length ∧ h.at? i = some o ∧ o.elem = e ∧ i < c ∧ o.cells.length = ns.length * 4 ∧ ∀ (j : Nat) (n : Kn), ns[j]? = some n → ∃ kv, (o.cells.drop (j * 4)).take 4 = knCells n kv ∧ ISl c h kv n.ks
theorem KSg.ksl {e : TypeId} {c : Nat} {h : AHeap} {v : Value} {ns : List Kn} (x : KSg e c h v ns) : KSl c h v ns := by
  rcases x with x | x | ⟨i, o, h1, h2, _, h3, h4, h5⟩
  · exact .inl x
  · exact .inr (.inl x)
  · exact .inr (.inr ⟨i, o, h1, h2, h3, h4, h5⟩)
theorem KSl.ext {c : Nat} {h h' : AHeap} {v : Value} {ns : List Kn} (x : KSl c h v ns) (e : Ext c h h') : KSl c h' v ns := by
  rcases x with x | x | ⟨i, o, h1, h2, h3, h4, h5⟩
  · exact .inl x
  · exact .inr (.inl x)
  · exact .inr (.inr ⟨i, o, h1, e.at? h3 h2, h3, h4, fun j n hn => let ⟨kv, a, b⟩ := h5 j n hn; ⟨kv, a, b.ext e⟩⟩)
theorem KSl.mono {c d : Nat} {h : AHeap} {v : Value} {ns : List Kn} (x : KSl c h v ns) (hd : c ≤ d) : KSl d h v ns := by
  rcases x with x | x | ⟨i, o, h1, h2, h3, h4, h5⟩
  · exact .inl x
  · exact .inr (.inl x)
  · exact .inr (.inr ⟨i, o, h1, h2, Nat.lt_of_lt_of_le h3 hd, h4, fun j n hn => let ⟨kv, a, b⟩ := h5 j n hn; ⟨kv, a, b.mono hd⟩⟩)
theorem KSl.len {c : Nat} {h : AHeap} {v : Value} {ns : List Kn} (x : KSl c h v ns) : aLen v = some (.int .i64 ns.length) := by
  rcases x with ⟨rfl, rfl⟩ | ⟨a, n, rfl, rfl⟩ | ⟨i, o, rfl, _⟩ <;> rfl
theorem KSl.cell {c : Nat} {h : AHeap} {v : Value} {ns : List Kn} (x : KSl c h v ns) : isCell v = true ∧ ∀ f a b, v ≠ .func f a b := by
  rcases x with ⟨rfl, rfl⟩ | ⟨a, n, rfl, rfl⟩ | ⟨i, o, rfl, _⟩ <;> exact ⟨rfl, fun _ _ _ h => by cases h⟩
theorem KSl.vbeq1 {c : Nat} {h : AHeap} {v : Value} {ns : List Kn} (x : KSl c h v ns) : vbeq1 v v = true := vbeq1_self v x.cell.1 x.cell.2
theorem KSl.vbeq {c : Nat} {h : AHeap} {v : Value} {ns : List Kn} (x : KSl c h v ns) : vbeq v v = true := by
  have := x.vbeq1
  rcases x with ⟨rfl, rfl⟩ | ⟨a, n, rfl, rfl⟩ | ⟨i, o, rfl, _⟩ <;> exact this
theorem drop_take_get {cs : List Value} {a : Nat} {l : List Value} (h : (cs.drop a).take 4 = l) {c : Nat} (hc : c < 4) : cs[a + c]? = l[c]? := by
  rw [← h, List.getElem?_take, if_pos hc, List.getElem?_drop]
theorem KSl.at {c : Nat} {h : AHeap} {v : Value} {ns : List Kn} (x : KSl c h v ns) {j : Nat} (hj : j < ns.length) : ∃ i kv, aIdx v (.int .i64 (j : Int)) 4 = some (ptr i (j * 4)) ∧ ISl c h kv ns[j].ks ∧
    ∀ h', Ext c h h' → aLdN h' (ptr i (j * 4)) 4 = some (knVal ns[j] kv) ∧ aLd1 h' (ptr i (j * 4)) = some (.int .i64 ns[j].k) ∧ aLd1 h' (ptr i (j * 4 + 1)) = some (.string ns[j].t) ∧ aLd1 h' (ptr i (j * 4 + 2)) = some (.int .i64 ns[j].i) ∧ aLd1 h' (ptr i (j * 4 + 3)) = some kv := by
  rcases x with ⟨rfl, rfl⟩ | ⟨a, n, rfl, rfl⟩ | ⟨i, o, rfl, h2, h3, h4, h5⟩
  · simp at hj
  · simp at hj
  · obtain ⟨kv, e1, e2⟩ := h5 j ns[j] (List.getElem?_eq_getElem hj)
    refine ⟨i, kv, by simp [aIdx, slc, hj], e2, fun h' e => ?_⟩
    have r : Row h' i o.cells := ⟨o, e.at? h3 h2, rfl⟩
    refine ⟨?_, r.ld1 (drop_take_get (c := 0) e1 (by omega)), r.ld1 (drop_take_get (c := 1) e1 (by omega)), r.ld1 (drop_take_get (c := 2) e1 (by omega)), r.ld1 (drop_take_get (c := 3) e1 (by omega))⟩
    rw [r.ldN (by omega), e1]; rfl
/-- A struct's cells in memory of its own. -/
theorem ld4 {h : AHeap} {i : Nat} {a b c d : Value} (r : Row h i [a, b, c, d]) : aLd1 h (ptr i 0) = some a ∧ aLd1 h (ptr i 1) = some b ∧ aLd1 h (ptr i 2) = some c ∧ aLd1 h (ptr i 3) = some d ∧ aLdN h (ptr i 0) 4 = some (.agg (List.toArray [a, b, c, d])) :=
  ⟨r.ld1 rfl, r.ld1 rfl, r.ld1 rfl, r.ld1 rfl, r.ldN (off := 0) (n := 4) (Nat.le_refl _)⟩
theorem ld2 {h : AHeap} {i : Nat} {a b : Value} (r : Row h i [a, b]) : aLd1 h (ptr i 0) = some a ∧ aLd1 h (ptr i 1) = some b ∧ aLdN h (ptr i 0) 2 = some (.agg (List.toArray [a, b])) :=
  ⟨r.ld1 rfl, r.ld1 rfl, r.ldN (off := 0) (n := 2) (Nat.le_refl _)⟩
/-- One cell of a row of one's own is written. -/
theorem Own.st1' {b : Nat} {h : AHeap} {i n : Nat} {e : TypeId} {cs : List Value} {v : Value} (x : Own b h i e cs) (hn : n < cs.length) (hv : aCells v = some [v]) :
    ∃ h', aSt h (ptr i n) v 1 = some h' ∧ Ext b h h' ∧ Own b h' i e (cs.set n v) ∧ h'.size = h.size := by
  obtain ⟨h', h1, h2, h3, h4, _⟩ := x.st (off := n) (n := 1) hv rfl (by omega)
  refine ⟨h', h1, h2, ?_, h4⟩
  have : splice cs n [v] = cs.set n v := by
    unfold splice
    rw [List.set_eq_take_append_cons_drop, if_pos hn]
    simp
  rw [this] at h3; exact h3
/-- All cells of a struct of one's own are written. -/
theorem Own.stN {b : Nat} {h : AHeap} {i n : Nat} {e : TypeId} {cs vs : List Value} {v : Value} (x : Own b h i e cs) (hv : aCells v = some vs) (hl : vs.length = n) (hc : cs.length = n) :
    ∃ h', aSt h (ptr i 0) v n = some h' ∧ Ext b h h' ∧ Own b h' i e vs ∧ h'.size = h.size := by
  obtain ⟨h', h1, h2, h3, h4, _⟩ := x.st (off := 0) (n := n) hv hl (by omega)
  refine ⟨h', h1, h2, ?_, h4⟩
  have : splice cs 0 vs = vs := by
    unfold splice
    rw [List.take_zero, List.nil_append, List.drop_eq_nil_of_le (by omega), List.append_nil]
  rw [this] at h3; exact h3
theorem aCells_int (k : IntKind) (n : Int) : aCells (.int k n) = some [.int k n] := rfl
theorem aCells_str (s : ByteArray) : aCells (.string s) = some [.string s] := rfl
theorem aCells_one {v : Value} (h : isCell v = true) : aCells v = some [v] := by
  cases v <;> simp [isCell] at h <;> simp [aCells, isCell]
end Go.Proofs.Ytadmoackacickaa
/- Trees: their size, their copy. -/
set_option linter.unusedSimpArgs false
namespace Go.Proofs.Ytadmoackacickaa
open Go Go.AH

theorem wrB {x : Int} (h0 : -9223372036854775808 ≤ x) (h1 : x ≤ 9223372036854775807) : IntKind.i64.wrap x = x := by
  simp [IntKind.wrap, IntKind.bits, IntKind.signed]; omega
def bigT : Nat := 9223372036854775807
theorem l144 {d c : Nat} {v : Value} {xs : List Int} {h : AHeap} (x : ISl c h v xs) (hx : xs.length ≤ bigT) {l : Int} (h0 : 0 ≤ l) (h1 : l ≤ 1048576) :
    call Try.prog Ms (d + 1) 144 [v, .int .i64 l] h = some (.int .i64 (if l - xs.length < 0 then -1 else l - xs.length), h) := by
  have w : IntKind.i64.wrap (l - (xs.length : Int)) = l - (xs.length : Int) := wrB (by unfold bigT at hx; omega) (by omega)
  rw [c144, e144, x.len, Option.bind_some]
  simp only [asI, if_true, Option.bind_some, w]
  by_cases hc : l - (xs.length : Int) < 0
  · rw [decide_eq_true hc, cond_true, if_pos hc]
  · rw [decide_eq_false hc, cond_false, if_neg hc]
/-- What is left of a bulk. -/
def szK (n : Kn) (l : Int) : Int := if l - n.t.size < 0 then -1 else if l - n.t.size - n.ks.length < 0 then -1 else l - n.t.size - n.ks.length
def szN : List Kn → Int → Int
  | [], l => l
  | n :: ns, l => if szK n l < 0 then -1 else szN ns (szK n l)
def szT (ns : List Kn) (l : Int) : Int := if l - ns.length < 0 then -1 else szN ns (l - ns.length)
def okK (n : Kn) : Prop := n.t.size ≤ bigT ∧ n.ks.length ≤ bigT
theorem szK_le {n : Kn} {l : Int} (h1 : l ≤ 1048576) : szK n l ≤ 1048576 := by
  unfold szK
  split
  · omega
  · split <;> omega
theorem l97 {d c : Nat} {kv : Value} {n : Kn} {h : AHeap} (x : ISl c h kv n.ks) (hc : c ≤ h.size) (hn : okK n) {l : Int} (h0 : 0 ≤ l) (h1 : l ≤ 1048576) :
    ∃ h', call Try.prog Ms (d + 2) 97 [knVal n kv, .int .i64 l] h = some (.int .i64 (szK n l), h') ∧ Ext h.size h h' := by
  have e1 := Ext.new (Nat.le_refl h.size) 133 (knCells n kv)
  refine ⟨h.new 133 (knCells n kv), ?_, e1⟩
  have r1 : Row (h.new 133 (knCells n kv)) h.size [.int .i64 n.k, .string n.t, .int .i64 n.i, kv] := (Own.new (b := h.size) (Nat.le_refl _) 133 (knCells n kv)).row
  obtain ⟨a0, a1, a2, a3, _⟩ := ld4 r1
  have w : IntKind.i64.wrap (l - (n.t.size : Int)) = l - (n.t.size : Int) := wrB (by have := hn.1; unfold bigT at this; omega) (by omega)
  rw [c97, e97, kn_aCells x, Option.bind_some]
  simp only [aNew, aOff_ptr, Nat.zero_add, Option.bind_some, a1, a3, asS, w]
  unfold szK
  by_cases k1 : l - (n.t.size : Int) < 0
  · rw [decide_eq_true k1, cond_true, if_pos k1]
  · have c2 := l144 (d := d) (x.ext (e1.mono hc)) hn.2 (l := l - (n.t.size : Int)) (by omega) (by omega)
    rw [decide_eq_false k1, cond_false, if_neg k1, c2, Option.bind_some]
    simp only [asI, if_true, Option.bind_some]
    by_cases k2 : l - (n.t.size : Int) - (n.ks.length : Int) < 0
    · rw [if_pos k2, decide_eq_true (show ((-1 : Int) < 0) by decide), cond_true]
    · rw [if_neg k2, decide_eq_false k2, cond_false]
theorem sz_loop {d N c : Nat} {v : Value} {ns : List Kn} (hN : ∀ n ∈ ns, okK n) (hl : ns.length ≤ 1048576) : ∀ (k j m : Nat) (l : Int) (h : AHeap), ns.length - j = k → j ≤ ns.length → k < m → KSl c h v ns → c ≤ h.size → 0 ≤ l → l ≤ 1048576 →
    ∃ h', s56_0 hk0 (call Try.prog Ms (d + 2)) N m v l (j : Int) h = some (.int .i64 (szN (ns.drop j) l), h') ∧ Ext h.size h h' := by
  intro k
  induction k with
  | zero =>
    intro j m l h hk hj hm x hc h0 h1
    obtain ⟨m, rfl⟩ : ∃ q, m = q + 1 := ⟨m - 1, by omega⟩
    have : ¬ ((j : Int) < (ns.length : Int)) := by omega
    refine ⟨h, ?_, Ext.refl _ _⟩
    rw [s56_0_eq, x.len, Option.bind_some, List.drop_eq_nil_of_le (by omega)]
    simp only [asI, if_true, Option.bind_some, decide_eq_false this, cond_false, szN]
  | succ k ih =>
    intro j m l h hk hj hm x hc h0 h1
    obtain ⟨m, rfl⟩ : ∃ q, m = q + 1 := ⟨m - 1, by omega⟩
    have hlt : j < ns.length := by omega
    have hI : ((j : Int) < (ns.length : Int)) := by omega
    obtain ⟨i, kv, e1, e2, e3⟩ := x.at hlt
    obtain ⟨e4, _⟩ := e3 h (Ext.refl _ _)
    have hok := hN ns[j] (List.getElem_mem hlt)
    obtain ⟨h2, c2, x2⟩ := l97 (d := d) e2 hc hok h0 h1
    have wj : IntKind.i64.wrap ((j : Int) + 1) = ((j + 1 : Nat) : Int) := by rw [wr (by omega) (by omega)]; omega
    rw [s56_0_eq, x.len, Option.bind_some, List.drop_eq_getElem_cons hlt, szN]
    simp only [asI, if_true, Option.bind_some, decide_eq_true hI, cond_true, e1, e4, wj]
    rw [c2, Option.bind_some]
    simp only [asI, if_true, Option.bind_some]
    by_cases hs : szK ns[j] l < 0
    · rw [decide_eq_true hs, cond_true, if_pos hs]; exact ⟨h2, rfl, x2⟩
    · rw [decide_eq_false hs, cond_false, if_neg hs]
      obtain ⟨h3, c3, x3⟩ := ih (j + 1) m (szK ns[j] l) h2 (by omega) (by omega) (by omega) (x.ext (x2.mono hc)) (Nat.le_trans hc x2.size) (by omega) (szK_le h1)
      exact ⟨h3, c3, x2.trans (x3.mono x2.size)⟩
theorem l56 {d c : Nat} (hd : 1048577 < d) {v : Value} {ns : List Kn} {h : AHeap} (x : KSl c h v ns) (hc : c ≤ h.size) (hN : ∀ n ∈ ns, okK n) (hb : ns.length ≤ bigT) :
    ∃ h', call Try.prog Ms (d + 3) 56 [v, .int .i64 1048576] h = some (.int .i64 (szT ns 1048576), h') ∧ Ext h.size h h' := by
  have w : IntKind.i64.wrap (1048576 - (ns.length : Int)) = 1048576 - (ns.length : Int) := wrB (by unfold bigT at hb; omega) (by omega)
  rw [c56, e56, x.len, Option.bind_some]
  simp only [asI, if_true, Option.bind_some, w]
  unfold szT
  by_cases hs : (1048576 : Int) - (ns.length : Int) < 0
  · rw [decide_eq_true hs, cond_true, if_pos hs]; exact ⟨h, rfl, Ext.refl _ _⟩
  · rw [decide_eq_false hs, cond_false, if_neg hs]
    exact sz_loop (d := d) (N := d + 2) hN (by omega) ns.length 0 (d + 2) _ h (by omega) (by omega) (by omega) x hc (by omega) (by omega)
/-- A tree's value. -/
def trVal (nv : Value) (top : Int) : Value := .agg (List.toArray [nv, .int .i64 top])
theorem tr_aCells {c : Nat} {h : AHeap} {nv : Value} {ns : List Kn} (x : KSl c h nv ns) (top : Int) : aCells (trVal nv top) = some [nv, .int .i64 top] := by
  have e : (List.all (List.toArray [nv, .int .i64 top]).toList isCell) = true := by
    show (isCell nv && (true && true)) = true
    rw [x.cell.1]; rfl
  show (if (List.all (List.toArray [nv, .int .i64 top]).toList isCell) = true then some (List.toArray [nv, .int .i64 top]).toList else none) = _
  rw [if_pos e]
theorem tr_vbeq {c : Nat} {h : AHeap} {nv : Value} {ns : List Kn} (x : KSl c h nv ns) (top : Int) : vbeq (trVal nv top) (trVal nv top) = true := by
  show (vbeq1 nv nv && (vbeq1 (.int .i64 top) (.int .i64 top) && true)) = true
  rw [x.vbeq1]; simp [vbeq1]
theorem l19 {d c : Nat} (hd : 1048577 < d) {nv : Value} {ns : List Kn} {top : Int} {h : AHeap} (x : KSl c h nv ns) (hc : c ≤ h.size) (hN : ∀ n ∈ ns, okK n) (hb : ns.length ≤ bigT) :
    ∃ h', call Try.prog Ms (d + 4) 19 [trVal nv top, .int .i64 1048576] h = some (.int .i64 (if szT ns 1048576 < 0 then -1 else szT ns 1048576), h') ∧ Ext h.size h h' := by
  have e1 := Ext.new (Nat.le_refl h.size) 30 [nv, .int .i64 top]
  have r1 := (Own.new (b := h.size) (Nat.le_refl _) 30 [nv, .int .i64 top]).row
  obtain ⟨a0, _, _⟩ := ld2 r1
  obtain ⟨h2, c2, x2⟩ := l56 hd (x.ext (e1.mono hc)) (Nat.le_trans hc e1.size) hN hb
  rw [c19, e19, tr_aCells x, Option.bind_some]
  simp only [aNew, aOff_ptr, Nat.zero_add, Option.bind_some, a0]
  rw [c2, Option.bind_some]
  simp only [asI, if_true, Option.bind_some]
  have X := e1.trans (x2.mono e1.size)
  by_cases hs : szT ns 1048576 < 0
  · rw [decide_eq_true hs, cond_true, if_pos hs]; exact ⟨h2, rfl, X⟩
  · rw [decide_eq_false hs, cond_false, if_neg hs]; exact ⟨h2, rfl, X⟩
theorem szN_ok : ∀ (ns : List Kn) (l : Int), l ≤ 1048576 → 0 ≤ szN ns l → ∀ n ∈ ns, n.t.size ≤ 1048576 ∧ n.ks.length ≤ 1048576
  | [], _, _, _, n, hn => by simp at hn
  | m :: ns, l, hl, h, n, hn => by
    rw [szN] at h
    by_cases hs : szK m l < 0
    · rw [if_pos hs] at h; omega
    · rw [if_neg hs] at h
      have hle := szK_le (n := m) hl
      rcases List.mem_cons.1 hn with rfl | hn
      · unfold szK at hs
        by_cases k1 : l - (n.t.size : Int) < 0
        · rw [if_pos k1] at hs; omega
        · rw [if_neg k1] at hs
          by_cases k2 : l - (n.t.size : Int) - (n.ks.length : Int) < 0
          · rw [if_pos k2] at hs; omega
          · omega
      · exact szN_ok ns _ hle h n hn
theorem szT_ok {ns : List Kn} (h : 0 ≤ szT ns 1048576) : ns.length ≤ 1048576 ∧ ∀ n ∈ ns, n.t.size ≤ 1048576 ∧ n.ks.length ≤ 1048576 := by
  unfold szT at h
  by_cases hs : (1048576 : Int) - (ns.length : Int) < 0
  · rw [if_pos hs] at h; omega
  · rw [if_neg hs] at h
    exact ⟨by omega, szN_ok ns _ (by omega) h⟩
end Go.Proofs.Ytadmoackacickaa
/- FnExactLex: the row, given what the small evaluator says. -/
namespace Go.Proofs.Ytadmoackacickaa
open Go.ChangeShapes Go.WideShapes Go.ChangeAt Go.RowKit Go.ChangeMaps Go.AH

theorem own : ownKnob Try.prog.godebug = none := by kernel_rfl
theorem fnOk : Try.prog.funcs.all (fun (fn : Func) => fn.name != "runtime.NumGoroutine") = true := by kernel_rfl
theorem uStr : Try.prog.underlying 9 = some .string := by kernel_rfl
theorem uBool : Try.prog.underlying 4 = some .bool := by kernel_rfl
theorem mixed : Try.prog.follows .mixedOrders = true := Checked.mixed Try.checked

set_option maxRecDepth 100000 in
theorem lexLifted (hAH : ∀ s : ByteArray, ∃ d h', call Try.prog Ms d 3 [.string s] h00 = some (.bool true, h')) (os : Os) (started : os.Started) (H : Type) (enc : TypeId × Value → H) :
    ReturnsInHanded {} Try.checked os 3 .any (Rows.fnExactLexSpec.pre6 enc Try.prog Try.f3 Rows.fnExactLexRow.domain false) (Rows.fnExactLexSpec.post enc Try.prog Try.f3 false true false false) := by
  refine returnsInHanded_of_change (C := Try.checked) own started (by kernel_rfl) (by kernel_rfl)
    (ChangeSpec.witness6 (enc := enc) (C := Try.checked) false ⟨#[], #[.string .empty], []⟩ 8 (by kernel_rfl) (by kernel_rfl) (by kernel_rfl) (by kernel_rfl)) ?_
  intro W base args ds gs before hval0 hW _ _
  have hval : ∀ (j : Nat) t v, Try.f3.params[j]? = some t → args[j]? = some v → Value.okWide Try.prog W .any base t v := hval0
  have hW' := hW
  obtain ⟨p, q, hA0, hV, rfl, hfz, hnd⟩ := hW
  have hA : DataW.TrodAll enc Try.prog W 0 (fun _ => true) true Try.f3.params.toList args.toList ds p := hA0
  have hp3 : Try.f3.params = #[9] := by kernel_rfl
  rw [hp3] at hA hval
  obtain ⟨v0, vs0, d0, ds0, p0, q0, hargs, rfl, rfl, h0, r0⟩ := trodAll_cons hA
  obtain ⟨rfl, rfl, rfl⟩ := trodAll_nil r0
  obtain rfl : args = #[v0] := by cases args; simp_all
  obtain ⟨rfl, rfl⟩ := trodVars_none hV
  obtain ⟨s, rfl, rfl, rfl, hs⟩ := open_string uStr (hval 0 9 v0 rfl rfl) h0
  clear hA0
  simp only [List.append_nil] at hW'
  obtain ⟨d, h', he⟩ := hAH s
  refine (law_calls mixed fnOk he (args' := #[.string s]) (.cons (.s1 (.s0 (.string s))) .nil) (start_rel W)).mono fun e W' ⟨he, hb⟩ => ?_
  subst he
  exact ⟨_, rfl, post_below (pa := []) (pv := []) hW' (fun _ _ _ => (trodAll_cons_mk (shut_bool uBool _) trodAll_mk0)) (fun sp _ => (trodAll_cons_mk (shut_string uStr hs) trodAll_mk0)) (fun _ _ => rfl) hb⟩

end Go.Proofs.Ytadmoackacickaa
/- A tree that is an argument: how it reads, and how it lies in the small evaluator's heap. -/
namespace Go.Proofs.Ytadmoackacickaa
open Go Go.AH

theorem uTree : Try.prog.underlying 30 = some (.struct #[⟨"Nodes", 28, 0, false, "", "", 0⟩, ⟨"Top", 3, 1, false, "", "", 24⟩]) := by kernel_rfl
theorem uNodes : Try.prog.underlying 28 = some (.slice 133) := by kernel_rfl
theorem uKnot : Try.prog.underlying 133 = some (.struct #[⟨"Kind", 3, 0, false, "", "", 0⟩, ⟨"Text", 9, 1, false, "", "", 8⟩, ⟨"I", 3, 2, false, "", "", 24⟩, ⟨"Kids", 46, 3, false, "", "", 32⟩]) := by kernel_rfl
theorem uInts : Try.prog.underlying 46 = some (.slice 3) := by kernel_rfl
theorem uInt : Try.prog.underlying 3 = some (.int .i64) := by kernel_rfl
theorem cTree : Try.prog.cellsOf 30 = 2 := by kernel_rfl
theorem cKnot : Try.prog.cellsOf 133 = 4 := by kernel_rfl
theorem cInt : Try.prog.cellsOf 3 = 1 := by kernel_rfl
theorem cStr : Try.prog.cellsOf 9 = 1 := by kernel_rfl
theorem cInts : Try.prog.cellsOf 46 = 1 := by kernel_rfl
theorem cNodes : Try.prog.cellsOf 28 = 1 := by kernel_rfl
theorem zKnot : tSize Try.prog 133 = some 4 := by kernel_rfl
theorem zInt : tSize Try.prog 3 = some 1 := by kernel_rfl
def Blk (W : World) (b n : Nat) : Prop := ∃ arr el fr, W.heap[b]? = some (.cells arr el fr) ∧ n ≤ arr.size
/-- A slice of ints of the machine's. -/
def IM (W : World) (v : Value) (xs : List Int) : Prop :=
  (v = .slice none 0 0 ∧ xs = []) ∨ (∃ a, v = .slice (some a) 0 0 ∧ xs = []) ∨
  ∃ b off cap, v = .slice (some ⟨b, off, none⟩) xs.length cap ∧ xs.length ≤ cap ∧ cap ≤ maxLen ∧ Blk W b (off + cap * 1) ∧ ∀ (j : Nat) (n : Int), xs[j]? = some n → W.cell? ⟨b, off + j, none⟩ = some (.int .i64 n)
def NM (W : World) (v : Value) (ns : List Kn) : Prop :=
  (v = .slice none 0 0 ∧ ns = []) ∨ (∃ a, v = .slice (some a) 0 0 ∧ ns = []) ∨
  ∃ b off cap, v = .slice (some ⟨b, off, none⟩) ns.length cap ∧ ns.length ≤ cap ∧ cap ≤ maxLen ∧ Blk W b (off + cap * 4) ∧
    ∀ (j : Nat) (n : Kn), ns[j]? = some n → ∃ kv, (∀ c, c < 4 → W.cell? ⟨b, off + (j * 4 + c), none⟩ = (knCells n kv)[c]?) ∧ IM W kv n.ks ∧ n.t.size ≤ maxLen
theorem range_get {α : Type} (f : Nat → α) {len j : Nat} {x : α} (h : ((List.range len).map f)[j]? = some x) : j < len ∧ x = f j := by
  rw [List.getElem?_map, Option.map_eq_some_iff] at h
  obtain ⟨a, h1, h2⟩ := h
  obtain ⟨h3, h4⟩ := List.getElem?_eq_some_iff.1 h1
  rw [List.getElem_range] at h4
  subst h4
  exact ⟨by simpa using h3, h2.symm⟩
section
variable {H : Type} {enc : TypeId × Value → H} {W : World}
theorem open_ints {fuel : Nat} {v : Value} {x : DataW H × List MemPlace} (h : DataW.trod enc Try.prog W 0 (fun _ => true) true fuel 46 [v] = some x) : ∃ xs, IM W v xs := by
  rcases open_rowM uInts cInt (by decide) h with h0 | ⟨a, h0⟩ | ⟨b, off, len, cap, n, D, Pl, h0, hl, hm, hb, hx⟩
  · exact ⟨[], .inl ⟨h0, rfl⟩⟩
  · exact ⟨[], .inr (.inl ⟨a, h0, rfl⟩)⟩
  · have each : ∀ i, i < len → ∃ z : Int, W.cell? ⟨b, off + i, none⟩ = some (.int .i64 z) := fun i hi => by
      obtain ⟨cs', h1, h2, h3⟩ := hx i hi
      obtain ⟨z, h4, _⟩ := DataW.trod_int uInt h3
      have := h2 0 (by omega)
      rw [h4] at this
      exact ⟨z, by simpa using this⟩
    obtain ⟨f, hf⟩ := Deep.choose_lt each
    refine ⟨(List.range len).map f, .inr (.inr ⟨b, off, cap, by simpa using h0, by simpa using hl, hm, hb, fun j z hz => ?_⟩)⟩
    obtain ⟨hj, rfl⟩ := range_get f hz
    exact hf j hj
theorem open_node {fuel : Nat} {cs : List Value} {x : DataW H × List MemPlace} (h : DataW.trod enc Try.prog W 0 (fun _ => true) true fuel 133 cs = some x) : ∃ n kv, cs = knCells n kv ∧ n.t.size ≤ maxLen ∧ IM W kv n.ks := by
  obtain ⟨xs, k, _, _, hl, hxl, hf⟩ := DataW.trod_struct uKnot h
  rw [cKnot] at hl
  have hxl' : xs.length = 4 := hxl
  have g0 : DataW.trod enc Try.prog W 0 (fun _ => true) true k 3 ((cs.drop 0).take (Try.prog.cellsOf 3)) = xs[0]? := hf 0 _ rfl
  have g1 : DataW.trod enc Try.prog W 0 (fun _ => true) true k 9 ((cs.drop 1).take (Try.prog.cellsOf 9)) = xs[1]? := hf 1 _ rfl
  have g2 : DataW.trod enc Try.prog W 0 (fun _ => true) true k 3 ((cs.drop 2).take (Try.prog.cellsOf 3)) = xs[2]? := hf 2 _ rfl
  have g3 : DataW.trod enc Try.prog W 0 (fun _ => true) true k 46 ((cs.drop 3).take (Try.prog.cellsOf 46)) = xs[3]? := hf 3 _ rfl
  rw [cInt] at g0 g2
  rw [cStr] at g1
  rw [cInts] at g3
  clear hf hxl h
  match xs, hxl', cs, hl with
  | [y0, y1, y2, y3], _, [v0, v1, v2, v3], _ =>
    obtain ⟨k0, e0, _⟩ := DataW.trod_int uInt g0
    obtain ⟨t, e1, _, ht⟩ := DataW.trod_string uStr g1
    obtain ⟨i, e2, _⟩ := DataW.trod_int uInt g2
    obtain ⟨ks, e3⟩ := open_ints (v := v3) g3
    simp at e0 e1 e2
    subst e0 e1 e2
    exact ⟨⟨k0, t, i, ks⟩, v3, rfl, ht, e3⟩
theorem open_nodes {fuel : Nat} {v : Value} {x : DataW H × List MemPlace} (h : DataW.trod enc Try.prog W 0 (fun _ => true) true fuel 28 [v] = some x) : ∃ ns, NM W v ns := by
  rcases open_rowM uNodes cKnot (by decide) h with h0 | ⟨a, h0⟩ | ⟨b, off, len, cap, n, D, Pl, h0, hl, hm, hb, hx⟩
  · exact ⟨[], .inl ⟨h0, rfl⟩⟩
  · exact ⟨[], .inr (.inl ⟨a, h0, rfl⟩)⟩
  · have each : ∀ i, i < len → ∃ z : Kn, ∃ kv, (∀ c, c < 4 → W.cell? ⟨b, off + (i * 4 + c), none⟩ = (knCells z kv)[c]?) ∧ IM W kv z.ks ∧ z.t.size ≤ maxLen := fun i hi => by
      obtain ⟨cs', h1, h2, h3⟩ := hx i hi
      obtain ⟨z, kv, rfl, h5, h6⟩ := open_node h3
      exact ⟨z, kv, h2, h6, h5⟩
    haveI : Inhabited Kn := ⟨⟨0, ⟨#[]⟩, 0, []⟩⟩
    obtain ⟨f, hf⟩ := Deep.choose_lt each
    refine ⟨(List.range len).map f, .inr (.inr ⟨b, off, cap, by simpa using h0, by simpa using hl, hm, hb, fun j z hz => ?_⟩)⟩
    obtain ⟨hj, rfl⟩ := range_get f hz
    exact hf j hj
theorem open_tree {v : Value} {cs : Array Value} (hv : v = .agg cs) {d : DataW H} {ps : List MemPlace} (h : DataW.Trod enc Try.prog W 0 (fun _ => true) true 30 v d ps) : ∃ nv ns top, v = trVal nv top ∧ NM W nv ns := by
  subst hv
  obtain ⟨fuel, h⟩ := h
  obtain ⟨xs, k, _, _, hl, hxl, hf⟩ := DataW.trod_struct uTree h
  rw [cTree] at hl
  have hcs : (Value.agg cs).cells.toList = cs.toList := rfl
  rw [hcs] at hl hf
  obtain ⟨l⟩ := cs
  simp only at hl hf
  have hxl' : xs.length = 2 := hxl
  have g0 : DataW.trod enc Try.prog W 0 (fun _ => true) true k 28 ((l.drop 0).take (Try.prog.cellsOf 28)) = xs[0]? := hf 0 _ rfl
  have g1 : DataW.trod enc Try.prog W 0 (fun _ => true) true k 3 ((l.drop 1).take (Try.prog.cellsOf 3)) = xs[1]? := hf 1 _ rfl
  rw [cNodes] at g0
  rw [cInt] at g1
  clear hf hxl h hcs
  match xs, hxl', l, hl with
  | [y0, y1], _, [v0, v1], _ =>
    obtain ⟨ns, e0⟩ := open_nodes (v := v0) g0
    obtain ⟨top, e1, _⟩ := DataW.trod_int uInt g1
    simp at e1
    subst e1
    exact ⟨v0, ns, top, rfl, e0⟩
end
end Go.Proofs.Ytadmoackacickaa
/- A tree that is an argument lies in the small evaluator's heap. -/
namespace Go.Proofs.Ytadmoackacickaa
open Go Go.AH

/-- How a node's kids lie: the machine's slice, the small evaluator's, the row's place. -/
def KidAt (W : World) (i : Nat) (ks : List Int) (kv ka : Value) (pl : Option AH.Place) : Prop :=
  (kv = .slice none 0 0 ∧ ka = .slice none 0 0 ∧ ks = [] ∧ pl = none) ∨
  (∃ a, kv = .slice (some a) 0 0 ∧ ka = .slice (some ⟨0, 1, none⟩) 0 0 ∧ ks = [] ∧ pl = none) ∨
  ∃ b off cap, kv = .slice (some ⟨b, off, none⟩) ks.length cap ∧ ks.length ≤ cap ∧ ka = slc i 0 ks.length ∧ pl = some ⟨b, off, cap * 1, 1, true, 3⟩ ∧ Blk W b (off + cap * 1) ∧
    ∀ (j : Nat) (n : Int), ks[j]? = some n → W.cell? ⟨b, off + j, none⟩ = some (.int .i64 n)
theorem kid_at {W : World} {kv : Value} {ks : List Int} (h : IM W kv ks) (i : Nat) : ∃ ka pl, KidAt W i ks kv ka pl := by
  rcases h with ⟨h1, h2⟩ | ⟨a, h1, h2⟩ | ⟨b, off, cap, h1, h2, _, h4, h5⟩
  · exact ⟨_, _, .inl ⟨h1, rfl, h2, rfl⟩⟩
  · exact ⟨_, _, .inr (.inl ⟨a, h1, rfl, h2, rfl⟩)⟩
  · exact ⟨_, _, .inr (.inr ⟨b, off, cap, h1, h2, rfl, rfl, h4, h5⟩)⟩
theorem Blk.lt {W : World} {b n : Nat} (h : Blk W b n) : b < W.heap.size := by
  obtain ⟨_, _, _, h1, _⟩ := h
  exact (Array.getElem?_eq_some_iff.1 h1).1
theorem flat4 : ∀ (l : List (List Value)), (∀ x ∈ l, x.length = 4) → (l.flatten.length = l.length * 4) ∧ ∀ (j : Nat) (y : List Value), l[j]? = some y → (l.flatten.drop (j * 4)).take 4 = y
  | [], _ => ⟨rfl, fun j y h => by simp at h⟩
  | x :: l, h => by
    obtain ⟨h1, h2⟩ := flat4 l fun y hy => h y (by simp [hy])
    have hx := h x (by simp)
    refine ⟨by rw [List.flatten_cons, List.length_append, h1, hx, List.length_cons]; omega, fun j y hy => ?_⟩
    cases j with
    | zero =>
      simp at hy; subst hy
      rw [List.flatten_cons, Nat.zero_mul, List.drop_zero, List.take_append_of_le_length (by omega), ← hx, List.take_length]
    | succ j =>
      rw [List.flatten_cons, show (j + 1) * 4 = x.length + j * 4 by omega, ← List.drop_drop, List.drop_append_of_le_length (by omega), List.drop_length, List.nil_append]
      exact h2 j y (by simpa using hy)
/-- What is started with. -/
def TreeStart (W : World) (nv : Value) (ns : List Kn) : Prop := ∃ (h : AHeap) (ι : Inj) (na : Value), HRel Try.prog W ι h W ∧ S0 ι na nv ∧ KSg 133 h.size h na ns
theorem start_tree {W : World} {nv : Value} {ns : List Kn} (h : NM W nv ns) : TreeStart W nv ns := by
  rcases h with ⟨h1, h2⟩ | ⟨a, h1, h2⟩ | ⟨b, off, cap, h1, h2, h3, h4, h5⟩
  · subst h1 h2
    exact ⟨h00, i00, _, start_rel W, .slcNil 0, .inl ⟨rfl, rfl⟩⟩
  · subst h1 h2
    exact ⟨h00, i00, .slice (some ⟨0, 1, none⟩) 0 0, start_rel W, .slcEmp 0 1 0 a (by omega), .inr (.inl ⟨_, _, rfl, rfl⟩)⟩
  · subst h1
    have each : ∀ j, j < ns.length → ∃ q : Value × Value × Option AH.Place, ∀ n, ns[j]? = some n → (∀ c, c < 4 → W.cell? ⟨b, off + (j * 4 + c), none⟩ = (knCells n q.1)[c]?) ∧ KidAt W (j + 1) n.ks q.1 q.2.1 q.2.2 := fun j hj => by
      obtain ⟨kv, g1, g2, _⟩ := h5 j _ (List.getElem?_eq_getElem hj)
      obtain ⟨ka, pl, g3⟩ := kid_at g2 (j + 1)
      exact ⟨⟨kv, ka, pl⟩, fun n hn => by rw [List.getElem?_eq_getElem hj] at hn; cases hn; exact ⟨g1, g3⟩⟩
    haveI : Inhabited (Value × Value × Option AH.Place) := ⟨(.nilFunc, .nilFunc, none)⟩
    obtain ⟨q, hq⟩ := Deep.choose_lt each
    let N : Nat → Kn := fun j => (ns[j]?).getD ⟨0, ⟨#[]⟩, 0, []⟩
    have hN : ∀ j n, ns[j]? = some n → N j = n := fun j n hn => by show (ns[j]?).getD _ = n; rw [hn]; rfl
    let L : List (List Value) := (List.range ns.length).map fun j => knCells (N j) (q j).2.1
    have hL : ∀ x ∈ L, x.length = 4 := fun x hx => by
      obtain ⟨j, _, rfl⟩ := List.mem_map.1 hx
      rfl
    have hLl : L.length = ns.length := by simp [L]
    have hLj : ∀ (j : Nat) (n : Kn), ns[j]? = some n → L[j]? = some (knCells n (q j).2.1) := fun j n hn => by
      have hj := (List.getElem?_eq_some_iff.1 hn).1
      show ((List.range ns.length).map _)[j]? = _
      rw [List.getElem?_map, List.getElem?_range hj]
      show some (knCells (N j) (q j).2.1) = _
      rw [hN j n hn]
    obtain ⟨f1, f2⟩ := flat4 L hL
    let R : Nat → Option (AH.Place × List Value) := fun i => match i with
      | 0 => some (⟨b, off, cap * 4, 4, true, 133⟩, L.flatten)
      | j + 1 => (ns[j]?).bind fun n => (q j).2.2.map fun p => (p, ints n.ks)
    have R0 : R 0 = some (⟨b, off, cap * 4, 4, true, 133⟩, L.flatten) := rfl
    have RS : ∀ j, R (j + 1) = (ns[j]?).bind fun n => (q j).2.2.map fun p => (p, ints n.ks) := fun _ => rfl
    have hn : ∀ i r, R i = some r → i < ns.length + 1 := fun i r hr => by
      cases i with
      | zero => omega
      | succ j =>
        rw [RS, Option.bind_eq_some_iff] at hr
        obtain ⟨n, hn, _⟩ := hr
        have := (List.getElem?_eq_some_iff.1 hn).1
        omega
    have kidS : ∀ (j : Nat) (n : Kn), ns[j]? = some n → S0 (iRows R) (q j).2.1 (q j).1 := fun j n hn' => by
      rcases (hq j ((List.getElem?_eq_some_iff.1 hn').1) n hn').2 with ⟨k1, k2, _, _⟩ | ⟨a, k1, k2, _, _⟩ | ⟨b', off', cap', k1, k2, k3, k4, _, _⟩
      · rw [k1, k2]; exact .slcNil 0
      · rw [k1, k2]; exact .slcEmp 0 1 0 a (by omega)
      · rw [k1, k3]
        have hp : (iRows R).pl (j + 1) = some ⟨b', off', cap' * 1, 1, true, 3⟩ := by
          show (R (j + 1)).map (·.1) = _
          rw [RS, hn', Option.bind_some, k4]; rfl
        exact S0.slc (ι := iRows R) (j + 1) 0 n.ks.length n.ks.length ⟨b', off', cap' * 1, 1, true, 3⟩ cap' hp k2 (by show 0 + cap' * 1 ≤ cap' * 1; omega)
    have H : HRel Try.prog W (iRows R) (hRows (ns.length + 1) R) W := by
      refine start_rows hn fun i r hr => ?_
      cases i with
      | zero =>
        rw [R0] at hr; cases hr
        refine ⟨⟨?_, (fun e => by cases e), fun _ => h4.lt, zKnot⟩, rfl, by show L.flatten.length ≤ cap * 4; rw [f1, hLl]; omega, fun idx v hv => ?_⟩
        · obtain ⟨arr, el, fr, g1, g2⟩ := h4
          exact ⟨arr, el, fr, g1, g2, fun e => by cases e⟩
        · have hlt : idx < L.flatten.length := (List.getElem?_eq_some_iff.1 hv).1
          rw [f1, hLl] at hlt
          have hj : idx / 4 < ns.length := by omega
          have hn' : ns[idx / 4]? = some ns[idx / 4] := List.getElem?_eq_getElem hj
          have e4 : idx = idx / 4 * 4 + idx % 4 := by omega
          have hc : idx % 4 < 4 := by omega
          have hv' : (knCells ns[idx / 4] (q (idx / 4)).2.1)[idx % 4]? = some v := by
            rw [← drop_take_get (f2 _ _ (hLj _ _ hn')) hc, ← e4]; exact hv
          have hW := (hq _ hj _ hn').1 (idx % 4) hc
          rw [← e4] at hW
          have hk := kidS _ _ hn'
          generalize idx % 4 = c at hc hv' hW
          generalize ns[idx / 4] = n at hv' hW
          match c, hc with
          | 0, _ => cases hv'; exact ⟨_, hW, .s0 (.int _ _)⟩
          | 1, _ => cases hv'; exact ⟨_, hW, .s0 (.string _)⟩
          | 2, _ => cases hv'; exact ⟨_, hW, .s0 (.int _ _)⟩
          | 3, _ => cases hv'; exact ⟨_, hW, .s0 hk⟩
      | succ j =>
        rw [RS, Option.bind_eq_some_iff] at hr
        obtain ⟨n, hn', hr⟩ := hr
        rw [Option.map_eq_some_iff] at hr
        obtain ⟨p, hp, rfl⟩ := hr
        rcases (hq j ((List.getElem?_eq_some_iff.1 hn').1) n hn').2 with ⟨_, _, _, k4⟩ | ⟨_, _, _, _, k4⟩ | ⟨b', off', cap', k1, k2, k3, k4, k5, k6⟩
        · rw [k4] at hp; cases hp
        · rw [k4] at hp; cases hp
        · rw [k4] at hp; cases hp
          refine ⟨⟨?_, (fun e => by cases e), fun _ => k5.lt, zInt⟩, rfl, by show (ints n.ks).length ≤ cap' * 1; simp [ints]; omega, fun idx v hv => ?_⟩
          · obtain ⟨arr, el, fr, g1, g2⟩ := k5
            exact ⟨arr, el, fr, g1, g2, fun e => by cases e⟩
          · have hv2 : (n.ks.map (Value.int .i64))[idx]? = some v := hv
            rw [List.getElem?_map, Option.map_eq_some_iff] at hv2
            obtain ⟨z, hz, rfl⟩ := hv2
            exact ⟨_, k6 idx z hz, .s0 (.int _ _)⟩
    refine ⟨hRows (ns.length + 1) R, iRows R, slc 0 0 ns.length, H, ?_, .inr (.inr ⟨0, _, rfl, rows_at (by omega) R0, rfl, by show 0 < ns.length + 1; omega, by show L.flatten.length = _; rw [f1, hLl], fun j n hn' => ⟨(q j).2.1, f2 _ _ (hLj j n hn'), ?_⟩⟩)⟩
    · exact S0.slc (ι := iRows R) 0 0 ns.length ns.length ⟨b, off, cap * 4, 4, true, 133⟩ cap rfl h2 (by show 0 + cap * 4 ≤ cap * 4; omega)
    · have hj := (List.getElem?_eq_some_iff.1 hn').1
      rcases (hq j hj n hn').2 with ⟨k1, k2, k3, _⟩ | ⟨a, k1, k2, k3, _⟩ | ⟨b', off', cap', k1, k2, k3, k4, _, _⟩
      · exact .inl ⟨k2, k3⟩
      · exact .inr (.inl ⟨_, _, k2, k3⟩)
      · refine .inr (.inr ⟨j + 1, _, k3, rows_at (r := (⟨b', off', cap' * 1, 1, true, 3⟩, ints n.ks)) (by omega) ?_, rfl, rfl, by show j + 1 < ns.length + 1; omega⟩)
        rw [RS, hn', Option.bind_some, k4]; rfl
theorem NM.ok {W : World} {nv : Value} {ns : List Kn} (h : NM W nv ns) : ns.length ≤ bigT ∧ ∀ n ∈ ns, okK n := by
  have hm : maxLen ≤ bigT := by decide
  rcases h with ⟨_, rfl⟩ | ⟨a, _, rfl⟩ | ⟨b, off, cap, _, h2, h3, _, h5⟩
  · exact ⟨Nat.zero_le _, fun n hn => by simp at hn⟩
  · exact ⟨Nat.zero_le _, fun n hn => by simp at hn⟩
  · refine ⟨by omega, fun n hn => ?_⟩
    obtain ⟨j, hj, rfl⟩ := List.getElem_of_mem hn
    obtain ⟨kv, _, g2, g3⟩ := h5 j _ (List.getElem?_eq_getElem hj)
    refine ⟨by omega, ?_⟩
    rcases g2 with ⟨_, e⟩ | ⟨_, _, e⟩ | ⟨_, _, cap', _, e1, e2, _⟩
    · rw [e]; exact Nat.zero_le _
    · rw [e]; exact Nat.zero_le _
    · omega
end Go.Proofs.Ytadmoackacickaa
/- FnExactTreeOk: the row, given what the small evaluator says. -/
namespace Go.Proofs.Ytadmoackacickaa
open Go Go.ChangeShapes Go.WideShapes Go.ChangeAt Go.RowKit Go.ChangeMaps Go.AH

theorem laid : laidOutB Try.prog = true := by kernel_rfl
theorem rTree : Try.prog.readableRec 30 = true := by kernel_rfl
theorem tTree : (30 : Nat) < Try.prog.types.size := of_decide_eq_true (by kernel_rfl)
set_option maxRecDepth 100000 in
theorem treeLifted (hAH : ∀ (nv : Value) (T : List Kn) (top : Int) (h : AHeap), KSl h.size h nv T → T.length ≤ bigT → (∀ n ∈ T, okK n) → ∃ d h', call Try.prog Ms d 4 [trVal nv top] h = some (.bool true, h')) (os : Os) (started : os.Started) (H : Type) (enc : TypeId × Value → H) :
    ReturnsInHanded {} Try.checked os 4 .any (Rows.fnExactTreeOkSpec.pre6 enc Try.prog Try.f4 Rows.fnExactTreeOkRow.domain false) (Rows.fnExactTreeOkSpec.post enc Try.prog Try.f4 false true false false) := by
  refine returnsInHanded_of_change (C := Try.checked) own started (by kernel_rfl) (by kernel_rfl)
    (ChangeSpec.witness6 (enc := enc) (C := Try.checked) false ⟨#[], #[.agg #[.slice none 0 0, .int .i64 0]], []⟩ 8 (by kernel_rfl) (by kernel_rfl) (by kernel_rfl) (by kernel_rfl)) ?_
  intro W base args ds gs before hval0 hW _ _
  have hval : ∀ (j : Nat) t v, Try.f4.params[j]? = some t → args[j]? = some v → Value.okWide Try.prog W .any base t v := hval0
  have hW' := hW
  obtain ⟨p, q, hA0, hV, rfl, hfz, hnd⟩ := hW
  have hA : DataW.TrodAll enc Try.prog W 0 (fun _ => true) true Try.f4.params.toList args.toList ds p := hA0
  have hp3 : Try.f4.params = #[30] := by kernel_rfl
  rw [hp3] at hA hval
  obtain ⟨v0, vs0, d0, ds0, p0, q0, hargs, rfl, rfl, h0, r0⟩ := trodAll_cons hA
  obtain ⟨rfl, rfl, rfl⟩ := trodAll_nil r0
  obtain rfl : args = #[v0] := by cases args; simp_all
  obtain ⟨rfl, rfl⟩ := trodVars_none hV
  have hagg : ∃ cs, v0 = .agg cs := by
    have := hval 0 30 v0 rfl rfl
    unfold Value.okWide at this
    rw [uTree] at this
    obtain ⟨cs, e, _⟩ := this
    exact ⟨cs, e⟩
  obtain ⟨cs, hcs⟩ := hagg
  obtain ⟨nv, T, top, hv, hN⟩ := open_tree hcs h0
  obtain ⟨ah, ι, na, HR, hs, hk'⟩ := start_tree hN
  have hk := hk'.ksl
  obtain ⟨hb, hK⟩ := hN.ok
  obtain ⟨d, h', he⟩ := hAH na T top ah hk hb hK
  simp only [List.append_nil] at hW'
  have h0k := h0
  have hlt : ∀ x ∈ p0, x.block < W.heap.size := fun x hx => by simpa using hW'.lt x (by simpa using hx)
  have hrel : VR ι (trVal na top) v0 := by
    rw [hv]
    exact .s2 (.agg (.cons (.s0 hs) (.cons (.s0 (.int _ _)) .nil)))
  refine (law_calls mixed fnOk he (args' := #[v0]) (.cons hrel .nil) HR).mono fun e W' ⟨he, hbel⟩ => ?_
  subst he
  exact ⟨_, rfl, post_below (pa := p0) (pv := []) hW' (fun _ _ _ => (trodAll_cons_mk (shut_bool uBool _) trodAll_mk0)) (fun sp hsp => by
    have := trodAll_cons_mk (WideElems.Trod_stays laid rTree tTree h0k (fun x hx => hbel.same (hlt x hx)) (fun x hx => hsp x (by simpa using hx))) (trodAll_mk0 (enc := enc) (P := Try.prog) (w := W') (base := 0) (spare := sp) (held := true))
    rw [List.append_nil] at this
    exact this) (fun _ _ => rfl) hbel⟩
end Go.Proofs.Ytadmoackacickaa
/- FnExactFold: the row, given what the small evaluator says. -/
namespace Go.Proofs.Ytadmoackacickaa
open Go Go.ChangeShapes Go.WideShapes Go.ChangeAt Go.RowKit Go.ChangeMaps Go.AH

set_option maxRecDepth 100000 in
theorem foldLifted (hAH : ∀ (nv : Value) (T : List Kn) (top : Int) (h : AHeap), KSg 133 h.size h nv T → T.length ≤ bigT → (∀ n ∈ T, okK n) → ∃ d h', call Try.prog Ms d 10 [trVal nv top] h = some (.bool true, h')) (os : Os) (started : os.Started) (H : Type) (enc : TypeId × Value → H) :
    ReturnsInHanded {} Try.checked os 10 .any (Rows.fnExactFoldSpec.pre6 enc Try.prog Try.f10 Rows.fnExactFoldRow.domain false) (Rows.fnExactFoldSpec.post enc Try.prog Try.f10 false true false false) := by
  refine returnsInHanded_of_change (C := Try.checked) own started (by kernel_rfl) (by kernel_rfl)
    (ChangeSpec.witness6 (enc := enc) (C := Try.checked) false ⟨#[], #[.agg #[.slice none 0 0, .int .i64 0]], []⟩ 8 (by kernel_rfl) (by kernel_rfl) (by kernel_rfl) (by kernel_rfl)) ?_
  intro W base args ds gs before hval0 hW _ _
  have hval : ∀ (j : Nat) t v, Try.f10.params[j]? = some t → args[j]? = some v → Value.okWide Try.prog W .any base t v := hval0
  have hW' := hW
  obtain ⟨p, q, hA0, hV, rfl, hfz, hnd⟩ := hW
  have hA : DataW.TrodAll enc Try.prog W 0 (fun _ => true) true Try.f10.params.toList args.toList ds p := hA0
  have hp3 : Try.f10.params = #[30] := by kernel_rfl
  rw [hp3] at hA hval
  obtain ⟨v0, vs0, d0, ds0, p0, q0, hargs, rfl, rfl, h0, r0⟩ := trodAll_cons hA
  obtain ⟨rfl, rfl, rfl⟩ := trodAll_nil r0
  obtain rfl : args = #[v0] := by cases args; simp_all
  obtain ⟨rfl, rfl⟩ := trodVars_none hV
  have hagg : ∃ cs, v0 = .agg cs := by
    have := hval 0 30 v0 rfl rfl
    unfold Value.okWide at this
    rw [uTree] at this
    obtain ⟨cs, e, _⟩ := this
    exact ⟨cs, e⟩
  obtain ⟨cs, hcs⟩ := hagg
  obtain ⟨nv, T, top, hv, hN⟩ := open_tree hcs h0
  obtain ⟨ah, ι, na, HR, hs, hk'⟩ := start_tree hN
  have hk := hk'
  obtain ⟨hb, hK⟩ := hN.ok
  obtain ⟨d, h', he⟩ := hAH na T top ah hk hb hK
  simp only [List.append_nil] at hW'
  have h0k := h0
  have hlt : ∀ x ∈ p0, x.block < W.heap.size := fun x hx => by simpa using hW'.lt x (by simpa using hx)
  have hrel : VR ι (trVal na top) v0 := by
    rw [hv]
    exact .s2 (.agg (.cons (.s0 hs) (.cons (.s0 (.int _ _)) .nil)))
  refine (law_calls mixed fnOk he (args' := #[v0]) (.cons hrel .nil) HR).mono fun e W' ⟨he, hbel⟩ => ?_
  subst he
  exact ⟨_, rfl, post_below (pa := p0) (pv := []) hW' (fun _ _ _ => (trodAll_cons_mk (shut_bool uBool _) trodAll_mk0)) (fun sp hsp => by
    have := trodAll_cons_mk (WideElems.Trod_stays laid rTree tTree h0k (fun x hx => hbel.same (hlt x hx)) (fun x hx => hsp x (by simpa using hx))) (trodAll_mk0 (enc := enc) (P := Try.prog) (w := W') (base := 0) (spare := sp) (held := true))
    rw [List.append_nil] at this
    exact this) (fun _ _ => rfl) hbel⟩
end Go.Proofs.Ytadmoackacickaa
/- Trees: their copy. -/
set_option linter.unusedSimpArgs false
namespace Go.Proofs.Ytadmoackacickaa
open Go Go.AH

theorem Own.stX {b : Nat} {h : AHeap} {i off n : Nat} {e : TypeId} {cs vs : List Value} {v : Value} (x : Own b h i e cs) (hv : aCells v = some vs) (hl : vs.length = n) (hn : off + n ≤ cs.length) :
    ∃ h', aSt h (ptr i off) v n = some h' ∧ Ext b h h' ∧ Own b h' i e (splice cs off vs) ∧ h'.size = h.size ∧ (∀ j o, h.at? j = some o → o.elem ≠ e → h'.at? j = some o) := by
  obtain ⟨r, ep, h1, h2⟩ := x
  have hi := at?_obj h1
  refine ⟨h.put i ⟨r, ep, false, e, cs⟩ (splice cs off vs), by simp [aSt, ptr, h1, hv, hl, hn], Ext.put (Nat.le_trans h2 hi.2.2.1) h2 _, ⟨_, _, at?_put_same h1 _, h2⟩, rfl, fun j o ho he => ?_⟩
  exact at?_put_other ho (fun hj => by subst hj; rw [h1] at ho; cases ho; exact he rfl) _ (fun hh => he hh.1)
/-- Ints in memory of one's own. -/
def IOwn (b : Nat) (h : AHeap) (v : Value) (xs : List Int) : Prop := ∃ i, v = slc i 0 xs.length ∧ Own b h i 3 (ints xs)
theorem IOwn.ext {b : Nat} {h h' : AHeap} {v : Value} {xs : List Int} (x : IOwn b h v xs) (e : Ext h.size h h') : IOwn b h' v xs := let ⟨i, h1, h2⟩ := x; ⟨i, h1, h2.ext e h2.lt.2⟩
theorem IOwn.isl {b : Nat} {h : AHeap} {v : Value} {xs : List Int} (x : IOwn b h v xs) : ISl h.size h v xs := by
  obtain ⟨i, h1, h2⟩ := x
  have hl := h2.lt.2
  obtain ⟨r, ep, h3, h4⟩ := h2
  exact .inr (.inr ⟨i, _, h1, h3, rfl, rfl, hl⟩)
theorem IOwn.keep {b : Nat} {h h' : AHeap} {v : Value} {xs : List Int} {e : TypeId} (x : IOwn b h v xs) (he : (3 : TypeId) ≠ e) (k : ∀ j o, h.at? j = some o → o.elem ≠ e → h'.at? j = some o) : IOwn b h' v xs := by
  obtain ⟨i, h1, r, ep, h3, h4⟩ := x
  exact ⟨i, h1, r, ep, k i _ h3 he, h4⟩
theorem IOwn.mono {b c : Nat} {h : AHeap} {v : Value} {xs : List Int} (x : IOwn b h v xs) (hc : c ≤ b) : IOwn c h v xs := let ⟨i, h1, h2⟩ := x; ⟨i, h1, h2.mono hc⟩
/-- Ints in a row of their own. -/
def IK (b : Nat) (h : AHeap) (v : Value) (xs : List Int) : Prop := ∃ i, v = slc i 0 xs.length ∧ Own i h i 3 (ints xs) ∧ b ≤ i
theorem IK.iown {b : Nat} {h : AHeap} {v : Value} {xs : List Int} (x : IK b h v xs) : IOwn b h v xs := let ⟨i, h1, h2, h3⟩ := x; ⟨i, h1, h2.mono h3⟩
theorem IK.ext {b : Nat} {h h' : AHeap} {v : Value} {xs : List Int} (x : IK b h v xs) (e : Ext h.size h h') : IK b h' v xs := let ⟨i, h1, h2, h3⟩ := x; ⟨i, h1, h2.ext e h2.lt.2, h3⟩
theorem IK.isl {b : Nat} {h : AHeap} {v : Value} {xs : List Int} (x : IK b h v xs) : ISl h.size h v xs := x.iown.isl
theorem IK.keep {b : Nat} {h h' : AHeap} {v : Value} {xs : List Int} {e : TypeId} (x : IK b h v xs) (he : (3 : TypeId) ≠ e) (k : ∀ j o, h.at? j = some o → o.elem ≠ e → h'.at? j = some o) : IK b h' v xs := by
  obtain ⟨i, h1, ⟨r, ep, h3, h4⟩, h5⟩ := x
  exact ⟨i, h1, ⟨r, ep, k i _ h3 he, h4⟩, h5⟩
theorem IK.mono {b c : Nat} {h : AHeap} {v : Value} {xs : List Int} (x : IK b h v xs) (hc : c ≤ b) : IK c h v xs := let ⟨i, h1, h2, h3⟩ := x; ⟨i, h1, h2, Nat.le_trans hc h3⟩
theorem ints_set (ys : List Int) (j : Nat) (v : Int) : (ints ys).set j (.int .i64 v) = ints (ys.set j v) := by simp [ints, List.map_set]
theorem rep_ints (n : Nat) : (List.replicate n [Value.int .i64 0]).flatten = ints (List.replicate n 0) := by
  induction n with
  | zero => rfl
  | succ n ih => rw [List.replicate_succ, List.flatten_cons, ih]; simp [ints, List.replicate_succ]
theorem mk_some (h : AHeap) (e : TypeId) (z : List Value) (bytes n : Nat) (hn : n ≤ 100000000) (hb : n * bytes ≤ 100000000000) : aMk h e z bytes (.int .i64 (n : Int)) (.int .i64 (n : Int)) = some (slc h.size 0 n, h.new e (List.replicate n z).flatten) := by
  have : (n : Int).toNat = n := by omega
  show (if 0 ≤ (n : Int) ∧ (n : Int) ≤ n ∧ (n : Int) ≤ (140737488355328 : Nat) ∧ (n : Int).toNat * bytes ≤ 140737488355328 then some (slc h.size 0 (n : Int).toNat, h.new e (List.replicate (n : Int).toNat z).flatten) else none) = _
  rw [this, if_pos ⟨by omega, by omega, by omega, by omega⟩]
theorem cpI_loop {d N c b r : Nat} {v : Value} {xs : List Int} (hl : xs.length ≤ 1048576) (hcb : c ≤ b) : ∀ (k j m : Nat) (ys : List Int) (h : AHeap), xs.length - j = k → j ≤ xs.length → k < m → ISl c h v xs → Own b h r 3 (ints ys) → ys.length = xs.length → (∀ i, i < j → ys[i]? = xs[i]?) →
    ∃ h', s146_0 hk0 (call Try.prog Ms d) N m v (slc r 0 xs.length) (j : Int) h = some (slc r 0 xs.length, h') ∧ Ext b h h' ∧ Own b h' r 3 (ints xs) := by
  intro k
  induction k with
  | zero =>
    intro j m ys h hk hj hm x o hy hsame
    obtain ⟨m, rfl⟩ : ∃ q, m = q + 1 := ⟨m - 1, by omega⟩
    have : ¬ ((j : Int) < (xs.length : Int)) := by omega
    have e : ys = xs := List.ext_getElem? fun i => by
      by_cases hi : i < j
      · exact hsame i hi
      · rw [List.getElem?_eq_none (by omega), List.getElem?_eq_none (by omega)]
    subst e
    refine ⟨h, ?_, Ext.refl _ _, o⟩
    rw [s146_0_eq, x.len, Option.bind_some]
    simp only [asI, if_true, Option.bind_some, decide_eq_false this, cond_false]
  | succ k ih =>
    intro j m ys h hk hj hm x o hy hsame
    obtain ⟨m, rfl⟩ : ∃ q, m = q + 1 := ⟨m - 1, by omega⟩
    have hlt : j < xs.length := by omega
    have hI : ((j : Int) < (xs.length : Int)) := by omega
    obtain ⟨p, e1, e2⟩ := x.at hlt
    have hix : aIdx (slc r 0 xs.length) (.int .i64 (j : Int)) 1 = some (ptr r j) := by simp [aIdx, slc, hlt]
    obtain ⟨h2, s2, x2, o2, _⟩ := Own.st1' o (n := j) (v := .int .i64 xs[j]) (by simp [ints]; omega) rfl
    rw [ints_set] at o2
    have wj : IntKind.i64.wrap ((j : Int) + 1) = ((j + 1 : Nat) : Int) := by rw [wr (by omega) (by omega)]; omega
    obtain ⟨h3, c3, x3, o3⟩ := ih (j + 1) m (ys.set j xs[j]) h2 (by omega) (by omega) (by omega) (x.ext (x2.mono hcb)) o2 (by simp [hy]) (fun i hi => by
      by_cases he : i = j
      · subst he; rw [List.getElem?_set_self (by omega)]; simp [hlt]
      · rw [List.getElem?_set_ne (by omega)]; exact hsame i (by omega))
    refine ⟨h3, ?_, x2.trans x3, o3⟩
    rw [s146_0_eq, x.len, Option.bind_some]
    simp only [asI, if_true, Option.bind_some, decide_eq_true hI, cond_true, e1, e2, hix, s2, wj, c3]
theorem l146 {d c : Nat} (hd : 1048577 < d) {v : Value} {xs : List Int} {h : AHeap} (x : ISl c h v xs) (hc : c ≤ h.size) (hl : xs.length ≤ 1048576) :
    ∃ v' h', call Try.prog Ms (d + 1) 146 [v] h = some (v', h') ∧ Ext h.size h h' ∧ IK h.size h' v' xs := by
  have e1 := Ext.new (Nat.le_refl h.size) 3 (ints (List.replicate xs.length 0))
  have o1 := Own.new (Nat.le_refl h.size) 3 (ints (List.replicate xs.length 0))
  obtain ⟨h2, c2, x2, o2⟩ := cpI_loop (d := d) (N := d) hl hc xs.length 0 d (List.replicate xs.length 0) _ (by omega) (by omega) (by omega) (x.ext (e1.mono hc)) o1 (by simp) (fun i hi => by omega)
  refine ⟨_, h2, ?_, e1.trans x2, _, rfl, o2, Nat.le_refl _⟩
  rw [c146, e146, x.len, Option.bind_some]
  simp only [asI, if_true, Option.bind_some]
  rw [mk_some _ _ _ _ _ (by omega) (by omega), Option.bind_some, rep_ints]
  exact c2
theorem l102 {d c : Nat} (hd : 1048577 < d) {kv : Value} {n : Kn} {h : AHeap} (x : ISl c h kv n.ks) (hc : c ≤ h.size) (hl : n.ks.length ≤ 1048576) :
    ∃ kv' h', call Try.prog Ms (d + 2) 102 [knVal n kv] h = some (knVal n kv', h') ∧ Ext h.size h h' ∧ IK h.size h' kv' n.ks := by
  have e1 := Ext.new (Nat.le_refl h.size) 133 (knCells n kv)
  have r1 : Row (h.new 133 (knCells n kv)) h.size [.int .i64 n.k, .string n.t, .int .i64 n.i, kv] := (Own.new (b := h.size) (Nat.le_refl _) 133 (knCells n kv)).row
  have s1 : (h.new 133 (knCells n kv)).size = h.size + 1 := rfl
  rw [c102, e102, kn_aCells x, Option.bind_some]
  simp only [aNew]
  generalize h.new 133 (knCells n kv) = h1 at e1 r1 s1 ⊢
  have e2 := Ext.new (Nat.le_refl h1.size) 73 [.int .i64 0, .string ⟨#[]⟩, .int .i64 0, .slice none 0 0]
  have o2 := Own.new (Nat.le_refl h1.size) 73 [.int .i64 0, .string ⟨#[]⟩, .int .i64 0, .slice none 0 0]
  have s2 : (h1.new 73 [.int .i64 0, .string ⟨#[]⟩, .int .i64 0, .slice none 0 0]).size = h1.size + 1 := rfl
  generalize h1.new 73 [.int .i64 0, .string ⟨#[]⟩, .int .i64 0, .slice none 0 0] = h2 at e2 o2 s2 ⊢
  have e3 := Ext.new (Nat.le_refl h2.size) 73 [.int .i64 0, .string ⟨#[]⟩, .int .i64 0, .slice none 0 0]
  have o3 := Own.new (Nat.le_refl h2.size) 73 [.int .i64 0, .string ⟨#[]⟩, .int .i64 0, .slice none 0 0]
  have s3 : (h2.new 73 [.int .i64 0, .string ⟨#[]⟩, .int .i64 0, .slice none 0 0]).size = h2.size + 1 := rfl
  generalize h2.new 73 [.int .i64 0, .string ⟨#[]⟩, .int .i64 0, .slice none 0 0] = h3 at e3 o3 s3 ⊢
  have r3 := (r1.ext e2 (by omega)).ext e3 (by omega)
  obtain ⟨h4, t4, e4, o4, s4⟩ := Own.st1' o3 (n := 0) (v := .int .i64 n.k) (by show 0 < 4; omega) rfl
  have r4 := r3.ext e4 (by omega)
  obtain ⟨h5, t5, e5, o5, s5⟩ := Own.st1' o4 (n := 1) (v := .string n.t) (by show 1 < 4; omega) rfl
  have r5 := r4.ext e5 (by omega)
  obtain ⟨h6, t6, e6, o6, s6⟩ := Own.st1' o5 (n := 2) (v := .int .i64 n.i) (by show 2 < 4; omega) rfl
  have r6 := r5.ext e6 (by omega)
  have E6 : Ext c h h6 := ((((((e1.mono hc).trans (e2.mono (by omega))).trans (e3.mono (by omega))).trans (e4.mono (by omega))).trans (e5.mono (by omega))).trans (e6.mono (by omega)))
  obtain ⟨kv', h7, c7, e7, i7⟩ := l146 (d := d) hd (x.ext E6) (by omega) hl
  have hk := i7.isl.cell
  have s7 := e7.size
  obtain ⟨h8, t8, e8, o8, s8, k8⟩ := Own.stX (o6.ext e7 (by omega)) (off := 3) (n := 1) (v := kv') (aCells_one hk.1) rfl (by show 3 + 1 ≤ 4; omega)
  have i8 := i7.keep (e := 73) (by decide) k8
  have r8 : Row h8 h2.size [.int .i64 n.k, .string n.t, .int .i64 n.i, kv'] := o8.row
  have w2 := (((((o2.ext e3 (by omega)).ext e4 (by omega)).ext e5 (by omega)).ext e6 (by omega)).ext e7 (by omega)).ext e8 (by omega)
  obtain ⟨h9, t9, e9, o9, s9, k9⟩ := Own.stX w2 (off := 0) (n := 4) (v := knVal n kv') (kn_aCells i8.isl) rfl (by show 0 + 4 ≤ 4; omega)
  have i9 := i8.keep (e := 73) (by decide) k9
  have r9 : Row h9 h1.size [.int .i64 n.k, .string n.t, .int .i64 n.i, kv'] := o9.row
  refine ⟨kv', h9, ?_, ?_, i9.mono (by omega)⟩
  · obtain ⟨a0, _, _, _, _⟩ := ld4 r3
    obtain ⟨_, a1, _, _, _⟩ := ld4 r4
    obtain ⟨_, _, a2, _, _⟩ := ld4 r5
    obtain ⟨_, _, _, a3, _⟩ := ld4 r6
    obtain ⟨_, _, _, _, a8⟩ := ld4 r8
    obtain ⟨_, _, _, _, a9⟩ := ld4 r9
    have a8' : aLdN h8 (ptr h2.size 0) 4 = some (knVal n kv') := a8
    have a9' : aLdN h9 (ptr h1.size 0) 4 = some (knVal n kv') := a9
    simp only [aOff_ptr, Nat.zero_add, Option.bind_some, asI, asS, if_true, a0, t4, a1, t5, a2, t6, a3]
    rw [c7, Option.bind_some]
    simp only [t8, Option.bind_some, a8', t9, a9']
  · exact e1.trans ((e2.mono (by omega)).trans ((e3.mono (by omega)).trans ((e4.mono (by omega)).trans ((e5.mono (by omega)).trans ((e6.mono (by omega)).trans ((e7.mono (by omega)).trans ((e8.mono (by omega)).trans (e9.mono (by omega)))))))))
/-- Nodes in memory of one's own: so many are done. -/
def KPart (b : Nat) (h : AHeap) (r : Nat) (ns : List Kn) (j : Nat) (cells : List Value) : Prop :=
  Own b h r 73 cells ∧ cells.length = ns.length * 4 ∧ ∀ (i : Nat) (n : Kn), i < j → ns[i]? = some n → ∃ kv, (cells.drop (i * 4)).take 4 = knCells n kv ∧ IK b h kv n.ks
def KOwn (b : Nat) (h : AHeap) (v : Value) (ns : List Kn) : Prop := ∃ r cells, v = slc r 0 ns.length ∧ KPart b h r ns ns.length cells
theorem KPart.ext {b : Nat} {h h' : AHeap} {r j : Nat} {ns : List Kn} {cells : List Value} (x : KPart b h r ns j cells) (e : Ext h.size h h') : KPart b h' r ns j cells :=
  ⟨x.1.ext e x.1.lt.2, x.2.1, fun i n hi hn => let ⟨kv, h1, h2⟩ := x.2.2 i n hi hn; ⟨kv, h1, h2.ext e⟩⟩
theorem KOwn.ext {b : Nat} {h h' : AHeap} {v : Value} {ns : List Kn} (x : KOwn b h v ns) (e : Ext h.size h h') : KOwn b h' v ns := let ⟨r, cs, h1, h2⟩ := x; ⟨r, cs, h1, h2.ext e⟩
theorem KOwn.ksl {b : Nat} {h : AHeap} {v : Value} {ns : List Kn} (x : KOwn b h v ns) : KSl h.size h v ns := by
  obtain ⟨r, cs, h1, h2, h3, h4⟩ := x
  have hl := h2.lt.2
  obtain ⟨rt, ep, h5, h6⟩ := h2
  exact .inr (.inr ⟨r, _, h1, h5, hl, h3, fun j n hn => let ⟨kv, a, b⟩ := h4 j n (List.getElem?_eq_some_iff.1 hn).1 hn; ⟨kv, a, b.isl⟩⟩)
theorem splice_len {cs vs : List Value} {off : Nat} (h : off + vs.length ≤ cs.length) : (splice cs off vs).length = cs.length := by unfold splice; simp; omega
theorem splice_before {cs vs : List Value} {off i : Nat} (h : i + 4 ≤ off) (h2 : off + vs.length ≤ cs.length) : ((splice cs off vs).drop i).take 4 = (cs.drop i).take 4 := by
  apply List.ext_getElem?
  intro k
  rw [List.getElem?_take, List.getElem?_take]
  by_cases hk : k < 4
  · rw [if_pos hk, if_pos hk, List.getElem?_drop, List.getElem?_drop]
    unfold splice
    rw [List.append_assoc, List.getElem?_append_left (by simp; omega), List.getElem?_take, if_pos (by omega)]
  · rw [if_neg hk, if_neg hk]
theorem splice_here {cs vs : List Value} {off : Nat} (h : off + vs.length ≤ cs.length) (h4 : vs.length = 4) : ((splice cs off vs).drop off).take 4 = vs := by
  unfold splice
  rw [List.append_assoc, List.drop_append_of_le_length (by simp; omega)]
  rw [List.drop_eq_nil_of_le (by simp; omega), List.nil_append, List.take_append_of_le_length (by omega), ← h4, List.take_length]
theorem cpK_loop {d N c b r : Nat} (hd : 1048577 < d) {v : Value} {ns : List Kn} (hl : ns.length ≤ 1048576) (hN : ∀ n ∈ ns, n.t.size ≤ 1048576 ∧ n.ks.length ≤ 1048576) (hcb : c ≤ b) : ∀ (k j m : Nat) (cells : List Value) (h : AHeap), ns.length - j = k → j ≤ ns.length → k < m → KSl c h v ns → b ≤ h.size → KPart b h r ns j cells →
    ∃ h' cells', s58_0 hk0 (call Try.prog Ms (d + 2)) N m v (slc r 0 ns.length) (j : Int) h = some (slc r 0 ns.length, h') ∧ Ext b h h' ∧ KPart b h' r ns ns.length cells' := by
  intro k
  induction k with
  | zero =>
    intro j m cells h hk hj hm x hb o
    obtain ⟨m, rfl⟩ : ∃ q, m = q + 1 := ⟨m - 1, by omega⟩
    have : ¬ ((j : Int) < (ns.length : Int)) := by omega
    have e : j = ns.length := by omega
    subst e
    refine ⟨h, cells, ?_, Ext.refl _ _, o⟩
    rw [s58_0_eq, x.len, Option.bind_some]
    simp only [asI, if_true, Option.bind_some, decide_eq_false this, cond_false]
  | succ k ih =>
    intro j m cells h hk hj hm x hb o
    obtain ⟨m, rfl⟩ : ∃ q, m = q + 1 := ⟨m - 1, by omega⟩
    have hlt : j < ns.length := by omega
    have hI : ((j : Int) < (ns.length : Int)) := by omega
    obtain ⟨i, kv, e1, e2, e3⟩ := x.at hlt
    obtain ⟨e4, _⟩ := e3 h (Ext.refl _ _)
    have hix : aIdx (slc r 0 ns.length) (.int .i64 (j : Int)) 4 = some (ptr r (j * 4)) := by simp [aIdx, slc, hlt]
    obtain ⟨kv', h2, c2, x2, i2⟩ := l102 hd e2 (Nat.le_trans hcb hb) (hN ns[j] (List.getElem_mem hlt)).2
    have o2 := o.ext x2
    have hfit : j * 4 + (knCells ns[j] kv').length ≤ cells.length := by rw [o.2.1]; show j * 4 + 4 ≤ _; omega
    obtain ⟨h3, t3, x3, o3, s3, k3⟩ := Own.stX o2.1 (off := j * 4) (n := 4) (v := knVal ns[j] kv') (kn_aCells i2.isl) rfl hfit
    have wj : IntKind.i64.wrap ((j : Int) + 1) = ((j + 1 : Nat) : Int) := by rw [wr (by omega) (by omega)]; omega
    have o3' : KPart b h3 r ns (j + 1) (splice cells (j * 4) (knCells ns[j] kv')) := by
      refine ⟨o3, by rw [splice_len hfit]; exact o.2.1, fun i n hi hn => ?_⟩
      by_cases he : i = j
      · subst he
        rw [List.getElem?_eq_getElem hlt] at hn; cases hn
        exact ⟨kv', splice_here hfit rfl, (i2.mono hb).keep (e := 73) (by decide) k3⟩
      · obtain ⟨kv2, a, b'⟩ := o2.2.2 i n (by omega) hn
        exact ⟨kv2, by rw [splice_before (by omega) hfit]; exact a, b'.keep (e := 73) (by decide) k3⟩
    obtain ⟨h4, cells', c4, x4, o4⟩ := ih (j + 1) m _ h3 (by omega) (by omega) (by omega) ((x.ext (x2.mono (Nat.le_trans hcb hb))).ext (x3.mono hcb)) (by have := x2.size; omega) o3'
    refine ⟨h4, cells', ?_, (x2.mono hb).trans (x3.trans x4), o4⟩
    rw [s58_0_eq, x.len, Option.bind_some]
    simp only [asI, if_true, Option.bind_some, decide_eq_true hI, cond_true, e1, e4]
    rw [c2, Option.bind_some]
    simp only [hix, Option.bind_some, t3, wj, c4]
theorem rep_len (n : Nat) (z : List Value) (hz : z.length = 4) : (List.replicate n z).flatten.length = n * 4 := by
  induction n with
  | zero => rfl
  | succ n ih => rw [List.replicate_succ, List.flatten_cons, List.length_append, ih, hz]; omega
theorem l58 {d c : Nat} (hd : 1048577 < d) {v : Value} {ns : List Kn} {h : AHeap} (x : KSl c h v ns) (hc : c ≤ h.size) (hl : ns.length ≤ 1048576) (hN : ∀ n ∈ ns, n.t.size ≤ 1048576 ∧ n.ks.length ≤ 1048576) :
    ∃ v' h', call Try.prog Ms (d + 3) 58 [v] h = some (v', h') ∧ Ext h.size h h' ∧ KOwn h.size h' v' ns := by
  have hz : ([.int .i64 0, .string ⟨#[]⟩, .int .i64 0, .slice none 0 0] : List Value).length = 4 := rfl
  generalize hZ : ([.int .i64 0, .string ⟨#[]⟩, .int .i64 0, .slice none 0 0] : List Value) = z at hz
  have e1 := Ext.new (Nat.le_refl h.size) 73 (List.replicate ns.length z).flatten
  have o1 := Own.new (Nat.le_refl h.size) 73 (List.replicate ns.length z).flatten
  obtain ⟨h2, cells, c2, x2, o2⟩ := cpK_loop (d := d) (N := d + 2) hd hl hN hc ns.length 0 (d + 2) (List.replicate ns.length z).flatten _ (by omega) (by omega) (by omega) (x.ext (e1.mono hc)) e1.size ⟨o1, rep_len _ _ hz, fun i n hi => by omega⟩
  refine ⟨_, h2, ?_, e1.trans x2, _, cells, rfl, o2⟩
  rw [c58, e58, x.len, Option.bind_some, hZ]
  simp only [asI, if_true, Option.bind_some]
  rw [mk_some _ _ _ _ _ (by omega) (by omega), Option.bind_some]
  exact c2
theorem KOwn.keep {b : Nat} {h h' : AHeap} {v : Value} {ns : List Kn} {e : TypeId} (x : KOwn b h v ns) (he : (3 : TypeId) ≠ e) (he2 : (73 : TypeId) ≠ e) (k : ∀ j o, h.at? j = some o → o.elem ≠ e → h'.at? j = some o) : KOwn b h' v ns := by
  obtain ⟨r, cs, h1, ⟨rt, ep, h2, h2'⟩, h3, h4⟩ := x
  exact ⟨r, cs, h1, ⟨rt, ep, k r _ h2 he2, h2'⟩, h3, fun i n hi hn => let ⟨kv, a, b⟩ := h4 i n hi hn; ⟨kv, a, b.keep he k⟩⟩
theorem KOwn.mono {b c : Nat} {h : AHeap} {v : Value} {ns : List Kn} (x : KOwn b h v ns) (hc : c ≤ b) : KOwn c h v ns := by
  obtain ⟨r, cs, h1, h2, h3, h4⟩ := x
  exact ⟨r, cs, h1, h2.mono hc, h3, fun i n hi hn => let ⟨kv, a, b⟩ := h4 i n hi hn; ⟨kv, a, b.mono hc⟩⟩
theorem l21 {d c : Nat} (hd : 1048577 < d) {nv : Value} {ns : List Kn} {top : Int} {h : AHeap} (x : KSl c h nv ns) (hc : c ≤ h.size) (hl : ns.length ≤ 1048576) (hN : ∀ n ∈ ns, n.t.size ≤ 1048576 ∧ n.ks.length ≤ 1048576) :
    ∃ nv' h', call Try.prog Ms (d + 4) 21 [trVal nv top] h = some (trVal nv' top, h') ∧ Ext h.size h h' ∧ KOwn h.size h' nv' ns := by
  have e1 := Ext.new (Nat.le_refl h.size) 30 [nv, .int .i64 top]
  have r1 := (Own.new (b := h.size) (Nat.le_refl _) 30 [nv, .int .i64 top]).row
  have s1 : (h.new 30 [nv, .int .i64 top]).size = h.size + 1 := rfl
  rw [c21, e21, tr_aCells x, Option.bind_some]
  simp only [aNew]
  generalize h.new 30 [nv, .int .i64 top] = h1 at e1 r1 s1 ⊢
  have e2 := Ext.new (Nat.le_refl h1.size) 35 [.slice none 0 0, .int .i64 0]
  have o2 := Own.new (Nat.le_refl h1.size) 35 [.slice none 0 0, .int .i64 0]
  have s2 : (h1.new 35 [.slice none 0 0, .int .i64 0]).size = h1.size + 1 := rfl
  generalize h1.new 35 [.slice none 0 0, .int .i64 0] = h2 at e2 o2 s2 ⊢
  have e3 := Ext.new (Nat.le_refl h2.size) 35 [.slice none 0 0, .int .i64 0]
  have o3 := Own.new (Nat.le_refl h2.size) 35 [.slice none 0 0, .int .i64 0]
  have s3 : (h2.new 35 [.slice none 0 0, .int .i64 0]).size = h2.size + 1 := rfl
  generalize h2.new 35 [.slice none 0 0, .int .i64 0] = h3 at e3 o3 s3 ⊢
  have r3 := (r1.ext e2 (by omega)).ext e3 (by omega)
  have E3 : Ext c h h3 := ((e1.mono hc).trans (e2.mono (by omega))).trans (e3.mono (by omega))
  obtain ⟨nv', h4, c4, e4, k4⟩ := l58 hd (x.ext E3) (by omega) hl hN
  have s4 := e4.size
  have r4 := r3.ext e4 (by omega)
  obtain ⟨h5, t5, e5, o5, s5, q5⟩ := Own.stX (o3.ext e4 (by omega)) (off := 0) (n := 1) (v := nv') (aCells_one k4.ksl.cell.1) rfl (by show 0 + 1 ≤ 2; omega)
  have k5 := k4.keep (e := 35) (by decide) (by decide) q5
  have r5 := r4.ext e5 (by omega)
  obtain ⟨h6, t6, e6, o6, s6, q6⟩ := Own.stX o5 (off := 1) (n := 1) (v := .int .i64 top) rfl rfl (by show 1 + 1 ≤ 2; omega)
  have k6 := k5.keep (e := 35) (by decide) (by decide) q6
  have r6 : Row h6 h2.size [nv', .int .i64 top] := o6.row
  have w2 := (((o2.ext e3 (by omega)).ext e4 (by omega)).ext e5 (by omega)).ext e6 (by omega)
  obtain ⟨h7, t7, e7, o7, s7, q7⟩ := Own.stX w2 (off := 0) (n := 2) (v := trVal nv' top) (tr_aCells k6.ksl top) rfl (by show 0 + 2 ≤ 2; omega)
  have k7 := k6.keep (e := 35) (by decide) (by decide) q7
  have r7 : Row h7 h1.size [nv', .int .i64 top] := o7.row
  refine ⟨nv', h7, ?_, ?_, k7.mono (by omega)⟩
  · obtain ⟨a0, _, _⟩ := ld2 r3
    obtain ⟨_, a1, _⟩ := ld2 r5
    obtain ⟨_, _, a6⟩ := ld2 r6
    obtain ⟨_, _, a7⟩ := ld2 r7
    have a6' : aLdN h6 (ptr h2.size 0) 2 = some (trVal nv' top) := a6
    have a7' : aLdN h7 (ptr h1.size 0) 2 = some (trVal nv' top) := a7
    simp only [aOff_ptr, Nat.zero_add, Option.bind_some, a0]
    rw [c4, Option.bind_some]
    simp only [t5, Option.bind_some, a1, asI, if_true, t6, a6', t7, a7']
  · exact e1.trans ((e2.mono (by omega)).trans ((e3.mono (by omega)).trans ((e4.mono (by omega)).trans ((e5.mono (by omega)).trans ((e6.mono (by omega)).trans (e7.mono (by omega)))))))
end Go.Proofs.Ytadmoackacickaa
/- Trees: what is alike. -/
set_option linter.unusedSimpArgs false
namespace Go.Proofs.Ytadmoackacickaa
open Go Go.AH

theorem eqI_loop {d N c c' : Nat} {v v' : Value} {xs : List Int} {h : AHeap} (hl : xs.length ≤ 1048576) (x : ISl c h v xs) (x' : ISl c' h v' xs) : ∀ (k j m : Nat), xs.length - j = k → j ≤ xs.length → k < m →
    s32_0 hk0 (call Try.prog Ms d) N m v v' (j : Int) h = some (.bool true, h) := by
  intro k
  induction k with
  | zero =>
    intro j m hk hj hm
    obtain ⟨m, rfl⟩ : ∃ q, m = q + 1 := ⟨m - 1, by omega⟩
    have : ¬ ((j : Int) < (xs.length : Int)) := by omega
    rw [s32_0_eq, x.len, Option.bind_some]
    simp only [asI, if_true, Option.bind_some, decide_eq_false this, cond_false]
  | succ k ih =>
    intro j m hk hj hm
    obtain ⟨m, rfl⟩ : ∃ q, m = q + 1 := ⟨m - 1, by omega⟩
    have hlt : j < xs.length := by omega
    have hI : ((j : Int) < (xs.length : Int)) := by omega
    obtain ⟨p, e1, e2⟩ := x.at hlt
    obtain ⟨p', e1', e2'⟩ := x'.at hlt
    have wj : IntKind.i64.wrap ((j : Int) + 1) = ((j + 1 : Nat) : Int) := by rw [wr (by omega) (by omega)]; omega
    rw [s32_0_eq, x.len, Option.bind_some]
    simp only [asI, if_true, Option.bind_some, decide_eq_true hI, cond_true, e1, e2, e1', e2', wj]
    rw [bne_self_eq_false, cond_false]
    exact ih (j + 1) m (by omega) (by omega) (by omega)
theorem l32 {d c c' : Nat} (hd : 1048577 < d) {v v' : Value} {xs : List Int} {h : AHeap} (hl : xs.length ≤ 1048576) (x : ISl c h v xs) (x' : ISl c' h v' xs) : call Try.prog Ms (d + 1) 32 [v, v'] h = some (.bool true, h) := by
  rw [c32, e32, x.len, Option.bind_some]
  simp only [asI, if_true, Option.bind_some, x'.len]
  rw [bne_self_eq_false, cond_false]
  exact eqI_loop hl x x' xs.length 0 d (by omega) (by omega) (by omega)
theorem l106 {d c : Nat} (hd : 1048577 < d) {kv kv' : Value} {n : Kn} {h : AHeap} (x : ISl c h kv n.ks) (x' : ISl c h kv' n.ks) (hc : c ≤ h.size) (hl : n.ks.length ≤ 1048576) :
    ∃ h', call Try.prog Ms (d + 2) 106 [knVal n kv, knVal n kv'] h = some (.bool true, h') ∧ Ext h.size h h' := by
  have e1 := Ext.new (Nat.le_refl h.size) 73 (knCells n kv)
  have r1 : Row (h.new 73 (knCells n kv)) h.size [.int .i64 n.k, .string n.t, .int .i64 n.i, kv] := (Own.new (b := h.size) (Nat.le_refl _) 73 (knCells n kv)).row
  have s1 : (h.new 73 (knCells n kv)).size = h.size + 1 := rfl
  rw [c106, e106, kn_aCells x, Option.bind_some]
  simp only [aNew]
  generalize h.new 73 (knCells n kv) = h1 at e1 r1 s1 ⊢
  have e2 := Ext.new (Nat.le_refl h1.size) 73 (knCells n kv')
  have r2 : Row (h1.new 73 (knCells n kv')) h1.size [.int .i64 n.k, .string n.t, .int .i64 n.i, kv'] := (Own.new (b := h1.size) (Nat.le_refl _) 73 (knCells n kv')).row
  have s2 : (h1.new 73 (knCells n kv')).size = h1.size + 1 := rfl
  rw [kn_aCells x', Option.bind_some]
  generalize h1.new 73 (knCells n kv') = h2 at e2 r2 s2 ⊢
  obtain ⟨a0, a1, a2, a3, _⟩ := ld4 (r1.ext e2 (by omega))
  obtain ⟨b0, b1, b2, b3, _⟩ := ld4 r2
  have E : Ext h.size h h2 := e1.trans (e2.mono (by omega))
  have c3 := l32 hd hl (x.ext (E.mono hc)) (x'.ext (E.mono hc))
  refine ⟨h2, ?_, E⟩
  simp only [aOff_ptr, Nat.zero_add, Option.bind_some, asI, asS, if_true, a0, a1, a2, a3, b0, b1, b2, b3]
  rw [bne_self_eq_false, cond_false, beq_self_eq_true, Bool.not_true, cond_false, bne_self_eq_false, cond_false, c3, Option.bind_some]
  rfl
theorem eqK_loop {d N c : Nat} (hd : 1048577 < d) {v v' : Value} {ns : List Kn} (hl : ns.length ≤ 1048576) (hN : ∀ n ∈ ns, n.t.size ≤ 1048576 ∧ n.ks.length ≤ 1048576) : ∀ (k j m : Nat) (h : AHeap), ns.length - j = k → j ≤ ns.length → k < m → KSl c h v ns → KSl c h v' ns → c ≤ h.size →
    ∃ h', s61_0 hk0 (call Try.prog Ms (d + 2)) N m v v' (j : Int) h = some (.bool true, h') ∧ Ext h.size h h' := by
  intro k
  induction k with
  | zero =>
    intro j m h hk hj hm x x' hc
    obtain ⟨m, rfl⟩ : ∃ q, m = q + 1 := ⟨m - 1, by omega⟩
    have : ¬ ((j : Int) < (ns.length : Int)) := by omega
    refine ⟨h, ?_, Ext.refl _ _⟩
    rw [s61_0_eq, x.len, Option.bind_some]
    simp only [asI, if_true, Option.bind_some, decide_eq_false this, cond_false]
  | succ k ih =>
    intro j m h hk hj hm x x' hc
    obtain ⟨m, rfl⟩ : ∃ q, m = q + 1 := ⟨m - 1, by omega⟩
    have hlt : j < ns.length := by omega
    have hI : ((j : Int) < (ns.length : Int)) := by omega
    obtain ⟨i, kv, e1, e2, e3⟩ := x.at hlt
    obtain ⟨e4, _⟩ := e3 h (Ext.refl _ _)
    obtain ⟨i', kv', e1', e2', e3'⟩ := x'.at hlt
    obtain ⟨e4', _⟩ := e3' h (Ext.refl _ _)
    obtain ⟨h2, c2, x2⟩ := l106 hd e2 e2' hc (hN ns[j] (List.getElem_mem hlt)).2
    have wj : IntKind.i64.wrap ((j : Int) + 1) = ((j + 1 : Nat) : Int) := by rw [wr (by omega) (by omega)]; omega
    obtain ⟨h3, c3, x3⟩ := ih (j + 1) m h2 (by omega) (by omega) (by omega) (x.ext (x2.mono hc)) (x'.ext (x2.mono hc)) (Nat.le_trans hc x2.size)
    refine ⟨h3, ?_, x2.trans (x3.mono x2.size)⟩
    rw [s61_0_eq, x.len, Option.bind_some]
    simp only [asI, if_true, Option.bind_some, decide_eq_true hI, cond_true, e1, e4, e1', e4', wj]
    rw [c2, Option.bind_some]
    simp only [asB, Option.bind_some, Bool.not_true, cond_false]
    exact c3
theorem l23 {d c : Nat} (hd : 1048577 < d) {nv nv' : Value} {ns : List Kn} {top : Int} {h : AHeap} (x : KSl c h nv ns) (x' : KSl c h nv' ns) (hc : c ≤ h.size) (hl : ns.length ≤ 1048576) (hN : ∀ n ∈ ns, n.t.size ≤ 1048576 ∧ n.ks.length ≤ 1048576) :
    ∃ h', call Try.prog Ms (d + 4) 23 [trVal nv top, trVal nv' top] h = some (.bool true, h') ∧ Ext h.size h h' := by
  have e1 := Ext.new (Nat.le_refl h.size) 35 [nv, .int .i64 top]
  have r1 := (Own.new (b := h.size) (Nat.le_refl _) 35 [nv, .int .i64 top]).row
  have s1 : (h.new 35 [nv, .int .i64 top]).size = h.size + 1 := rfl
  rw [c23, e23, tr_aCells x, Option.bind_some]
  simp only [aNew]
  generalize h.new 35 [nv, .int .i64 top] = h1 at e1 r1 s1 ⊢
  have e2 := Ext.new (Nat.le_refl h1.size) 35 [nv', .int .i64 top]
  have r2 := (Own.new (b := h1.size) (Nat.le_refl _) 35 [nv', .int .i64 top]).row
  have s2 : (h1.new 35 [nv', .int .i64 top]).size = h1.size + 1 := rfl
  rw [tr_aCells x', Option.bind_some]
  generalize h1.new 35 [nv', .int .i64 top] = h2 at e2 r2 s2 ⊢
  have r1' := r1.ext e2 (by omega)
  obtain ⟨a0, _, _⟩ := ld2 r1'
  obtain ⟨b0, _, _⟩ := ld2 r2
  have E : Ext h.size h h2 := e1.trans (e2.mono (by omega))
  obtain ⟨h3, c3, x3⟩ := eqK_loop (d := d) (N := d + 2) hd hl hN ns.length 0 (d + 2) h2 (by omega) (by omega) (by omega) (x.ext (E.mono hc)) (x'.ext (E.mono hc)) (Nat.le_trans hc E.size)
  obtain ⟨_, a1, _⟩ := ld2 (r1'.ext x3 (by omega))
  obtain ⟨_, b1, _⟩ := ld2 (r2.ext x3 (by omega))
  have c61' : call Try.prog Ms (d + 3) 61 [nv, nv'] h2 = some (.bool true, h3) := by
    rw [c61, e61, x.len, Option.bind_some]
    simp only [asI, if_true, Option.bind_some, x'.len]
    rw [bne_self_eq_false, cond_false]
    exact c3
  refine ⟨h3, ?_, E.trans (x3.mono E.size)⟩
  simp only [aOff_ptr, Nat.zero_add, Option.bind_some, a0, b0]
  rw [c61', Option.bind_some]
  simp only [asB, Option.bind_some, Bool.not_true, cond_false, a1, b1, asI, if_true]
  rw [bne_self_eq_false, cond_false]
end Go.Proofs.Ytadmoackacickaa
/- The reference's looks at a node. -/
set_option linter.unusedSimpArgs false
namespace Go.Proofs.Ytadmoackacickaa
open Go Go.AH

def inR (x a b : Int) : Bool := decide (a ≤ x) && decide (x ≤ b)
theorem l98 (d : Nat) (x a b : Int) (h : AHeap) : call Try.prog Ms (d + 1) 98 [.int .i64 x, .int .i64 a, .int .i64 b] h = some (.bool (inR x a b), h) := by
  rw [c98, e98]; unfold inR
  by_cases h1 : a ≤ x
  · have : x ≥ a := h1
    rw [decide_eq_true this, cond_true]; rfl
  · have : ¬ x ≥ a := h1
    rw [decide_eq_false this, cond_false]; rfl
theorem l103 (d : Nat) (x a b : Int) (h : AHeap) : call Try.prog Ms (d + 1) 103 [.int .i64 x, .int .i64 a, .int .i64 b] h = some (.bool (inR x a b), h) := by
  rw [c103, e103]; unfold inR
  by_cases h1 : a ≤ x
  · have : x ≥ a := h1
    rw [decide_eq_true this, cond_true]; rfl
  · have : ¬ x ≥ a := h1
    rw [decide_eq_false this, cond_false]; rfl
def cls (k : Int) : Int := if inR k 1 13 = true then 1 else if inR k 14 20 = true then 2 else if k = 21 then 3 else if k = 22 then 4 else if k = 23 ∨ k = 24 then 5 else 0
theorem cond_pass {α : Type} (b : Bool) (f : Bool → α) : (bif b then f true else f b) = f b := by cases b <;> rfl
theorem cond_ge (x a b : Int) (f : Bool → Option (Value × AHeap)) : (bif decide (x ≥ a) then f (decide (x ≤ b)) else f false) = f (inR x a b) := by
  unfold inR
  by_cases h1 : a ≤ x
  · have : x ≥ a := h1
    rw [decide_eq_true this, cond_true]; rfl
  · have : ¬ x ≥ a := h1
    rw [decide_eq_false this, cond_false]; rfl
theorem l99 (d : Nat) (k : Int) (h : AHeap) : call Try.prog Ms (d + 1) 99 [.int .i64 k] h = some (.int .i64 (cls k), h) := by
  rw [c99, e99]
  rw [cond_ge k 1 13 (fun b => s99_0 hk0 (call Try.prog Ms d) d k b h), s99_0_j, s99_0_eq, cond_ge k 14 20 (fun b => s99_1 hk0 (call Try.prog Ms d) d k b h), s99_1_j, s99_1_eq]
  unfold cls
  cases inR k 1 13 with
  | true => rfl
  | false =>
    cases inR k 14 20 with
    | true => rfl
    | false =>
      simp only [cond_false, if_false, Bool.false_eq_true]
      by_cases h1 : k = 21
      · subst h1; rfl
      · rw [beq_eq_false_iff_ne.2 h1, cond_false, if_neg h1]
        by_cases h2 : k = 22
        · subst h2; rfl
        · rw [beq_eq_false_iff_ne.2 h2, cond_false, if_neg h2]
          by_cases h3 : k = 23
          · subst h3; rw [if_pos (.inl rfl), show ((23 : Int) == 23) = true from rfl, cond_true, s99_2_j, s99_2_eq]; rfl
          · rw [beq_eq_false_iff_ne.2 h3, cond_false, s99_2_j, s99_2_eq]
            by_cases h4 : k = 24
            · subst h4; rfl
            · rw [beq_eq_false_iff_ne.2 h4, if_neg (fun x => x.elim h3 h4)]; rfl
theorem IOwn.push {b : Nat} {h : AHeap} {v : Value} {xs : List Int} (x : IOwn b h v xs) (hb : b ≤ h.size) (hl : xs.length ≤ 2000000) (y : Int) :
    ∃ v' h', aApp (h.new 3 [.int .i64 y]) 3 1 8 v (slc h.size 0 1) = some (v', h') ∧ Ext b h h' ∧ IOwn b h' v' (xs ++ [y]) := by
  obtain ⟨r, rfl, o⟩ := x
  have e := Ext.new (Nat.le_refl h.size) 3 [Value.int .i64 y]
  have w := (Own.new (b := 0) (Nat.zero_le h.size) 3 [Value.int .i64 y]).row
  have hS : (h.new 3 [Value.int .i64 y]).size = h.size + 1 := rfl
  have hsrc : aSrc (h.new 3 [Value.int .i64 y]) 1 (slc h.size 0 1) = some (1, [Value.int .i64 y]) := w.src (n := 1) (esz := 1) (by show 0 + 1 * 1 ≤ 1; omega)
  obtain ⟨h', s1, x1, o1, _⟩ := (o.ext e o.lt.2).app (n := xs.length) (bytes := 8) (esz := 1) (by omega) hsrc (by simp [ints]) (by show xs.length + 1 ≤ 140737488355328; omega) (by show (xs.length + 1) * 8 ≤ 140737488355328; omega)
  refine ⟨_, h', s1, (e.mono hb).trans x1, (h.new 3 [Value.int .i64 y]).size, by simp, ?_⟩
  rw [show ints (xs ++ [y]) = ints xs ++ [.int .i64 y] by simp [ints]]
  exact o1
theorem IOwn.newS {b : Nat} {h : AHeap} (hb : b ≤ h.size) (xs : List Int) : IOwn b (h.new 3 (ints xs)) (slc h.size 0 xs.length) xs := ⟨h.size, rfl, Own.new hb 3 (ints xs)⟩
theorem IOwn.len {b : Nat} {h : AHeap} {v : Value} {xs : List Int} (x : IOwn b h v xs) : aLen v = some (.int .i64 xs.length) := x.isl.len
theorem IOwn.s2 {b : Nat} {h : AHeap} {v : Value} {xs : List Int} (x : IOwn b h v xs) (t : Bool) : List.all [v, .bool t] isS2 = true := by obtain ⟨r, rfl, _⟩ := x; rfl
/-- What l9Shape tells. -/
def Is100 (b : Nat) (h : AHeap) (r : Option (Value × AHeap)) (m : Nat) (xs : List Int) : Prop :=
  ∃ v h', r = some (.tuple (List.toArray [v, .bool ((xs.length : Int) == (m : Int))]), h') ∧ Ext b h h' ∧ IOwn b h' v xs
theorem Is100.of {b : Nat} {h h1 : AHeap} {r : Option (Value × AHeap)} {m : Nat} {xs : List Int} (x : Ext b h h1) (y : Is100 b h1 r m xs) : Is100 b h r m xs := let ⟨v, h', h1, h2, h3⟩ := y; ⟨v, h', h1, x.trans h2, h3⟩
theorem shp0 {C : ACall} {N b m : Nat} {v : Value} {xs : List Int} {h : AHeap} (x : IOwn b h v xs) (hN : 0 < N) : Is100 b h (s100_4 hk0 C N (m : Int) v 0 h) m xs := by
  obtain ⟨N, rfl⟩ : ∃ q, N = q + 1 := ⟨N - 1, by omega⟩
  rw [s100_4_j, s100_4_eq, s100_5_eq]
  have e : ((0 : Int) != 0) = false := rfl
  rw [e, cond_false, x.len, Option.bind_some]
  simp only [asI, if_true, Option.bind_some, x.s2, cond_true, Bool.cond_self]
  exact ⟨v, h, rfl, Ext.refl _ _, x⟩
theorem shpAll {C : ACall} {N b m : Nat} {all : Int} (ha : all ≠ 0) (hm : m ≤ 1048576) : ∀ (k j n1 : Nat) (v : Value) (xs : List Int) (h : AHeap), m - j = k → j ≤ m → k < n1 → b ≤ h.size → xs.length = j → IOwn b h v xs →
    Is100 b h (s100_5 hk0 C N n1 (m : Int) v all (j : Int) h) m (xs ++ List.replicate k all) := by
  intro k
  induction k with
  | zero =>
    intro j n1 v xs h hk hj hn hb hx x
    obtain ⟨n1, rfl⟩ : ∃ q, n1 = q + 1 := ⟨n1 - 1, by omega⟩
    have : ¬ ((j : Int) < (m : Int)) := by omega
    rw [s100_5_eq, decide_eq_false this, cond_false, x.len, Option.bind_some]
    simp only [asI, if_true, Option.bind_some, x.s2, cond_true, List.replicate_zero, List.append_nil]
    exact ⟨v, h, rfl, Ext.refl _ _, x⟩
  | succ k ih =>
    intro j n1 v xs h hk hj hn hb hx x
    obtain ⟨n1, rfl⟩ : ∃ q, n1 = q + 1 := ⟨n1 - 1, by omega⟩
    have hI : ((j : Int) < (m : Int)) := by omega
    have hne : (all != 0) = true := by simp [ha]
    have wj : IntKind.i64.wrap ((j : Int) + 1) = ((j + 1 : Nat) : Int) := by rw [wr (by omega) (by omega)]; omega
    obtain ⟨v', h', c, x1, o⟩ := x.push hb (by omega) all
    rw [s100_5_eq, decide_eq_true hI, cond_true, hne, cond_true, s100_6_j, s100_6_eq]
    simp only [aNewS]
    rw [c, Option.bind_some, wj]
    have := ih (j + 1) n1 v' (xs ++ [all]) h' (by omega) (by omega) (by omega) (Nat.le_trans hb x1.size) (by simp [hx]) o
    rw [List.append_assoc] at this
    exact Is100.of x1 this
theorem shpFn {C : ACall} {N b m : Nat} (hm : m ≤ 1048576) (hN : 0 < N) : ∀ (k n1 : Nat) (v : Value) (xs : List Int) (h : AHeap), m - 1 - xs.length = k → k < n1 → b ≤ h.size → xs.length ≤ m → IOwn b h v xs →
    Is100 b h (s100_0 hk0 C N n1 (m : Int) v 0 h) m (xs ++ List.replicate k 4 ++ [3]) := by
  intro k
  induction k with
  | zero =>
    intro n1 v xs h hk hn hb hx x
    obtain ⟨n1, rfl⟩ : ∃ q, n1 = q + 1 := ⟨n1 - 1, by omega⟩
    have w : IntKind.i64.wrap ((xs.length : Int) + 1) = (xs.length : Int) + 1 := wr (by omega) (by omega)
    have : ¬ ((xs.length : Int) + 1 < (m : Int)) := by omega
    obtain ⟨v', h', c, x1, o⟩ := x.push hb (by omega) 3
    rw [s100_0_eq, x.len, Option.bind_some]
    simp only [asI, if_true, Option.bind_some, w, decide_eq_false this, cond_false, aNewS]
    rw [c, Option.bind_some]
    exact Is100.of x1 (by simpa using shp0 (C := C) o hN)
  | succ k ih =>
    intro n1 v xs h hk hn hb hx x
    obtain ⟨n1, rfl⟩ : ∃ q, n1 = q + 1 := ⟨n1 - 1, by omega⟩
    have w : IntKind.i64.wrap ((xs.length : Int) + 1) = (xs.length : Int) + 1 := wr (by omega) (by omega)
    have : ((xs.length : Int) + 1 < (m : Int)) := by omega
    obtain ⟨v', h', c, x1, o⟩ := x.push hb (by omega) 4
    rw [s100_0_eq, x.len, Option.bind_some]
    simp only [asI, if_true, Option.bind_some, w, decide_eq_true this, cond_true, aNewS]
    rw [c, Option.bind_some]
    have := ih n1 v' (xs ++ [4]) h' (by simp; omega) (by omega) (Nat.le_trans hb x1.size) (by simp; omega) o
    rw [List.append_assoc xs [4]] at this
    exact Is100.of x1 this
theorem shpCall {C : ACall} {N b m : Nat} (hm : m ≤ 1048576) (hN : 0 < N) : ∀ (k n1 : Nat) (v : Value) (xs : List Int) (h : AHeap), m - xs.length = k → k < n1 → b ≤ h.size → IOwn b h v xs → xs.length ≤ 1048576 →
    Is100 b h (s100_2 hk0 C N n1 (m : Int) v 0 h) m (xs ++ List.replicate k 1) := by
  intro k
  induction k with
  | zero =>
    intro n1 v xs h hk hn hb x hx
    obtain ⟨n1, rfl⟩ : ∃ q, n1 = q + 1 := ⟨n1 - 1, by omega⟩
    have : ¬ ((xs.length : Int) < (m : Int)) := by omega
    rw [s100_2_eq, x.len, Option.bind_some]
    simp only [asI, if_true, Option.bind_some, decide_eq_false this, cond_false, List.replicate_zero, List.append_nil]
    exact shp0 x hN
  | succ k ih =>
    intro n1 v xs h hk hn hb x hx
    obtain ⟨n1, rfl⟩ : ∃ q, n1 = q + 1 := ⟨n1 - 1, by omega⟩
    have : ((xs.length : Int) < (m : Int)) := by omega
    obtain ⟨v', h', c, x1, o⟩ := x.push hb (by omega) 1
    rw [s100_2_eq, x.len, Option.bind_some]
    simp only [asI, if_true, Option.bind_some, decide_eq_true this, cond_true, aNewS]
    rw [c, Option.bind_some]
    have := ih n1 v' (xs ++ [1]) h' (by simp; omega) (by omega) (Nat.le_trans hb x1.size) o (by simp; omega)
    rw [List.append_assoc] at this
    exact Is100.of x1 this
def two2 (k : Int) : Bool := k == 8 || (k == 10 || (k == 12 || (k == 13 || k == 24)))
def one1 (k : Int) : Bool := k == 11 || (k == 14 || (k == 15 || (k == 19 || k == 23)))
/-- The classes that kids must have. -/
def shape (k : Int) (m : Nat) : List Int :=
  if k = 6 then List.replicate (m - 1) 4 ++ [3]
  else if k = 7 then List.replicate m 5
  else if two2 k = true then [1, 1]
  else if k = 9 then [1] ++ List.replicate (m - 1) 1
  else if one1 k = true then [1]
  else if k = 16 then [1, 1, 1]
  else if k = 17 then (if m = 3 then [1, 3, 3] else [1, 3])
  else if k = 18 then [1, 3]
  else if k = 20 then [6]
  else if k = 21 then List.replicate m 2
  else []
theorem cond_pass2 {α : Type} {b c : Bool} (f : Bool → α) (y : α) (hy : y = f c) : (bif b then f b else y) = f (b || c) := by cases b <;> simp [hy]
theorem shpLit {C : ACall} {N b m : Nat} {h : AHeap} (hb : b ≤ h.size) (hN : 0 < N) (xs : List Int) : Is100 b h (s100_4 hk0 C N (m : Int) (slc h.size 0 xs.length) 0 (h.new 3 (ints xs))) m xs :=
  Is100.of (Ext.new hb 3 (ints xs)) (shp0 (IOwn.newS hb xs) hN)
theorem l100 {d c : Nat} (hd : 1048577 < d) {kv : Value} {n : Kn} {h : AHeap} (x : ISl c h kv n.ks) (hl : n.ks.length ≤ 1048576) :
    Is100 h.size h (call Try.prog Ms (d + 1) 100 [knVal n kv] h) n.ks.length (shape n.k n.ks.length) := by
  have e1 := Ext.new (Nat.le_refl h.size) 73 (knCells n kv)
  have r1 : Row (h.new 73 (knCells n kv)) h.size [.int .i64 n.k, .string n.t, .int .i64 n.i, kv] := (Own.new (b := h.size) (Nat.le_refl _) 73 (knCells n kv)).row
  have s1 : (h.new 73 (knCells n kv)).size = h.size + 1 := rfl
  rw [c100, e100, kn_aCells x, Option.bind_some]
  simp only [aNew]
  generalize h.new 73 (knCells n kv) = h1 at e1 r1 s1 ⊢
  obtain ⟨_, _, _, a3, _⟩ := ld4 r1
  have e2 := Ext.new (Nat.le_refl h1.size) 3 (ints [])
  have i2 := IOwn.newS (b := h.size) (h := h1) (by omega) []
  have s2 : (h1.new 3 (ints [])).size = h1.size + 1 := rfl
  have hnil : ([] : List Value) = ints [] := rfl
  obtain ⟨b0, _, _, _, _⟩ := ld4 (r1.ext e2 (by omega))
  refine Is100.of (e1.trans (e2.mono (by omega))) ?_
  simp only [aOff_ptr, Nat.zero_add, Option.bind_some, a3, x.len, asI, if_true, aNewS, hnil, b0]
  generalize h1.new 3 (ints []) = h2 at i2 s2 ⊢
  generalize hm : n.ks.length = m at hl ⊢
  generalize n.k = k
  unfold shape
  have hb : h.size ≤ h2.size := by omega
  by_cases k6 : k = 6
  · subst k6
    rw [if_pos rfl, show ((6 : Int) == 6) = true from rfl, cond_true]
    exact shpFn (C := call Try.prog Ms d) (N := d) (b := h.size) hl (by omega) (m - 1) d _ [] h2 (by simp) (by omega) hb (by simp) i2
  rw [beq_eq_false_iff_ne.2 k6, cond_false, if_neg k6]
  by_cases k7 : k = 7
  · subst k7
    rw [if_pos rfl, show ((7 : Int) == 7) = true from rfl, cond_true, s100_4_j, s100_4_eq]
    exact shpAll (C := call Try.prog Ms d) (N := d) (b := h.size) (by decide) hl m 0 d _ [] h2 (by omega) (by omega) (by omega) hb rfl i2
  rw [beq_eq_false_iff_ne.2 k7, cond_false, if_neg k7]
  have E : ∀ f : Bool → Option (Value × AHeap), (bif k == 8 then f (k == 8) else bif k == 10 then f (k == 10) else bif k == 12 then f (k == 12) else bif k == 13 then f (k == 13) else f (k == 24)) = f (two2 k) := by
    intro f; unfold two2
    cases (k == 8) <;> cases (k == 10) <;> cases (k == 12) <;> cases (k == 13) <;> rfl
  have E1 : ∀ f : Bool → Option (Value × AHeap), (bif k == 11 then f (k == 11) else bif k == 14 then f (k == 14) else bif k == 15 then f (k == 15) else bif k == 19 then f (k == 19) else f (k == 23)) = f (one1 k) := by
    intro f; unfold one1
    cases (k == 11) <;> cases (k == 14) <;> cases (k == 15) <;> cases (k == 19) <;> rfl
  rw [E (fun t => s100_1 hk0 (call Try.prog Ms d) d (m : Int) (slc h1.size 0 0) 0 k t h2), s100_1_j, s100_1_eq]
  have hN : 0 < d := by omega
  cases two2 k with
  | true => rw [cond_true, if_pos rfl]; exact shpLit hb hN [1, 1]
  | false =>
    rw [cond_false, if_neg (by simp)]
    by_cases k9 : k = 9
    · subst k9
      rw [if_pos rfl, show ((9 : Int) == 9) = true from rfl, cond_true]
      exact Is100.of (Ext.new hb 3 (ints [1])) (shpCall (C := call Try.prog Ms d) (N := d) hl hN (m - 1) d _ [1] _ (by simp) (by omega) (by simp [AHeap.new]; omega) (IOwn.newS hb [1]) (by simp))
    rw [beq_eq_false_iff_ne.2 k9, cond_false, if_neg k9, E1 (fun t => s100_3 hk0 (call Try.prog Ms d) d (m : Int) (slc h1.size 0 0) 0 k t h2), s100_3_j, s100_3_eq]
    cases one1 k with
    | true => rw [cond_true, if_pos rfl]; exact shpLit hb hN [1]
    | false =>
      rw [cond_false, if_neg (by simp)]
      by_cases k16 : k = 16
      · subst k16
        rw [if_pos rfl, show ((16 : Int) == 16) = true from rfl, cond_true]; exact shpLit hb hN [1, 1, 1]
      rw [beq_eq_false_iff_ne.2 k16, cond_false, if_neg k16]
      by_cases k17 : k = 17
      · subst k17
        rw [if_pos rfl, show ((17 : Int) == 17) = true from rfl, cond_true]
        by_cases m3 : m = 3
        · have : ((m : Int) == 3) = true := by simp [m3]
          rw [if_pos m3, this]
          simp only [cond_true, aNewS]
          exact Is100.of (Ext.new hb 3 (ints [1, 3])) (shpLit (by simp [AHeap.new]; omega) hN [1, 3, 3])
        · have : ((m : Int) == 3) = false := by rw [beq_eq_false_iff_ne]; omega
          rw [if_neg m3, this]
          simp only [cond_false]
          exact shpLit hb hN [1, 3]
      rw [beq_eq_false_iff_ne.2 k17, cond_false, if_neg k17]
      by_cases k18 : k = 18
      · subst k18
        rw [if_pos rfl, show ((18 : Int) == 18) = true from rfl, cond_true]; exact shpLit hb hN [1, 3]
      rw [beq_eq_false_iff_ne.2 k18, cond_false, if_neg k18]
      by_cases k20 : k = 20
      · subst k20
        rw [if_pos rfl, show ((20 : Int) == 20) = true from rfl, cond_true]; exact shpLit hb hN [6]
      rw [beq_eq_false_iff_ne.2 k20, cond_false, if_neg k20]
      by_cases k21 : k = 21
      · subst k21
        rw [if_pos rfl, show ((21 : Int) == 21) = true from rfl, cond_true, s100_4_j, s100_4_eq]
        exact shpAll (C := call Try.prog Ms d) (N := d) (b := h.size) (by decide) hl m 0 d _ [] h2 (by omega) (by omega) (by omega) hb rfl i2
      rw [beq_eq_false_iff_ne.2 k21, cond_false, if_neg k21]
      exact shp0 i2 hN
/-- What stands in a node. -/
def emp (t : ByteArray) : Bool := t.toList == (⟨#[]⟩ : ByteArray).toList
def nameP (t : ByteArray) : Bool := inR (t.size : Int) 1 12 && (!isWd t && decide (endOf isLet t 0 = t.size))
def textP (t : ByteArray) : Bool := decide ((t.size : Int) ≤ 160) && decide (endOf isPln t 0 = t.size)
def nm4 (k : Int) : Bool := k == 5 || (k == 14 || (k == 15 || k == 22))
def hasP (n : Kn) : Bool :=
  if nm4 n.k = true then nameP n.t && n.i == 0
  else if n.k = 4 then textP n.t && n.i == 0
  else emp n.t && (if n.k = 2 then inR n.i 0 1 else if n.k = 3 then inR n.i 0 999999999999999 else if n.k = 10 then inR n.i 1 10 else if n.k = 11 then inR n.i 1 3 else n.i == 0)
theorem l145 {d : Nat} (hd : 1048577 < d) (t : ByteArray) (ht : t.size ≤ 1048576) (h : AHeap) : ∃ h', call Try.prog Ms (d + 3) 145 [.string t] h = some (.bool (nameP t), h') ∧ Ext h.size h h' := by
  rw [c145, e145]
  have c1 : call Try.prog Ms (d + 2) 98 [.int .i64 (t.size : Int), .int .i64 1, .int .i64 12] h = some (.bool (inR (t.size : Int) 1 12), h) := l98 (d + 1) _ _ _ _
  rw [c1, Option.bind_some]
  simp only [asB, Option.bind_some]
  unfold nameP
  cases hR : inR (t.size : Int) 1 12 with
  | false =>
    refine ⟨h, ?_, Ext.refl _ _⟩
    rw [Bool.not_false, cond_true, s145_0_j, s145_0_eq]; rfl
  | true =>
    rw [Bool.not_true, cond_false]
    obtain ⟨h2, c2, x2⟩ := l88 (d := d) (by omega) t h
    rw [c2, Option.bind_some]
    simp only [asB, Option.bind_some]
    rw [s145_0_j, s145_0_eq]
    refine ⟨h2, ?_, x2⟩
    cases isWd t with
    | true => rfl
    | false =>
      have hs : t.size ≤ 12 := by
        unfold inR at hR
        simp at hR; omega
      have l87' : ∀ (n : Int) (h : AHeap), call Try.prog Ms (d + 2) 87 [.int .u8 n] h = some (.bool (isLet n), h) := l87 (d + 1)
      rw [cond_false, s145_1_j, s145_1_eq]
      have hbd := endOf_bd (p := isLet) (s := t) _ 0 rfl (by omega)
      have hno := endOf_no (p := isLet) (s := t) _ 0 rfl
      obtain ⟨m', hm'⟩ := skip (p := isLet) (s := t) (fun n j => s145_2 hk0 (call Try.prog Ms (d + 2)) (d + 2) n t j h2) (fun n j hj hp => by
        have : ((j : Nat) : Int) < (t.size : Int) := by omega
        have wj : IntKind.i64.wrap ((j : Int) + 1) = ((j + 1 : Nat) : Int) := by rw [wr (by omega) (by omega)]; omega
        rw [s145_2_eq]
        simp only [this, decide_true, cond_true, strIx hj, Option.bind_some, asI, if_true, l87', asB, hp, wj, Bool.not_true, cond_false]) t.size 0 (d + 2) (by omega) (by omega) (by omega)
      have hm2 : s145_2 hk0 (call Try.prog Ms (d + 2)) (d + 2) (d + 2) t 0 h2 = s145_2 hk0 (call Try.prog Ms (d + 2)) (d + 2) (m' + 1) t ((endOf isLet t 0 : Nat) : Int) h2 := hm'
      rw [hm2, s145_2_eq]
      generalize endOf isLet t 0 = e at hbd hno
      by_cases he : e < t.size
      · have hI : ((e : Nat) : Int) < (t.size : Int) := by omega
        rw [decide_eq_true hI, cond_true, strIx he, Option.bind_some]
        simp only [asI, if_true, Option.bind_some]
        rw [l87', Option.bind_some]
        simp only [asB, Option.bind_some, hno he, Bool.not_false, cond_true]
        rw [decide_eq_false (show ¬ e = t.size by omega)]; rfl
      · have hI : ¬ ((e : Nat) : Int) < (t.size : Int) := by omega
        rw [decide_eq_false hI, cond_false, decide_eq_true (show e = t.size by omega)]; rfl
theorem l101 {d c : Nat} (hd : 1048577 < d) {kv : Value} {n : Kn} {h : AHeap} (x : ISl c h kv n.ks) (ht : n.t.size ≤ 1048576) :
    ∃ h', call Try.prog Ms (d + 4) 101 [knVal n kv] h = some (.bool (hasP n), h') ∧ Ext h.size h h' := by
  have e1 := Ext.new (Nat.le_refl h.size) 73 (knCells n kv)
  have r1 : Row (h.new 73 (knCells n kv)) h.size [.int .i64 n.k, .string n.t, .int .i64 n.i, kv] := (Own.new (b := h.size) (Nat.le_refl _) 73 (knCells n kv)).row
  have s1 : (h.new 73 (knCells n kv)).size = h.size + 1 := rfl
  rw [c101, e101, kn_aCells x, Option.bind_some]
  simp only [aNew]
  generalize h.new 73 (knCells n kv) = h1 at e1 r1 s1 ⊢
  obtain ⟨a0, a1, a2, a3, _⟩ := ld4 r1
  have l98' : ∀ (x a b : Int) (h : AHeap), call Try.prog Ms (d + 3) 98 [.int .i64 x, .int .i64 a, .int .i64 b] h = some (.bool (inR x a b), h) := l98 (d + 2)
  have l90' : ∀ (n : Int) (h : AHeap), call Try.prog Ms (d + 3) 90 [.int .u8 n] h = some (.bool (isPln n), h) := l90 (d + 2)
  simp only [aOff_ptr, Nat.zero_add, Option.bind_some, a0, asI, if_true]
  have E : ∀ f : Bool → Option (Value × AHeap), (bif n.k == 5 then f (n.k == 5) else bif n.k == 14 then f (n.k == 14) else bif n.k == 15 then f (n.k == 15) else f (n.k == 22)) = f (nm4 n.k) := by
    intro f; unfold nm4
    cases (n.k == 5) <;> cases (n.k == 14) <;> cases (n.k == 15) <;> rfl
  rw [E (fun t => s101_0 hk0 (call Try.prog Ms (d + 3)) (d + 3) (ptr h.size 0) n.k t h1), s101_0_j, s101_0_eq]
  unfold hasP
  cases nm4 n.k with
  | true =>
    rw [cond_true, if_pos rfl]
    obtain ⟨h2, c2, x2⟩ := l145 hd n.t ht h1
    obtain ⟨_, _, b2, _, _⟩ := ld4 (r1.ext x2 (by omega))
    refine ⟨h2, ?_, e1.trans (x2.mono (by omega))⟩
    simp only [aOff_ptr, Nat.zero_add, Option.bind_some, a1, asS]
    rw [c2, Option.bind_some]
    simp only [asB, Option.bind_some]
    cases nameP n.t with
    | true => simp only [cond_true, b2, Option.bind_some, asI, if_true, Bool.true_and]
    | false => rfl
  | false =>
    rw [cond_false, if_neg (by simp)]
    by_cases k4 : n.k = 4
    · rw [if_pos k4, k4, show ((4 : Int) == 4) = true from rfl, cond_true]
      refine ⟨h1, ?_, e1⟩
      have hbd := endOf_bd (p := isPln) (s := n.t) _ 0 rfl (by omega)
      have hno := endOf_no (p := isPln) (s := n.t) _ 0 rfl
      obtain ⟨m', hm'⟩ := skip (p := isPln) (s := n.t) (fun m j => s101_1 hk0 (call Try.prog Ms (d + 3)) (d + 3) m (ptr h.size 0) j h1) (fun m j hj hp => by
        have : ((j : Nat) : Int) < (n.t.size : Int) := by omega
        have wj : IntKind.i64.wrap ((j : Int) + 1) = ((j + 1 : Nat) : Int) := by rw [wr (by omega) (by omega)]; omega
        rw [s101_1_eq]
        simp only [aOff_ptr, Nat.zero_add, Option.bind_some, a1, asS, this, decide_true, cond_true, strIx hj, asI, if_true, l90', asB, hp, wj, Bool.not_true, cond_false]) n.t.size 0 (d + 3) (by omega) (by omega) (by omega)
      have hm2 : s101_1 hk0 (call Try.prog Ms (d + 3)) (d + 3) (d + 3) (ptr h.size 0) 0 h1 = s101_1 hk0 (call Try.prog Ms (d + 3)) (d + 3) (m' + 1) (ptr h.size 0) ((endOf isPln n.t 0 : Nat) : Int) h1 := hm'
      rw [hm2, s101_1_eq]
      unfold textP
      generalize endOf isPln n.t 0 = e at hbd hno
      simp only [aOff_ptr, Nat.zero_add, Option.bind_some, a1, asS]
      by_cases he : e < n.t.size
      · have hI : ((e : Nat) : Int) < (n.t.size : Int) := by omega
        rw [decide_eq_true hI, cond_true, strIx he, Option.bind_some]
        simp only [asI, if_true, Option.bind_some]
        rw [l90', Option.bind_some]
        simp only [asB, Option.bind_some, hno he, Bool.not_false, cond_true]
        rw [decide_eq_false (show ¬ e = n.t.size by omega)]; simp
      · have hI : ¬ ((e : Nat) : Int) < (n.t.size : Int) := by omega
        rw [decide_eq_false hI, cond_false, decide_eq_true (show e = n.t.size by omega)]
        cases decide ((n.t.size : Int) ≤ 160) with
        | true => simp only [cond_true, a2, Option.bind_some, asI, if_true, Bool.true_and]
        | false => rfl
    rw [beq_eq_false_iff_ne.2 k4, cond_false, if_neg k4, s101_2_j, s101_2_eq]
    refine ⟨h1, ?_, e1⟩
    simp only [aOff_ptr, Nat.zero_add, Option.bind_some, a0, a1, a2, asS, asI, if_true]
    have hE : (n.t.toList == (⟨#[]⟩ : ByteArray).toList) = emp n.t := rfl
    rw [hE]
    cases emp n.t with
    | false => rfl
    | true =>
      rw [Bool.not_true, cond_false, Bool.true_and]
      by_cases k2 : n.k = 2
      · rw [if_pos k2, k2, show ((2 : Int) == 2) = true from rfl, cond_true]
        by_cases i0 : n.i = 0
        · rw [i0]; rfl
        · rw [beq_eq_false_iff_ne.2 i0, cond_false]
          by_cases i1 : n.i = 1
          · rw [i1]; rfl
          · rw [beq_eq_false_iff_ne.2 i1]
            have : inR n.i 0 1 = false := by unfold inR; simp; omega
            rw [this]
      rw [beq_eq_false_iff_ne.2 k2, cond_false, if_neg k2]
      by_cases k3 : n.k = 3
      · rw [if_pos k3, k3, show ((3 : Int) == 3) = true from rfl, cond_true, l98', Option.bind_some]; rfl
      rw [beq_eq_false_iff_ne.2 k3, cond_false, if_neg k3]
      by_cases k10 : n.k = 10
      · rw [if_pos k10, k10, show ((10 : Int) == 10) = true from rfl, cond_true, l98', Option.bind_some]; rfl
      rw [beq_eq_false_iff_ne.2 k10, cond_false, if_neg k10]
      by_cases k11 : n.k = 11
      · rw [if_pos k11, k11, show ((11 : Int) == 11) = true from rfl, cond_true, l98', Option.bind_some]; rfl
      rw [beq_eq_false_iff_ne.2 k11, cond_false, if_neg k11]
end Go.Proofs.Ytadmoackacickaa
