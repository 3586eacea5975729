import Derived.Test.YtadmoackacickaaXStart
import Derived.Test.YtadmoackacickaaXTreeA
import Derived.Test.YtadmoackacickaaXRowLex
/- A tree that is an argument: how it reads, and how it lies in the small evaluator's heap. -/
namespace Go.Proofs.Ytadmoackacickaa
open Go Go.AH

theorem uTree : Try.prog.underlying 30 = some (.struct #[⟨"Nodes", 28, 0, false, "", "", 0⟩, ⟨"Top", 3, 1, false, "", "", 24⟩]) := by kernel_rfl
theorem uNodes : Try.prog.underlying 28 = some (.slice 133) := by kernel_rfl
theorem uKnot : Try.prog.underlying 133 = some (.struct #[⟨"Kind", 3, 0, false, "", "", 0⟩, ⟨"Text", 9, 1, false, "", "", 8⟩, ⟨"I", 3, 2, false, "", "", 24⟩, ⟨"Kids", 46, 3, false, "", "", 32⟩]) := by kernel_rfl
theorem uInts : Try.prog.underlying 46 = some (.slice 3) := by kernel_rfl
theorem uInt : Try.prog.underlying 3 = some (.int .i64) := by kernel_rfl
theorem cTree : Try.prog.cellsOf 30 = 2 := by kernel_rfl
theorem cKnot : Try.prog.cellsOf 133 = 4 := by kernel_rfl
theorem cInt : Try.prog.cellsOf 3 = 1 := by kernel_rfl
theorem cStr : Try.prog.cellsOf 9 = 1 := by kernel_rfl
theorem cInts : Try.prog.cellsOf 46 = 1 := by kernel_rfl
theorem cNodes : Try.prog.cellsOf 28 = 1 := by kernel_rfl
theorem zKnot : tSize Try.prog 133 = some 4 := by kernel_rfl
theorem zInt : tSize Try.prog 3 = some 1 := by kernel_rfl
def Blk (W : World) (b n : Nat) : Prop := ∃ arr el fr, W.heap[b]? = some (.cells arr el fr) ∧ n ≤ arr.size
/-- A slice of ints of the machine's. -/
def IM (W : World) (v : Value) (xs : List Int) : Prop :=
  (v = .slice none 0 0 ∧ xs = []) ∨ (∃ a, v = .slice (some a) 0 0 ∧ xs = []) ∨
  ∃ b off cap, v = .slice (some ⟨b, off, none⟩) xs.length cap ∧ xs.length ≤ cap ∧ cap ≤ maxLen ∧ Blk W b (off + cap * 1) ∧ ∀ (j : Nat) (n : Int), xs[j]? = some n → W.cell? ⟨b, off + j, none⟩ = some (.int .i64 n)
def NM (W : World) (v : Value) (ns : List Kn) : Prop :=
  (v = .slice none 0 0 ∧ ns = []) ∨ (∃ a, v = .slice (some a) 0 0 ∧ ns = []) ∨
  ∃ b off cap, v = .slice (some ⟨b, off, none⟩) ns.length cap ∧ ns.length ≤ cap ∧ cap ≤ maxLen ∧ Blk W b (off + cap * 4) ∧
    ∀ (j : Nat) (n : Kn), ns[j]? = some n → ∃ kv, (∀ c, c < 4 → W.cell? ⟨b, off + (j * 4 + c), none⟩ = (knCells n kv)[c]?) ∧ IM W kv n.ks ∧ n.t.size ≤ maxLen
theorem range_get {α : Type} (f : Nat → α) {len j : Nat} {x : α} (h : ((List.range len).map f)[j]? = some x) : j < len ∧ x = f j := by
  rw [List.getElem?_map, Option.map_eq_some_iff] at h
  obtain ⟨a, h1, h2⟩ := h
  obtain ⟨h3, h4⟩ := List.getElem?_eq_some_iff.1 h1
  rw [List.getElem_range] at h4
  subst h4
  exact ⟨by simpa using h3, h2.symm⟩
section
variable {H : Type} {enc : TypeId × Value → H} {W : World}
theorem open_ints {fuel : Nat} {v : Value} {x : DataW H × List MemPlace} (h : DataW.trod enc Try.prog W 0 (fun _ => true) true fuel 46 [v] = some x) : ∃ xs, IM W v xs := by
  rcases open_rowM uInts cInt (by decide) h with h0 | ⟨a, h0⟩ | ⟨b, off, len, cap, n, D, Pl, h0, hl, hm, hb, hx⟩
  · exact ⟨[], .inl ⟨h0, rfl⟩⟩
  · exact ⟨[], .inr (.inl ⟨a, h0, rfl⟩)⟩
  · have each : ∀ i, i < len → ∃ z : Int, W.cell? ⟨b, off + i, none⟩ = some (.int .i64 z) := fun i hi => by
      obtain ⟨cs', h1, h2, h3⟩ := hx i hi
      obtain ⟨z, h4, _⟩ := DataW.trod_int uInt h3
      have := h2 0 (by omega)
      rw [h4] at this
      exact ⟨z, by simpa using this⟩
    obtain ⟨f, hf⟩ := Deep.choose_lt each
    refine ⟨(List.range len).map f, .inr (.inr ⟨b, off, cap, by simpa using h0, by simpa using hl, hm, hb, fun j z hz => ?_⟩)⟩
    obtain ⟨hj, rfl⟩ := range_get f hz
    exact hf j hj
theorem open_node {fuel : Nat} {cs : List Value} {x : DataW H × List MemPlace} (h : DataW.trod enc Try.prog W 0 (fun _ => true) true fuel 133 cs = some x) : ∃ n kv, cs = knCells n kv ∧ n.t.size ≤ maxLen ∧ IM W kv n.ks := by
  obtain ⟨xs, k, _, _, hl, hxl, hf⟩ := DataW.trod_struct uKnot h
  rw [cKnot] at hl
  have hxl' : xs.length = 4 := hxl
  have g0 : DataW.trod enc Try.prog W 0 (fun _ => true) true k 3 ((cs.drop 0).take (Try.prog.cellsOf 3)) = xs[0]? := hf 0 _ rfl
  have g1 : DataW.trod enc Try.prog W 0 (fun _ => true) true k 9 ((cs.drop 1).take (Try.prog.cellsOf 9)) = xs[1]? := hf 1 _ rfl
  have g2 : DataW.trod enc Try.prog W 0 (fun _ => true) true k 3 ((cs.drop 2).take (Try.prog.cellsOf 3)) = xs[2]? := hf 2 _ rfl
  have g3 : DataW.trod enc Try.prog W 0 (fun _ => true) true k 46 ((cs.drop 3).take (Try.prog.cellsOf 46)) = xs[3]? := hf 3 _ rfl
  rw [cInt] at g0 g2
  rw [cStr] at g1
  rw [cInts] at g3
  clear hf hxl h
  match xs, hxl', cs, hl with
  | [y0, y1, y2, y3], _, [v0, v1, v2, v3], _ =>
    obtain ⟨k0, e0, _⟩ := DataW.trod_int uInt g0
    obtain ⟨t, e1, _, ht⟩ := DataW.trod_string uStr g1
    obtain ⟨i, e2, _⟩ := DataW.trod_int uInt g2
    obtain ⟨ks, e3⟩ := open_ints (v := v3) g3
    simp at e0 e1 e2
    subst e0 e1 e2
    exact ⟨⟨k0, t, i, ks⟩, v3, rfl, ht, e3⟩
theorem open_nodes {fuel : Nat} {v : Value} {x : DataW H × List MemPlace} (h : DataW.trod enc Try.prog W 0 (fun _ => true) true fuel 28 [v] = some x) : ∃ ns, NM W v ns := by
  rcases open_rowM uNodes cKnot (by decide) h with h0 | ⟨a, h0⟩ | ⟨b, off, len, cap, n, D, Pl, h0, hl, hm, hb, hx⟩
  · exact ⟨[], .inl ⟨h0, rfl⟩⟩
  · exact ⟨[], .inr (.inl ⟨a, h0, rfl⟩)⟩
  · have each : ∀ i, i < len → ∃ z : Kn, ∃ kv, (∀ c, c < 4 → W.cell? ⟨b, off + (i * 4 + c), none⟩ = (knCells z kv)[c]?) ∧ IM W kv z.ks ∧ z.t.size ≤ maxLen := fun i hi => by
      obtain ⟨cs', h1, h2, h3⟩ := hx i hi
      obtain ⟨z, kv, rfl, h5, h6⟩ := open_node h3
      exact ⟨z, kv, h2, h6, h5⟩
    haveI : Inhabited Kn := ⟨⟨0, ⟨#[]⟩, 0, []⟩⟩
    obtain ⟨f, hf⟩ := Deep.choose_lt each
    refine ⟨(List.range len).map f, .inr (.inr ⟨b, off, cap, by simpa using h0, by simpa using hl, hm, hb, fun j z hz => ?_⟩)⟩
    obtain ⟨hj, rfl⟩ := range_get f hz
    exact hf j hj
theorem open_tree {v : Value} {cs : Array Value} (hv : v = .agg cs) {d : DataW H} {ps : List MemPlace} (h : DataW.Trod enc Try.prog W 0 (fun _ => true) true 30 v d ps) : ∃ nv ns top, v = trVal nv top ∧ NM W nv ns := by
  subst hv
  obtain ⟨fuel, h⟩ := h
  obtain ⟨xs, k, _, _, hl, hxl, hf⟩ := DataW.trod_struct uTree h
  rw [cTree] at hl
  have hcs : (Value.agg cs).cells.toList = cs.toList := rfl
  rw [hcs] at hl hf
  obtain ⟨l⟩ := cs
  simp only at hl hf
  have hxl' : xs.length = 2 := hxl
  have g0 : DataW.trod enc Try.prog W 0 (fun _ => true) true k 28 ((l.drop 0).take (Try.prog.cellsOf 28)) = xs[0]? := hf 0 _ rfl
  have g1 : DataW.trod enc Try.prog W 0 (fun _ => true) true k 3 ((l.drop 1).take (Try.prog.cellsOf 3)) = xs[1]? := hf 1 _ rfl
  rw [cNodes] at g0
  rw [cInt] at g1
  clear hf hxl h hcs
  match xs, hxl', l, hl with
  | [y0, y1], _, [v0, v1], _ =>
    obtain ⟨ns, e0⟩ := open_nodes (v := v0) g0
    obtain ⟨top, e1, _⟩ := DataW.trod_int uInt g1
    simp at e1
    subst e1
    exact ⟨v0, ns, top, rfl, e0⟩
end
end Go.Proofs.Ytadmoackacickaa
