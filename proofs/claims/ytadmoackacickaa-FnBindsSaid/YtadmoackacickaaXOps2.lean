import Derived.Test.YtadmoackacickaaXOps
import Derived.Laws.Tables
/- The small evaluator's operations against the machine's, the second part: what is made and stored. -/
namespace Go.AH
open Go.RowKit
section
variable {P : Program} {w0 w : World} {ι : Inj} {h : AHeap}

theorem tZero_info' {t : TypeId} {z : List Value} (hs : tZero P t = some z) : ∃ i zv, P.info? t = some i ∧ i.zero = some zv ∧ zv.cells.toList = z ∧ z.all plain1 = true := by
  simp only [tZero, Option.bind_eq_some_iff] at hs
  obtain ⟨i, hi, zv, hz, he⟩ := hs
  cases hc : zv.cells.toList.all plain1 <;> rw [hc] at he <;> simp at he
  exact ⟨i, zv, hi, hz, he, by rw [← he]; simpa using hc⟩
theorem plain_refl {z : List Value} (h : z.all plain1 = true) : All2 (S1 ι) z z := All2.refl fun a ha => plain1_S1 ι (by simpa using List.all_eq_true.1 h a ha)
theorem list_arr {l : List Value} {arr : Array Value} (h : arr.toList = l) : arr = l.toArray := by subst h; simp

/-- A new row that is pointed to. -/
theorem new_sound (H : HRel P w0 ι h w) {e : TypeId} {n : Nat} (hn : tSize P e = some n) {cs cs' : List Value} (ha : All2 (S1 ι) cs cs') :
    ∃ ι', Nxt ι w ι' (w.alloc (.cells cs'.toArray e)) ∧ HRel P w0 ι' (h.new e cs) (w.alloc (.cells cs'.toArray e)) ∧ ι'.pl h.size = some ⟨w.heap.size, 0, cs.length, n, false, e⟩ := by
  have := H.alloc e n cs.length cs'.toArray cs hn (Nat.le_refl _) (by simp [ha.length]) (fun j v hv => by
    obtain ⟨b, h1, h2⟩ := ha.get j v hv
    exact ⟨b, by simpa using h1, h2⟩)
  exact ⟨_, this.2, this.1, if_pos rfl⟩
theorem alloc_sound (H : HRel P w0 ι h w) {e : TypeId} {z : List Value} {n : Nat} (hz : tZero P e = some z) (hn : tSize P e = some n) : SemOk P w0 ι (h.new e z) w (Instr.alloc e true (.tuple #[])) (ptr h.size 0) := by
  obtain ⟨i, zv, hi, hzv, hc, hp⟩ := tZero_info' hz
  obtain ⟨ι', h1, h2, h3⟩ := new_sound H hn (plain_refl (ι := ι) hp)
  refine ⟨.pointer (some ⟨w.heap.size, 0, none⟩), _, ι', ?_, h1, h2, ?_⟩
  · simp [Instr.alloc, run_zeroValue hi hzv, newVar, newRow, ← hc]
  · exact .s0 (.ptr h.size 0 _ h3)
theorem box_sound (H : HRel P w0 ι h w) {e : TypeId} {n : Nat} (hn : tSize P e = some n) {v v' : Value} {cs : List Value} (hc : aCells v = some cs) (hv : VR ι v v') : SemOk P w0 ι (h.new e cs) w (Instr.box e v') (ptr h.size 0) := by
  obtain ⟨cs', h0, ha⟩ := aCells_sound hc hv
  obtain ⟨ι', h1, h2, h3⟩ := new_sound H hn ha
  refine ⟨.pointer (some ⟨w.heap.size, 0, none⟩), _, ι', ?_, h1, h2, .s0 (.ptr h.size 0 _ h3)⟩
  simp [Instr.box, newVar, newRow, list_arr h0]

/-! ### parts -/
theorem foldl_splice (off : Nat) : ∀ (vs : List Value) (k : Nat) (cells : Array Value), off + k + vs.length ≤ cells.size →
    ((vs.zipIdx k).foldl (fun cs (c, j) => cs.setIfInBounds (off + j) c) cells).toList = cells.toList.take (off + k) ++ vs ++ cells.toList.drop (off + k + vs.length)
  | [], k, cells, _ => by simp
  | v :: vs, k, cells, hl => by
    simp only [List.length_cons] at hl
    rw [List.zipIdx_cons, List.foldl_cons, foldl_splice off vs (k + 1) _ (by simp; omega), Array.toList_setIfInBounds]
    generalize hL : cells.toList = L
    have hlen : off + k < L.length := by rw [← hL]; simp; omega
    generalize hi : off + k = i at *
    have e1 : off + (k + 1) = i + 1 := by omega
    rw [e1, List.set_eq_take_append_cons_drop, if_pos hlen]
    have hA : (L.take i).length = i := by simp; omega
    have t1 : (L.take i ++ v :: L.drop (i + 1)).take (i + 1) = L.take i ++ [v] := by
      rw [List.take_append, hA, List.take_of_length_le (by omega), show i + 1 - i = 1 from by omega]; rfl
    have t2 : (L.take i ++ v :: L.drop (i + 1)).drop (i + 1 + vs.length) = L.drop (i + (v :: vs).length) := by
      rw [List.drop_append, hA, List.drop_of_length_le (by omega), List.nil_append, show i + 1 + vs.length - i = vs.length + 1 from by omega, List.drop_succ_cons, List.drop_drop, List.length_cons]
      congr 1; omega
    rw [t1, t2]
    simp
theorem fill_sound (place : Nat → Option (Nat × Nat)) : ∀ (ps : List (Nat × Value)) (qs : List (Nat × Nat × Value)) (cells : Array Value) (cs cs2 : List Value),
    All2 (fun (p : Nat × Value) (q : Nat × Nat × Value) => place p.1 = some (q.1, q.2.1) ∧ VR ι q.2.2 p.2) ps qs → All2 (S1 ι) cs cells.toList → aFill cs qs = some cs2 →
    ∃ cells2 : Array Value, Instr.fill place cells ps = some cells2 ∧ All2 (S1 ι) cs2 cells2.toList
  | _, _, cells, cs, cs2, .nil, hc, he => by
    simp [aFill] at he; subst he
    exact ⟨cells, rfl, hc⟩
  | (i, v') :: ps, (off, n, v) :: qs, cells, cs, cs2, .cons ⟨h1, h2⟩ hps, hc, he => by
    simp only [aFill, Option.bind_eq_some_iff] at he
    obtain ⟨vs, hvs, he⟩ := he
    split at he
    · rename_i hcond
      obtain ⟨vs', e0, ha⟩ := aCells_sound hvs h2
      have hl := ha.length
      have hlc := hc.length
      have hsz : v'.cells.size = n := by rw [← Array.length_toList, e0, ← hl]; exact hcond.1
      have hcs : cells.size = cs.length := by rw [← Array.length_toList]; exact hlc.symm
      simp only [Instr.fill, h1]
      rw [if_neg (by simp [hsz]; omega)]
      refine fill_sound place ps qs _ _ cs2 hps ?_ he
      have hf := foldl_splice off v'.cells.toList 0 cells (by simp [hsz]; omega)
      rw [← Array.foldl_toList, Array.toList_zipIdx]
      simp only [Nat.add_zero] at hf
      rw [hf, e0]
      exact ((hc.take off).append ha).append (by rw [← hl]; exact hc.drop _)
    · simp at he
theorem parts_sound {t : Tm} {a : Act} (ht : TR ι t a.tmps) (places : List (Nat × Nat)) : ∀ (l : List (Nat × Operand)) (ps : List (Nat × Nat × Value)), partsOf places t l = some ps →
    All2 (fun (p : Nat × Value) (q : Nat × Nat × Value) => places[p.1]? = some (q.1, q.2.1) ∧ VR ι q.2.2 p.2) (l.map fun p => (p.1, a.eval p.2)) ps
  | [], ps, he => by simp [partsOf] at he; subst he; exact .nil
  | (i, x) :: l, ps, he => by
    simp only [partsOf, Option.bind_eq_some_iff, Option.map_eq_some_iff] at he
    obtain ⟨p, hp, r, hr, rfl⟩ := he
    exact .cons ⟨hp, ht.evX x⟩ (parts_sound ht places l r hr)
theorem build_sound (H : HRel P w0 ι h w) {ty : TypeId} {fs : Array Field} (hf : fieldsOf P ty = some fs) {z cs : List Value} (hz : tZero P ty = some z) {places : List (Nat × Nat)} (hp : placesOf P fs = some places) {t : Tm} {a : Act} (ht : TR ι t a.tmps)
    (parts : Array (Nat × Operand)) {ps : List (Nat × Nat × Value)} (hps : partsOf places t parts.toList = some ps) (hc : aFill z ps = some cs) :
    SemOk P w0 ι h w (Instr.build ty (parts.map fun (i, x) => (i, a.eval x))) (.agg cs.toArray) := by
  obtain ⟨i, zv, hi, hzv, hzc, hpl⟩ := tZero_info' hz
  have hu : P.underlying ty = some (.struct fs) := by
    unfold fieldsOf at hf
    split at hf
    · rename_i hu; simp at hf; subst hf; exact hu
    · simp at hf
  obtain ⟨cells2, h1, h2⟩ := fill_sound (ι := ι) (fun i => places[i]?) _ ps zv.cells z cs (parts_sound ht places _ ps hps) (by rw [hzc]; exact plain_refl hpl) hc
  refine SemOk.same H (v' := .agg cells2) ?_ (.s2 (.agg (by simpa using h2)))
  refine run_build w ty _ cells2 ?_
  unfold placesOf at hp
  simp only [Program.built, hi, hu, hzv, hp]
  simpa using h1
theorem places_flat {z : List Value} (n : Nat) (hz : z.length = n) : ∀ len, (List.replicate len z).flatten.length = len * n
  | 0 => by simp
  | len + 1 => by rw [List.replicate_succ, List.flatten_cons, List.length_append, places_flat n hz len, hz, Nat.succ_mul]; omega
theorem flat_get {z : List Value} (n : Nat) (hn : 0 < n) (hz : z.length = n) : ∀ (len j : Nat), j < len * n → (List.replicate len z).flatten[j]? = z[j % n]?
  | 0, j, h => by simp at h
  | len + 1, j, h => by
    rw [List.replicate_succ, List.flatten_cons]
    by_cases hj : j < n
    · rw [List.getElem?_append_left (by omega), Nat.mod_eq_of_lt hj]
    · have h' : j < len * n + n := by rw [Nat.succ_mul] at h; exact h
      rw [List.getElem?_append_right (by omega), hz, flat_get n hn hz len (j - n) (by omega), Nat.mod_eq_sub_mod (a := j) (by omega)]
theorem flat_sound {zv : Value} {z : List Value} {n : Nat} (hzc : zv.cells.toList = z) (hp : z.all plain1 = true) (hn : 0 < n) (hz : z.length = n) (len : Nat) :
    All2 (S1 ι) (List.replicate len z).flatten ((Array.range (len * n)).map (zv.cells[· % zv.cells.size]!)).toList := by
  have hsz : zv.cells.size = n := by rw [← Array.length_toList, hzc, hz]
  refine All2.of_get (by rw [places_flat n hz]; simp) fun j a b ha hb => ?_
  have hj : j < len * n := by have := (List.getElem?_eq_some_iff.1 ha).1; rw [places_flat n hz] at this; exact this
  rw [flat_get n hn hz len j hj] at ha
  have : b = a := by
    simp [hj] at hb
    rw [← hb, hsz]
    have hm : j % n < zv.cells.size := by rw [hsz]; exact Nat.mod_lt _ hn
    rw [getElem!_pos zv.cells (j % n) hm]
    rw [← hzc] at ha
    obtain ⟨_, ha⟩ := List.getElem?_eq_some_iff.1 ha
    simpa using ha
  subst this
  have hmem : b ∈ z := List.mem_of_getElem? ha
  exact plain1_S1 ι (by simpa using List.all_eq_true.1 hp b hmem)
theorem buildSlice_sound (H : HRel P w0 ι h w) {ty e : TypeId} (hu : P.underlying ty = some (.slice e)) {z cs : List Value} {n len : Nat} (hz : tZero P e = some z) (hn : tSize P e = some n) (hlen : len * n ≤ 16777216) (hpos : 0 < n) (hzl : z.length = n)
    {t : Tm} {a : Act} (ht : TR ι t a.tmps) (parts : Array (Nat × Operand)) (hc : aFill (List.replicate len z).flatten (parts.toList.map fun p => (p.1 * n, n, AH.evX t p.2)) = some cs) :
    SemOk P w0 ι (h.new e cs) w (Instr.buildSlice ty len (parts.map fun (i, x) => (i, a.eval x))) (slc h.size 0 len) := by
  obtain ⟨i, zv, hi, hzv, hzc, hpl⟩ := tZero_info' hz
  have hall : All2 (fun (p : Nat × Value) (q : Nat × Nat × Value) => (fun i => some (i * n, n)) p.1 = some (q.1, q.2.1) ∧ VR ι q.2.2 p.2) (parts.toList.map fun p => (p.1, a.eval p.2)) (parts.toList.map fun p => (p.1 * n, n, AH.evX t p.2)) := by
    generalize parts.toList = l
    induction l with
    | nil => exact .nil
    | cons p l ih => exact .cons ⟨rfl, ht.evX p.2⟩ ih
  obtain ⟨cells2, h1, h2⟩ := fill_sound (ι := ι) (fun i => some (i * n, n)) _ _ _ _ cs hall (flat_sound hzc hpl hpos hzl len) hc
  have hcl : cs.length = len * n := by
    have : ∀ (qs : List (Nat × Nat × Value)) (cs cs2 : List Value), aFill cs qs = some cs2 → cs2.length = cs.length := by
      intro qs
      induction qs with
      | nil => intro cs cs2 h; simp [aFill] at h; rw [h]
      | cons q qs ih =>
        intro cs cs2 h
        obtain ⟨off, n, v⟩ := q
        simp only [aFill, Option.bind_eq_some_iff] at h
        obtain ⟨vs, _, h⟩ := h
        split at h
        · rename_i hcd
          rw [ih _ _ h]
          simp [splice]; omega
        · simp at h
    rw [this _ _ _ hc, places_flat n hzl]
  obtain ⟨ι', k1, k2, k3⟩ := new_sound H hn h2
  refine ⟨.slice (some ⟨w.heap.size, 0, none⟩) len len, _, ι', ?_, k1, k2, .s0 (.slc h.size 0 len len _ len k3 (Nat.le_refl _) (by simp [hcl]))⟩
  have hne : ¬ (16777216 < len * n) := by omega
  obtain ⟨i2, hi2, hs2⟩ := tSize_info hn
  rw [hi] at hi2; cases hi2
  have h1' : Instr.fill (fun i => some (i * n, n)) (Array.map (fun x => zv.cells[x % zv.cells.size]!) (Array.range (len * n))) (parts.toList.map fun p => (p.1, a.eval p.2)) = some cells2 := h1
  by_cases hzero : len * n = 0
  · rw [hzero] at h1'
    simp [Instr.buildSlice, run_underlying hu, sizeOf, typeInfo, hi, hs2, hzero, newRow, Array.range_zero'] at h1' ⊢
    simp [h1']
  · simp [Instr.buildSlice, run_underlying hu, sizeOf, typeInfo, hi, hs2, hne, hzero, zeroValue, hzv, newRow, h1']
end
end Go.AH
