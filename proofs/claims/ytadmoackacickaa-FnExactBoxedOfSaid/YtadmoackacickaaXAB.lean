import Derived.Test.YtadmoackacickaaXAA
import Derived.Laws.Tables
import Derived.MapKept
import Derived.Carry
import Derived.Laws.CopyRow
import Derived.Laws.StructEq
set_option linter.unusedSimpArgs false
set_option linter.unusedVariables false
/- The small evaluator's operations against the machine's, the second part: what is made and stored. -/
namespace Go.AH
open Go.RowKit
section
variable {P : Program} {w0 : W0} {w : World} {ι : Inj} {h : AHeap}
theorem tZero_info' {t : TypeId} {z : List Value} (hs : tZero P t = some z) : ∃ i zv, P.info? t = some i ∧ i.zero = some zv ∧ zv.cells.toList = z ∧ z.all plain1 = true := by
 simp only [tZero, Option.bind_eq_some_iff] at hs
 obtain ⟨i, hi, zv, hz, he⟩ := hs
 cases hc : zv.cells.toList.all plain1 <;> rw [hc] at he <;> simp at he
 exact ⟨i, zv, hi, hz, he, by rw [← he]; simpa using hc⟩
theorem plain_refl {z : List Value} (h : z.all plain1 = true) : All2 (S1 ι) z z := All2.refl fun a ha => plain1_S1 ι (by simpa using List.all_eq_true.1 h a ha)
theorem list_arr {l : List Value} {arr : Array Value} (h : arr.toList = l) : arr = l.toArray := by subst h; simp
def Makes (P : Program) (ι : Inj) (w : World) (s : Sem Value) (e : TypeId) (cs : List Value) (f : Nat → Value) : Prop :=
 ∃ v' n cap arr, s.run P w = .ok v' (w.alloc (.cells arr e)) ∧ tSize P e = some n ∧ cs.length ≤ cap ∧ cap ≤ arr.size ∧
  (∀ (j : Nat) v, cs[j]? = some v → ∃ v', arr[j]? = some v' ∧ S1 ι v v') ∧ ∀ (ι' : Inj) i, ι'.pl i = some ⟨w.heap.size, 0, cap, n, false, e⟩ → VR ι' (f i) v'
theorem Makes.sound (H : HRel P w0 ι h w) {s : Sem Value} {e : TypeId} {cs : List Value} {f : Nat → Value} (m : Makes P ι w s e cs f) : SemOk P w0 ι (h.new e cs) w s (f h.size) := by
 obtain ⟨v', n, cap, arr, hr, hn, h1, h2, h3, h4⟩ := m
 obtain ⟨k1, k2⟩ := H.alloc e n cap arr cs hn h1 h2 h3
 exact ⟨v', _, _, hr, k2, k1, h4 _ _ (if_pos rfl)⟩
theorem Makes.of {e : TypeId} {n : Nat} (hn : tSize P e = some n) {cs cs' : List Value} (ha : All2 (S1 ι) cs cs') {s : Sem Value} {v' : Value} {f : Nat → Value} (hr : s.run P w = .ok v' (w.alloc (.cells cs'.toArray e)))
  (hv : ∀ (ι' : Inj) i, ι'.pl i = some ⟨w.heap.size, 0, cs.length, n, false, e⟩ → VR ι' (f i) v') : Makes P ι w s e cs f :=
 ⟨v', n, cs.length, cs'.toArray, hr, hn, Nat.le_refl _, by simp [ha.length], fun j v hj => by
  obtain ⟨b, h1, h2⟩ := ha.get j v hj
  exact ⟨b, by simpa using h1, h2⟩, hv⟩
theorem alloc_makes {e : TypeId} {z : List Value} {n : Nat} (hz : tZero P e = some z) (hn : tSize P e = some n) : Makes P ι w (Instr.alloc e true (.tuple #[])) e z (fun i => ptr i 0) := by
 obtain ⟨i, zv, hi, hzv, hc, hp⟩ := tZero_info' hz
 refine Makes.of hn (plain_refl (ι := ι) hp) (v' := .pointer (some ⟨w.heap.size, 0, none⟩)) ?_ fun ι' i hp => .s0 (.ptr i 0 _ hp)
 simp [Instr.alloc, run_zeroValue hi hzv, newVar, newRow, ← hc]
theorem alloc_sound (H : HRel P w0 ι h w) {e : TypeId} {z : List Value} {n : Nat} (hz : tZero P e = some z) (hn : tSize P e = some n) : SemOk P w0 ι (h.new e z) w (Instr.alloc e true (.tuple #[])) (ptr h.size 0) :=
 (alloc_makes hz hn).sound H
theorem box_makes {e : TypeId} {n : Nat} (hn : tSize P e = some n) {v v' : Value} {cs : List Value} (hc : aCells v = some cs) (hv : VR ι v v') : Makes P ι w (Instr.box e v') e cs (fun i => ptr i 0) := by
 obtain ⟨cs', h0, ha⟩ := aCells_sound hc hv
 refine Makes.of hn ha (v' := .pointer (some ⟨w.heap.size, 0, none⟩)) ?_ fun ι' i hp => .s0 (.ptr i 0 _ hp)
 simp [Instr.box, newVar, newRow, list_arr h0]
theorem box_sound (H : HRel P w0 ι h w) {e : TypeId} {n : Nat} (hn : tSize P e = some n) {v v' : Value} {cs : List Value} (hc : aCells v = some cs) (hv : VR ι v v') : SemOk P w0 ι (h.new e cs) w (Instr.box e v') (ptr h.size 0) :=
 (box_makes hn hc hv).sound H
theorem foldl_splice (off : Nat) : ∀ (vs : List Value) (k : Nat) (cells : Array Value), off + k + vs.length ≤ cells.size →
  ((vs.zipIdx k).foldl (fun cs (c, j) => cs.setIfInBounds (off + j) c) cells).toList = cells.toList.take (off + k) ++ vs ++ cells.toList.drop (off + k + vs.length)
 | [], k, cells, _ => by simp
 | v :: vs, k, cells, hl => by
  simp only [List.length_cons] at hl
  rw [List.zipIdx_cons, List.foldl_cons, foldl_splice off vs (k + 1) _ (by simp; omega), Array.toList_setIfInBounds]
  generalize hL : cells.toList = L
  have hlen : off + k < L.length := by rw [← hL]; simp; omega
  generalize hi : off + k = i at *
  have e1 : off + (k + 1) = i + 1 := by omega
  rw [e1, List.set_eq_take_append_cons_drop, if_pos hlen]
  have hA : (L.take i).length = i := by simp; omega
  have t1 : (L.take i ++ v :: L.drop (i + 1)).take (i + 1) = L.take i ++ [v] := by
   rw [List.take_append, hA, List.take_of_length_le (by omega), show i + 1 - i = 1 from by omega]; rfl
  have t2 : (L.take i ++ v :: L.drop (i + 1)).drop (i + 1 + vs.length) = L.drop (i + (v :: vs).length) := by
   rw [List.drop_append, hA, List.drop_of_length_le (by omega), List.nil_append, show i + 1 + vs.length - i = vs.length + 1 from by omega, List.drop_succ_cons, List.drop_drop, List.length_cons]
   congr 1; omega
  rw [t1, t2]
  simp
theorem fill_sound (place : Nat → Option (Nat × Nat)) : ∀ (ps : List (Nat × Value)) (qs : List (Nat × Nat × Value)) (cells : Array Value) (cs cs2 : List Value),
  All2 (fun (p : Nat × Value) (q : Nat × Nat × Value) => place p.1 = some (q.1, q.2.1) ∧ VR ι q.2.2 p.2) ps qs → All2 (S1 ι) cs cells.toList → aFill cs qs = some cs2 →
  ∃ cells2 : Array Value, Instr.fill place cells ps = some cells2 ∧ All2 (S1 ι) cs2 cells2.toList
 | _, _, cells, cs, cs2, .nil, hc, he => by
  simp [aFill] at he; subst he
  exact ⟨cells, rfl, hc⟩
 | (i, v') :: ps, (off, n, v) :: qs, cells, cs, cs2, .cons ⟨h1, h2⟩ hps, hc, he => by
  simp only [aFill, Option.bind_eq_some_iff] at he
  obtain ⟨vs, hvs, he⟩ := he
  split at he
  ·rename_i hcond
   obtain ⟨vs', e0, ha⟩ := aCells_sound hvs h2
   have hl := ha.length
   have hlc := hc.length
   have hsz : v'.cells.size = n := by rw [← Array.length_toList, e0, ← hl]; exact hcond.1
   have hcs : cells.size = cs.length := by rw [← Array.length_toList]; exact hlc.symm
   simp only [Instr.fill, h1]
   rw [if_neg (by simp [hsz]; omega)]
   refine fill_sound place ps qs _ _ cs2 hps ?_ he
   have hf := foldl_splice off v'.cells.toList 0 cells (by simp [hsz]; omega)
   rw [← Array.foldl_toList, Array.toList_zipIdx]
   simp only [Nat.add_zero] at hf
   rw [hf, e0]
   exact ((hc.take off).append ha).append (by rw [← hl]; exact hc.drop _)
  ·simp at he
theorem parts_sound {t : Tm} {a : Act} (ht : TR ι t a.tmps) (places : List (Nat × Nat)) : ∀ (l : List (Nat × Operand)) (ps : List (Nat × Nat × Value)), partsOf places t l = some ps →
  All2 (fun (p : Nat × Value) (q : Nat × Nat × Value) => places[p.1]? = some (q.1, q.2.1) ∧ VR ι q.2.2 p.2) (l.map fun p => (p.1, a.eval p.2)) ps
 | [], ps, he => by simp [partsOf] at he; subst he; exact .nil
 | (i, x) :: l, ps, he => by
  simp only [partsOf, Option.bind_eq_some_iff, Option.map_eq_some_iff] at he
  obtain ⟨p, hp, r, hr, rfl⟩ := he
  exact .cons ⟨hp, ht.evX x⟩ (parts_sound ht places l r hr)
theorem build_sound (H : HRel P w0 ι h w) {ty : TypeId} {fs : Array Field} (hf : fieldsOf P ty = some fs) {z cs : List Value} (hz : tZero P ty = some z) {places : List (Nat × Nat)} (hp : placesOf P fs = some places) {t : Tm} {a : Act} (ht : TR ι t a.tmps)
  (parts : Array (Nat × Operand)) {ps : List (Nat × Nat × Value)} (hps : partsOf places t parts.toList = some ps) (hc : aFill z ps = some cs) :
  SemOk P w0 ι h w (Instr.build ty (parts.map fun (i, x) => (i, a.eval x))) (.agg cs.toArray) := by
 obtain ⟨i, zv, hi, hzv, hzc, hpl⟩ := tZero_info' hz
 have hu : P.underlying ty = some (.struct fs) := by
  unfold fieldsOf at hf
  split at hf
  ·rename_i hu; simp at hf; subst hf; exact hu
  ·simp at hf
 obtain ⟨cells2, h1, h2⟩ := fill_sound (ι := ι) (fun i => places[i]?) _ ps zv.cells z cs (parts_sound ht places _ ps hps) (by rw [hzc]; exact plain_refl hpl) hc
 refine SemOk.same H (v' := .agg cells2) ?_ (.s2 (.agg (by simpa using h2)))
 refine run_build w ty _ cells2 ?_
 unfold placesOf at hp
 simp only [Program.built, hi, hu, hzv, hp]
 simpa using h1
theorem places_flat {z : List Value} (n : Nat) (hz : z.length = n) : ∀ len, (List.replicate len z).flatten.length = len * n
 | 0 => by simp
 | len + 1 => by rw [List.replicate_succ, List.flatten_cons, List.length_append, places_flat n hz len, hz, Nat.succ_mul]; omega
theorem flat_get {z : List Value} (n : Nat) (hn : 0 < n) (hz : z.length = n) : ∀ (len j : Nat), j < len * n → (List.replicate len z).flatten[j]? = z[j % n]?
 | 0, j, h => by simp at h
 | len + 1, j, h => by
  rw [List.replicate_succ, List.flatten_cons]
  by_cases hj : j < n
  ·rw [List.getElem?_append_left (by omega), Nat.mod_eq_of_lt hj]
  ·have h' : j < len * n + n := by rw [Nat.succ_mul] at h; exact h
   rw [List.getElem?_append_right (by omega), hz, flat_get n hn hz len (j - n) (by omega), Nat.mod_eq_sub_mod (a := j) (by omega)]
theorem flat_sound {zv : Value} {z : List Value} {n : Nat} (hzc : zv.cells.toList = z) (hp : z.all plain1 = true) (hn : 0 < n) (hz : z.length = n) (len : Nat) :
  All2 (S1 ι) (List.replicate len z).flatten ((Array.range (len * n)).map (zv.cells[· % zv.cells.size]!)).toList := by
 have hsz : zv.cells.size = n := by rw [← Array.length_toList, hzc, hz]
 refine All2.of_get (by rw [places_flat n hz]; simp) fun j a b ha hb => ?_
 have hj : j < len * n := by have := (List.getElem?_eq_some_iff.1 ha).1; rw [places_flat n hz] at this; exact this
 rw [flat_get n hn hz len j hj] at ha
 have : b = a := by
  simp [hj] at hb
  rw [← hb, hsz]
  have hm : j % n < zv.cells.size := by rw [hsz]; exact Nat.mod_lt _ hn
  rw [getElem!_pos zv.cells (j % n) hm]
  rw [← hzc] at ha
  obtain ⟨_, ha⟩ := List.getElem?_eq_some_iff.1 ha
  simpa using ha
 subst this
 have hmem : b ∈ z := List.mem_of_getElem? ha
 exact plain1_S1 ι (by simpa using List.all_eq_true.1 hp b hmem)
theorem buildSlice_makes {ty e : TypeId} (hu : P.underlying ty = some (.slice e)) {z cs : List Value} {n len : Nat} (hz : tZero P e = some z) (hn : tSize P e = some n) (hlen : len * n ≤ 16777216) (hpos : 0 < n) (hzl : z.length = n)
  {t : Tm} {a : Act} (ht : TR ι t a.tmps) (parts : Array (Nat × Operand)) (hc : aFill (List.replicate len z).flatten (parts.toList.map fun p => (p.1 * n, n, AH.evX t p.2)) = some cs) :
  Makes P ι w (Instr.buildSlice ty len (parts.map fun (i, x) => (i, a.eval x))) e cs (fun i => slc i 0 len) := by
 obtain ⟨i, zv, hi, hzv, hzc, hpl⟩ := tZero_info' hz
 have hall : All2 (fun (p : Nat × Value) (q : Nat × Nat × Value) => (fun i => some (i * n, n)) p.1 = some (q.1, q.2.1) ∧ VR ι q.2.2 p.2) (parts.toList.map fun p => (p.1, a.eval p.2)) (parts.toList.map fun p => (p.1 * n, n, AH.evX t p.2)) := by
  generalize parts.toList = l
  induction l with
  | nil => exact .nil
  | cons p l ih => exact .cons ⟨rfl, ht.evX p.2⟩ ih
 obtain ⟨cells2, h1, h2⟩ := fill_sound (ι := ι) (fun i => some (i * n, n)) _ _ _ _ cs hall (flat_sound hzc hpl hpos hzl len) hc
 have hcl : cs.length = len * n := by
  have : ∀ (qs : List (Nat × Nat × Value)) (cs cs2 : List Value), aFill cs qs = some cs2 → cs2.length = cs.length := by
   intro qs
   induction qs with
   | nil => intro cs cs2 h; simp [aFill] at h; rw [h]
   | cons q qs ih =>
    intro cs cs2 h
    obtain ⟨off, n, v⟩ := q
    simp only [aFill, Option.bind_eq_some_iff] at h
    obtain ⟨vs, _, h⟩ := h
    split at h
    ·rename_i hcd
     rw [ih _ _ h]
     simp [splice]; omega
    ·simp at h
  rw [this _ _ _ hc, places_flat n hzl]
 refine Makes.of hn h2 (v' := .slice (some ⟨w.heap.size, 0, none⟩) len len) ?_ fun ι' i k3 => .s0 (.slc i 0 len len _ len k3 (Nat.le_refl _) (by simp [hcl]))
 have hne : ¬ (16777216 < len * n) := by omega
 obtain ⟨i2, hi2, hs2⟩ := tSize_info hn
 rw [hi] at hi2; cases hi2
 have h1' : Instr.fill (fun i => some (i * n, n)) (Array.map (fun x => zv.cells[x % zv.cells.size]!) (Array.range (len * n))) (parts.toList.map fun p => (p.1, a.eval p.2)) = some cells2 := h1
 by_cases hzero : len * n = 0
 ·rw [hzero] at h1'
  simp [Instr.buildSlice, run_underlying hu, sizeOf, typeInfo, hi, hs2, hzero, newRow, Array.range_zero'] at h1' ⊢
  simp [h1']
 ·simp [Instr.buildSlice, run_underlying hu, sizeOf, typeInfo, hi, hs2, hne, hzero, zeroValue, hzv, newRow, h1']
theorem buildSlice_sound (H : HRel P w0 ι h w) {ty e : TypeId} (hu : P.underlying ty = some (.slice e)) {z cs : List Value} {n len : Nat} (hz : tZero P e = some z) (hn : tSize P e = some n) (hlen : len * n ≤ 16777216) (hpos : 0 < n) (hzl : z.length = n)
  {t : Tm} {a : Act} (ht : TR ι t a.tmps) (parts : Array (Nat × Operand)) (hc : aFill (List.replicate len z).flatten (parts.toList.map fun p => (p.1 * n, n, AH.evX t p.2)) = some cs) :
  SemOk P w0 ι (h.new e cs) w (Instr.buildSlice ty len (parts.map fun (i, x) => (i, a.eval x))) (slc h.size 0 len) := (buildSlice_makes hu hz hn hlen hpos hzl ht parts hc).sound H
end
open Go.RowKit
def SemOkU (P : Program) (w0 : W0) (ι : Inj) (h' : AHeap) (w : World) (s : Sem Unit) : Prop :=
 ∃ w' ι', s.run P w = .ok () w' ∧ Nxt ι w ι' w' ∧ HRel P w0 ι' h' w'
section
variable {P : Program} {w0 : W0} {w : World} {ι : Inj} {h : AHeap}
theorem splice_get {R : Value → Value → Prop} {cs vs vs' : List Value} {arr : Array Value} (off : Nat) (hv : All2 R vs vs') (hfit : off + vs.length ≤ cs.length) (hfit' : off + vs'.length ≤ arr.size)
  (hc : ∀ (j : Nat) v, cs[j]? = some v → ∃ v', arr[j]? = some v' ∧ R v v') :
  ∀ (j : Nat) v, (splice cs off vs)[j]? = some v → ∃ v', (arr.toList.take off ++ vs' ++ arr.toList.drop (off + vs'.length)).toArray[j]? = some v' ∧ R v v' := by
 intro j v hj
 have hl := hv.length
 simp only [splice, List.append_assoc] at hj
 simp only [List.append_assoc, List.getElem?_toArray]
 by_cases h1 : j < off
 ·rw [List.getElem?_append_left (by simp; omega), List.getElem?_take, if_pos h1] at hj
  rw [List.getElem?_append_left (by simp; omega), List.getElem?_take, if_pos h1]
  obtain ⟨v', g1, g2⟩ := hc j v hj
  exact ⟨v', by simpa using g1, g2⟩
 ·have e1 : (cs.take off).length = off := by simp; omega
  have e2 : (arr.toList.take off).length = off := by simp; omega
  rw [List.getElem?_append_right (by omega), e1] at hj
  rw [List.getElem?_append_right (by omega), e2]
  by_cases h2 : j - off < vs.length
  ·rw [List.getElem?_append_left h2] at hj
   rw [List.getElem?_append_left (by omega)]
   exact hv.get _ _ hj
  ·rw [List.getElem?_append_right (by omega), List.getElem?_drop] at hj
   rw [List.getElem?_append_right (by omega), List.getElem?_drop]
   have e3 : off + vs.length + (j - off - vs.length) = j := by omega
   have e4 : off + vs'.length + (j - off - vs'.length) = j := by omega
   rw [e3] at hj; rw [e4]
   obtain ⟨v', g1, g2⟩ := hc j v hj
   exact ⟨v', by simpa using g1, g2⟩
theorem st_sound (H : HRel P w0 ι h w) {ty : TypeId} {n : Nat} (hn : tSize P ty = some n) {p p' v v' : Value} {h' : AHeap} (he : aSt h p v n = some h') (hp : VR ι p p') (hv : VR ι v v') : SemOkU P w0 ι h' w (Instr.storeAt ty p' v') := by
 unfold aSt at he
 split at he
 ·rename_i i off
  split at he
  ·rename_i o vs ho hvs
   split at he
   ·rename_i hcd
    obtain ⟨hro, hlen, hfit⟩ := hcd
    simp at he; subst he
    obtain ⟨q, hq, rfl⟩ := hp.ptr_inv
    obtain ⟨vs', e0, ha⟩ := aCells_sound hvs hv
    obtain ⟨e2, e3, e4, e5⟩ := H.objp ho hq
    have hqro := e2.trans hro
    obtain ⟨_, hbase⟩ := (H.pl i q hq).own hqro
    obtain ⟨arr, el, fr, hb, hsz, hfr⟩ := (H.pl i q hq).block
    obtain ⟨rfl, rfl⟩ := hfr hqro
    have hl := ha.length
    have hfit' : off + vs'.length ≤ arr.size := by omega
    have hrun := run_storeCells_at P q.blk off q.el vs' 0 arr w hb (by omega) ha.cells
    simp only [Nat.add_zero] at hrun
    obtain ⟨k1, k2⟩ := H.write ho hro q hq arr (0, 0) hb (arr.toList.take off ++ vs' ++ arr.toList.drop (off + vs'.length)).toArray (splice o.cells off vs) (by simp; omega) (by simp [splice]; omega)
     (by
      rw [hbase]
      simp only [Nat.zero_add]
      refine splice_get off ha (by omega) hfit' fun j v hj => ?_
      obtain ⟨v', g1, g2⟩ := e5 j v hj
      refine ⟨v', ?_, g2⟩
      rw [hbase, Nat.zero_add] at g1
      simpa [World.cell?, hb] using g1)
    refine ⟨_, ι, ?_, k2, k1⟩
    have hsz2 : v'.cells.size = n := by rw [← Array.length_toList, e0, ← hl]; exact hlen
    simp [Instr.storeAt, Instr.sureAddr, storeVar, run_sizeOf' hn, hsz2, hbase, e0, hrun]
   ·simp at he
  ·simp at he
 ·simp at he
theorem bin_int {op : BinOp} {ty : TypeId} {k k' : IntKind} {a b : Int} {v : Value} (he : aBin op (.int k a) (.int k' b) = some v) : (binOp op ty (.int k a) (.int k' b)).run P w = .ok v w := by
 by_cases hk : k = k'
 ·subst hk
  cases op <;> simp [aBin] at he
  case add => subst he; simp [binOp, Op.intArith]
  case sub => subst he; simp [binOp, Op.intArith]
  case mul => subst he; simp [binOp, Op.intArith]
  case quo => obtain ⟨h0, rfl⟩ := he; simp [binOp, Op.intDiv, h0]
  case rem => obtain ⟨h0, rfl⟩ := he; simp [binOp, Op.intDiv, h0]
  case and => subst he; simp [binOp, Op.intBits]
  case or => subst he; simp [binOp, Op.intBits]
  case xor => subst he; simp [binOp, Op.intBits]
  case andNot => subst he; simp [binOp, Op.intBits]
  case shl => obtain ⟨h0, rfl⟩ := he; simp [binOp, Op.shift, show ¬ b < 0 from by omega]
  case shr => obtain ⟨h0, rfl⟩ := he; simp [binOp, Op.shift, show ¬ b < 0 from by omega]
  case eql => subst he; simp [binOp, Op.intCmp]
  case neq => subst he; simp [binOp, Op.intCmp]
  case lss => subst he; simp [binOp, Op.intCmp]
  case leq => subst he; simp [binOp, Op.intCmp]
  case gtr => subst he; simp [binOp, Op.intCmp]
  case geq => subst he; simp [binOp, Op.intCmp]
 ·cases op <;> simp [aBin, hk] at he
  case shl => obtain ⟨h0, rfl⟩ := he; simp [binOp, Op.shift, show ¬ b < 0 from by omega]
  case shr => obtain ⟨h0, rfl⟩ := he; simp [binOp, Op.shift, show ¬ b < 0 from by omega]
theorem bin_str {op : BinOp} {ty : TypeId} {a b : ByteArray} {v : Value} (he : aBin op (.string a) (.string b) = some v) : (binOp op ty (.string a) (.string b)).run P w = .ok v w := by
 cases op <;> simp [aBin] at he
 case add =>
  obtain ⟨h0, rfl⟩ := he
  have : ¬ (9223372036854775807 < (a.size : Int) + (b.size : Int)) := by unfold most at h0; omega
  simp [binOp, Op.stringOp, this]
 all_goals (subst he; simp [binOp, Op.stringOp])
theorem bin_sound (H : HRel P w0 ι h w) {op : BinOp} {ty : TypeId} {x y x' y' v : Value} (ox oy : Operand) (he : aBin op x y = some v) (hx : VR ι x x') (hy : VR ι y y') :
  SemOk P w0 ι h w (do eqGuard op ty ox oy x' y'; binOp op ty x' y') v := by
 have hv : VR ι v v ∧ ((∃ k a k' b, x = .int k a ∧ y = .int k' b) ∨ ∃ a b, x = .string a ∧ y = .string b) := by
  cases x <;> cases y <;> simp [aBin] at he
  ·rename_i k a k' b
   refine ⟨?_, .inl ⟨k, a, k', b, rfl, rfl⟩⟩
   cases op <;> simp at he
   all_goals first
    | (obtain ⟨_, rfl⟩ := he; exact .s0 (.int _ _))
    | (obtain ⟨_, rfl⟩ := he; exact .s0 (.bool _))
    | (obtain ⟨_, _, rfl⟩ := he; exact .s0 (.int _ _))
  ·rename_i a b
   refine ⟨?_, .inr ⟨a, b, rfl, rfl⟩⟩
   cases op <;> simp at he
   all_goals first
    | (obtain ⟨_, rfl⟩ := he; exact .s0 (.string _))
    | (subst he; exact .s0 (.bool _))
 obtain ⟨hv, ⟨k, a, k', b, rfl, rfl⟩ | ⟨a, b, rfl, rfl⟩⟩ := hv
 ·obtain rfl := hx.int_inv; obtain rfl := hy.int_inv
  exact SemOk.same H (by simp [eqGuard_at_int, bin_int (P := P) (w := w) (ty := ty) he]) hv
 ·obtain rfl := hx.string_inv; obtain rfl := hy.string_inv
  exact SemOk.same H (by simp [eqGuard_at_string, bin_str (P := P) (w := w) (ty := ty) he]) hv
theorem run_equal_bool {ty : TypeId} (hu : P.underlying ty = some .bool) (a b : Bool) (w : World) : (Op.equal ty (.bool a) (.bool b)).run P w = .ok (a == b) w := by
 have : ∀ d, (Op.equalIn (d + 1) ty (.bool a) (.bool b)).run P w = .ok (a == b) w := fun d => by simp [Op.equalIn, run_underlying hu]
 exact this 9999
theorem run_equal_ptr {ty e : TypeId} (hu : P.underlying ty = some (.pointer e)) (a : Option Addr) (w : World) : (Op.equal ty (.pointer a) (.pointer none)).run P w = .ok a.isNone w := by
 have : ∀ d, (Op.equalIn (d + 1) ty (.pointer a) (.pointer none)).run P w = .ok a.isNone w := fun d => by cases a <;> simp [Op.equalIn, run_underlying hu]
 exact this 9999
theorem binB_sound (H : HRel P w0 ι h w) {op : BinOp} {ty : TypeId} (hu : P.underlying ty = some .bool) {x y x' y' v : Value} (ox oy : Operand) (he : aBinB op x y = some v) (hx : VR ι x x') (hy : VR ι y y') :
  SemOk P w0 ι h w (do eqGuard op ty ox oy x' y'; binOp op ty x' y') v := by
 unfold aBinB at he
 split at he
 ·rename_i a b
  obtain rfl := hx.bool_inv; obtain rfl := hy.bool_inv
  cases op <;> simp at he
  case eql =>
   subst he
   have e1 : binOp .eql ty (.bool a) (.bool b) = (do pure (.bool (← Op.equal ty (.bool a) (.bool b)))) := rfl
   exact SemOk.same H (by rw [eqGuard_at_bool, e1]; simp [run_equal_bool hu]) (.s0 (.bool _))
  case neq =>
   subst he
   have e1 : binOp .neq ty (.bool a) (.bool b) = (do pure (.bool (!(← Op.equal ty (.bool a) (.bool b))))) := rfl
   exact SemOk.same H (by rw [eqGuard_at_bool, e1]; simp [run_equal_bool hu]) (.s0 (.bool _))
 ·simp at he
theorem binP_sound (H : HRel P w0 ι h w) {op : BinOp} {ty e : TypeId} (hu : P.underlying ty = some (.pointer e)) {x y x' y' v : Value} (ox oy : Operand) (he : aBinP op x y = some v) (hx : VR ι x x') (hy : VR ι y y') :
  SemOk P w0 ι h w (do eqGuard op ty ox oy x' y'; binOp op ty x' y') v := by
 unfold aBinP at he
 split at he
 ·rename_i a
  obtain rfl := hy.ptrNil_inv
  obtain ⟨a', rfl, hn⟩ : ∃ a', x' = .pointer a' ∧ a'.isNone = a.isNone := by
   cases a with
   | none => exact ⟨none, hx.ptrNil_inv, rfl⟩
   | some a =>
    cases hx with
    | s2 hv => cases hv with
     | s1 hv => cases hv with
      | s0 hv => cases hv; exact ⟨_, rfl, rfl⟩
  cases op <;> simp at he
  case eql =>
   subst he
   have e1 : binOp .eql ty (.pointer a') (.pointer none) = (do pure (.bool (← Op.equal ty (.pointer a') (.pointer none)))) := rfl
   exact SemOk.same H (by rw [eqGuard_at_pointer, e1]; simp [run_equal_ptr hu, hn]) (.s0 (.bool _))
  case neq =>
   subst he
   have e1 : binOp .neq ty (.pointer a') (.pointer none) = (do pure (.bool (!(← Op.equal ty (.pointer a') (.pointer none))))) := rfl
   exact SemOk.same H (by rw [eqGuard_at_pointer, e1]; simp [run_equal_ptr hu, hn]) (.s0 (.bool _))
 ·simp at he
theorem un_sound (H : HRel P w0 ι h w) {op : UnOp} {x x' v : Value} (he : aUn op x = some v) (hx : VR ι x x') : SemOk P w0 ι h w (Op.unary op x') v := by
 unfold aUn at he
 split at he
 ·simp at he; subst he
  obtain rfl := hx.int_inv
  exact SemOk.same H (by simp [Op.unary, Op.intArith]) (.s0 (.int _ _))
 ·simp at he; subst he
  obtain rfl := hx.bool_inv
  exact SemOk.same H (by simp [Op.unary]) (.s0 (.bool _))
 ·simp at he
theorem cvInt_sound (H : HRel P w0 ι h w) {src dst : TypeId} {ks kd : IntKind} (hs : P.underlying src = some (.int ks)) (hd : P.underlying dst = some (.int kd)) {x x' v : Value} (he : aCvInt kd x = some v) (hx : VR ι x x') : SemOk P w0 ι h w (convert src dst x') v := by
 unfold aCvInt at he
 split at he
 ·simp at he; subst he
  obtain rfl := hx.int_inv
  exact SemOk.same H (v' := .int kd _) (by simp [convert, run_underlying hs, run_underlying hd, Conv.intToInt]) (.s0 (.int _ _))
 ·simp at he
theorem nil_sound {x x' v : Value} (he : aNil x = some v) (hx : VR ι x x') : VR ι v x' ∧ ((∃ a, x' = .pointer (some a)) ∨ ∃ f a b, x' = .func (.func f) a b) := by
 unfold aNil at he
 split at he
 ·simp at he; subst he
  refine ⟨hx, .inl ?_⟩
  cases hx with
  | s2 hv => cases hv with
   | s1 hv => cases hv with
    | s0 hv => cases hv; exact ⟨_, rfl⟩
 ·simp at he; subst he
  obtain ⟨a', c', rfl, _⟩ := hx.func_inv
  exact ⟨hx, .inr ⟨_, _, _, rfl⟩⟩
 ·simp at he
theorem ext_sound (H : HRel P w0 ι h w) {x x' v : Value} {i : Nat} (he : aExt x i = some v) (hx : VR ι x x') : SemOk P w0 ι h w (Instr.extract x' i) v := by
 unfold aExt at he
 split at he
 ·obtain ⟨a', rfl, ha⟩ := hx.tuple_inv
  obtain ⟨b, g1, g2⟩ := ha.get i v (by simpa using he)
  exact SemOk.same H (v' := b) (by simp at g1; simp [Instr.extract, g1]) (.s2 g2)
 ·simp at he
theorem mm_sound (H : HRel P w0 ι h w) {ats : Array TypeId} {t : TypeId} (mx : Bool) {x y x' y' v : Value} (he : aMm mx x y = some v) (hx : VR ι x x') (hy : VR ι y y') :
  SemOk P w0 ι h w (if mx then Builtin.max_ ats t #[x', y'] else Builtin.min_ ats t #[x', y']) v := by
 unfold aMm at he
 split at he
 ·rename_i k a k' b
  split at he
  ·rename_i hk
   subst hk
   simp at he; subst he
   obtain rfl := hx.int_inv; obtain rfl := hy.int_inv
   cases mx
   ·refine SemOk.same H (v' := .int k _) ?_ (.s0 (.int _ _))
    simp [Builtin.min_, Builtin.min2]
   ·refine SemOk.same H (v' := .int k _) ?_ (.s0 (.int _ _))
    simp [Builtin.max_, Builtin.max2]
  ·simp at he
 ·simp at he
end
open Go.RowKit Go.Lib
section
variable {P : Program} {w0 : W0} {w : World} {ι : Inj} {h : AHeap}
theorem bound_inv {v v' : Value} {n m : Nat} (he : aBound v n = some m) (hv : VR ι v v') : ∃ k j, v' = .int k j ∧ 0 ≤ j ∧ j ≤ n ∧ m = j.toNat ∧ m ≤ n := by
 unfold aBound at he
 split at he
 ·rename_i k j
  split at he
  ·rename_i hc
   simp at he; subst he
   obtain rfl := hv.int_inv
   exact ⟨k, j, rfl, hc.1, hc.2, rfl, by omega⟩
  ·simp at he
 ·simp at he
theorem bounds_sound (isSlice : Bool) {n cap : Nat} (hcap : n ≤ cap) {t : Tm} {a : Act} (ht : TR ι t a.tmps) {olo ohi : Option Operand} {l hh : Nat}
  (h1 : (match ohi.map (AH.evX t) with | some v => aBound v n | none => some n) = some hh) (h2 : (match olo.map (AH.evX t) with | some v => aBound v hh | none => some 0) = some l) (w : World) :
  (Instr.sliceBounds isSlice n cap (olo.map a.eval) (ohi.map a.eval) none).run P w = .ok (l, hh, cap) w ∧ l ≤ hh ∧ hh ≤ n := by
 cases ohi with
 | none =>
  simp at h1; subst h1
  cases olo with
  | none => simp at h2; subst h2; exact ⟨by simp [Instr.sliceBounds], Nat.zero_le _, Nat.le_refl _⟩
  | some y =>
   simp only [Option.map_some] at h2
   obtain ⟨k, j, hv, j0, j1, rfl, j2⟩ := bound_inv h2 (ht.evX y)
   exact ⟨by simp [Instr.sliceBounds, hv, Instr.sliceBound, asIntOf, j0, j1], j2, Nat.le_refl _⟩
 | some x =>
  simp only [Option.map_some] at h1
  obtain ⟨k, j, hv, j0, j1, rfl, j2⟩ := bound_inv h1 (ht.evX x)
  have e : j ≤ (cap : Int) := by omega
  cases olo with
  | none => simp at h2; subst h2; exact ⟨by simp [Instr.sliceBounds, hv, Instr.sliceBound, asIntOf, j0, e], Nat.zero_le _, j2⟩
  | some y =>
   simp only [Option.map_some] at h2
   obtain ⟨k2, i, hv2, i0, i1, rfl, i2⟩ := bound_inv h2 (ht.evX y)
   have e2 : i ≤ max j 0 := by omega
   exact ⟨by simp [Instr.sliceBounds, hv, hv2, Instr.sliceBound, asIntOf, j0, e, i0, e2], i2, j2⟩
theorem sub_sound (H : HRel P w0 ι h w) {ty e : TypeId} {n : Nat} (hu : P.underlying ty = some (.slice e)) (hn : tSize P e = some n) {t : Tm} {a : Act} (ht : TR ι t a.tmps) {olo ohi : Option Operand} {x x' v : Value}
  (hx : VR ι x x') (he : aSub h e x (olo.map (AH.evX t)) (ohi.map (AH.evX t)) n = some v) : SemOk P w0 ι h w (Instr.sliceAt ty x' (olo.map a.eval) (ohi.map a.eval) none) v := by
 have hat : ∀ x' lo hi, (Instr.sliceAt ty x' lo hi none).run P w = (Instr.slice ty x' lo hi none).run P w := fun x' lo hi => by simp [Instr.sliceAt, run_underlying hu]
 unfold aSub at he
 split at he
 ·rename_i b off m c
  split at he
  case isFalse => simp at he
  rename_i hel
  simp only [Option.bind_eq_some_iff] at he
  obtain ⟨hh, h1, l, h2, he⟩ := he
  simp at he; subst he
  have hes : ∀ p, ι.pl b = some p → p.esz = n := by
   intro p hp
   simp only [Option.map_eq_some_iff] at hel
   obtain ⟨o, ho, rfl⟩ := hel
   obtain ⟨_, e3, _⟩ := H.objp ho hp
   have := (H.pl b p hp).esz
   rw [e3, hn] at this
   simpa using this.symm
  rcases hx.slc_inv with ⟨p, c', hp, g1, g2, rfl⟩ | ⟨rfl, ho, a', rfl⟩
  ·obtain ⟨hr, b1, b2⟩ := bounds_sound (P := P) true g1 ht h1 h2 w
   have hesz := hes p hp
   refine SemOk.same H (v' := .slice (if c' = l then some ⟨p.blk, p.base + off, none⟩ else (some (⟨p.blk, p.base + off, none⟩ : Addr)).map (·.add (l * n))) (hh - l) (c' - l)) ?_ ?_
   ·rw [hat]
    simp [Instr.slice, run_underlying hu, hr, run_sizeOf' hn]
   ·by_cases hc : c' = l
    ·rw [if_pos hc]
     have hz : hh - l = 0 := by omega
     have hz2 : c' - l = 0 := by omega
     rw [hz, hz2]
     by_cases hpos : 0 < off + l * n
     ·exact .s0 (.slcEmp _ _ _ _ hpos)
     ·have e0 : off = 0 := by omega
      have e1 : l * n = 0 := by omega
      have := VR.s0 (S0.slc (ι := ι) b 0 0 0 p 0 hp (Nat.le_refl _) (by simp))
      rw [e0, e1]
      exact this
    ·rw [if_neg hc]
     simp only [Option.map_some, add_mk]
     have := VR.s0 (S0.slc (ι := ι) b (off + l * n) (hh - l) (hh - l) p (c' - l) hp (by omega) (by
      have : c' * p.esz = l * p.esz + (c' - l) * p.esz := by rw [← Nat.add_mul]; congr 1; omega
      rw [hesz] at this ⊢; rw [hesz] at g2; omega))
     rw [← Nat.add_assoc] at this
     exact this
  ·obtain ⟨hr, b1, b2⟩ := bounds_sound (P := P) true (Nat.le_refl 0) ht h1 h2 w
   have e1 : hh = 0 := by omega
   have e2 : l = 0 := by omega
   subst e1; subst e2
   refine SemOk.same H (v' := .slice (some a') 0 0) ?_ (.s0 (by simpa using S0.slcEmp b off 0 a' ho))
   rw [hat]
   simp [Instr.slice, run_underlying hu, hr, run_sizeOf' hn]
 ·rename_i c
  simp only [Option.bind_eq_some_iff] at he
  obtain ⟨hh, h1, l, h2, he⟩ := he
  simp at he; subst he
  obtain ⟨_, rfl⟩ := hx.slcNil_inv
  obtain ⟨hr, b1, b2⟩ := bounds_sound (P := P) true (Nat.le_refl 0) ht h1 h2 w
  have e1 : hh = 0 := by omega
  have e2 : l = 0 := by omega
  subst e1; subst e2
  refine SemOk.same H (v' := .slice none 0 0) ?_ (.s0 (.slcNil _))
  rw [hat]
  simp [Instr.slice, run_underlying hu, hr, run_sizeOf' hn]
 ·simp at he
theorem subS_sound (H : HRel P w0 ι h w) {ty : TypeId} (hu : P.underlying ty = some .string) {t : Tm} {a : Act} (ht : TR ι t a.tmps) {olo ohi : Option Operand} {x x' v : Value}
  (hx : VR ι x x') (he : aSubS x (olo.map (AH.evX t)) (ohi.map (AH.evX t)) = some v) : SemOk P w0 ι h w (Instr.sliceAt ty x' (olo.map a.eval) (ohi.map a.eval) none) v := by
 unfold aSubS at he
 split at he
 ·rename_i s
  simp only [Option.bind_eq_some_iff] at he
  obtain ⟨hh, h1, l, h2, he⟩ := he
  simp at he; subst he
  obtain rfl := hx.string_inv
  obtain ⟨hr, b1, b2⟩ := bounds_sound (P := P) false (Nat.le_refl s.size) ht h1 h2 w
  refine SemOk.same H (v' := .string (s.extract l hh)) ?_ (.s0 (.string _))
  simp [Instr.sliceAt, Instr.slice, run_underlying hu, hr]
 ·simp at he
theorem mk_makes {ty e : TypeId} {n b : Nat} (hu : P.underlying ty = some (.slice e)) (hn : tSize P e = some n) (hpos : 0 < n) {z : List Value} (hz : tZero P e = some z) (hzl : z.length = n) (hb : tBytes P e = some b)
  {l l' c c' : Value} {r : Value × AHeap} (he : aMk h e z b l c = some r) (hl : VR ι l l') (hc : VR ι c c') : ∃ cs n, Makes P ι w (Instr.makeSlice ty l' c') e cs (fun i => slc i 0 n) ∧ ∀ h, aMk h e z b l c = some (slc h.size 0 n, h.new e cs) := by
 unfold aMk at he
 split at he
 ·rename_i l c
  split at he
  ·rename_i hcd
   simp at he; subst he
   refine ⟨(List.replicate l.toNat z).flatten, l.toNat, ?_, fun h => by simp [aMk, hcd]⟩
   obtain rfl := hl.int_inv; obtain rfl := hc.int_inv
   obtain ⟨i, zv, hi, hzv, hzc, hpl⟩ := tZero_info' hz
   obtain ⟨i2, hi2, hs2⟩ := tSize_info hn
   rw [hi] at hi2; cases hi2
   have hb' : i.bytes = b := by simpa [tBytes, hi] using hb
   obtain ⟨h0, h1, h2, h3⟩ := hcd
   have hby : (i.bytes : Int) * c ≤ 281474976710656 := by
    rw [hb']
    have : ((c.toNat * b : Nat) : Int) ≤ 140737488355328 := by unfold most at h3; omega
    rw [Int.natCast_mul, Int.toNat_of_nonneg (by omega), Int.mul_comm] at this
    omega
   have h63 : c ≤ 9223372036854775807 := by unfold most at h2; omega
   have hrun := run_make (P := P) w ty e i zv hu hi hzv .i64 .i64 l c h0 h1 hby h63
   have hsz : zv.cells.size = n := by rw [← Array.length_toList, hzc, hzl]
   have harr : madeCells zv.cells (c.toNat * i.size) = ((Array.range (c.toNat * n)).map (zv.cells[· % zv.cells.size]!)) := by
    unfold madeCells
    rw [hs2]
   have hflat := flat_sound (ι := ι) hzc hpl hpos hzl c.toNat
   have hsize : (madeCells zv.cells (c.toNat * i.size)).size = c.toNat * n := by rw [harr]; simp
   have hlc : l.toNat ≤ c.toNat := by omega
   refine ⟨_, n, c.toNat * n, madeCells zv.cells (c.toNat * i.size), hrun, hn, (by rw [places_flat n hzl]; exact Nat.mul_le_mul_right _ hlc), (by rw [hsize]; exact Nat.le_refl _),
    (fun j v hj => by
     have hj' : j < l.toNat * n := by have := (List.getElem?_eq_some_iff.1 hj).1; rw [places_flat n hzl] at this; exact this
     have hj2 : j < c.toNat * n := Nat.lt_of_lt_of_le hj' (Nat.mul_le_mul_right _ hlc)
     rw [flat_get n hpos hzl _ j hj'] at hj
     rw [← flat_get n hpos hzl c.toNat j hj2] at hj
     obtain ⟨b, g1, g2⟩ := hflat.get j v hj
     exact ⟨b, by rw [harr, ← toList_getElem?]; exact g1, g2⟩), fun ι' i hp => .s0 ?_⟩
   have := S0.slc (ι := ι') i 0 l.toNat l.toNat ⟨w.heap.size, 0, c.toNat * n, n, false, e⟩ c.toNat hp hlc (by simp)
   simpa [slc] using this
  ·simp at he
 ·simp at he
theorem mk_sound (H : HRel P w0 ι h w) {ty e : TypeId} {n b : Nat} (hu : P.underlying ty = some (.slice e)) (hn : tSize P e = some n) (hpos : 0 < n) {z : List Value} (hz : tZero P e = some z) (hzl : z.length = n) (hb : tBytes P e = some b)
  {l l' c c' : Value} {r : Value × AHeap} (he : aMk h e z b l c = some r) (hl : VR ι l l') (hc : VR ι c c') : SemOk P w0 ι r.2 w (Instr.makeSlice ty l' c') r.1 := by
 obtain ⟨cs, n, m, h1⟩ := mk_makes (w := w) hu hn hpos hz hzl hb he hl hc
 rw [h1] at he
 simp at he; subst he
 exact m.sound H
theorem run_append_nn (t ty e : TypeId) (i : TypeInfo) (ht : P.underlying t = some (.slice e)) (hi : P.info? e = some i) (w : World) : (Builtin.append_ #[t, t] ty #[.slice none 0 0, .slice none 0 0]).run P w = .ok (.slice none 0 0) w := by
 simp [Builtin.append_, run_underlying ht, sizeOf, typeInfo, hi, Builtin.lenOf, Builtin.firstCells]
theorem run_append_ne (t ty e : TypeId) (i : TypeInfo) (ht : P.underlying t = some (.slice e)) (hi : P.info? e = some i) (a : Addr) (c : Nat) (w : World) : (Builtin.append_ #[t, t] ty #[.slice none 0 0, .slice (some a) 0 c]).run P w = .ok (.slice none 0 0) w := by
 simp [Builtin.append_, run_underlying ht, sizeOf, typeInfo, hi, Builtin.lenOf, Builtin.firstCells, loadCells, loadCellsFrom]
theorem run_append_sn (t ty e : TypeId) (i : TypeInfo) (ht : P.underlying t = some (.slice e)) (hi : P.info? e = some i) (b : Addr) (n c : Nat) (hn : n ≤ c) (w : World) : (Builtin.append_ #[t, t] ty #[.slice (some b) n c, .slice none 0 0]).run P w = .ok (.slice (some b) n c) w := by
 simp [Builtin.append_, run_underlying ht, sizeOf, typeInfo, hi, Builtin.lenOf, Builtin.firstCells, hn, storeCells]
theorem run_append_se (t ty e : TypeId) (i : TypeInfo) (ht : P.underlying t = some (.slice e)) (hi : P.info? e = some i) (b a : Addr) (n c d : Nat) (hn : n ≤ c) (w : World) : (Builtin.append_ #[t, t] ty #[.slice (some b) n c, .slice (some a) 0 d]).run P w = .ok (.slice (some b) n c) w := by
 simp [Builtin.append_, run_underlying ht, sizeOf, typeInfo, hi, Builtin.lenOf, Builtin.firstCells, hn, storeCells, loadCells, loadCellsFrom]
theorem run_append_ns (t u ty e : TypeId) (i : TypeInfo) (ht : P.underlying t = some (.slice e)) (hu : P.underlying u = some .string) (hi : P.info? e = some i) (s : ByteArray) (hs : s.size = 0) (w : World) : (Builtin.append_ #[t, u] ty #[.slice none 0 0, .string s]).run P w = .ok (.slice none 0 0) w := by
 simp [Builtin.append_, run_underlying ht, run_underlying hu, sizeOf, typeInfo, hi, Builtin.lenOf, Builtin.firstCells, hs]
inductive SrcOk (P : Program) (w : World) (ι : Inj) (n : Nat) (t u : TypeId) : Value → Nat → List Value → Prop
 | nil : u = t → SrcOk P w ι n t u (.slice none 0 0) 0 []
 | emp (a d) : u = t → SrcOk P w ι n t u (.slice (some a) 0 d) 0 []
 | cells (a m d) (cs cs' : List Value) : u = t → All2 (S1 ι) cs cs' → cs.length = m * n → (∀ (j : Nat) v, cs'[j]? = some v → w.cell? (a.add j) = some v) → SrcOk P w ι n t u (.slice (some a) m d) m cs
 | string (s m) : m = s.size → P.underlying u = some .string → n = 1 → SrcOk P w ι n t u (.string s) m (s.data.toList.map fun b => .int .u8 b.toNat)
theorem src_sound (H : HRel P w0 ι h w) {n : Nat} {t : TypeId} {x x' : Value} {m : Nat} {cs : List Value} (he : aSrc h n x = some (m, cs)) (hx : VR ι x x') : SrcOk P w ι n t t x' m cs := by
 unfold aSrc at he
 split at he
 ·rename_i i off k c
  simp only [Option.map_eq_some_iff] at he
  obtain ⟨cs2, hr, he⟩ := he
  simp at he; obtain ⟨rfl, rfl⟩ := he
  rcases hx.slc_inv with ⟨q, c', hq, _, _, rfl⟩ | ⟨rfl, _, a', rfl⟩
  ·obtain ⟨cs', ha, hl, hc⟩ := rd_sound H hq hr
   exact .cells _ _ _ _ _ rfl ha hl hc
  ·have : cs2 = [] := List.eq_nil_of_length_eq_zero (by simpa using rd_len hr)
   subst this
   exact .emp _ _ rfl
 ·obtain ⟨rfl, rfl⟩ := hx.slcNil_inv
  simp at he; obtain ⟨rfl, rfl⟩ := he
  exact .nil rfl
 ·simp at he
theorem srcS_sound {n : Nat} (hn : n = 1) {t u : TypeId} (hu : P.underlying u = some .string) {x x' : Value} {m : Nat} {cs : List Value} (he : aSrcS x = some (m, cs)) (hx : VR ι x x') : SrcOk P w ι n t u x' m cs := by
 unfold aSrcS at he
 split at he
 ·obtain rfl := hx.string_inv
  simp at he; obtain ⟨rfl, rfl⟩ := he
  exact .string _ _ rfl hu hn
 ·simp at he
theorem str_cells (s : ByteArray) : s.data.toList.map (fun b => Value.int .u8 b.toNat) = strCells s := by simp [strCells]
theorem grown_get {R : Value → Value → Prop} {xs xs' : List Value} (h : All2 R xs xs') (rest : Array Value) (arr : Array Value) (harr : arr.toList = xs' ++ rest.toList) (j : Nat) (v : Value) (hj : xs[j]? = some v) : ∃ v', arr[j]? = some v' ∧ R v v' := by
 obtain ⟨b, g1, g2⟩ := h.get j v hj
 refine ⟨b, ?_, g2⟩
 rw [← toList_getElem?, harr, List.getElem?_append_left (List.getElem?_eq_some_iff.1 g1).1]
 exact g1
theorem appG_sound (H : HRel P w0 ι h w) {t u ty e : TypeId} {n b : Nat} (ht : P.underlying t = some (.slice e)) (hn : tSize P e = some n) (hpos : 0 < n) (hb : tBytes P e = some b) {z : List Value} (hz : tZero P e = some z) (hzl : z.length = n)
  {s s' x' : Value} {src : Option (Nat × List Value)} {r : Value × AHeap} (he : aAppG h e n b s src = some r) (hs : VR ι s s') (hsrc : ∀ m cs, src = some (m, cs) → SrcOk P w ι n t u x' m cs) :
  SemOk P w0 ι r.2 w (Builtin.append_ #[t, u] ty #[s', x']) r.1 := by
 obtain ⟨i, zv, hi, hzv, hzc, hpl⟩ := tZero_info' hz
 obtain ⟨i2, hi2, hs2⟩ := tSize_info hn
 rw [hi] at hi2; cases hi2
 have hb' : i.bytes = b := by simpa [tBytes, hi] using hb
 have hzs : zv.cells.size = n := by rw [← Array.length_toList, hzc, hzl]
 unfold aAppG at he
 split at he
 ·-- nil
  simp only [Option.bind_eq_some_iff] at he
  obtain ⟨⟨m, cs⟩, hsr, he⟩ := he
  have hx := hsrc m cs hsr
  obtain ⟨_, rfl⟩ := hs.slcNil_inv
  split at he
  ·rename_i h0
   simp at h0; subst h0
   simp at he; subst he
   refine SemOk.same H (v' := .slice none 0 0) ?_ (.s0 (.slcNil _))
   cases hx with
   | nil hu => subst hu; exact run_append_nn _ _ e i ht hi w
   | emp a d hu => subst hu; exact run_append_ne _ _ e i ht hi a d w
   | cells a m d cs cs' hu => subst hu; exact run_append_ne _ _ e i ht hi a d w
   | string s m hm hu => exact run_append_ns t u ty e i ht hu hi s hm.symm w
  ·rename_i h0
   split at he
   ·rename_i hbd
    simp at he; subst he
    simp at h0 hbd
    have hm0 : 0 < m := by omega
    have hmk : ∀ (xs' : List Value) (cap : Nat), m ≤ cap → All2 (S1 ι) cs xs' → cs.length = m * n → ∀ (W : World), HRel P w0 ι h W → Nxt ι w ι W → ∀ (rest : Array Value) (arr : Array Value), arr.toList = xs' ++ rest.toList → arr.size = cap * n →
      ∀ sem, sem = Result.ok (.slice (some ⟨W.heap.size, 0, none⟩) m cap) (W.alloc (.cells arr e)) → (Builtin.append_ #[t, u] ty #[.slice none 0 0, x']).run P w = sem →
      SemOk P w0 ι (h.new e cs) w (Builtin.append_ #[t, u] ty #[.slice none 0 0, x']) (slc h.size 0 m) := by
     intro xs' cap hcap hall hlen W HW NW rest arr harr hsize sem hsem hrun
     subst hsem
     obtain ⟨k1, k2⟩ := HW.alloc e n (cap * n) arr cs hn (by rw [hlen]; exact Nat.mul_le_mul_right _ hcap) (by rw [hsize]; exact Nat.le_refl _) (fun j v hj => grown_get hall rest arr harr j v hj)
     refine ⟨_, _, _, hrun, NW.trans k2, k1, .s0 ?_⟩
     have := S0.slc (ι := ι.add h.size ⟨W.heap.size, 0, cap * n, n, false, e⟩) h.size 0 m m ⟨W.heap.size, 0, cap * n, n, false, e⟩ cap (if_pos rfl) hcap (by simp)
     simpa [slc] using this
    have h63 : (m : Int) ≤ 9223372036854775807 := by have := hbd.1; unfold most at this; omega
    have h48 : m * i.bytes ≤ 281474976710656 := by rw [hb']; have := hbd.2; unfold most at this; omega
    have hge := grownCap_ge w m 0 e
    cases hx with
    | nil => omega
    | emp => omega
    | cells a m d cs cs' hu hall hlen hc =>
     subst hu
     have hrun := run_append_nil (P := P) w u ty e i zv ht hi hzv a m d cs' (by rw [← hall.length, hlen, hs2]) hc hm0 h63 h48
     refine hmk cs' (grownCap w m 0 e) hge hall hlen w.drew H.drew (Nxt.drew ι w) (Builtin.zeroCells zv.cells (grownCap w m 0 e - m)) _ (by simp) ?_ _ rfl hrun
     simp [size_zeroCells, hzs, ← hall.length, hlen, ← Nat.add_mul]
     congr 1; omega
    | string s m hm hu h1 =>
     subst hm
     subst h1
     have hrun := run_append_nil_string (P := P) w t u ty e i zv ht hu hi hzv s hm0 h63 h48
     refine hmk (strCells s) (grownCap w s.size 0 e) hge (All2.refl fun a ha => ?_) (by simp) w.drew H.drew (Nxt.drew ι w) (Builtin.zeroCells zv.cells (grownCap w s.size 0 e - s.size)) _ (by simp [strCells]) ?_ _ rfl hrun
     ·simp [strCells] at ha
      obtain ⟨b, _, rfl⟩ := ha
      exact .s0 (.int _ _)
     ·simp [size_zeroCells, hzs]
      have : s.data.size = s.size := rfl
      omega
   ·simp at he
 ·-- a row
  rename_i id len c
  split at he
  ·rename_i o ho
   simp only [Option.bind_eq_some_iff] at he
   obtain ⟨⟨m, cs⟩, hsr, he⟩ := he
   have hx := hsrc m cs hsr
   split at he
   ·rename_i hcd
    obtain ⟨hro, hel, hk, hml, hmb⟩ := hcd
    simp at he; subst he
    subst hel
    simp at hk hml hmb
    obtain ⟨p, c', hp, g1, g2, rfl⟩ | ⟨_, hoff, _⟩ := hs.slc_inv
    case inr => omega
    obtain ⟨e2, e3, e4, e5⟩ := H.objp ho hp
    have hpro := e2.trans hro
    obtain ⟨_, hbase⟩ := (H.pl id p hp).own hpro
    obtain ⟨arr, el, fr, hbk, hsz, hfr⟩ := (H.pl id p hp).block
    obtain ⟨rfl, rfl⟩ := hfr hpro
    have hesz : p.esz = n := by
     have := (H.pl id p hp).esz
     rw [e3, hn] at this
     simpa using this.symm
    rw [hesz, Nat.zero_add] at g2
    simp only [hbase, Nat.add_zero]
    have hbk' : w.heap[p.blk]? = some (.cells arr o.elem (0, 0)) := by rw [← e3]; exact hbk
    -- within the room
    have hroom : ∀ (cs' : List Value), All2 (S1 ι) cs cs' → cs.length = m * n → len + m ≤ c' →
      (Builtin.append_ #[t, u] ty #[.slice (some ⟨p.blk, 0, none⟩) len c', x']).run P w = .ok (.slice (some ⟨p.blk, 0, none⟩) (len + m) c') (w.setRow p.blk (arr.toList.take (len * n) ++ cs' ++ arr.toList.drop (len * n + cs'.length)).toArray) →
      SemOk P w0 ι (h.app o (len * n) (o.cells.take (len * n) ++ cs)) w (Builtin.append_ #[t, u] ty #[.slice (some ⟨p.blk, 0, none⟩) len c', x']) (slc h.size 0 (len + m)) := by
     intro cs' hall hlen hle hrun
     have hfit : len * n + cs'.length ≤ p.cap := by
      rw [← hall.length, hlen, ← Nat.add_mul]
      exact Nat.le_trans (Nat.mul_le_mul_right _ hle) g2
     obtain ⟨k1, k2⟩ := H.appRoom ho hro p hp arr hbk (len * n) hk cs cs' hall hfit
     refine ⟨_, _, _, hrun, k2, k1, .s0 ?_⟩
     have := S0.slc (ι := ι.add h.size p) h.size 0 (len + m) (len + m) p c' (if_pos rfl) hle (by rw [hesz]; simpa using g2)
     simpa [slc, hbase] using this
    -- nothing is appended
    have hsame : m = 0 → cs = [] → (Builtin.append_ #[t, u] ty #[.slice (some ⟨p.blk, 0, none⟩) len c', x']).run P w = .ok (.slice (some ⟨p.blk, 0, none⟩) len c') w →
      SemOk P w0 ι (h.app o (len * n) (o.cells.take (len * n) ++ cs)) w (Builtin.append_ #[t, u] ty #[.slice (some ⟨p.blk, 0, none⟩) len c', x']) (slc h.size 0 (len + m)) := by
     intro hm hcs hrun
     subst hm; subst hcs
     refine hroom [] .nil (by simp) (by omega) ?_
     rw [hrun]
     simp only [Nat.add_zero, List.append_nil, List.length_nil, List.take_append_drop, Array.toArray_toList]
     rw [setRow_self w p.blk arr _ _ hbk]
    -- a new block
    have hgrow : ∀ (cs' : List Value), All2 (S1 ι) cs cs' → cs.length = m * n → c' < len + m → ∀ (rest arr2 : Array Value), arr2.toList = (arr.toList.take (len * n) ++ cs') ++ rest.toList → arr2.size = grownCap w (len + m) c' o.elem * n →
      (Builtin.append_ #[t, u] ty #[.slice (some ⟨p.blk, 0, none⟩) len c', x']).run P w = .ok (.slice (some ⟨w.heap.size, 0, none⟩) (len + m) (grownCap w (len + m) c' o.elem)) (w.drew.alloc (.cells arr2 o.elem)) →
      SemOk P w0 ι (h.app o (len * n) (o.cells.take (len * n) ++ cs)) w (Builtin.append_ #[t, u] ty #[.slice (some ⟨p.blk, 0, none⟩) len c', x']) (slc h.size 0 (len + m)) := by
     intro cs' hall hlen hlt rest arr2 harr hsize hrun
     have hge := grownCap_ge w (len + m) c' o.elem
     have hkl : (o.cells.take (len * n)).length = len * n := by simp; omega
     have hall2 : All2 (S1 ι) (o.cells.take (len * n) ++ cs) (arr.toList.take (len * n) ++ cs') := by
      refine All2.append (All2.of_get (by rw [hkl]; simp; omega) fun j a b ha hb => ?_) hall
      have hj : j < len * n := by have := (List.getElem?_eq_some_iff.1 ha).1; omega
      rw [List.getElem?_take, if_pos hj] at ha hb
      obtain ⟨v', f1, f2⟩ := e5 j a ha
      rw [hbase, Nat.zero_add] at f1
      simp [World.cell?, hbk] at f1
      simp at hb
      rw [hb] at f1; cases f1
      exact f2
     obtain ⟨k1, k2⟩ := H.drew.appGrow ho (H.nf hp) n hn (len * n) (o.cells.take (len * n) ++ cs) (by simp; omega) (grownCap w (len + m) c' o.elem * n) (by rw [List.length_append, hkl, hlen, ← Nat.add_mul]; exact Nat.mul_le_mul_right _ hge) arr2 (by rw [hsize]; exact Nat.le_refl _)
      (fun j v hj => grown_get hall2 rest arr2 harr j v hj)
     refine ⟨_, _, _, hrun, (Nxt.drew ι w).trans k2, k1, .s0 ?_⟩
     have := S0.slc (ι := ι.add h.size ⟨w.heap.size, 0, grownCap w (len + m) c' o.elem * n, n, false, o.elem⟩) h.size 0 (len + m) (len + m) ⟨w.heap.size, 0, grownCap w (len + m) c' o.elem * n, n, false, o.elem⟩ (grownCap w (len + m) c' o.elem) (if_pos rfl) hge (by simp)
     simpa [slc] using this
    have h63 : ((len + m : Nat) : Int) ≤ 9223372036854775807 := by unfold most at hml; omega
    have holds : ∀ (j : Nat) v, (arr.toList.take (len * n))[j]? = some v → w.cell? ((⟨p.blk, 0, none⟩ : Addr).add j) = some v := by
     intro j v hv
     have hj : j < len * n := by
      have := (List.getElem?_eq_some_iff.1 hv).1
      simp at this; omega
     rw [List.getElem?_take, if_pos hj] at hv
     rw [add_mk, Nat.zero_add]
     simp [World.cell?, hbk]
     simpa using hv
    have hlo : (arr.toList.take (len * n)).length = len * i.size := by rw [hs2]; simp; omega
    have hnsc : c' < len + m → Builtin.nextslicecap (len + m) c' * i.bytes ≤ 281474976710656 := by
     intro hlt
     have h1 := nextslicecap_le hlt
     have h2 := Nat.mul_le_mul_right i.bytes h1
     rw [hb'] at h2 ⊢
     have : 2 * (len + m) * b = 2 * ((len + m) * b) := by rw [Nat.mul_assoc]
     unfold most at hmb
     omega
    cases hx with
    | nil hu => subst hu; exact hsame rfl rfl (run_append_sn u ty o.elem i ht hi _ len c' g1 w)
    | emp a d hu => subst hu; exact hsame rfl rfl (run_append_se u ty o.elem i ht hi _ a len c' d g1 w)
    | cells a m d cs cs' hu hall hlen hc =>
     subst hu
     by_cases hle : len + m ≤ c'
     ·refine hroom cs' hall hlen hle ?_
      have hrun := run_append_room (P := P) w u ty o.elem i ht hi p.blk len c' arr hbk' a m d cs' (by rw [← hall.length, hlen, hs2]) hc hall.cells hle (by
       rw [hs2, ← hall.length, hlen, ← Nat.add_mul]
       exact Nat.le_trans (Nat.mul_le_mul_right _ hle) (by omega))
      rw [hs2] at hrun
      exact hrun
     ·have hlt : c' < len + m := by omega
      have hge := grownCap_ge w (len + m) c' o.elem
      have hrun := run_append_grow (P := P) w u ty o.elem i zv ht hi hzv ⟨p.blk, 0, none⟩ len c' _ hlo holds a m d cs' (by rw [← hall.length, hlen, hs2]) hc hlt h63 (hnsc hlt)
      refine hgrow cs' hall hlen hlt (Builtin.zeroCells zv.cells (grownCap w (len + m) c' o.elem - (len + m))) _ (by simp) ?_ hrun
      have h1 := hall.length
      simp only [Array.size_append, List.size_toArray, size_zeroCells, hzs, hlo, hs2]
      rw [← h1, hlen, ← Nat.add_mul, ← Nat.add_mul]
      congr 1; omega
    | string s m hm hu h1 =>
     subst hm
     subst h1
     simp only [Nat.mul_one] at *
     have hall : All2 (S1 ι) (s.data.toList.map fun b => Value.int .u8 b.toNat) (strCells s) := by
      rw [str_cells]
      refine All2.refl fun a ha => ?_
      simp [strCells] at ha
      obtain ⟨b, _, rfl⟩ := ha
      exact .s0 (.int _ _)
     have hlen : (s.data.toList.map fun b => Value.int .u8 b.toNat).length = s.size := by simp
     by_cases hle : len + s.size ≤ c'
     ·refine hroom (strCells s) hall hlen hle ?_
      have hrun := run_append_room_string (P := P) w t u ty o.elem i ht hu hi hs2 p.blk len c' arr hbk' s hle (by omega)
      rw [strCells_length]
      exact hrun
     ·have hlt : c' < len + s.size := by omega
      have hge := grownCap_ge w (len + s.size) c' o.elem
      have hrun := run_append_grow_string (P := P) w t u ty o.elem i zv ht hu hi hzv ⟨p.blk, 0, none⟩ len c' _ hlo holds s hlt h63 (hnsc hlt)
      refine hgrow (strCells s) hall hlen hlt (Builtin.zeroCells zv.cells (grownCap w (len + s.size) c' o.elem - (len + s.size))) _ (by simp) ?_ hrun
      simp only [Array.size_append, List.size_toArray, size_zeroCells, hzs, hlo, hs2, strCells_length]
      omega
   ·simp at he
  ·simp at he
 ·simp at he
end
open Go.RowKit Go.Lib
section
variable {P : Program} {w0 : W0} {w : World} {ι : Inj} {h : AHeap}
def W0.set (w0 : W0) (i : Nat) (f : Option Fz) : W0 := ⟨w0.w, fun j => if j = i then f else w0.fz j⟩
def hAdd (h : AHeap) : Fz → AHeap
 | .row e cs => h.new e cs
 | .map => h.newMap
theorem at?_hAdd {f : Fz} {i : Nat} {o : AObj} (ho : h.at? i = some o) : (hAdd h f).at? i = some o := by
 obtain ⟨h1, h2, h3, h4⟩ := at?_obj ho
 cases f with
 | row e cs => rw [hAdd, at?_new_old _ _ _ (by omega)]; exact ho
 | map => exact at?_mk (h := h.newMap) h1 (by simp only [AHeap.newMap]; omega) h3 h4
theorem at?_newMap {i : Nat} {o : AObj} (H : HRel P w0 ι h w) (ho : h.newMap.at? i = some o) : h.at? i = some o := by
 obtain ⟨h1, h2, h3, h4⟩ := at?_obj ho
 exact at?_mk h1 (H.objs i o h1).1 h3 h4
theorem HRel.freeze (H : HRel P w0 ι h w) (f : Fz) : HRel P (w0.set h.size (some f)) ι (hAdd h f) w := by
 have hsz : (hAdd h f).size = h.size + 1 := by cases f <;> rfl
 have hno : ∀ i p, ι.pl i = some p → i ≠ h.size := fun i p hp => by have := H.dom i p hp; omega
 have hat : ∀ i o, i ≠ h.size → (hAdd h f).at? i = some o → h.at? i = some o := fun i o hi ho => by
  cases f with
  | row e cs => rwa [hAdd, at?_new_old _ _ _ hi] at ho
  | map => exact at?_newMap H ho
 have hnat : ∀ i o, (hAdd h f).at? i = some o → i ≠ h.size ∨ (∃ e cs, f = .row e cs ∧ o = ⟨h.size, h.ep e h.size, false, e, cs⟩) := fun i o ho => by
  by_cases hi : i = h.size
  ·subst hi
   right
   cases f with
   | row e cs => rw [hAdd, at?_new_same] at ho; simp at ho; exact ⟨e, cs, rfl, ho.symm⟩
   | map => have := at?_newMap H ho; have := (at?_obj this).2.1; omega
  ·exact .inl hi
 refine ⟨H.below, fun i p hp => by have := H.dom i p hp; omega, fun i r hr => by have := H.domM i r hr; omega, fun i p hp => ⟨(H.pl i p hp).block, (H.pl i p hp).own, (H.pl i p hp).old, (H.pl i p hp).esz⟩, ?_, ?_, ?_, ?_, ?_, H.mp, H.mpInj, ?_, ?_, ?_⟩
 ·intro i o hf ho
  simp only [W0.set] at hf
  by_cases hi : i = h.size
  ·rw [if_pos hi] at hf; cases hf
  ·rw [if_neg hi] at hf
   exact H.obj i o hf (hat i o hi ho)
 ·intro i o ho hro
  rcases hnat i o ho with hi | ⟨e, cs, rfl, rfl⟩
  ·have ho' := hat i o hi ho
   have ht := H.tip i o ho' hro
   obtain ⟨_, h1, h2, _⟩ := at?_obj ho'
   cases f with
   | row e cs =>
    simp only [hAdd, AHeap.new]
    rw [if_neg (by omega)]; exact ht
   | map => exact ht
  ·simp [hAdd, AHeap.new]
 ·intro i o ho
  cases f with
  | row e cs =>
   simp only [hAdd, AHeap.new] at ho ⊢
   split at ho
   ·simp at ho; subst ho; exact Nat.le_refl _
   ·exact H.eps i o ho
  | map => exact H.eps i o ho
 ·intro i j oi oj p q hi hj hp hq
  exact H.fam i j oi oj p q (hat i oi (hno i p hp) hi) (hat j oj (hno j q hq) hj) hp hq
 ·intro i l hf hl
  simp only [W0.set] at hf
  by_cases hi : i = h.size
  ·rw [if_pos hi] at hf; cases hf
  ·rw [if_neg hi] at hf
   refine H.maps i l hf ?_
   cases f with
   | row e cs => exact hl
   | map => simp only [hAdd, AHeap.newMap, if_neg hi] at hl; exact hl
 ·intro j o ho
  rw [hsz]
  cases f with
  | row e cs =>
   simp only [hAdd, AHeap.new] at ho
   split at ho
   ·rename_i hj; simp at ho; subst ho; exact ⟨by omega, by show h.size ≤ j; omega⟩
   ·have := H.objs j o ho; omega
  | map => have := H.objs j o ho; omega
 ·intro j l hl
  rw [hsz]
  cases f with
  | row e cs => have := H.mapd j l hl; omega
  | map =>
   simp only [hAdd, AHeap.newMap] at hl
   split at hl
   ·omega
   ·have := H.mapd j l hl; omega
 ·intro i f' hf
  simp only [W0.set] at hf
  by_cases hi : i = h.size
  ·subst hi
   rw [if_pos rfl] at hf; cases hf
   refine ⟨by omega, H.fresh, ?_, fun j o ho hr => ?_, ?_⟩
   ·cases e : ι.mp h.size with
    | none => rfl
    | some r => exact absurd (H.domM _ _ e) (Nat.lt_irrefl _)
   ·have old : h.obj j = some o → j = h.size := fun h1 => by have := H.objs j o h1; omega
    cases f with
    | row e cs =>
     simp only [hAdd, AHeap.new] at ho
     split at ho
     ·assumption
     ·exact old ho
    | map => exact old ho
   ·cases f with
    | row e cs =>
     refine ⟨by simp [hAdd, AHeap.new], by simp [hAdd, AHeap.new], ?_⟩
     cases e : h.map h.size with
     | none => exact e
     | some l => exact absurd (H.mapd _ _ e) (Nat.lt_irrefl _)
    | map =>
     refine ⟨?_, by simp [hAdd, AHeap.newMap]⟩
     cases e : h.obj h.size with
     | none => exact e
     | some o => exact absurd (H.objs _ _ e).1 (Nat.lt_irrefl _)
  ·rw [if_neg hi] at hf
   obtain ⟨a1, a2, a3, a4, a5⟩ := H.fz i f' hf
   refine ⟨by omega, a2, a3, fun j o ho hr => ?_, ?_⟩
   ·cases f with
    | row e cs =>
     simp only [hAdd, AHeap.new] at ho
     split at ho
     ·simp at ho; subst ho; exact absurd hr.symm hi
     ·exact a4 j o ho hr
    | map => exact a4 j o ho hr
   ·cases f with
    | row e cs =>
     cases f' with
     | row e' cs' => exact ⟨by simp only [hAdd, AHeap.new]; rw [if_neg hi]; exact a5.1, by simp only [hAdd, AHeap.new]; rw [if_neg (fun x => hi x.2)]; exact a5.2.1, a5.2.2⟩
     | map => exact ⟨by simp only [hAdd, AHeap.new]; rw [if_neg hi]; exact a5.1, a5.2⟩
    | map =>
     cases f' with
     | row e' cs' => exact ⟨a5.1, a5.2.1, by simp only [hAdd, AHeap.newMap]; rw [if_neg hi]; exact a5.2.2⟩
     | map => exact ⟨a5.1, by simp only [hAdd, AHeap.newMap]; rw [if_neg hi]; exact a5.2⟩
theorem HRel.thaw (H : HRel P w0 ι h w) {i : Nat} {e : TypeId} {cs : List Value} (hf : w0.fz i = some (.row e cs)) (n cap : Nat) (arr : Array Value) (hn : tSize P e = some n) (hc : cs.length ≤ cap) (hcap : cap ≤ arr.size)
  (hr : ∀ (j : Nat) v, cs[j]? = some v → ∃ v', arr[j]? = some v' ∧ S1 ι v v') :
  HRel P (w0.set i none) (ι.add i ⟨w.heap.size, 0, cap, n, false, e⟩) h (w.alloc (.cells arr e)) ∧ Nxt ι w (ι.add i ⟨w.heap.size, 0, cap, n, false, e⟩) (w.alloc (.cells arr e)) := by
 obtain ⟨a1, a2, a3, a4, a5, a6, a7⟩ := H.fz i _ hf
 have hle := ι.le_add (p := ⟨w.heap.size, 0, cap, n, false, e⟩) a2
 have hold : ∀ b, b < w.heap.size → (w.alloc (.cells arr e)).heap[b]? = w.heap[b]? := fun b hb => Below.heap_alloc w _ b hb
 have hnew : (w.alloc (.cells arr e)).heap[w.heap.size]? = some (.cells arr e) := heap_alloc_new w _
 have hat : h.at? i = some ⟨i, h.ep e i, false, e, cs⟩ := at?_mk a5 a1 (Nat.le_refl _) rfl
 refine ⟨⟨?_, ?_, H.domM, ?_, ?_, H.tip, H.eps, ?_, ?_, ?_, H.mpInj, H.objs, H.mapd, ?_⟩, hle, ⟨rfl, rfl, rfl, by simp, fun b hb _ _ => hold b hb⟩, ?_, fun i r hr => .inl hr⟩
 ·exact H.below.alloc H.below.size _
 ·intro j p hp
  simp only [Inj.add] at hp
  split at hp
  ·omega
  ·exact H.dom j p hp
 ·intro j p hp
  simp only [Inj.add] at hp
  split at hp
  ·simp at hp; subst hp
   exact ⟨⟨arr, _, (0, 0), hnew, by simpa using hcap, fun _ => ⟨rfl, rfl⟩⟩, fun _ => ⟨H.below.size, rfl⟩, fun h => by simp at h, hn⟩
  ·exact ⟨((H.pl j p hp).keep (hold _ (H.blk_lt hp))).block, (H.pl j p hp).own, (H.pl j p hp).old, (H.pl j p hp).esz⟩
 ·intro j o hfj ho
  by_cases hj : j = i
  ·subst hj
   rw [hat] at ho; cases ho
   refine ⟨⟨w.heap.size, 0, cap, n, false, e⟩, if_pos rfl, rfl, rfl, hc, fun x v hv => ?_⟩
   obtain ⟨v', h1, h2⟩ := hr x v hv
   exact ⟨v', by rw [Nat.zero_add]; exact (World.cell?_alloc_new w arr e x).trans h1, h2.mono hle⟩
  ·simp only [W0.set, if_neg hj] at hfj
   obtain ⟨p, h1, h2, h3, h4, h5⟩ := H.obj j o hfj ho
   refine ⟨p, hle.pl j p h1, h2, h3, h4, fun x v hv => ?_⟩
   obtain ⟨v', g1, g2⟩ := h5 x v hv
   exact ⟨v', by rw [cell?_keep (hold _ (H.blk_lt h1))]; exact g1, g2.mono hle⟩
 ·intro j k oj ok p q hj hk hp hq hb hro
  simp only [Inj.add] at hp hq
  by_cases ej : j = i
  ·by_cases ek : k = i
   ·subst ej; subst ek
    rw [hj] at hk; cases hk; exact ⟨rfl, rfl⟩
   ·rw [if_pos ej] at hp; rw [if_neg ek] at hq
    simp at hp; subst hp
    have := H.blk_lt hq
    simp at hb; omega
  ·by_cases ek : k = i
   ·rw [if_neg ej] at hp; rw [if_pos ek] at hq
    simp at hq; subst hq
    have := H.blk_lt hp
    simp at hb; omega
   ·rw [if_neg ej] at hp; rw [if_neg ek] at hq
    exact H.fam j k oj ok p q hj hk hp hq hb hro
 ·intro j l hfj hl
  by_cases hj : j = i
  ·subst hj; rw [a7] at hl; cases hl
  ·simp only [W0.set, if_neg hj] at hfj
   obtain ⟨r, es, cl, h1, h2, h3⟩ := H.maps j l hfj hl
   exact ⟨r, es, cl, h1, (hold _ (H.mp_lt h1)).trans h2, h3.mono fun _ _ h => ⟨h.1.mono hle, h.2.mono hle⟩⟩
 ·intro j r hr
  obtain ⟨h1, es, cl, h2⟩ := H.mp j r hr
  exact ⟨h1, es, cl, (hold _ (H.mp_lt hr)).trans h2⟩
 ·intro j f hfj
  by_cases hj : j = i
  ·simp only [W0.set, if_pos hj] at hfj; cases hfj
  ·simp only [W0.set, if_neg hj] at hfj
   obtain ⟨b1, b2, b3, b4, b5⟩ := H.fz j f hfj
   exact ⟨b1, by simp only [Inj.add]; rw [if_neg hj]; exact b2, b3, b4, b5⟩
 ·intro j p hp
  simp only [Inj.add] at hp
  split at hp
  ·simp at hp; subst hp; exact .inr (.inl (Nat.le_refl _))
  ·exact .inl hp
def Inj.addM (ι : Inj) (i r : Nat) : Inj := { ι with mp := fun j => if j = i then some r else ι.mp j }
theorem HRel.thawMap (H : HRel P w0 ι h w) {i : Nat} (hf : w0.fz i = some .map) :
  HRel P (w0.set i none) (ι.addM i w.heap.size) h (w.alloc (.map #[] 0)) ∧ Nxt ι w (ι.addM i w.heap.size) (w.alloc (.map #[] 0)) := by
 obtain ⟨a1, a2, a3, a4, a5, a6⟩ := H.fz i _ hf
 have hle : ι.Le (ι.addM i w.heap.size) := ⟨fun _ _ h => h, fun j r hr => by
  simp only [Inj.addM]
  split
  ·rename_i e; subst e; rw [a3] at hr; cases hr
  ·exact hr⟩
 have hold : ∀ b, b < w.heap.size → (w.alloc (.map #[] 0)).heap[b]? = w.heap[b]? := fun b hb => Below.heap_alloc w _ b hb
 have hnew : (w.alloc (.map #[] 0)).heap[w.heap.size]? = some (.map #[] 0) := heap_alloc_new w _
 refine ⟨⟨?_, H.dom, ?_, ?_, ?_, H.tip, H.eps, H.fam, ?_, ?_, ?_, H.objs, H.mapd, ?_⟩, hle, ⟨rfl, rfl, rfl, by simp, fun b hb _ _ => hold b hb⟩, fun j p hp => .inl hp, ?_⟩
 ·exact H.below.alloc H.below.size _
 ·intro j r hr
  simp only [Inj.addM] at hr
  split at hr
  ·omega
  ·exact H.domM j r hr
 ·intro j p hp
  exact ⟨((H.pl j p hp).keep (hold _ (H.blk_lt hp))).block, (H.pl j p hp).own, (H.pl j p hp).old, (H.pl j p hp).esz⟩
 ·intro j o hfj ho
  by_cases hj : j = i
  ·subst hj; rw [(at?_obj ho).1] at a5; cases a5
  ·simp only [W0.set, if_neg hj] at hfj
   obtain ⟨p, h1, h2, h3, h4, h5⟩ := H.obj j o hfj ho
   refine ⟨p, h1, h2, h3, h4, fun x v hv => ?_⟩
   obtain ⟨v', g1, g2⟩ := h5 x v hv
   exact ⟨v', by rw [cell?_keep (hold _ (H.blk_lt h1))]; exact g1, g2.mono hle⟩
 ·intro j l hfj hl
  by_cases hj : j = i
  ·subst hj
   rw [a6] at hl; cases hl
   exact ⟨w.heap.size, #[], 0, if_pos rfl, hnew, .nil⟩
  ·simp only [W0.set, if_neg hj] at hfj
   obtain ⟨r, es, cl, h1, h2, h3⟩ := H.maps j l hfj hl
   exact ⟨r, es, cl, hle.mp _ _ h1, (hold _ (H.mp_lt h1)).trans h2, h3.mono fun _ _ h => ⟨h.1.mono hle, h.2.mono hle⟩⟩
 ·intro j r hr
  simp only [Inj.addM] at hr
  split at hr
  ·simp at hr; subst hr; exact ⟨H.below.size, #[], 0, hnew⟩
  ·obtain ⟨h1, es, cl, h2⟩ := H.mp j r hr
   exact ⟨h1, es, cl, (hold _ (H.mp_lt hr)).trans h2⟩
 ·intro j k r hj hk
  simp only [Inj.addM] at hj hk
  split at hj <;> split at hk
  ·omega
  ·simp at hj; subst hj; exact absurd (H.mp_lt hk) (Nat.lt_irrefl _)
  ·simp at hk; subst hk; exact absurd (H.mp_lt hj) (Nat.lt_irrefl _)
  ·exact H.mpInj j k r hj hk
 ·intro j f hfj
  by_cases hj : j = i
  ·simp only [W0.set, if_pos hj] at hfj; cases hfj
  ·simp only [W0.set, if_neg hj] at hfj
   obtain ⟨b1, b2, b3, b4, b5⟩ := H.fz j f hfj
   exact ⟨b1, b2, by simp only [Inj.addM]; rw [if_neg hj]; exact b3, b4, b5⟩
 ·intro j r hr
  simp only [Inj.addM] at hr
  split at hr
  ·simp at hr; subst hr; exact .inr (Nat.le_refl _)
  ·exact .inl hr
theorem HRel.newMap (H : HRel P w0 ι h w) : HRel P w0 (ι.addM h.size w.heap.size) h.newMap (w.alloc (.map #[] 0)) ∧ Nxt ι w (ι.addM h.size w.heap.size) (w.alloc (.map #[] 0)) := by
 have := (H.freeze .map).thawMap (i := h.size) (by simp [W0.set])
 have e : (w0.set h.size (some .map)).set h.size none = w0 := by
  obtain ⟨w0', fz⟩ := w0
  simp only [W0.set]
  congr 1
  funext j
  by_cases hj : j = h.size
  ·rw [if_pos hj]
   cases e : fz j with
   | none => rfl
   | some f => have := (H.fz j f e).1; omega
  ·rw [if_neg hj, if_neg hj]
 rw [e] at this
 exact this
theorem VR.cell {v v' : Value} (hv : VR ι v v') (hc : isCell v = true) : S1 ι v v' := by
 cases hv with
 | junk => simp [AH.junk, isCell] at hc
 | tuple => simp [isCell] at hc
 | s2 r => cases r with
  | s1 r => exact r
  | agg => simp [isCell] at hc
end
open Go.RowKit Go.Lib Go.MapKept
section
variable {P : Program} {w0 : W0} {w : World} {ι : Inj} {h : AHeap}
def ER (ι : Inj) (kv : Value × Value) (e : MapEntry) : Prop := S1 ι kv.1 e.key ∧ S1 ι kv.2 e.val
theorem fits_isKey {kt : TypeId} {key : Value} (hf : keyFits P kt key = true) : ∃ d, P.underlying kt = some d ∧ IsKey d key ∧ ∀ r, keyEq key r = Instr.sameNow d key r := by
 unfold keyFits at hf
 split at hf
 ·rename_i hu; exact ⟨_, hu, by simpa [IsKey] using hf, fun r => by cases r <;> simp [keyEq, Instr.sameNow]⟩
 ·rename_i hu; exact ⟨_, hu, by simp [IsKey], fun r => by cases r <;> simp [keyEq, Instr.sameNow]⟩
 ·rename_i hu; exact ⟨_, hu, by simp [IsKey], fun r => by cases r <;> simp [keyEq, Instr.sameNow]⟩
 ·simp at hf
theorem keyEq_S1 {key k k' : Value} (hs : S1 ι k k') {b : Bool} (he : keyEq key k = some b) : keyEq key k' = some b := by
 have : k = k' := by
  cases hs with
  | func => cases key <;> simp [keyEq] at he
  | s0 hs => cases hs <;> first | rfl | (cases key <;> simp [keyEq] at he)
 rw [← this]; exact he
theorem find_sound {d : TypeDesc} {key : Value} (hd : ∀ r, keyEq key r = Instr.sameNow d key r) : ∀ {l : List (Value × Value)} {es : List MapEntry} {r : Option Value} (i : Nat), All2 (ER ι) l es → mfind key l = some r →
  match r with
  | none => Instr.findNow d key es i = some none
  | some v => ∃ j v', Instr.findNow d key es i = some (some (i + j, v')) ∧ S1 ι v v'
 | _, _, r, i, .nil, he => by
  simp [mfind] at he; subst he; rfl
 | (k, v) :: l, e :: es, r, i, .cons ⟨r1, r2⟩ hl, he => by
  simp only [mfind] at he
  split at he
  ·rename_i hk
   simp at he; subst he
   have := keyEq_S1 r1 hk
   rw [hd] at this
   exact ⟨0, e.val, by simp [Instr.findNow, this], r2⟩
  ·rename_i hk
   have := keyEq_S1 r1 hk
   rw [hd] at this
   have ih := find_sound hd (i + 1) hl he
   cases r with
   | none => simp only [Instr.findNow, this]; exact ih
   | some v =>
    obtain ⟨j, v', h1, h2⟩ := ih
    exact ⟨j + 1, v', by simp only [Instr.findNow, this]; rw [h1, Nat.add_right_comm, Nat.add_assoc], h2⟩
  ·simp at he
theorem set_sound {d : TypeDesc} {key x x' : Value} (hd : ∀ r, keyEq key r = Instr.sameNow d key r) (hkk : S1 ι key key) (hx : S1 ι x x') : ∀ {l : List (Value × Value)} {es : List MapEntry} {l' : List (Value × Value)} (i : Nat), All2 (ER ι) l es → mset key x l = some l' →
  (Instr.findNow d key es i = some none ∧ ∀ cl, All2 (ER ι) l' (es ++ [⟨key, x', cl⟩])) ∨ ∃ j v' e, Instr.findNow d key es i = some (some (i + j, v')) ∧ es[j]? = some e ∧ Instr.sameNow d key e.key = some true ∧ All2 (ER ι) l' (es.set j { e with key := key, val := x' })
 | _, _, r, i, .nil, he => by
  simp [mset] at he; subst he
  exact .inl ⟨rfl, fun cl => .cons ⟨hkk, hx⟩ .nil⟩
 | (k, v) :: l, e :: es, r, i, .cons ⟨r1, r2⟩ hl, he => by
  simp only [mset] at he
  split at he
  ·rename_i hk
   simp at he; subst he
   have := keyEq_S1 r1 hk
   rw [hd] at this
   exact .inr ⟨0, e.val, e, by simp [Instr.findNow, this], rfl, this, .cons ⟨hkk, hx⟩ hl⟩
  ·rename_i hk
   have := keyEq_S1 r1 hk
   rw [hd] at this
   simp only [Option.map_eq_some_iff] at he
   obtain ⟨l2, he, rfl⟩ := he
   rcases set_sound hd hkk hx (i + 1) hl he with ⟨h1, h2⟩ | ⟨j, v', e', h1, h2, h3, h4⟩
   ·exact .inl ⟨by simp only [Instr.findNow, this]; exact h1, fun cl => .cons ⟨r1, r2⟩ (h2 cl)⟩
   ·exact .inr ⟨j + 1, v', e', by simp only [Instr.findNow, this]; rw [h1, Nat.add_right_comm, Nat.add_assoc], h2, h3, .cons ⟨r1, r2⟩ h4⟩
  ·simp at he
theorem key_S1 {d : TypeDesc} {key : Value} (hk : IsKey d key) (ι : Inj) : S1 ι key key := by
 cases d <;> cases key <;> simp [IsKey] at hk <;> first | exact .s0 (.int _ _) | exact .s0 (.bool _) | exact .s0 (.string _)
theorem VR.key {d : TypeDesc} {key key' : Value} (hk : IsKey d key) (hv : VR ι key key') : key' = key := by
 cases d <;> cases key <;> simp [IsKey] at hk <;> first | exact hv.int_inv | exact hv.bool_inv | exact hv.string_inv
theorem get_sound (H : HRel P w0 ι h w) {ty kt e : TypeId} (hu : P.underlying ty = some (.map kt e)) {m m' key key' z v : Value} {ok : Bool} (hf : keyFits P kt key = true) (hz : tZ1 P e = some z) (he : aMget h m key z ok = some v)
  (hm : VR ι m m') (hk : VR ι key key') : SemOk P w0 ι h w (Instr.lookup ty m' key' ok) v := by
 obtain ⟨d, hd, hkd, hke⟩ := fits_isKey hf
 obtain rfl := hk.key hkd
 have hck : ∀ b w, (Instr.checkKey b 10000 kt key').run P w = .ok () w := fun b w => run_checkKey hd hkd b 9999
 obtain ⟨i, hi, zv, hzv, hzz⟩ : ∃ i, P.info? e = some i ∧ ∃ zv, i.zero = some zv ∧ zv = z ∧ plain1 z = true := by
  simp only [tZ1, Option.bind_eq_some_iff] at hz
  obtain ⟨i, hi, zv, hz, hzz⟩ := hz
  cases hp : plain1 zv <;> rw [hp] at hzz <;> simp at hzz
  subst hzz
  exact ⟨i, hi, zv, hz, rfl, hp⟩
 obtain ⟨rfl, hpl⟩ := hzz
 have hzr : (zeroValue e).run P w = .ok zv w := run_zeroValue hi hzv w
 have hout : ∀ (b : Bool) (u u' : Value), S1 ι u u' → VR ι (if ok then .tuple #[u, .bool b] else u) (if ok then .tuple #[u', .bool b] else u') := fun b u u' hs => by
  cases ok
  ·exact .s1 hs
  ·exact .tuple (.cons (.s1 hs) (.cons (.s1 (.s0 (.bool b))) .nil))
 unfold aMget at he
 split at he
 ·simp at he; subst he
  obtain rfl := hm.mapNil_inv
  have hfd := run_findKey (P := P) (w := w) (k := key') (l := []) hd rfl
  refine SemOk.same H (v' := if ok then .tuple #[zv, .bool false] else zv) ?_ (hout false zv zv (plain1_S1 ι hpl))
  simp [Instr.lookup, run_underlying hu, hck, hfd, hzr]
 ·rename_i id
  simp only [Option.bind_eq_some_iff, Option.map_eq_some_iff] at he
  obtain ⟨l, hl, r, hr, he⟩ := he
  obtain ⟨q, hq, rfl⟩ := hm.map_inv
  obtain ⟨q2, es, cl, h1, h2, h3⟩ := H.maps id l (H.nfm hq) hl
  rw [hq] at h1; cases h1
  have hg := Go.MapKept.run_getObj_map (P := P) h2
  have hs := find_sound hke 0 h3 hr
  cases r with
  | none =>
   simp at he; subst he
   have hfd := run_findKey (P := P) (w := w) hd hs
   refine SemOk.same H (v' := if ok then .tuple #[zv, .bool false] else zv) ?_ (hout false zv zv (plain1_S1 ι hpl))
   simp [Instr.lookup, run_underlying hu, hck, hfd, hzr, hg]
  | some u =>
   simp at he; subst he
   obtain ⟨j, u', h4, h5⟩ := hs
   have hfd := run_findKey (P := P) (w := w) hd h4
   refine SemOk.same H (v' := if ok then .tuple #[u', .bool true] else u') ?_ (hout true u u' h5)
   simp [Instr.lookup, run_underlying hu, hck, hfd, hg]
 ·simp at he
theorem HRel.putMap (H : HRel P w0 ι h w) {i r : Nat} (hr : ι.mp i = some r) {es : Array MapEntry} {cl : Nat} (hb : w.heap[r]? = some (.map es cl)) {l : List (Value × Value)} {es' : Array MapEntry} {cl' : Nat} (hl : All2 (ER ι) l es'.toList) :
  HRel P w0 ι (h.putMap i l) { w with heap := w.heap.setIfInBounds r (.map es' cl') } ∧ Nxt ι w ι { w with heap := w.heap.setIfInBounds r (.map es' cl') } := by
 obtain ⟨hs1, hs2⟩ := heap_set (o' := .map es' cl') hb
 have hlow := (H.mp i r hr).1
 have hpb : ∀ j p, ι.pl j = some p → p.blk ≠ r := fun j p hp e => by
  obtain ⟨arr, el, fr, h1, _⟩ := (H.pl j p hp).block
  rw [e, hb] at h1; cases h1
 have hkeep : ∀ j p, ι.pl j = some p → (w.heap.setIfInBounds r (.map es' cl'))[p.blk]? = w.heap[p.blk]? := fun j p hp => hs2 _ (hpb j p hp)
 refine ⟨⟨?_, H.dom, H.domM, ?_, ?_, H.tip, H.eps, H.fam, ?_, ?_, H.mpInj, H.objs, ?_, ?_⟩, Inj.Le.refl _, ⟨rfl, rfl, rfl, by simp, fun b _ _ h2 => hs2 b (fun e => h2 i r hr e.symm)⟩, fun _ _ h => .inl h, fun _ _ h => .inl h⟩
 ·refine ⟨H.below.os, H.below.tape, H.below.output, by simpa using H.below.size, fun k hk => ?_⟩
  show (w.heap.setIfInBounds r _)[k]? = _
  rw [hs2 k (by omega)]; exact H.below.block k hk
 ·intro j p hp
  have := (H.pl j p hp).keep (w' := { w with heap := w.heap.setIfInBounds r (.map es' cl') }) (hkeep j p hp)
  exact this
 ·intro j o hfj ho
  obtain ⟨p, h1, h2, h3, h4, h5⟩ := H.obj j o hfj ho
  refine ⟨p, h1, h2, h3, h4, fun x v hv => ?_⟩
  obtain ⟨v', g1, g2⟩ := h5 x v hv
  exact ⟨v', by rw [cell?_keep (w := w) (w' := { w with heap := w.heap.setIfInBounds r (.map es' cl') }) (hkeep j p h1)]; exact g1, g2⟩
 ·intro j l2 hfj hl2
  simp only [AHeap.putMap] at hl2
  by_cases hj : j = i
  ·rw [if_pos hj] at hl2
   cases hl2
   exact ⟨r, es', cl', by rw [hj]; exact hr, hs1, hl⟩
  ·rw [if_neg hj] at hl2
   obtain ⟨q, es2, cl2, h1, h2, h3⟩ := H.maps j l2 hfj hl2
   exact ⟨q, es2, cl2, h1, by
    show (w.heap.setIfInBounds r _)[q]? = _
    rw [hs2 q (fun e => hj (H.mpInj j i r (by rw [h1, e]) hr))]; exact h2, h3⟩
 ·intro j q hq
  obtain ⟨h1, es2, cl2, h2⟩ := H.mp j q hq
  by_cases e : q = r
  ·exact ⟨h1, es', cl', by rw [e]; exact hs1⟩
  ·exact ⟨h1, es2, cl2, by
    show (w.heap.setIfInBounds r _)[q]? = _
    rw [hs2 q e]; exact h2⟩
 ·intro j l2 hl2
  simp only [AHeap.putMap] at hl2
  split at hl2
  ·rename_i e; rw [e]; exact H.domM i r hr
  ·exact H.mapd j l2 hl2
 ·intro k f hf
  obtain ⟨a1, a2, a3, a4, a5⟩ := H.fz k f hf
  have hne : k ≠ i := fun e => by rw [e, hr] at a3; cases a3
  refine ⟨a1, a2, a3, a4, ?_⟩
  cases f with
  | row e cs => exact ⟨a5.1, a5.2.1, by simp only [AHeap.putMap]; rw [if_neg hne]; exact a5.2.2⟩
  | map => exact ⟨a5.1, by simp only [AHeap.putMap]; rw [if_neg hne]; exact a5.2⟩
theorem mapSet_sound (H : HRel P w0 ι h w) {ty kt e : TypeId} (hu : P.underlying ty = some (.map kt e)) {m m' key key' x x' : Value} {h' : AHeap} (hf : keyFits P kt key = true) (he : aMset h m key x = some h')
  (hm : VR ι m m') (hk : VR ι key key') (hx : VR ι x x') : SemOkU P w0 ι h' w (Instr.mapUpdate ty m' key' x') := by
 obtain ⟨d, hd, hkd, hke⟩ := fits_isKey hf
 obtain rfl := hk.key hkd
 have hck : ∀ b w, (Instr.checkKey b 10000 kt key').run P w = .ok () w := fun b w => run_checkKey hd hkd b 9999
 unfold aMset at he
 split at he
 ·rename_i id
  split at he
  ·rename_i hc
   simp only [Option.bind_eq_some_iff, Option.map_eq_some_iff] at he
   obtain ⟨l, hl, l2, hl2, rfl⟩ := he
   obtain ⟨q, hq, rfl⟩ := hm.map_inv
   obtain ⟨q2, es, cl, h1, h2, h3⟩ := H.maps id l (H.nfm hq) hl
   rw [hq] at h1; cases h1
   have hg := Go.MapKept.run_getObj_map (P := P) h2
   have hx1 := hx.cell hc
   rcases set_sound hke (key_S1 hkd ι) hx1 0 h3 hl2 with ⟨h4, h5⟩ | ⟨j, v', e', h4, h5, h6, h7⟩
   ·have hfd := run_findKey (P := P) (w := w) hd h4
    obtain ⟨k1, k2⟩ := H.putMap hq h2 (l := l2) (es' := es.push ⟨key', x', cl⟩) (cl' := cl + 1) (by simpa using h5 cl)
    refine ⟨_, ι, ?_, k2, k1⟩
    simp [Instr.mapUpdate, run_underlying hu, hck, hfd, hg, Go.MapKept.run_setObj_map _ h2]
   ·have hfd := run_findKey (P := P) (w := w) hd h4
    simp only [Nat.zero_add] at hfd
    have hj : j < es.size := by have := (List.getElem?_eq_some_iff.1 h5).1; simpa using this
    have he' : es[j]? = some e' := by simpa using h5
    have hkey : e'.key = key' := by
     have : Instr.sameNow d key' e'.key = some true := h6
     cases d <;> cases key' <;> simp [IsKey] at hkd <;> cases hek : e'.key <;> simp [Instr.sameNow, hek] at this <;> simp_all [bytes_beq]
    have hks : ∀ w, (Instr.keyThatStays (((es[j]?).map (·.key)).getD key') key').run P w = .ok key' w := fun w => by
     rw [he']; simp only [Option.map_some, Option.getD_some, hkey]; exact run_keyThatStays hkd
    obtain ⟨k1, k2⟩ := H.putMap hq h2 (l := l2) (es' := es.modify j fun e => { e with key := key', val := x' }) (cl' := cl) (by
     have : (es.modify j fun e => { e with key := key', val := x' }).toList = es.toList.set j { e' with key := key', val := x' } := by
      apply List.ext_getElem?
      intro n
      simp only [Array.getElem?_toList, Array.getElem?_modify, List.getElem?_set]
      by_cases hn : j = n
      ·subst hn
       have : es[j] = e' := (Array.getElem?_eq_some_iff.1 he').2
       simp [hj, this]
      ·simp [hn]
     rw [this]; exact h7)
    refine ⟨_, ι, ?_, k2, k1⟩
    simp [Instr.mapUpdate, run_underlying hu, hck, hfd, hg, hks, Go.MapKept.run_setObj_map _ h2]
  ·simp at he
 ·simp at he
theorem copy_sound (H : HRel P w0 ι h w) {td ts ty e : TypeId} {n : Nat} (hu : P.underlying td = some (.slice e)) (hn : tSize P e = some n) {d d' s s' : Value} {r : Value × AHeap} (he : aCopy h n d s = some r) (hd : VR ι d d') (hs : VR ι s s') :
  SemOk P w0 ι r.2 w (Builtin.copy_ #[td, ts] ty #[d', s']) r.1 := by
 obtain ⟨inf, hi, hs2⟩ := tSize_info hn
 unfold aCopy at he
 split at he
 ·rename_i i off nd c
  simp only [Option.bind_eq_some_iff] at he
  obtain ⟨⟨m, cs⟩, hsrc, he⟩ := he
  have hsz : ∀ w, (sizeOf e).run P w = .ok n w := fun w => run_sizeOf' hn w
  -- the source: its length and its first cells
  have hsr : ∃ (len : Nat) (cs' : List Value), (∀ w, (Builtin.lenOf s').run P w = .ok len w) ∧ len = m ∧ cs.length = m * n ∧ All2 (S1 ι) cs cs' ∧ (∀ k, k ≤ m → (Builtin.firstCells n k s').run P w = .ok (cs'.take (k * n)).toArray w) := by
   unfold aSrc at hsrc
   split at hsrc
   ·rename_i i2 off2 k c2
    simp only [Option.map_eq_some_iff] at hsrc
    obtain ⟨cs2, hr, hsrc⟩ := hsrc
    simp at hsrc; obtain ⟨rfl, rfl⟩ := hsrc
    rcases hs.slc_inv with ⟨q, c', hq, _, _, rfl⟩ | ⟨rfl, _, a', rfl⟩
    ·obtain ⟨cs', ha, hl, hc⟩ := rd_sound H hq hr
     refine ⟨k, cs', fun w => by simp [Builtin.lenOf], rfl, hl, ha, fun j hj => ?_⟩
     have hlen : (cs'.take (j * n)).length = j * n := by
      have := ha.length
      have : j * n ≤ k * n := Nat.mul_le_mul_right _ hj
      simp; omega
     have := run_loadCells_list (P := P) w (⟨q.blk, q.base + off2, none⟩ : Addr) (cs'.take (j * n)) (fun x v hx => by
      rw [List.getElem?_take] at hx
      split at hx
      ·exact hc x v hx
      ·cases hx)
     rw [hlen] at this
     simp only [Builtin.firstCells]; exact this
    ·have : cs2 = [] := List.eq_nil_of_length_eq_zero (by simpa using rd_len hr)
     subst this
     refine ⟨0, [], fun w => by simp [Builtin.lenOf], rfl, by simp, .nil, fun j hj => ?_⟩
     have : j = 0 := by omega
     subst this
     simp [Builtin.firstCells, loadCells, loadCellsFrom]
   ·obtain ⟨rfl, rfl⟩ := hs.slcNil_inv
    simp at hsrc; obtain ⟨rfl, rfl⟩ := hsrc
    exact ⟨0, [], fun w => by simp [Builtin.lenOf], rfl, by simp, .nil, fun j hj => by simp [Builtin.firstCells]⟩
   ·simp at hsrc
  obtain ⟨len, cs', hlen, rfl, hcl, ha, hfc⟩ := hsr
  have hrun0 : ∀ b c', Nat.min len nd = 0 → (Builtin.copy_ #[td, ts] ty #[.slice b nd c', s']).run P w = .ok (.int .i64 0) w := fun b c' h0 => by
   have := hfc 0 (Nat.zero_le _)
   simp at this
   cases b with
   | none => simp [Builtin.copy_, run_underlying hu, hlen, hsz, h0, this, goInt]
   | some b => simp [Builtin.copy_, run_underlying hu, hlen, hsz, h0, this, goInt, storeCells]
  split at he
  ·rename_i h0
   simp at he; subst he
   have h0' : Nat.min len nd = 0 := h0
   rcases hd.slc_inv with ⟨q, c', hq, _, _, rfl⟩ | ⟨rfl, _, a', rfl⟩
   ·exact SemOk.same H (hrun0 _ _ h0') (.s0 (.int _ _))
   ·exact SemOk.same H (hrun0 _ _ h0') (.s0 (.int _ _))
  ·rename_i h0
   split at he
   ·rename_i o ho
    split at he
    ·rename_i hcd
     obtain ⟨hro, hfit⟩ := hcd
     simp at he; subst he
     rcases hd.slc_inv with ⟨q, c', hq, _, _, rfl⟩ | ⟨rfl, _, a', rfl⟩
     ·obtain ⟨e2, e3, e4, e5⟩ := H.objp ho hq
      have hqro := e2.trans hro
      obtain ⟨_, hbase⟩ := (H.pl i q hq).own hqro
      obtain ⟨arr, el, fr, hb, hsz2, hfr⟩ := (H.pl i q hq).block
      obtain ⟨rfl, rfl⟩ := hfr hqro
      generalize hk : min len nd = k at h0 hfit
      have hk' : Nat.min len nd = k := hk
      have hkl : k ≤ len := by omega
      have hkn : k * n ≤ len * n := Nat.mul_le_mul_right _ hkl
      have ha2 := ha.take (k * n)
      have hl2 : (cs.take (k * n)).length = k * n := by simp; omega
      have hl2' := ha2.length
      have hfit' : off + (cs'.take (k * n)).length ≤ arr.size := by omega
      have hrun := run_storeCells_at P q.blk off q.el (cs'.take (k * n)) 0 arr w hb (by omega) ha2.cells
      simp only [Nat.add_zero] at hrun
      obtain ⟨k1, k2⟩ := H.write ho hro q hq arr (0, 0) hb (arr.toList.take off ++ cs'.take (k * n) ++ arr.toList.drop (off + (cs'.take (k * n)).length)).toArray (splice o.cells off (cs.take (k * n))) (by
        rw [List.size_toArray, List.length_append, List.length_append, List.length_take, List.length_drop, Array.length_toList]; omega) (by unfold splice; rw [List.length_append, List.length_append, List.length_take, List.length_drop]; omega)
       (by
        rw [hbase]
        simp only [Nat.zero_add]
        refine splice_get off ha2 (by omega) hfit' fun j v hj => ?_
        obtain ⟨v', g1, g2⟩ := e5 j v hj
        refine ⟨v', ?_, g2⟩
        rw [hbase, Nat.zero_add] at g1
        simpa [World.cell?, hb] using g1)
      refine ⟨.int .i64 k, _, ι, ?_, k2, k1, .s0 (.int _ _)⟩
      have hf := hfc k hkl
      simp [Builtin.copy_, run_underlying hu, hlen, hsz, hk', hf, goInt, hbase, hrun]
     ·omega
    ·simp at he
   ·simp at he
 ·simp at he
theorem clear_sound (H : HRel P w0 ι h w) {td ty e : TypeId} {n : Nat} (hu : P.underlying td = some (.slice e)) (hn : tSize P e = some n) (hpos : 0 < n) {z : List Value} (hz : tZero P e = some z) (hzl : z.length = n) {d d' : Value} {h' : AHeap} (he : aClear h n z d = some h') (hd : VR ι d d') :
  SemOk P w0 ι h' w (Builtin.clear_ #[td] ty #[d']) undef := by
 obtain ⟨inf, zv, hi, hzv, hzc, hpl⟩ := tZero_info' hz
 have hzr := run_zeroValue (P := P) hi hzv w
 unfold aClear at he
 split at he
 ·rename_i b c
  simp at he; subst he
  refine ⟨undef, w, ι, ?_, Nxt.refl _ _, H, VR.undef _⟩
  have : ∃ b' c', d' = .slice b' 0 c' := by
   cases hd with
   | s2 hv => cases hv with
    | s1 hv => cases hv with
     | s0 hv => cases hv <;> exact ⟨_, _, rfl⟩
  obtain ⟨b', c', rfl⟩ := this
  cases b' <;> simp [Builtin.clear_, run_underlying hu, undef]
 ·rename_i i off k c hne
  split at he
  ·rename_i o ho
   split at he
   ·rename_i hcd
    obtain ⟨hro, hfit⟩ := hcd
    simp at he; subst he
    rcases hd.slc_inv with ⟨q, c', hq, _, _, rfl⟩ | ⟨rfl, _, a', rfl⟩
    ·obtain ⟨e2, e3, e4, e5⟩ := H.objp ho hq
     have hqro := e2.trans hro
     obtain ⟨_, hbase⟩ := (H.pl i q hq).own hqro
     obtain ⟨arr, el, fr, hb, hsz2, hfr⟩ := (H.pl i q hq).block
     obtain ⟨rfl, rfl⟩ := hfr hqro
     have hsz : zv.cells.size = n := by rw [← Array.length_toList, hzc, hzl]
     have hall : All2 (S1 ι) (List.replicate k z).flatten (Builtin.zeroCells zv.cells k).toList := by
      have := flat_sound (ι := ι) hzc hpl hpos hzl k
      unfold Builtin.zeroCells
      rw [hsz]
      rw [hsz] at this
      exact this
     have hl := hall.length
     have hfl : (List.replicate k z).flatten.length = k * n := places_flat n hzl k
     generalize hZ : (Builtin.zeroCells zv.cells k).toList = zs at hall hl
     have hrun := run_storeCells_at P q.blk off q.el zs 0 arr w hb (by omega) hall.cells
     simp only [Nat.add_zero] at hrun
     obtain ⟨k1, k2⟩ := H.write ho hro q hq arr (0, 0) hb (arr.toList.take off ++ zs ++ arr.toList.drop (off + zs.length)).toArray (splice o.cells off (List.replicate k z).flatten) (by
       rw [List.size_toArray, List.length_append, List.length_append, List.length_take, List.length_drop, Array.length_toList]; omega) (by unfold splice; rw [List.length_append, List.length_append, List.length_take, List.length_drop]; omega)
      (by
       rw [hbase]
       simp only [Nat.zero_add]
       refine splice_get off hall (by omega) (by omega) fun j v hj => ?_
       obtain ⟨v', g1, g2⟩ := e5 j v hj
       refine ⟨v', ?_, g2⟩
       rw [hbase, Nat.zero_add] at g1
       simpa [World.cell?, hb] using g1)
     refine ⟨undef, _, ι, ?_, k2, k1, VR.undef _⟩
     have hk0 : k ≠ 0 := fun e => hne e
     cases k with
     | zero => exact absurd rfl hk0
     | succ k => simp [Builtin.clear_, run_underlying hu, hzr, hZ, hbase, hrun, undef]
    ·exact absurd rfl hne
   ·simp at he
  ·simp at he
 ·simp at he
theorem eqF_sound {t : TypeId} {x y x' y' : Value} {r : Bool} (he : aEqF P t x y = some r) (hx : S1 ι x x') (hy : S1 ι y y') (d : Nat) (w : World) : (Op.equalIn (d + 1) t x' y').run P w = .ok r w := by
 unfold aEqF at he
 split at he
 ·rename_i hu
  split at he
  ·rename_i hk
   subst hk
   simp at he; subst he
   obtain rfl := (VR.s1 hx).int_inv; obtain rfl := (VR.s1 hy).int_inv
   exact run_equalIn_int w d t _ _ _ _ hu
  ·simp at he
 ·rename_i hu
  simp at he; subst he
  obtain rfl := (VR.s1 hx).string_inv; obtain rfl := (VR.s1 hy).string_inv
  exact run_equalIn_string w d t _ _ hu
 ·rename_i hu
  simp at he; subst he
  obtain rfl := (VR.s1 hx).bool_inv; obtain rfl := (VR.s1 hy).bool_inv
  exact run_equalIn_bool w d t _ _ hu
 ·simp at he
theorem eqL_sound {a b a' b' : Array Value} (ha : All2 (S1 ι) a.toList a'.toList) (hb : All2 (S1 ι) b.toList b'.toList) (d : Nat) (w : World) : ∀ (fs : List Field) (i : Nat) {r : Bool}, plainFields P fs i = true → aEqL P fs (a.toList.drop i) (b.toList.drop i) = some r →
  (Op.eqFields (d + 1) a' b' fs).run P w = .ok r w
 | [], i, r, _, he => by simp [aEqL] at he; subst he; simp [Op.eqFields]
 | f :: fs, i, r, hp, he => by
  simp only [plainFields, Bool.and_eq_true, bne_iff_ne, ne_eq, beq_iff_eq] at hp
  obtain ⟨⟨⟨h1, h2⟩, h3⟩, h4⟩ := hp
  cases hda : a.toList.drop i with
  | nil => rw [hda] at he; simp [aEqL] at he
  | cons x xs =>
   cases hdb : b.toList.drop i with
   | nil => rw [hda, hdb] at he; simp [aEqL] at he
   | cons y ys =>
    have hx : a.toList[i]? = some x := by have := congrArg List.head? hda; rwa [List.head?_drop] at this
    have hy : b.toList[i]? = some y := by have := congrArg List.head? hdb; rwa [List.head?_drop] at this
    have hxs : a.toList.drop (i + 1) = xs := by have := congrArg List.tail hda; rwa [List.tail_drop] at this
    have hys : b.toList.drop (i + 1) = ys := by have := congrArg List.tail hdb; rwa [List.tail_drop] at this
    obtain ⟨x', gx, rx⟩ := ha.get i x hx
    obtain ⟨y', gy, ry⟩ := hb.get i y hy
    simp only [Array.getElem?_toList] at gx gy
    have px : ∀ w, (part f.type a' f.offset).run P w = .ok x' w := fun w => by simp [part, run_isAgg h3, h2, gx]
    have py : ∀ w, (part f.type b' f.offset).run P w = .ok y' w := fun w => by simp [part, run_isAgg h3, h2, gy]
    rw [hda, hdb] at he
    simp only [aEqL, Option.bind_eq_some_iff] at he
    obtain ⟨q, hq, he⟩ := he
    have hr := eqF_sound hq rx ry d w
    cases q with
    | false => simp at he; subst he; simp [Op.eqFields, h1, px, py, hr]
    | true =>
     rw [cond_true, ← hxs, ← hys] at he
     have ih := eqL_sound ha hb d w fs (i + 1) h4 he
     simp [Op.eqFields, h1, px, py, hr, ih]
theorem binA_sound (H : HRel P w0 ι h w) {op : BinOp} {ty : TypeId} {x y x' y' v : Value} (ox oy : Operand) (he : aBinA P ty op x y = some v) (hx : VR ι x x') (hy : VR ι y y') :
  SemOk P w0 ι h w (do eqGuard op ty ox oy x' y'; binOp op ty x' y') v := by
 unfold aBinA at he
 split at he
 ·rename_i fs a b hu
  obtain ⟨a', rfl, ha⟩ := hx.agg_inv
  obtain ⟨b', rfl, hb⟩ := hy.agg_inv
  cases hc : (plainFields P fs.toList 0 && !P.stoodInHeld ty && !P.eqGuardType P.depth ty) with
  | false => rw [hc] at he; simp at he
  | true =>
   rw [hc, cond_true, Option.bind_eq_some_iff] at he
   obtain ⟨r, hr, he⟩ := he
   simp only [Bool.and_eq_true, Bool.not_eq_true'] at hc
   obtain ⟨⟨h1, h2⟩, h3⟩ := hc
   have hfs : P.fieldsOf ty = fs := by simp [Program.fieldsOf, hu]
   have heq : (Op.equal ty (.agg a') (.agg b')).run P w = .ok r w := by
    show (Op.equalIn 10000 ty _ _).run P w = _
    rw [run_equalIn_struct w 9999 ty a' b' (by rw [hfs]; exact hu) h2, hfs]
    exact eqL_sound ha hb 9998 w fs.toList 0 h1 (by simpa using hr)
   have hg : (eqGuard op ty ox oy (.agg a') (.agg b')).run P w = .ok () w := by
    unfold eqGuard
    cases op <;> simp [h3]
   cases op <;> simp at he <;> subst he
   ·exact SemOk.same H (v' := .bool r) (by simp [hg, binOp, heq]) (.s0 (.bool _))
   ·exact SemOk.same H (v' := .bool !r) (by simp [hg, binOp, heq]) (.s0 (.bool _))
 ·simp at he
end
end Go.AH
