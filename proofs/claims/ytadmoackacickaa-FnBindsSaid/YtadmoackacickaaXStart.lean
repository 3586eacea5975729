import Derived.Test.YtadmoackacickaaXRow
import Derived.Deep.Slices
/- The start: rows that can only be read. -/
namespace Go.AH
open Go.RowKit
variable {P : Program}

def hRows (n : Nat) (R : Nat → Option (Place × List Value)) : AHeap := ⟨n, fun i => (R i).map fun r => ⟨i, 0, true, r.1.el, r.2⟩, fun _ _ => 0, fun _ _ => 0, fun _ => none⟩
def iRows (R : Nat → Option (Place × List Value)) : Inj := ⟨fun i => (R i).map (·.1), fun _ => none⟩
theorem rows_at {n : Nat} {R : Nat → Option (Place × List Value)} {i : Nat} {r : Place × List Value} (hn : i < n) (h : R i = some r) : (hRows n R).at? i = some ⟨i, 0, true, r.1.el, r.2⟩ :=
  at?_mk (by simp [hRows, h]) hn (Nat.le_refl _) rfl
theorem at_rows {n : Nat} {R : Nat → Option (Place × List Value)} {i : Nat} {o : AObj} (h : (hRows n R).at? i = some o) : ∃ r, R i = some r ∧ o = ⟨i, 0, true, r.1.el, r.2⟩ := by
  obtain ⟨h1, _, _, _⟩ := at?_obj h
  simp only [hRows, Option.map_eq_some_iff] at h1
  obtain ⟨r, a, b⟩ := h1
  exact ⟨r, a, b.symm⟩
theorem start_rows {W : World} {n : Nat} {R : Nat → Option (Place × List Value)} (hn : ∀ i r, R i = some r → i < n)
    (hok : ∀ i r, R i = some r → r.1.Ok P W W ∧ r.1.ro = true ∧ r.2.length ≤ r.1.cap ∧ ∀ (j : Nat) v, r.2[j]? = some v → ∃ v', W.cell? ⟨r.1.blk, r.1.base + j, none⟩ = some v' ∧ S1 (iRows R) v v') :
    HRel P W (iRows R) (hRows n R) W where
  below := Below.refl _ _
  dom := fun i p h => by
    simp only [iRows, Option.map_eq_some_iff] at h
    obtain ⟨r, a, _⟩ := h
    exact hn i r a
  domM := fun i p h => by cases h
  pl := fun i p h => by
    simp only [iRows, Option.map_eq_some_iff] at h
    obtain ⟨r, a, b⟩ := h
    subst b
    exact (hok i r a).1
  obj := fun i o h => by
    obtain ⟨r, a, rfl⟩ := at_rows h
    obtain ⟨h1, h2, h3, h4⟩ := hok i r a
    exact ⟨r.1, by simp [iRows, a], h2, rfl, h3, h4⟩
  tip := fun i o h hro => by
    obtain ⟨r, a, rfl⟩ := at_rows h
    cases hro
  eps := fun i o h => by
    simp only [hRows, Option.map_eq_some_iff] at h
    obtain ⟨r, a, b⟩ := h
    subst b
    exact Nat.le_refl _
  fam := fun i j oi oj p q h1 h2 h3 h4 h5 h6 => by
    obtain ⟨r, a, rfl⟩ := at_rows h1
    simp only [iRows, a, Option.map_some, Option.some.injEq] at h3
    subst h3
    rw [(hok i r a).2.1] at h6; cases h6
  maps := fun i l h => by cases h
  mp := fun i r h => by cases h
  mpInj := fun i j r h => by cases h

/-- A slice of the machine's that reads: nil, without room, or a row of a block. -/
theorem open_rowM {H : Type} {enc : TypeId × Value → H} {w : World} {t e : TypeId} {fuel esz : Nat} {v : Value} {x : DataW H × List MemPlace} (ht : P.underlying t = some (.slice e)) (hc : P.cellsOf e = esz) (hpos : 0 < esz)
    (h : DataW.trod enc P w 0 (fun _ => true) true fuel t [v] = some x) :
    v = .slice none 0 0 ∨ (∃ a, v = .slice (some a) 0 0) ∨
    ∃ (b off len cap n : Nat) (D : Nat → DataW H) (Pl : Nat → List MemPlace), v = .slice (some ⟨b, off, none⟩) len cap ∧ len ≤ cap ∧ cap ≤ maxLen ∧ (∃ arr el fr, w.heap[b]? = some (.cells arr el fr) ∧ off + cap * esz ≤ arr.size) ∧
      ∀ i, i < len → ∃ cs', cs'.length = esz ∧ (∀ j, j < esz → w.cell? ⟨b, off + (i * esz + j), none⟩ = cs'[j]?) ∧ DataW.trod enc P w 0 (fun _ => true) true n e cs' = some (D i, Pl i) := by
  rcases Deep.open_slice ht h with ⟨h0, _⟩ | ⟨a, len, cap, m, n, D, Pl, h0, _, hl, hm, hmm, _, hx⟩
  · exact .inl (by simpa using h0)
  have hv : v = .slice (some a) len cap := by simpa using h0
  subst hv
  simp only [if_true] at hmm
  subst hmm
  by_cases hcap : m = 0
  · subst hcap
    have : len = 0 := by omega
    subst this
    exact .inr (.inl ⟨a, rfl⟩)
  · right; right
    rw [hc] at hx
    have cellOf : ∀ i, i < m → ∃ cs', cs'.length = esz ∧ (∀ j, j < esz → w.cell? ((a.add (i * esz)).add j) = cs'[j]?) ∧ DataW.trod enc P w 0 (fun _ => true) true n e cs' = some (D i, Pl i) := fun i hi => by
      obtain ⟨cs', h1, h2⟩ := hx i hi
      obtain ⟨_, h3, h4⟩ := World.cells?_some h1
      exact ⟨cs', h3, h4, h2⟩
    have hspot : a.spot = none := by
      obtain ⟨cs', h1, h2, _⟩ := cellOf 0 (by omega)
      have := h2 0 hpos
      rw [Nat.zero_mul] at this
      have e0 : (a.add 0).add 0 = a := rfl
      rw [e0, List.getElem?_eq_getElem (by omega)] at this
      exact World.cell?_spot this
    obtain ⟨b, off, sp⟩ := a
    simp only at hspot
    subst hspot
    have hadd : ∀ i j, ((⟨b, off, none⟩ : Addr).add i).add j = ⟨b, off + (i + j), none⟩ := fun i j => by
      unfold Addr.add
      by_cases hi : i = 0 <;> by_cases hj : j = 0 <;> simp [hi, hj, Nat.add_assoc]
    refine ⟨b, off, len, m, n, D, Pl, rfl, hl, hm, ?_, fun i hi => ?_⟩
    · obtain ⟨cs', h1, h2, _⟩ := cellOf (m - 1) (by omega)
      have := h2 (esz - 1) (by omega)
      rw [hadd, List.getElem?_eq_getElem (by omega)] at this
      unfold World.cell? at this
      split at this
      · rename_i arr el fr hb
        refine ⟨arr, el, fr, hb, ?_⟩
        have h5 : arr[off + ((m - 1) * esz + (esz - 1))]? = some _ := this
        obtain ⟨hlt, _⟩ := Array.getElem?_eq_some_iff.1 h5
        have : (m - 1) * esz + esz = m * esz := by rw [← Nat.succ_mul]; congr 1; omega
        omega
      · cases this
    · obtain ⟨cs', h1, h2, h3⟩ := cellOf i (by omega)
      exact ⟨cs', h1, fun j hj => by rw [← h2 j hj, hadd], h3⟩
end Go.AH
