import Derived.Test.YtadmoackacickaaXRel
import Derived.Laws.MakeOwn
import Derived.Lib.AppendStr
/- The small evaluator's heap against the machine's memory: the relation, a new row, a store, an append. -/
namespace Go.AH
open Go.RowKit

structure Place.Ok (P : Program) (w0 w : World) (p : Place) : Prop where
  block : ∃ arr el fr, w.heap[p.blk]? = some (.cells arr el fr) ∧ p.base + p.cap ≤ arr.size ∧ (p.ro = false → el = p.el ∧ fr = (0, 0))
  own : p.ro = false → w0.heap.size ≤ p.blk ∧ p.base = 0
  old : p.ro = true → p.blk < w0.heap.size
  esz : tSize P p.el = some p.esz
structure HRel (P : Program) (w0 : World) (ι : Inj) (h : AHeap) (w : World) : Prop where
  below : Below w0.heap.size w0 w
  dom : ∀ i p, ι.pl i = some p → i < h.size
  domM : ∀ i r, ι.mp i = some r → i < h.size
  pl : ∀ i p, ι.pl i = some p → p.Ok P w0 w
  obj : ∀ i o, h.at? i = some o → ∃ p, ι.pl i = some p ∧ p.ro = o.ro ∧ p.el = o.elem ∧ o.cells.length ≤ p.cap ∧
    ∀ (j : Nat) v, o.cells[j]? = some v → ∃ v', w.cell? ⟨p.blk, p.base + j, none⟩ = some v' ∧ S1 ι v v'
  tip : ∀ i o, h.at? i = some o → o.ro = false → o.cells.length ≤ h.tip o.elem o.root
  eps : ∀ i o, h.obj i = some o → o.ep ≤ h.ep o.elem o.root
  fam : ∀ i j oi oj p q, h.at? i = some oi → h.at? j = some oj → ι.pl i = some p → ι.pl j = some q → p.blk = q.blk → p.ro = false → oi.elem = oj.elem ∧ oi.root = oj.root
  maps : ∀ i l, h.map i = some l → ∃ r es cl, ι.mp i = some r ∧ w.heap[r]? = some (.map es cl) ∧ All2 (fun (kv : Value × Value) (e : MapEntry) => S1 ι kv.1 e.key ∧ S1 ι kv.2 e.val) l es.toList
  mp : ∀ i r, ι.mp i = some r → w0.heap.size ≤ r ∧ ∃ es cl, w.heap[r]? = some (.map es cl)
  mpInj : ∀ i j r, ι.mp i = some r → ι.mp j = some r → i = j

structure Kept (ι : Inj) (w w' : World) : Prop where
  os : w'.os = w.os
  tape : w'.tape = w.tape
  output : w'.output = w.output
  size : w.heap.size ≤ w'.heap.size
  block : ∀ b, b < w.heap.size → (∀ i p, ι.pl i = some p → p.ro = false → p.blk ≠ b) → (∀ i r, ι.mp i = some r → r ≠ b) → w'.heap[b]? = w.heap[b]?
structure Nxt (ι : Inj) (w : World) (ι' : Inj) (w' : World) : Prop where
  le : ι.Le ι'
  kept : Kept ι w w'
  img : ∀ i p, ι'.pl i = some p → ι.pl i = some p ∨ w.heap.size ≤ p.blk ∨ ∃ j q, ι.pl j = some q ∧ q.blk = p.blk ∧ q.ro = p.ro
  imgM : ∀ i r, ι'.mp i = some r → ι.mp i = some r ∨ w.heap.size ≤ r

theorem Kept.refl (ι : Inj) (w : World) : Kept ι w w := ⟨rfl, rfl, rfl, Nat.le_refl _, fun _ _ _ _ => rfl⟩
theorem Nxt.refl (ι : Inj) (w : World) : Nxt ι w ι w := ⟨Inj.Le.refl _, Kept.refl _ _, fun _ _ h => .inl h, fun _ _ h => .inl h⟩
theorem Nxt.trans {a b c : Inj} {w w1 w2 : World} (h : Nxt a w b w1) (k : Nxt b w1 c w2) : Nxt a w c w2 := by
  refine ⟨h.le.trans k.le, ⟨k.kept.os.trans h.kept.os, k.kept.tape.trans h.kept.tape, k.kept.output.trans h.kept.output, Nat.le_trans h.kept.size k.kept.size, fun x hx h1 h2 => ?_⟩, fun i p hp => ?_, fun i r hr => ?_⟩
  · rw [k.kept.block x (Nat.lt_of_lt_of_le hx h.kept.size) (fun i p hp hro => ?_) (fun i r hr => ?_), h.kept.block x hx h1 h2]
    · rcases h.img i p hp with hp | hp | ⟨j, q, hq, e1, e2⟩
      · exact h1 i p hp hro
      · omega
      · exact e1 ▸ h1 j q hq (e2.trans hro)
    · rcases h.imgM i r hr with hr | hr
      · exact h2 i r hr
      · omega
  · rcases k.img i p hp with hp | hp | ⟨j, q, hq, e1, e2⟩
    · exact h.img i p hp
    · exact .inr (.inl (Nat.le_trans h.kept.size hp))
    · rcases h.img j q hq with hq | hq | ⟨j', q', hq', e1', e2'⟩
      · exact .inr (.inr ⟨j, q, hq, e1, e2⟩)
      · exact .inr (.inl (e1 ▸ hq))
      · exact .inr (.inr ⟨j', q', hq', e1'.trans e1, e2'.trans e2⟩)
  · rcases k.imgM i r hr with hr | hr
    · exact h.imgM i r hr
    · exact .inr (Nat.le_trans h.kept.size hr)

section
variable {P : Program} {w0 w : World} {ι : Inj} {h : AHeap}

theorem below_drew' {B : Nat} {w W : World} (h : Below B w W) : Below B w W.drew := ⟨h.os, h.tape, h.output, h.size, h.block⟩
theorem HRel.drew (H : HRel P w0 ι h w) : HRel P w0 ι h w.drew :=
  ⟨below_drew' H.below, H.dom, H.domM, fun i p hp => ⟨(H.pl i p hp).block, (H.pl i p hp).own, (H.pl i p hp).old, (H.pl i p hp).esz⟩, H.obj, H.tip, H.eps, H.fam, H.maps, H.mp, H.mpInj⟩
theorem Nxt.drew (ι : Inj) (w : World) : Nxt ι w ι w.drew := ⟨Inj.Le.refl _, ⟨rfl, rfl, rfl, Nat.le_refl _, fun _ _ _ _ => rfl⟩, fun _ _ h => .inl h, fun _ _ h => .inl h⟩

theorem at?_obj {i : Nat} {o : AObj} (ha : h.at? i = some o) : h.obj i = some o ∧ i < h.size ∧ o.root ≤ i ∧ h.ep o.elem o.root = o.ep := by
  unfold AHeap.at? at ha
  split at ha
  · rename_i o' ho
    split at ha
    · simp at ha; subst ha; rename_i hc; exact ⟨ho, hc⟩
    · simp at ha
  · simp at ha
theorem at?_mk {i : Nat} {o : AObj} (ho : h.obj i = some o) (h1 : i < h.size) (h2 : o.root ≤ i) (h3 : h.ep o.elem o.root = o.ep) : h.at? i = some o := by
  simp [AHeap.at?, ho, h1, h2, h3]

/-! ### a new row -/
theorem at?_new_same (h : AHeap) (e : TypeId) (cs : List Value) : (h.new e cs).at? h.size = some ⟨h.size, h.ep e h.size, false, e, cs⟩ :=
  at?_mk (by simp [AHeap.new]) (by simp [AHeap.new]) (Nat.le_refl _) rfl
theorem at?_new_old (h : AHeap) (e : TypeId) (cs : List Value) {i : Nat} (hi : i ≠ h.size) : (h.new e cs).at? i = h.at? i := by
  have e1 : (h.new e cs).obj i = h.obj i := by simp [AHeap.new, hi]
  unfold AHeap.at?
  rw [e1]
  cases h.obj i with
  | none => rfl
  | some o =>
    have : (i < (h.new e cs).size) ↔ i < h.size := by simp [AHeap.new]; omega
    simp only [this]
    rfl
def Inj.add (ι : Inj) (i : Nat) (p : Place) : Inj := { ι with pl := fun j => if j = i then some p else ι.pl j }
theorem Inj.le_add (ι : Inj) {i : Nat} {p : Place} (hi : ι.pl i = none) : ι.Le (ι.add i p) :=
  ⟨fun j q hq => by
    simp only [Inj.add]
    split
    · rename_i e; subst e; rw [hi] at hq; cases hq
    · exact hq, fun _ _ h => h⟩
theorem HRel.fresh (H : HRel P w0 ι h w) : ι.pl h.size = none := by
  cases e : ι.pl h.size with
  | none => rfl
  | some p => exact absurd (H.dom _ _ e) (Nat.lt_irrefl _)
theorem HRel.blk_lt (H : HRel P w0 ι h w) {i : Nat} {p : Place} (hp : ι.pl i = some p) : p.blk < w.heap.size := by
  obtain ⟨_, _, _, hb, _⟩ := (H.pl i p hp).block
  exact (Array.getElem?_eq_some_iff.1 hb).1
theorem HRel.mp_lt (H : HRel P w0 ι h w) {i r : Nat} (hp : ι.mp i = some r) : r < w.heap.size := by
  obtain ⟨_, _, _, hb⟩ := H.mp i r hp
  exact (Array.getElem?_eq_some_iff.1 hb).1
theorem Place.Ok.keep {w' : World} {p : Place} (hp : p.Ok P w0 w) (hb : w'.heap[p.blk]? = w.heap[p.blk]?) : p.Ok P w0 w' :=
  ⟨by rw [hb]; exact hp.block, hp.own, hp.old, hp.esz⟩
theorem cell?_keep {w' : World} {a : Addr} (hb : w'.heap[a.block]? = w.heap[a.block]?) : w'.cell? a = w.cell? a := by simp only [World.cell?, hb]

theorem HRel.alloc (H : HRel P w0 ι h w) (e : TypeId) (n cap : Nat) (arr : Array Value) (cs : List Value) (hn : tSize P e = some n) (hc : cs.length ≤ cap) (hcap : cap ≤ arr.size)
    (hr : ∀ (j : Nat) v, cs[j]? = some v → ∃ v', arr[j]? = some v' ∧ S1 ι v v') :
    HRel P w0 (ι.add h.size ⟨w.heap.size, 0, cap, n, false, e⟩) (h.new e cs) (w.alloc (.cells arr e)) ∧ Nxt ι w (ι.add h.size ⟨w.heap.size, 0, cap, n, false, e⟩) (w.alloc (.cells arr e)) := by
  have hle := ι.le_add (p := ⟨w.heap.size, 0, cap, n, false, e⟩) H.fresh
  have hold : ∀ b, b < w.heap.size → (w.alloc (.cells arr e)).heap[b]? = w.heap[b]? := fun b hb => Below.heap_alloc w _ b hb
  have hnew : (w.alloc (.cells arr e)).heap[w.heap.size]? = some (.cells arr e) := heap_alloc_new w _
  refine ⟨⟨?_, ?_, ?_, ?_, ?_, ?_, ?_, ?_, ?_, ?_, ?_⟩, hle, ⟨rfl, rfl, rfl, by simp, fun b hb _ _ => hold b hb⟩, ?_, fun i r hr => .inl hr⟩
  · exact H.below.alloc H.below.size _
  · intro i p hp
    simp only [Inj.add] at hp
    simp only [AHeap.new]
    split at hp
    · omega
    · have := H.dom i p hp; omega
  · intro i r hp
    have := H.domM i r hp
    simp only [AHeap.new]; omega
  · intro i p hp
    simp only [Inj.add] at hp
    split at hp
    · simp at hp; subst hp
      exact ⟨⟨arr, _, (0, 0), hnew, by simpa using hcap, fun _ => ⟨rfl, rfl⟩⟩, fun _ => ⟨H.below.size, rfl⟩, fun h => by simp at h, hn⟩
    · exact (H.pl i p hp).keep (hold _ (H.blk_lt hp))
  · intro i o ho
    by_cases hi : i = h.size
    · subst hi
      rw [at?_new_same] at ho
      simp at ho; subst ho
      refine ⟨⟨w.heap.size, 0, cap, n, false, e⟩, if_pos rfl, rfl, rfl, hc, fun j v hv => ?_⟩
      obtain ⟨v', h1, h2⟩ := hr j v hv
      exact ⟨v', by rw [Nat.zero_add]; exact (World.cell?_alloc_new w arr e j).trans h1, h2.mono hle⟩
    · rw [at?_new_old _ _ _ hi] at ho
      obtain ⟨p, h1, h2, h3, h4, h5⟩ := H.obj i o ho
      refine ⟨p, hle.pl i p h1, h2, h3, h4, fun j v hv => ?_⟩
      obtain ⟨v', g1, g2⟩ := h5 j v hv
      exact ⟨v', by rw [cell?_keep (hold _ (H.blk_lt h1))]; exact g1, g2.mono hle⟩
  · intro i o ho hro
    by_cases hi : i = h.size
    · subst hi
      rw [at?_new_same] at ho
      simp at ho; subst ho
      simp [AHeap.new]
    · rw [at?_new_old _ _ _ hi] at ho
      have := H.tip i o ho hro
      obtain ⟨_, h1, h2, _⟩ := at?_obj ho
      have : o.root ≠ h.size := by omega
      simp only [AHeap.new]
      rw [if_neg (by simp [this])]
      exact H.tip i o ho hro
  · intro i o ho
    simp only [AHeap.new] at ho ⊢
    split at ho
    · simp at ho; subst ho; exact Nat.le_refl _
    · exact H.eps i o ho
  · intro i j oi oj p q hi hj hp hq hb hro
    simp only [Inj.add] at hp hq
    by_cases ei : i = h.size
    · by_cases ej : j = h.size
      · subst ei; subst ej
        rw [at?_new_same] at hi hj
        simp at hi hj; subst hi; subst hj; exact ⟨rfl, rfl⟩
      · rw [if_pos ei] at hp; rw [if_neg ej] at hq
        simp at hp; subst hp
        have := H.blk_lt hq
        simp at hb; omega
    · by_cases ej : j = h.size
      · rw [if_neg ei] at hp; rw [if_pos ej] at hq
        simp at hq; subst hq
        have := H.blk_lt hp
        simp at hb; omega
      · rw [if_neg ei] at hp; rw [if_neg ej] at hq
        rw [at?_new_old _ _ _ ei] at hi; rw [at?_new_old _ _ _ ej] at hj
        exact H.fam i j oi oj p q hi hj hp hq hb hro
  · intro i l hl
    obtain ⟨r, es, cl, h1, h2, h3⟩ := H.maps i l hl
    exact ⟨r, es, cl, h1, (hold _ (H.mp_lt h1)).trans h2, h3.mono fun _ _ h => ⟨h.1.mono hle, h.2.mono hle⟩⟩
  · intro i r hr
    obtain ⟨h1, es, cl, h2⟩ := H.mp i r hr
    exact ⟨h1, es, cl, (hold _ (H.mp_lt hr)).trans h2⟩
  · exact fun i j r h1 h2 => H.mpInj i j r h1 h2
  · intro i p hp
    simp only [Inj.add] at hp
    split at hp
    · simp at hp; subst hp; exact .inr (.inl (Nat.le_refl _))
    · exact .inl hp

/-! ### a row's cells turn -/
theorem at?_put_same {i : Nat} {o : AObj} (ha : h.at? i = some o) (cs : List Value) : (h.put i o cs).at? i = some { o with ep := h.ep o.elem o.root + 1, cells := cs } := by
  obtain ⟨_, h1, h2, _⟩ := at?_obj ha
  exact at?_mk (by simp [AHeap.put]) h1 h2 (by simp [AHeap.put])
/-- Of another family: as it was. -/
theorem at?_put_other {i j : Nat} {o oj : AObj} (hj : h.at? j = some oj) (hne : j ≠ i) (cs : List Value) (hf : ¬ (oj.elem = o.elem ∧ oj.root = o.root)) : (h.put i o cs).at? j = some oj := by
  obtain ⟨h0, h1, h2, h3⟩ := at?_obj hj
  exact at?_mk (by simp [AHeap.put, hne, h0]) h1 h2 (by simp only [AHeap.put]; rw [if_neg hf]; exact h3)
theorem at?_put_inv (heps : ∀ i o, h.obj i = some o → o.ep ≤ h.ep o.elem o.root) {i j : Nat} {o oj : AObj} {cs : List Value} (hj : (h.put i o cs).at? j = some oj) (hne : j ≠ i) :
    h.at? j = some oj ∧ ¬ (oj.elem = o.elem ∧ oj.root = o.root) := by
  obtain ⟨h0, h1, h2, h3⟩ := at?_obj hj
  simp only [AHeap.put, if_neg hne] at h0 h1 h3
  have hep := heps j oj h0
  by_cases hf : oj.elem = o.elem ∧ oj.root = o.root
  · rw [if_pos hf] at h3
    rw [hf.1, hf.2] at hep; omega
  · rw [if_neg hf] at h3
    exact ⟨at?_mk h0 h1 h2 h3, hf⟩

theorem HRel.write (H : HRel P w0 ι h w) {i : Nat} {o : AObj} (ha : h.at? i = some o) (hro : o.ro = false) (p : Place) (hp : ι.pl i = some p) (arr : Array Value) (fr : Nat × Nat) (hb : w.heap[p.blk]? = some (.cells arr p.el fr))
    (arr' : Array Value) (cs : List Value) (hsz : arr'.size = arr.size) (hl : cs.length ≤ p.cap) (hr : ∀ (j : Nat) v, cs[j]? = some v → ∃ v', arr'[p.base + j]? = some v' ∧ S1 ι v v') :
    HRel P w0 ι (h.put i o cs) (w.setRow p.blk arr') ∧ Nxt ι w ι (w.setRow p.blk arr') := by
  obtain ⟨p', e1, e2, e3, e4, e5⟩ := H.obj i o ha
  rw [hp] at e1; cases e1
  have hpro : p.ro = false := e2.trans hro
  obtain ⟨own1, own2⟩ := (H.pl i p hp).own hpro
  have hset := setRow_heap w p.blk arr arr' p.el fr hb
  have hoth : ∀ k, k ≠ p.blk → (w.setRow p.blk arr').heap[k]? = w.heap[k]? := fun k hk => setRow_other w p.blk k arr' hk
  have hsize : (w.setRow p.blk arr').heap.size = w.heap.size := by simp [World.setRow]
  have hpb : ∀ j q, ι.pl j = some q → q.Ok P w0 (w.setRow p.blk arr') := by
    intro j q hq
    by_cases hk : q.blk = p.blk
    · obtain ⟨a2, l2, f2, b1, b2, b3⟩ := (H.pl j q hq).block
      rw [hk, hb] at b1
      simp at b1; obtain ⟨b1a, b1b, b1c⟩ := b1
      refine ⟨⟨arr', l2, fr, ?_, ?_, ?_⟩, (H.pl j q hq).own, (H.pl j q hq).old, (H.pl j q hq).esz⟩
      · rw [hk, hset, b1b]
      · rw [hsz, b1a]; exact b2
      · rw [b1c]; exact b3
    · exact (H.pl j q hq).keep (hoth _ hk)
  have hmp : ∀ k r, ι.mp k = some r → r ≠ p.blk := by
    intro k r hr he
    obtain ⟨_, es, cl, h2⟩ := H.mp k r hr
    rw [he, hb] at h2; simp at h2
  refine ⟨⟨?_, H.dom, H.domM, hpb, ?_, ?_, ?_, ?_, ?_, ?_, H.mpInj⟩, Inj.Le.refl _, ⟨rfl, rfl, rfl, Nat.le_of_eq hsize.symm, fun b hb h1 _ => hoth b (fun e => h1 i p hp hpro e.symm)⟩, fun _ _ h => .inl h, fun _ _ h => .inl h⟩
  · refine ⟨H.below.os, H.below.tape, H.below.output, by rw [hsize]; exact H.below.size, fun k hk => ?_⟩
    rw [hoth k (by omega)]; exact H.below.block k hk
  · intro j oj hj
    by_cases hji : j = i
    · subst hji
      rw [at?_put_same ha] at hj
      simp at hj; subst hj
      refine ⟨p, hp, e2, e3, hl, fun j v hv => ?_⟩
      obtain ⟨v', g1, g2⟩ := hr j v hv
      exact ⟨v', by rw [cell_setRow_same w p.blk _ arr arr' p.el fr hb]; exact g1, g2⟩
    · obtain ⟨hj0, hf⟩ := at?_put_inv H.eps hj hji
      obtain ⟨q, f1, f2, f3, f4, f5⟩ := H.obj j oj hj0
      have hne : q.blk ≠ p.blk := fun e => hf (by
        have := H.fam i j o oj p q ha hj0 hp f1 e.symm hpro
        exact ⟨this.1.symm, this.2.symm⟩)
      refine ⟨q, f1, f2, f3, f4, fun x v hv => ?_⟩
      obtain ⟨v', g1, g2⟩ := f5 x v hv
      exact ⟨v', by rw [cell_setRow_other w p.blk arr' _ hne]; exact g1, g2⟩
  · intro j oj hj hjro
    by_cases hji : j = i
    · subst hji
      rw [at?_put_same ha] at hj
      simp at hj; subst hj
      simp [AHeap.put]
    · obtain ⟨hj0, hf⟩ := at?_put_inv H.eps hj hji
      simp only [AHeap.put]; rw [if_neg hf]
      exact H.tip j oj hj0 hjro
  · intro j oj hj
    simp only [AHeap.put] at hj ⊢
    split at hj
    · simp at hj; subst hj; simp
    · have := H.eps j oj hj
      split
      · rename_i hc; rw [hc.1, hc.2] at this; omega
      · exact this
  · intro j k oj ok q1 q2 hj hk h1 h2 hb2 hro2
    have back : ∀ j oj, (h.put i o cs).at? j = some oj → ∃ o', h.at? j = some o' ∧ o'.elem = oj.elem ∧ o'.root = oj.root := by
      intro j oj hj
      by_cases hji : j = i
      · subst hji
        rw [at?_put_same ha] at hj
        simp at hj; subst hj
        exact ⟨o, ha, rfl, rfl⟩
      · exact ⟨oj, (at?_put_inv H.eps hj hji).1, rfl, rfl⟩
    obtain ⟨o1, a1, a2, a3⟩ := back j oj hj
    obtain ⟨o2, b1, b2, b3⟩ := back k ok hk
    have := H.fam j k o1 o2 q1 q2 a1 b1 h1 h2 hb2 hro2
    exact ⟨a2.symm.trans (this.1.trans b2), a3.symm.trans (this.2.trans b3)⟩
  · intro j l hl
    obtain ⟨r, es, cl, h1, h2, h3⟩ := H.maps j l hl
    exact ⟨r, es, cl, h1, (hoth r (hmp j r h1)).trans h2, h3⟩
  · intro j r hr
    obtain ⟨h1, es, cl, h2⟩ := H.mp j r hr
    exact ⟨h1, es, cl, (hoth r (hmp j r hr)).trans h2⟩
end
end Go.AH
