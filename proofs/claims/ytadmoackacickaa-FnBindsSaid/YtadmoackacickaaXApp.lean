import Derived.Test.YtadmoackacickaaXHeap
/- An append, in the small evaluator's heap and in the machine's memory: within the room, and into a new block. -/
namespace Go.AH
open Go.RowKit
section
variable {P : Program} {w0 w : World} {ι : Inj} {h : AHeap}

theorem at?_app_same {i : Nat} {o : AObj} (ha : h.at? i = some o) (k : Nat) (cs : List Value) :
    (h.app o k cs).at? h.size = some ⟨o.root, if k < h.tip o.elem o.root then h.ep o.elem o.root + 1 else h.ep o.elem o.root, false, o.elem, cs⟩ := by
  obtain ⟨_, h1, h2, _⟩ := at?_obj ha
  exact at?_mk (by simp [AHeap.app]) (by simp [AHeap.app]) (by show o.root ≤ h.size; omega) (by simp [AHeap.app])
theorem at?_app_old {j : Nat} {o oj : AObj} (hj : h.at? j = some oj) {k : Nat} (cs : List Value) (hf : (oj.elem = o.elem ∧ oj.root = o.root) → ¬ k < h.tip o.elem o.root) : (h.app o k cs).at? j = some oj := by
  obtain ⟨h0, h1, h2, h3⟩ := at?_obj hj
  have hne : j ≠ h.size := by omega
  refine at?_mk (by simp [AHeap.app, hne, h0]) (by simp only [AHeap.app]; omega) h2 ?_
  simp only [AHeap.app]
  split
  · rename_i hc
    rw [if_neg (hf hc), ← hc.1, ← hc.2]; exact h3
  · exact h3
theorem at?_app_inv (heps : ∀ i o, h.obj i = some o → o.ep ≤ h.ep o.elem o.root) {j : Nat} {o oj : AObj} {k : Nat} {cs : List Value} (hj : (h.app o k cs).at? j = some oj) (hne : j ≠ h.size) :
    h.at? j = some oj ∧ ((oj.elem = o.elem ∧ oj.root = o.root) → ¬ k < h.tip o.elem o.root) := by
  obtain ⟨h0, h1, h2, h3⟩ := at?_obj hj
  simp only [AHeap.app, if_neg hne] at h0 h1 h3
  have hep := heps j oj h0
  by_cases hf : oj.elem = o.elem ∧ oj.root = o.root
  · rw [if_pos hf] at h3
    rw [hf.1, hf.2] at hep
    by_cases hk : k < h.tip o.elem o.root
    · rw [if_pos hk] at h3; omega
    · rw [if_neg hk] at h3
      exact ⟨at?_mk h0 (by omega) h2 (by rw [hf.1, hf.2]; exact h3), fun _ => hk⟩
  · rw [if_neg hf] at h3
    exact ⟨at?_mk h0 (by omega) h2 h3, fun hc => absurd hc hf⟩

/-- What both ways of an append share. -/
theorem HRel.appWith (H : HRel P w0 ι h w) {i : Nat} {o : AObj} (ha : h.at? i = some o) (k : Nat) (cs : List Value) (p' : Place) (w' : World)
    (hp' : p'.Ok P w0 w') (hpro : p'.ro = false) (hel : p'.el = o.elem) (hl : cs.length ≤ p'.cap) (hk_le : k ≤ cs.length)
    (hcs : ∀ (j : Nat) v, cs[j]? = some v → ∃ v', w'.cell? ⟨p'.blk, p'.base + j, none⟩ = some v' ∧ S1 ι v v')
    (below : Below w0.heap.size w0 w')
    (hpl : ∀ j p, ι.pl j = some p → p.Ok P w0 w')
    (hcell : ∀ j oj p, h.at? j = some oj → ι.pl j = some p → ((oj.elem = o.elem ∧ oj.root = o.root) → ¬ k < h.tip o.elem o.root) → ∀ (x : Nat), x < oj.cells.length → w'.cell? ⟨p.blk, p.base + x, none⟩ = w.cell? ⟨p.blk, p.base + x, none⟩)
    (hblk : ∀ j oj p, h.at? j = some oj → ι.pl j = some p → p.blk = p'.blk → p.ro = false → oj.elem = o.elem ∧ oj.root = o.root)
    (hroblk : ∀ j p, ι.pl j = some p → p.blk = p'.blk → p.ro = false)
    (hmaps : ∀ j r, ι.mp j = some r → w'.heap[r]? = w.heap[r]?) :
    HRel P w0 (ι.add h.size p') (h.app o k cs) w' := by
  have hle := ι.le_add (p := p') H.fresh
  refine ⟨below, ?_, ?_, ?_, ?_, ?_, ?_, ?_, ?_, ?_, fun a b r h1 h2 => H.mpInj a b r h1 h2⟩
  · intro j q hq
    simp only [Inj.add] at hq
    simp only [AHeap.app]
    split at hq
    · omega
    · have := H.dom j q hq; omega
  · intro j r hr
    have := H.domM j r hr
    simp only [AHeap.app]; omega
  · intro j q hq
    simp only [Inj.add] at hq
    split at hq
    · simp at hq; subst hq; exact hp'
    · exact hpl j q hq
  · intro j oj hj
    by_cases hjn : j = h.size
    · subst hjn
      rw [at?_app_same ha] at hj
      simp at hj; subst hj
      refine ⟨p', if_pos rfl, hpro, hel, hl, fun x v hv => ?_⟩
      obtain ⟨v', g1, g2⟩ := hcs x v hv
      exact ⟨v', g1, g2.mono hle⟩
    · obtain ⟨hj0, hf⟩ := at?_app_inv H.eps hj hjn
      obtain ⟨q, f1, f2, f3, f4, f5⟩ := H.obj j oj hj0
      refine ⟨q, hle.pl j q f1, f2, f3, f4, fun x v hv => ?_⟩
      obtain ⟨v', g1, g2⟩ := f5 x v hv
      have hx : x < oj.cells.length := (List.getElem?_eq_some_iff.1 hv).1
      exact ⟨v', by rw [hcell j oj q hj0 f1 hf x hx]; exact g1, g2.mono hle⟩
  · intro j oj hj hjro
    by_cases hjn : j = h.size
    · subst hjn
      rw [at?_app_same ha] at hj
      simp at hj; subst hj
      simp [AHeap.app]
    · obtain ⟨hj0, hf⟩ := at?_app_inv H.eps hj hjn
      have ht := H.tip j oj hj0 hjro
      simp only [AHeap.app]
      split
      · rename_i hc
        have := hf hc
        rw [hc.1, hc.2] at ht
        have hlen : k ≤ cs.length := hk_le
        omega
      · exact ht
  · intro j oj hj
    simp only [AHeap.app] at hj ⊢
    split at hj
    · simp at hj; subst hj; simp
    · have := H.eps j oj hj
      split
      · rename_i hc
        rw [hc.1, hc.2] at this
        split <;> omega
      · exact this
  · intro a b oa ob pa pb h1 h2 e1 e2 hb hro1
    have back : ∀ j oj p, (h.app o k cs).at? j = some oj → (ι.add h.size p').pl j = some p → (j = h.size ∧ p = p' ∧ oj.elem = o.elem ∧ oj.root = o.root) ∨ (h.at? j = some oj ∧ ι.pl j = some p) := by
      intro j oj p hj hp
      simp only [Inj.add] at hp
      by_cases hjn : j = h.size
      · rw [if_pos hjn] at hp
        simp at hp
        subst hjn
        rw [at?_app_same ha] at hj
        simp at hj; subst hj
        exact .inl ⟨rfl, hp.symm, rfl, rfl⟩
      · rw [if_neg hjn] at hp
        exact .inr ⟨(at?_app_inv H.eps hj hjn).1, hp⟩
    rcases back a oa pa h1 e1 with ⟨_, rfl, ea, ra⟩ | ⟨a1, a2⟩ <;> rcases back b ob pb h2 e2 with ⟨_, rfl, eb, rb⟩ | ⟨b1, b2⟩
    · exact ⟨ea.trans eb.symm, ra.trans rb.symm⟩
    · have := hblk b ob pb b1 b2 hb.symm (hroblk b pb b2 hb.symm)
      exact ⟨ea.trans this.1.symm, ra.trans this.2.symm⟩
    · have := hblk a oa pa a1 a2 hb hro1
      exact ⟨this.1.trans eb.symm, this.2.trans rb.symm⟩
    · exact H.fam a b oa ob pa pb a1 b1 a2 b2 hb hro1
  · intro j l hl2
    obtain ⟨r, es, cl, h1, h2, h3⟩ := H.maps j l hl2
    exact ⟨r, es, cl, h1, (hmaps j r h1).trans h2, h3.mono fun _ _ h => ⟨h.1.mono hle, h.2.mono hle⟩⟩
  · intro j r hr
    obtain ⟨h1, es, cl, h2⟩ := H.mp j r hr
    exact ⟨h1, es, cl, (hmaps j r hr).trans h2⟩

theorem toList_getElem? {arr : Array Value} (j : Nat) : arr.toList[j]? = arr[j]? := by simp
/-- Within the room. -/
theorem HRel.appRoom (H : HRel P w0 ι h w) {i : Nat} {o : AObj} (ha : h.at? i = some o) (hro : o.ro = false) (p : Place) (hp : ι.pl i = some p) (arr : Array Value) (hb : w.heap[p.blk]? = some (.cells arr p.el (0, 0)))
    (k : Nat) (hk : k ≤ o.cells.length) (news news' : List Value) (hn : All2 (S1 ι) news news') (hfit : k + news'.length ≤ p.cap) :
    HRel P w0 (ι.add h.size p) (h.app o k (o.cells.take k ++ news)) (w.setRow p.blk (arr.toList.take k ++ news' ++ arr.toList.drop (k + news'.length)).toArray) ∧
      Nxt ι w (ι.add h.size p) (w.setRow p.blk (arr.toList.take k ++ news' ++ arr.toList.drop (k + news'.length)).toArray) := by
  obtain ⟨p', e1, e2, e3, e4, e5⟩ := H.obj i o ha
  rw [hp] at e1; cases e1
  have hpro : p.ro = false := e2.trans hro
  obtain ⟨own1, own2⟩ := (H.pl i p hp).own hpro
  obtain ⟨arr2, l2, fr2, b1, b2, b3⟩ := (H.pl i p hp).block
  rw [hb] at b1; simp at b1; obtain ⟨rfl, rfl, rfl⟩ := b1
  have hlen : k + news'.length ≤ arr.size := by omega
  generalize hA : (arr.toList.take k ++ news' ++ arr.toList.drop (k + news'.length)).toArray = arr'
  have hsz : arr'.size = arr.size := by rw [← hA]; simp; omega
  have hset := setRow_heap w p.blk arr arr' p.el (0, 0) hb
  have hoth : ∀ b, b ≠ p.blk → (w.setRow p.blk arr').heap[b]? = w.heap[b]? := fun b hb => setRow_other w p.blk b arr' hb
  have hsize : (w.setRow p.blk arr').heap.size = w.heap.size := by simp [World.setRow]
  have hlow : ∀ x, x < k → arr'[x]? = arr[x]? := by
    intro x hx
    rw [← hA, ← toList_getElem?]
    simp only [List.append_assoc]
    rw [List.getElem?_append_left (by simp; omega), List.getElem?_take, if_pos hx]
    simp
  have hmid : ∀ x, x < news'.length → arr'[k + x]? = news'[x]? := by
    intro x hx
    rw [← hA, ← toList_getElem?]
    simp only [List.append_assoc]
    rw [List.getElem?_append_right (by simp; omega), List.getElem?_append_left (by simp; omega)]
    congr 1
    simp; omega
  have hpb : ∀ j q, ι.pl j = some q → q.Ok P w0 (w.setRow p.blk arr') := by
    intro j q hq
    by_cases hk : q.blk = p.blk
    · obtain ⟨a2, l2, f2, b1, b2, b3⟩ := (H.pl j q hq).block
      rw [hk, hb] at b1
      simp at b1; obtain ⟨b1a, b1b, b1c⟩ := b1
      refine ⟨⟨arr', l2, (0, 0), ?_, ?_, fun h => ⟨(b3 h).1, rfl⟩⟩, (H.pl j q hq).own, (H.pl j q hq).old, (H.pl j q hq).esz⟩
      · rw [hk, hset, b1b]
      · rw [hsz, b1a]; exact b2
    · exact (H.pl j q hq).keep (hoth _ hk)
  have hmp : ∀ j r, ι.mp j = some r → r ≠ p.blk := by
    intro j r hr he
    obtain ⟨_, es, cl, h2⟩ := H.mp j r hr
    rw [he, hb] at h2; simp at h2
  have hroq : ∀ j q, ι.pl j = some q → q.blk = p.blk → q.ro = false := by
    intro j q hq hbq
    cases hr : q.ro with
    | false => rfl
    | true => have := (H.pl j q hq).old hr; omega
  refine ⟨H.appWith ha k _ p _ (hpb i p hp) hpro e3 ?_ ?_ ?_ ?_ hpb ?_ ?_ hroq (fun j r hr => hoth r (hmp j r hr)), ι.le_add H.fresh,
    ⟨rfl, rfl, rfl, Nat.le_of_eq hsize.symm, fun b hb h1 _ => hoth b (fun e => h1 i p hp hpro e.symm)⟩, ?_, fun _ _ h => .inl h⟩
  · have := hn.length
    simp; omega
  · simp; omega
  · intro j v hv
    rw [cell_setRow_same w p.blk _ arr arr' p.el (0, 0) hb, own2, Nat.zero_add]
    by_cases hj : j < k
    · rw [List.getElem?_append_left (by simp; omega), List.getElem?_take, if_pos hj] at hv
      obtain ⟨v', g1, g2⟩ := e5 j v hv
      rw [own2, Nat.zero_add] at g1
      simp [World.cell?, hb] at g1
      exact ⟨v', by rw [hlow j hj]; exact g1, g2⟩
    · rw [List.getElem?_append_right (by simp; omega)] at hv
      have hlk : (List.take k o.cells).length = k := by simp; omega
      rw [hlk] at hv
      obtain ⟨v', g1, g2⟩ := hn.get _ _ hv
      have hx : j - k < news'.length := (List.getElem?_eq_some_iff.1 g1).1
      refine ⟨v', ?_, g2⟩
      have := hmid (j - k) hx
      rw [show k + (j - k) = j from by omega] at this
      rw [this]; exact g1
  · refine ⟨H.below.os, H.below.tape, H.below.output, by rw [hsize]; exact H.below.size, fun b hb => ?_⟩
    rw [hoth b (by omega)]; exact H.below.block b hb
  · intro j oj q hj hq hf x hx
    by_cases hbq : q.blk = p.blk
    · have hf' := hf (by
        have := H.fam i j o oj p q ha hj hp hq hbq.symm hpro
        exact ⟨this.1.symm, this.2.symm⟩)
      have hqro := hroq j q hq hbq
      obtain ⟨q', f1, f2, _, _, _⟩ := H.obj j oj hj
      rw [hq] at f1; cases f1
      have ht := H.tip j oj hj (f2.symm.trans hqro)
      have hfm := H.fam i j o oj p q ha hj hp hq hbq.symm hpro
      rw [← hfm.1, ← hfm.2] at ht
      have hq0 := ((H.pl j q hq).own hqro).2
      rw [hbq, hq0, Nat.zero_add, cell_setRow_same w p.blk x arr arr' p.el (0, 0) hb, hlow x (by omega)]
      simp [World.cell?, hb]
    · exact cell_setRow_other w p.blk arr' _ hbq
  · intro j oj q hj hq hbq hqro
    have := H.fam i j o oj p q ha hj hp hq hbq.symm hpro
    exact ⟨this.1.symm, this.2.symm⟩
  · intro j q hq
    simp only [Inj.add] at hq
    split at hq
    · simp at hq; subst hq; exact .inr (.inr ⟨i, p, hp, rfl, rfl⟩)
    · exact .inl hq
/-- Into a new block. -/
theorem HRel.appGrow (H : HRel P w0 ι h w) {i : Nat} {o : AObj} (ha : h.at? i = some o) (n : Nat) (hn : tSize P o.elem = some n) (k : Nat) (cs : List Value) (hk : k ≤ cs.length) (cap : Nat) (hc : cs.length ≤ cap)
    (arr : Array Value) (hcap : cap ≤ arr.size) (hr : ∀ (j : Nat) v, cs[j]? = some v → ∃ v', arr[j]? = some v' ∧ S1 ι v v') :
    HRel P w0 (ι.add h.size ⟨w.heap.size, 0, cap, n, false, o.elem⟩) (h.app o k cs) (w.alloc (.cells arr o.elem)) ∧ Nxt ι w (ι.add h.size ⟨w.heap.size, 0, cap, n, false, o.elem⟩) (w.alloc (.cells arr o.elem)) := by
  have hold : ∀ b, b < w.heap.size → (w.alloc (.cells arr o.elem)).heap[b]? = w.heap[b]? := fun b hb => Below.heap_alloc w _ b hb
  have hnew : (w.alloc (.cells arr o.elem)).heap[w.heap.size]? = some (.cells arr o.elem) := heap_alloc_new w _
  refine ⟨H.appWith ha k cs ⟨w.heap.size, 0, cap, n, false, o.elem⟩ _ ⟨⟨arr, _, (0, 0), hnew, by simpa using hcap, fun _ => ⟨rfl, rfl⟩⟩, fun _ => ⟨H.below.size, rfl⟩, fun h => by simp at h, hn⟩ rfl rfl hc hk ?_
    (H.below.alloc H.below.size _) (fun j q hq => (H.pl j q hq).keep (hold _ (H.blk_lt hq))) (fun j oj q _ hq _ x _ => cell?_keep (hold _ (H.blk_lt hq)))
    (fun j oj q _ hq hb _ => absurd (H.blk_lt hq) (by simp at hb; omega)) (fun j q hq hb => absurd (H.blk_lt hq) (by simp at hb; omega)) (fun j r hr => hold _ (H.mp_lt hr)), ι.le_add H.fresh,
    ⟨rfl, rfl, rfl, by simp, fun b hb _ _ => hold b hb⟩, ?_, fun _ _ h => .inl h⟩
  · intro j v hv
    obtain ⟨v', g1, g2⟩ := hr j v hv
    exact ⟨v', by rw [Nat.zero_add]; exact (World.cell?_alloc_new w arr o.elem j).trans g1, g2⟩
  · intro j q hq
    simp only [Inj.add] at hq
    split at hq
    · simp at hq; subst hq; exact .inr (.inl (Nat.le_refl _))
    · exact .inl hq
end
end Go.AH
