import Derived.Test.YtadmoackacickaaXOp
/- A region: guards, what an operation looks at, regions in listed order. -/
namespace Go.AH
open Go.RowKit Go.Lib
variable {P : Program} {w0 w : World} {ι : Inj} {h : AHeap}

theorem asB_inv {v : Value} {b : Bool} (h : asB v = some b) : v = .bool b := by
  unfold asB at h
  split at h
  · simp at h; subst h; rfl
  · simp at h
theorem asI_inv {k : IntKind} {v : Value} {n : Int} (h : asI k v = some n) : v = .int k n := by
  unfold asI at h
  split at h
  · split at h
    · rename_i hk; simp at h; subst h; subst hk; rfl
    · simp at h
  · simp at h
theorem asS_inv {v : Value} {s : ByteArray} (h : asS v = some s) : v = .string s := by
  unfold asS at h
  split at h
  · simp at h; subst h; rfl
  · simp at h
theorem nrm_inv {R : Type} {ty : TypeId} {v : Value} {k : Value → Option R} {r : R} (h : nrm P ty v k = some r) : k v = some r := by
  unfold nrm at h
  split at h
  · simp only [Option.bind_eq_some_iff] at h
    obtain ⟨b, hb, h⟩ := h
    rw [asB_inv hb]; exact h
  · simp only [Option.bind_eq_some_iff] at h
    obtain ⟨b, hb, h⟩ := h
    rw [asI_inv hb]; exact h
  · simp only [Option.bind_eq_some_iff] at h
    obtain ⟨b, hb, h⟩ := h
    rw [asS_inv hb]; exact h
  · exact h
theorem nrm_bind {R : Type} (ty : TypeId) (v : Value) (k : Value → Option R) : nrm P ty v k = (nrm P ty v some).bind k := by
  unfold nrm
  split <;> simp [Option.bind_assoc]

/-! ### guards -/
def gW (ops : Array Oper) (o : Oper) (t : Tm) : Option Bool :=
  match o.guard with
  | none => some true
  | some (j, want) =>
    match (ops[j]?).bind (·.dst) with
    | some d =>
      match t.getD d junk with
      | .bool b => some (b == want)
      | .tuple ⟨[]⟩ => some false
      | _ => none
    | none => none
/-- Two that tell the same. -/
structure Same (t t' : Tm) : Prop where
  n : t'.n = t.n
  at' : ∀ i, t'.getD i junk = t.getD i junk
theorem Same.refl (t : Tm) : Same t t := ⟨rfl, fun _ => rfl⟩
theorem set_Same {t : Tm} {d : Nat} {v : Value} (h : t.getD d junk = v) : Same t (t.set d v) := by
  refine ⟨set_n, fun i => ?_⟩
  by_cases hd : d = i
  · subst hd
    by_cases hl : d < t.n
    · rw [set_same hl, h]
    · rw [set_out hl]
  · rw [set_ne hd]
theorem TR.same {t t' : Tm} {tm : Array Value} (r : TR ι t tm) (s : Same t t') : TR ι t' tm := ⟨s.n.trans r.len, fun i => by rw [s.at']; exact r.slot i⟩
theorem evG_inv {R : Type} {ops : Array Oper} {o : Oper} {t : Tm} {run skip : Tm → Option R} {r : R} (h : evG ops o t run skip = some r) :
    (gW ops o t = some true ∧ ∃ t', Same t t' ∧ run t' = some r) ∨ (gW ops o t = some false ∧ ∃ t', Same t t' ∧ skip t' = some r) := by
  unfold evG at h
  unfold gW
  cases hg : o.guard with
  | none => rw [hg] at h; exact .inl ⟨rfl, t, Same.refl t, h⟩
  | some jw =>
    obtain ⟨j, want⟩ := jw
    rw [hg] at h
    simp only [] at h ⊢
    cases hd : (ops[j]?).bind (·.dst) with
    | none => rw [hd] at h; simp at h
    | some d =>
      rw [hd] at h
      simp only [] at h ⊢
      split at h
      · rename_i b hb
        have e := set_Same hb
        rw [hb]
        cases b <;> cases want <;> simp only [cond_true, cond_false] at h <;> first | exact .inl ⟨rfl, _, e, h⟩ | exact .inr ⟨rfl, _, e, h⟩
      · rename_i hb
        rw [hb]; exact .inr ⟨rfl, t, Same.refl t, h⟩
      · simp at h
theorem VR.bool_inv' {b : Bool} {v' : Value} (h : VR ι (.bool b) v') : v' = .bool b := by
  cases h with
  | s2 r => cases r with | s1 r => cases r with | s0 r => cases r; rfl
theorem VR.tup0_inv {v' : Value} (h : VR ι (.tuple ⟨[]⟩) v') : v' = .tuple #[] := by
  cases h with
  | tuple ha =>
    rename_i a'
    have : a'.toList = [] := by generalize a'.toList = l at ha; cases ha; rfl
    rw [show a' = #[] from Array.ext' this]
  | s2 r => cases r with | s1 r => cases r with | s0 r => cases r
theorem gW_sound {ops : Array Oper} {o : Oper} {t : Tm} {a : Act} {b : Bool} (h : gW ops o t = some b)
    (ht : ∀ g want d, o.guard = some (g, want) → (ops[g]?).bind (·.dst) = some d → VR ι (t.getD d junk) (a.tmps.getD d undef)) : Region.wanted o (yielded ops a.tmps) = b := by
  unfold gW at h
  unfold Region.wanted
  cases hg : o.guard with
  | none => rw [hg] at h; simp at h; subst h; rfl
  | some jw =>
    obtain ⟨j, want⟩ := jw
    rw [hg] at h
    simp only [] at h ⊢
    cases hd : (ops[j]?).bind (·.dst) with
    | none => rw [hd] at h; simp at h
    | some d =>
      rw [hd] at h
      have hv := ht j want d hg hd
      simp only [yielded, hd, Option.bind_some] at h ⊢
      split at h
      · rename_i b' hb
        rw [hb] at hv
        have := VR.bool_inv' hv
        rw [Array.getD_eq_getD_getElem?] at this
        cases hx : a.tmps[d]? with
        | none => rw [hx] at this; simp [undef] at this
        | some x =>
          rw [hx] at this; simp at this; subst this
          simp at h ⊢
          subst h; cases b' <;> cases want <;> rfl
      · rename_i hb
        rw [hb] at hv
        have := VR.tup0_inv hv
        rw [Array.getD_eq_getD_getElem?] at this
        cases hx : a.tmps[d]? with
        | none => simp at h ⊢; exact h
        | some x => rw [hx] at this; simp at this; subst this; simp at h ⊢; exact h
      · simp at h

/-! ### in listed order -/
theorem evOps_sound {C : ACall} (hC : CallOk P w0 C) {R : Type} {ops : Array Oper} {k : Tm → AHeap → Option R} {r : R} {Q : Exit → Act → World → Prop} {D : List Deferred} :
    ∀ (l : List Oper) {t : Tm} {h : AHeap} {w : World} {ι : Inj} {a : Act}, evOps P C ops l t h k = some r → TR ι t a.tmps → HRel P w0 ι h w → a.defers = D →
    (∀ t' h' a' w' ι', Nxt ι w ι' w' → HRel P w0 ι' h' w' → TR ι' t' a'.tmps → a'.defers = D → k t' h' = some r → Q .normal a' w') → wpList P ops Q l a w := by
  intro l
  induction l with
  | nil =>
    intro t h w ι a he ht H hd hk
    exact hk _ _ _ _ _ (Nxt.refl _ _) H ht hd he
  | cons o os ih =>
    intro t h w ι a he ht H hd hk
    simp only [evOps] at he
    unfold wpList
    rcases evG_inv he with ⟨hg, t', hs, he⟩ | ⟨hg, t', hs, he⟩
    · rw [gW_sound hg fun g want d _ _ => ht.getD d undef]
      simp only [if_true]
      left
      refine op_sound hC he (ht.same hs) H fun v h' v' w' ι' n H' hv he => ?_
      have he := nrm_inv he
      exact ih he (((ht.same hs).mono n.le).put o.dst hv) H' (by rw [Act.put_defers]; exact hd) fun t' h' a' w' ι' n' => hk t' h' a' w' ι' (n.trans n')
    · rw [gW_sound hg fun g want d _ _ => ht.getD d undef]
      simp only [Bool.false_eq_true, if_false]
      exact ih he ((ht.same hs).put o.dst (VR.undef _)) H (by rw [Act.put_defers]; exact hd) hk
end Go.AH
