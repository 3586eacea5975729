import Derived.Test.YtadmoackacickaaXAC
import Derived.LoopN
import Derived.WalkKit
import Derived.ProofKit
import Derived.OpenShut
import Derived.JoinedCond
import Derived.ChangeMaps5
import Derived.Test.YtadmoackacickaaXAA
import Derived.Test.YtadmoackacickaaRows
import Derived.Test.YtadmoackacickaaChecked
/- A region that draws its order: the walk. -/
set_option linter.unusedSimpArgs false
set_option linter.unusedVariables false
namespace Go.AH
open Go.RowKit Go.Lib
variable {P : Program} {w0 : W0} {w : World} {ι : Inj} {h : AHeap}
section
variable {L : Bool} {ops : Array Oper} {C : ACall} {R : Type} {D : List Deferred} {k : Tm → AHeap → Option R} {r : R}

/-- What is made ahead of its time, and waits. -/
structure LFact (P : Program) (ops : Array Oper) (fz : Nat → Option Fz) (Λ : List (Nat × Nat)) (t : Tm) (j : Nat) (o : Oper) : Prop where
  at' : ops[j]? = some o
  late : isLate o.op = true
  says : (gW ops o t = some true ∧ ∃ i f v, (j, i) ∈ Λ ∧ fz i = some f ∧ lateV P o.op t = some (f, v) ∧ ∀ d, o.dst = some d → d < t.n → t.getD d junk = lval v i) ∨
    (gW ops o t = some false ∧ (∀ i, (j, i) ∉ Λ) ∧ ∀ d, o.dst = some d → d < t.n → t.getD d junk = undef)
theorem LFact.put {fz fz' : Nat → Option Fz} {Λ Λ' : List (Nat × Nat)} {t : Tm} {j : Nat} {o : Oper} (f : LFact P ops fz Λ t j o) {dst : Option Tmp} {v : Value} (hd : ∀ d, dst = some d → d ∉ looks ops j ∧ dstOf ops j ≠ some d)
    (hz : ∀ i g, (j, i) ∈ Λ → fz i = some g → (j, i) ∈ Λ' ∧ fz' i = some g) (hz2 : ∀ i, (j, i) ∈ Λ' → (j, i) ∈ Λ) : LFact P ops fz' Λ' (put t dst v) j o := by
  have e : ∀ d ∈ looks ops j, (AH.put t dst v).getD d junk = t.getD d junk := fun d hl => put_getD fun e => (hd d e).1 hl
  have e2 : ∀ d, o.dst = some d → (AH.put t dst v).getD d junk = t.getD d junk := fun d ho => put_getD fun e => (hd d e).2 (by simp [dstOf, f.at', ho])
  refine ⟨f.at', f.late, ?_⟩
  rw [gW_congr f.at' e, lateV_congr (evX_congr f.at' e)]
  refine f.says.imp (fun ⟨h1, i, g, v, h2, h3, h4, h5⟩ => ⟨h1, i, g, v, (hz i g h2 h3).1, (hz i g h2 h3).2, h4, fun d h6 h7 => ?_⟩) fun ⟨h1, h2, h3⟩ => ⟨h1, fun i hi => h2 i (hz2 i hi), fun d h4 h5 => ?_⟩
  · rw [e2 d h6]; exact h5 d h6 (by rwa [put_len] at h7)
  · rw [e2 d h4]; exact h3 d h4 (by rwa [put_len] at h5)
theorem LFact.same {fz : Nat → Option Fz} {Λ : List (Nat × Nat)} {t t' : Tm} (hs : Same t t') {j : Nat} {o : Oper} (f : LFact P ops fz Λ t j o) : LFact P ops fz Λ t' j o := by
  have e : ∀ d ∈ looks ops j, t'.getD d junk = t.getD d junk := fun d _ => hs.at' d
  refine ⟨f.at', f.late, ?_⟩
  rw [gW_congr f.at' e, lateV_congr (evX_congr f.at' e)]
  refine f.says.imp (fun ⟨h1, i, g, v, h2, h3, h4, h5⟩ => ⟨h1, i, g, v, h2, h3, h4, fun d h6 h7 => ?_⟩) fun ⟨h1, h2, h3⟩ => ⟨h1, h2, fun d h4 h5 => ?_⟩
  · rw [hs.at']; exact h5 d h6 (by rwa [hs.n] at h7)
  · rw [hs.at']; exact h3 d h4 (by rwa [hs.n] at h5)
def Facts (P : Program) (C : ACall) (ops : Array Oper) (fz : Nat → Option Fz) (Λ : List (Nat × Nat)) (rs : List Nat) (t : Tm) (h : AHeap) (j : Nat) : Prop :=
  ∃ o, (Fact P C ops t h j o ∧ (isRd o.op = true → j ∈ rs ∨ gW ops o t = some false)) ∨ LFact P ops fz Λ t j o
/-- What waits is made once. -/
structure Lam (w0 : W0) (ops : Array Oper) (fz : Nat → Option Fz) (X : List Nat) (listed : Array Bool) (Λ : List (Nat × Nat)) : Prop where
  mem : ∀ x ∈ Λ, x.1 ∈ X ∧ Unl listed x.1 ∧ w0.fz x.2 = none ∧ ∃ f, fz x.2 = some f
  late : ∀ x ∈ Λ, ∃ o, ops[x.1]? = some o ∧ isLate o.op = true
  pw : Λ.Pairwise fun a b => a.1 ≠ b.1 ∧ a.2 ≠ b.2
  fz1 : ∀ i f, w0.fz i = some f → fz i = some f
  fz2 : ∀ i f, fz i = some f → w0.fz i = some f ∨ ∃ j, (j, i) ∈ Λ
structure Inv (P : Program) (w0 : W0) (C : ACall) (L : Bool) (ops : Array Oper) (D : List Deferred) (k : Tm → AHeap → Option R) (r : R)
    (ι : Inj) (fz : Nat → Option Fz) (Λ : List (Nat × Nat)) (X ρ rs : List Nat) (listed : Array Bool) (t : Tm) (h : AHeap) (a : Act) (w : World) : Prop where
  ok : DrawOk L ops (X ++ ρ)
  size : listed.size = ops.size
  closed : ∀ j o, ops[j]? = some o → listed.getD j false = true → ∀ e ∈ o.after, Region.binds .any e = true → listed.getD e.on false = true
  un : ∀ j ∈ ρ, Unl listed j
  effs : ∀ j ∈ X, eff L ops j = true → listed.getD j false = true
  run : evDraw P C L ops (pres ops) ρ rs t h k = some r
  H : HRel P ⟨w0.w, fz⟩ ι h w
  tr : TRm L ops X listed ι t a
  facts : ∀ j ∈ X, Unl listed j → Facts P C ops fz Λ rs t h j
  lam : Lam w0 ops fz X listed Λ
  defers : a.defers = D

variable {X ρ rs : List Nat} {listed : Array Bool} {t : Tm} {a : Act} {fz : Nat → Option Fz} {Λ : List (Nat × Nat)}

theorem Inv.same {X ρ rs : List Nat} {listed : Array Bool} {t t' : Tm} {a : Act} (I : Inv P w0 C L ops D k r ι fz Λ X ρ rs listed t h a w) (hs : Same t t') :
    TRm L ops X listed ι t' a ∧ (∀ j ∈ X, Unl listed j → Facts P C ops fz Λ rs t' h j) :=
  ⟨I.tr.same hs, fun j hj hu => let ⟨o, f⟩ := I.facts j hj hu; ⟨o, f.imp (fun ⟨f, hr⟩ => ⟨f.same hs, fun h => (hr h).imp id fun e => by rw [gW_congr f.at' fun d _ => hs.at' d]; exact e⟩) fun f => f.same hs⟩⟩
theorem op_of_eff {j : Nat} {o : Oper} (ho : ops[j]? = some o) : eff L ops j = effL L o.op := by simp [eff, ho]
theorem set_fz (w0 : W0) (fz : Nat → Option Fz) (i : Nat) (f : Option Fz) : (W0.set ⟨w0.w, fz⟩ i f) = ⟨w0.w, fun j => if j = i then f else fz j⟩ := rfl

theorem Inv.advance {j : Nat} (I : Inv P w0 C L ops D k r ι fz Λ X (j :: ρ) rs listed t h a w) (hj : eff L ops j = false) :
    ∃ rs' t' h' fz' Λ', Inv P w0 C L ops D k r ι fz' Λ' (X ++ [j]) ρ rs' listed t' h' a w := by
  have K := I.ok
  have hlt : j < ops.size := K.lt j (by simp)
  have ho : ops[j]? = some ops[j] := Array.getElem?_eq_getElem hlt
  generalize hoe : ops[j] = o at ho
  have hie : effL L o.op = false := by rw [← op_of_eff ho]; exact hj
  have hnot : ∀ d, o.dst = some d → d ∉ looks ops j := fun d hd hl => by
    have := K.ssa j (by simp) hj d (by simp [dstOf, ho, hd]) j (by simp) hl
    exact absurd (pre_lt K j this) (Nat.lt_irrefl _)
  have hpair := fun i (hi : i ∈ X) => drawRow_pair K.row i hi
  have hp : ∀ i ∈ X, ∀ d, o.dst = some d → d ∉ looks ops i ∧ dstOf ops i ≠ some d := fun i hi d hd => ⟨fun hl => by have := ((hpair i hi).1 d (by simp [dstOf, ho, hd])).1 hl; rw [hj] at this; exact absurd this.1 (by simp), ((hpair i hi).1 d (by simp [dstOf, ho, hd])).2⟩
  have step : ∀ (v : Value) (t : Tm) (h' : AHeap) (fz' : Nat → Option Fz) (Λ' : List (Nat × Nat)) (rs' : List Nat), TRm L ops X listed ι t a → HRel P ⟨w0.w, fz'⟩ ι h' w → Lam w0 ops fz' (X ++ [j]) listed Λ' →
      (∀ i ∈ X, Unl listed i → Facts P C ops fz' Λ' rs' (put t o.dst v) h' i) → Facts P C ops fz' Λ' rs' (put t o.dst v) h' j → evDraw P C L ops (pres ops) ρ rs' (put t o.dst v) h' k = some r →
      ∃ rs' t' h' fz' Λ', Inv P w0 C L ops D k r ι fz' Λ' (X ++ [j]) ρ rs' listed t' h' a w := by
    intro v t h' fz' Λ' rs' htr H' hl' hfacts hf hrun
    refine ⟨rs', put t o.dst v, h', fz', Λ', ⟨by simpa using K, I.size, I.closed, fun i hi => I.un i (List.mem_cons_of_mem _ hi), fun i hi he => ?_, hrun, H', ⟨by rw [put_len]; exact htr.len, fun s => ?_⟩, fun i hi hu => ?_, hl', I.defers⟩⟩
    · rcases List.mem_append.1 hi with hi | hi
      · exact I.effs i hi he
      · simp at hi; subst hi; rw [hj] at he; cases he
    · by_cases hs : o.dst = some s
      · exact .inl ⟨j, by simp, I.un j (List.mem_cons_self ..), hj, by simp [dstOf, ho, hs]⟩
      · rw [put_getD hs]
        exact (htr.slot s).imp (fun ⟨i, hi, x⟩ => ⟨i, List.mem_append_left _ hi, x⟩) id
    · rcases List.mem_append.1 hi with hi | hi
      · exact hfacts i hi hu
      · simp at hi; subst hi; exact hf
  have e : ∀ (t : Tm) (v : Value), ∀ d ∈ looks ops j, (put t o.dst v).getD d junk = t.getD d junk := fun t v d hl => put_getD fun e => hnot d e hl
  have lam0 : Lam w0 ops fz (X ++ [j]) listed Λ := ⟨fun x hx => let ⟨h1, h2⟩ := I.lam.mem x hx; ⟨List.mem_append_left _ h1, h2⟩, I.lam.late, I.lam.pw, I.lam.fz1, I.lam.fz2⟩
  -- the others, where the heap stays
  have oth : ∀ (t : Tm) (v : Value) (rs' : List Nat), (∀ i ∈ rs, i ∈ rs') → (∀ i ∈ X, Unl listed i → Facts P C ops fz Λ rs t h i) → ∀ i ∈ X, Unl listed i → Facts P C ops fz Λ rs' (put t o.dst v) h i := by
    intro t v rs' hrs hfacts i hi hu
    obtain ⟨o', hf⟩ := hfacts i hi hu
    refine ⟨o', hf.imp (fun ⟨hf, hr⟩ => ⟨hf.put (hp i hi), fun h => (hr h).imp (hrs i) fun hg => ?_⟩) fun hf => hf.put (hp i hi) (fun _ _ a b => ⟨a, b⟩) fun _ a => a⟩
    rw [gW_congr hf.at' fun d hl => put_getD fun e => (hp i hi d e).1 hl]; exact hg
  have hrun := I.run
  simp only [evDraw, ho, hie, cond_false] at hrun
  cases hee : isEff o.op with
  | false =>
    rcases evG_inv hrun with ⟨hg, t', hs, he⟩ | ⟨hg, t', hs, he⟩
    · rw [evOp_bind hee, Option.bind_eq_some_iff] at he
      obtain ⟨v, hv, he⟩ := he
      have he := nrm_inv he
      refine step v t' h fz Λ _ (I.same hs).1 I.H lam0 (oth t' v _ (fun i hi => ?_) (I.same hs).2) ⟨o, .inl ⟨⟨ho, hee, .inl ⟨by rw [gW_congr ho (e t' v), gW_congr ho fun d _ => hs.at' d]; exact hg, v, by rw [evOp_congr (evX_congr ho (e t' v))]; exact hv, fun d hd hl => by rw [hd, put_len] at *; exact put_same hl⟩⟩, fun hr => .inl ?_⟩⟩ he
      · split
        · exact List.mem_append_left _ hi
        · exact hi
      · rw [if_pos hr]; simp
    · have hg' : gW ops o (put t' o.dst undef) = some false := by rw [gW_congr ho (e t' _), gW_congr ho fun d _ => hs.at' d]; exact hg
      exact step undef t' h fz Λ _ (I.same hs).1 I.H lam0 (oth t' undef _ (fun i hi => hi) (I.same hs).2) ⟨o, .inl ⟨⟨ho, hee, .inr ⟨hg', fun d hd hl => by rw [hd, put_len] at *; exact put_same hl⟩⟩, fun _ => .inr hg'⟩⟩ he
  | true =>
    have hla : isLate o.op = true := by
      unfold effL at hie
      rw [hee] at hie
      cases L <;> simp at hie; exact hie
    rcases evG_inv hrun with ⟨hg, t', hs, he⟩ | ⟨hg, t', hs, he⟩
    · obtain ⟨f, v, hv, he⟩ := late_ev hla he
      have he := nrm_inv he
      have H' := I.H.freeze f
      rw [set_fz] at H'
      have hold : ∀ i g, fz i = some g → i ≠ h.size := fun i g hi => by have := (I.H.fz i g hi).1; omega
      have hfn : fz h.size = none := by
        cases e : fz h.size with
        | none => rfl
        | some g => exact absurd rfl (hold _ g e)
      refine step (lval v h.size) t' (hAdd h f) _ ((j, h.size) :: Λ) _ (I.same hs).1 H' ?_ (fun i hi hu => ?_) ⟨o, .inr ⟨ho, hla, .inl ⟨by rw [gW_congr ho (e t' _), gW_congr ho fun d _ => hs.at' d]; exact hg, h.size, f, v, List.mem_cons_self .., if_pos rfl,
        by rw [lateV_congr (evX_congr ho (e t' _))]; exact hv, fun d hd hl => by rw [hd, put_len] at *; exact put_same hl⟩⟩⟩ he
      · refine ⟨fun x hx => ?_, fun x hx => ?_, List.pairwise_cons.2 ⟨fun x hx => ?_, I.lam.pw⟩, fun i g hi => ?_, fun i g hi => ?_⟩
        · rcases List.mem_cons.1 hx with rfl | hx
          · refine ⟨by simp, I.un j (List.mem_cons_self ..), ?_, f, if_pos rfl⟩
            cases e : w0.fz h.size with
            | none => rfl
            | some g => exact absurd rfl (hold _ g (I.lam.fz1 _ g e))
          · obtain ⟨h1, h2, h3, g, h4⟩ := lam0.mem x hx
            exact ⟨h1, h2, h3, g, by show (if x.2 = h.size then _ else _) = _; rw [if_neg (hold _ g h4)]; exact h4⟩
        · rcases List.mem_cons.1 hx with rfl | hx
          · exact ⟨o, ho, hla⟩
          · exact I.lam.late x hx
        · obtain ⟨h1, h2, h3, g, h4⟩ := I.lam.mem x hx
          exact ⟨fun e => by have := (hpair x.1 h1).2.2; exact this e.symm, (hold _ g h4).symm⟩
        · have := I.lam.fz1 i g hi
          show (if i = h.size then _ else _) = _
          rw [if_neg (hold _ g this)]; exact this
        · by_cases hi2 : i = h.size
          · exact .inr ⟨j, by rw [hi2]; exact List.mem_cons_self ..⟩
          · have hi' : (if i = h.size then some f else fz i) = some g := hi
            rw [if_neg hi2] at hi'
            exact (I.lam.fz2 i g hi').imp id fun ⟨q, hq⟩ => ⟨q, List.mem_cons_of_mem _ hq⟩
      · obtain ⟨o', hf⟩ := (I.same hs).2 i hi hu
        refine ⟨o', hf.imp (fun ⟨hf, hr⟩ => ?_) fun hf => hf.put (hp i hi) (fun x g a b => ⟨List.mem_cons_of_mem _ a, by show (if x = h.size then _ else _) = _; rw [if_neg (hold _ g b)]; exact b⟩) fun x hx => (List.mem_cons.1 hx).elim (fun e => absurd (congrArg Prod.fst e) (hpair i hi).2.2) id⟩
        have hf' := hf.put (v := lval v h.size) (hp i hi)
        have eg : gW ops o' (put t' o.dst (lval v h.size)) = gW ops o' t' := gW_congr hf.at' fun d hl => put_getD fun e => (hp i hi d e).1 hl
        refine ⟨?_, fun h => (hr h).imp (fun hx => by split; exact List.mem_append_left _ hx; exact hx) fun hg => by rw [eg]; exact hg⟩
        cases hrd : isRd o'.op with
        | false => exact hf'.heap hrd _
        | true => exact ⟨hf'.at', hf'.still, hf'.says.imp (fun ⟨h1, u, h2, h3⟩ => ⟨h1, u, evOp_hAdd I.H hrd h2, h3⟩) id⟩
    · have hg' : gW ops o (put t' o.dst undef) = some false := by rw [gW_congr ho (e t' _), gW_congr ho fun d _ => hs.at' d]; exact hg
      exact step undef t' h fz Λ _ (I.same hs).1 I.H lam0 (oth t' undef _ (fun i hi => hi) (I.same hs).2) ⟨o, .inr ⟨ho, hla, .inr ⟨hg', fun i hi => by have := (hpair j (I.lam.mem _ hi).1).2.2; exact this rfl, fun d hd hl => by rw [hd, put_len] at *; exact put_same hl⟩⟩⟩ he

theorem Inv.advAll : ∀ (ρ : List Nat) {X rs : List Nat} {t : Tm} {h : AHeap} {fz : Nat → Option Fz} {Λ : List (Nat × Nat)}, Inv P w0 C L ops D k r ι fz Λ X ρ rs listed t h a w →
    ∃ X' ρ' rs' t' h' fz' Λ', Inv P w0 C L ops D k r ι fz' Λ' X' ρ' rs' listed t' h' a w ∧ ∀ j js, ρ' = j :: js → eff L ops j = true := by
  intro ρ
  induction ρ with
  | nil => intro X rs t h fz Λ I; exact ⟨X, [], rs, t, h, fz, Λ, I, by simp⟩
  | cons j js ih =>
    intro X rs t h fz Λ I
    cases hj : eff L ops j with
    | true => exact ⟨X, _, rs, t, h, fz, Λ, I, fun j' js' e => by cases e; exact hj⟩
    | false =>
      obtain ⟨rs', t', h', fz', Λ', I'⟩ := I.advance hj
      exact ih I'

/-- Whatever is listed closes what comes ahead of it. -/
theorem Inv.pre (I : Inv P w0 C L ops D k r ι fz Λ X ρ rs listed t h a w) : ∀ (j : Nat) {i : Nat},
    (∀ o, ops[j]? = some o → ∀ e ∈ o.after, Region.binds .any e = true → listed.getD e.on false = true) → ((pres ops).getD j 0).testBit i = true → listed.getD i false = true := by
  intro j
  induction j using Nat.strongRecOn with
  | _ j ih =>
    intro i hl hb
    obtain ⟨o, ho, e, he, hbi, hh⟩ := pres_spec hb
    have hon := hl o ho e he hbi
    rcases hh with hh | hh
    · exact hh ▸ hon
    · exact ih e.on (I.ok.top j o ho e he hbi) (fun o' ho' => I.closed e.on o' ho' hon) hh

theorem TRm.gW_sound {j : Nat} {o : Oper} (T : TRm L ops X listed ι t a) (ho : ops[j]? = some o) (hno : ∀ d ∈ looks ops j, ¬ Waits L ops X listed d) {b : Bool} (h : gW ops o t = some b) :
    Region.wanted o (yielded ops a.tmps) = b :=
  AH.gW_sound h fun g want d hg hd => (T.slot d).resolve_left (hno d (mem_looks_guard ho hg hd))

theorem set_unl {listed : Array Bool} {i j : Nat} (h : Unl (listed.setIfInBounds j true) i) : Unl listed i := by
  unfold Unl at *
  by_cases hij : j = i
  · subst hij
    by_cases hl : j < listed.size
    · simp [hl] at h
    · simp [Array.getElem?_eq_none (Nat.le_of_not_lt hl)]
  · rwa [Array.getD_eq_getD_getElem?, Array.getElem?_setIfInBounds_ne hij, ← Array.getD_eq_getD_getElem?] at h
theorem set_unl_ne {listed : Array Bool} {i j : Nat} (hl : j < listed.size) (h : Unl (listed.setIfInBounds j true) i) : i ≠ j := by
  rintro rfl; simp [Unl, hl] at h
theorem Inv.closed_set (I : Inv P w0 C L ops D k r ι fz Λ X ρ rs listed t h a w) {j : Nat} (hl : ∀ o, ops[j]? = some o → ∀ e ∈ o.after, Region.binds .any e = true → listed.getD e.on false = true) :
    ∀ i o, ops[i]? = some o → (listed.setIfInBounds j true).getD i false = true → ∀ e ∈ o.after, Region.binds .any e = true → (listed.setIfInBounds j true).getD e.on false = true := by
  intro i o ho hi e he hb
  refine getD_set_true ?_
  by_cases hij : j = i
  · subst hij; exact hl o ho e he hb
  · exact I.closed i o ho (by rwa [getD_set_ne false hij] at hi) e he hb
/-- What the small evaluator has done is done. -/
theorem pw_ne : ∀ {Λ : List (Nat × Nat)}, (Λ.Pairwise fun a b => a.1 ≠ b.1 ∧ a.2 ≠ b.2) → ∀ x ∈ Λ, ∀ y ∈ Λ, x = y ∨ (x.1 ≠ y.1 ∧ x.2 ≠ y.2)
  | [], _, x, hx, _, _ => by simp at hx
  | z :: Λ, h, x, hx, y, hy => by
    obtain ⟨h1, h2⟩ := List.pairwise_cons.1 h
    rcases List.mem_cons.1 hx with ex | hx' <;> rcases List.mem_cons.1 hy with ey | hy'
    · exact .inl (ex.trans ey.symm)
    · subst ex; exact .inr (h1 y hy')
    · subst ey; exact .inr ⟨(h1 x hx').1.symm, (h1 x hx').2.symm⟩
    · exact pw_ne h2 x hx' y hy'
theorem Inv.catch (hC : CallOk P w0 C) {Q : Exit → Act → World → Prop} (I : Inv P w0 C L ops D k r ι fz Λ X ρ rs listed t h a w) {j : Nat} (hj : j ∈ X) (hu : Unl listed j)
    (hl : ∀ o, ops[j]? = some o → ∀ e ∈ o.after, Region.binds .any e = true → listed.getD e.on false = true) :
    wpOp P ops Q j (fun a' w' => ∃ ι' fz' Λ', Nxt ι w ι' w' ∧ Inv P w0 C L ops D k r ι' fz' Λ' X ρ rs (listed.setIfInBounds j true) t h a' w') a w := by
  have K := I.ok
  obtain ⟨o, hfo⟩ := I.facts j hj hu
  have ho : ops[j]? = some o := hfo.elim (fun f => f.1.at') fun f => f.at'
  have hjs : j < listed.size := by rw [I.size]; exact (Array.getElem?_eq_some_iff.1 ho).1
  have hno : ∀ d ∈ looks ops j, ¬ Waits L ops X listed d := fun d hd ⟨i, hi, hui, hei, hdi⟩ => by
    have := I.pre j hl (K.ssa i (by simp [hi]) hei d hdi j (by simp [hj]) hd)
    rw [hui] at this; cases this
  have fin : ∀ (v v' : Value) (w' : World) (ι' : Inj) (fz' : Nat → Option Fz) (Λ' : List (Nat × Nat)), (∀ d, o.dst = some d → d < t.n → t.getD d junk = v) → Nxt ι w ι' w' → HRel P ⟨w0.w, fz'⟩ ι' h w' → VR ι' v v' →
      (∀ x ∈ Λ', x ∈ Λ ∧ x.1 ≠ j ∧ fz' x.2 = fz x.2) → (∀ x ∈ Λ, x.1 ≠ j → x ∈ Λ') → Λ'.Pairwise (fun a b => a.1 ≠ b.1 ∧ a.2 ≠ b.2) → (∀ i f, w0.fz i = some f → fz' i = some f) → (∀ i f, fz' i = some f → w0.fz i = some f ∨ ∃ j, (j, i) ∈ Λ') →
      ∃ ι' fz' Λ', Nxt ι w ι' w' ∧ Inv P w0 C L ops D k r ι' fz' Λ' X ρ rs (listed.setIfInBounds j true) t h (a.put o.dst v') w' := by
    intro v v' w' ι' fz' Λ' hd n H' hv hL1 hL2 hL3 hL4 hL5
    refine ⟨ι', fz', Λ', n, ⟨K, by simpa using I.size, I.closed_set hl, fun i hi => ?_, fun i hi he => ?_, I.run, H', ⟨by rw [aput_size]; exact I.tr.len, fun s => ?_⟩, fun i hi hui => ?_, ⟨fun x hx => ?_, fun x hx => I.lam.late x (hL1 x hx).1, hL3, hL4, hL5⟩, by rw [Act.put_defers]; exact I.defers⟩⟩
    · have hne : j ≠ i := by
        rintro rfl
        obtain ⟨X1, X2, rfl⟩ := List.append_of_mem hi
        exact (drawRow_pair (X := X ++ X1) (r := X2) (by simpa using K.row) j (by simp [hj])).2.2 rfl
      show _ = _
      rw [getD_set_ne false hne]; exact I.un i hi
    · exact getD_set_true (I.effs i hi he)
    · by_cases hs : o.dst = some s
      · by_cases hlt : s < t.n
        · right
          rw [hd s hs hlt, hs, aput_same (by rw [← I.tr.len]; exact hlt)]; exact hv
        · right
          rw [getD_out hlt]; exact .junk _
      · rw [aput_ne hs]
        refine (I.tr.slot s).imp (fun ⟨i, hi, hui, hei, hdi⟩ => ⟨i, hi, ?_, hei, hdi⟩) fun hv => hv.mono n.le
        have hne : j ≠ i := by
          rintro rfl
          simp [dstOf, ho] at hdi
          exact hs hdi
        show _ = _
        rw [getD_set_ne false hne]; exact hui
    · have hij := set_unl_ne hjs hui
      obtain ⟨o', hf⟩ := I.facts i hi (set_unl hui)
      refine ⟨o', hf.imp id fun hf => ⟨hf.at', hf.late, hf.says.imp (fun ⟨h1, x, g, u, h2, h3, h4⟩ => ?_) fun ⟨h1, h2, h3⟩ => ⟨h1, fun x hx => h2 x (hL1 _ hx).1, h3⟩⟩⟩
      have hm := hL2 _ h2 hij
      exact ⟨h1, x, g, u, hm, by rw [(hL1 _ hm).2.2]; exact h3, h4⟩
    · obtain ⟨h1, h2, h3⟩ := hL1 x hx
      obtain ⟨g1, g2, g3, f, g4⟩ := I.lam.mem x h1
      exact ⟨g1, by show _ = _; rw [getD_set_ne false (Ne.symm h2)]; exact g2, g3, f, by rw [h3]; exact g4⟩
  have stay : (∀ i, (j, i) ∉ Λ) → ∀ (v v' : Value) (w' : World) (ι' : Inj), (∀ d, o.dst = some d → d < t.n → t.getD d junk = v) → Nxt ι w ι' w' → HRel P ⟨w0.w, fz⟩ ι' h w' → VR ι' v v' →
      ∃ ι' fz' Λ', Nxt ι w ι' w' ∧ Inv P w0 C L ops D k r ι' fz' Λ' X ρ rs (listed.setIfInBounds j true) t h (a.put o.dst v') w' :=
    fun hΛ v v' w' ι' hd n H' hv => fin v v' w' ι' fz Λ hd n H' hv (fun x hx => ⟨hx, fun e => hΛ x.2 (by rw [← e]; exact hx), rfl⟩) (fun x hx _ => hx) I.lam.pw I.lam.fz1 I.lam.fz2
  unfold wpOp
  simp only [ho]
  rcases hfo with ⟨f, hrd⟩ | f
  · have hΛ : ∀ i, (j, i) ∉ Λ := fun i hi => by
      obtain ⟨o', h1, h2⟩ := I.lam.late _ hi
      rw [ho] at h1; cases h1
      have h3 := f.still
      cases hop : o.op <;> rw [hop] at h2 h3 <;> simp [isLate] at h2 <;> simp [isEff] at h3
    rcases f.says with ⟨hg, v, hv, hd⟩ | ⟨hg, hd⟩
    · rw [I.tr.gW_sound ho hno hg]
      simp only [if_true]
      left
      have hv2 : evOp P C o (veil L ops X listed t) h (fun v h' => some (v, h')) = some (v, h) := by
        rw [evOp_congr (evX_congr ho fun d hl => veil_getD (hno d hl)), evOp_bind f.still, hv]; rfl
      refine op_sound (w0 := ⟨w0.w, fz⟩) (hC.at fz) hv2 I.tr.veil I.H fun v2 h2 v' w' ι' n H' hv' he => ?_
      simp at he
      obtain ⟨rfl, rfl⟩ := he
      exact stay hΛ _ _ _ _ hd n H' hv'
    · rw [I.tr.gW_sound ho hno hg]
      simp only [Bool.false_eq_true, if_false]
      exact stay hΛ _ _ _ _ hd (Nxt.refl _ _) I.H (VR.undef _)
  · rcases f.says with ⟨hg, i, g, v, hm, hfz, hv, hd⟩ | ⟨hg, hΛ, hd⟩
    · rw [I.tr.gW_sound ho hno hg]
      simp only [if_true]
      left
      have hv2 : lateV P o.op (veil L ops X listed t) = some (g, v) := by
        rw [lateV_congr (evX_congr ho fun d hl => veil_getD (hno d hl))]; exact hv
      refine late_step (w0 := ⟨w0.w, fz⟩) hv2 I.tr.veil I.H hfz fun v' w' ι' n H' hv' => ?_
      rw [set_fz] at H'
      have hi0 := (I.lam.mem _ hm).2.2.1
      have hne : ∀ x ∈ Λ, x.1 ≠ j → x.2 ≠ i := fun x hx hxj => by
        rcases pw_ne I.lam.pw x hx _ hm with e | ⟨_, e⟩
        · exact absurd (congrArg Prod.fst e) hxj
        · exact e
      refine fin _ _ _ _ _ (Λ.filter fun x => x.1 != j) hd n H' hv' (fun x hx => ?_) (fun x hx hxj => List.mem_filter.2 ⟨hx, by simpa using hxj⟩) (I.lam.pw.filter _) (fun x f' hx => ?_) fun x f' hx => ?_
      · obtain ⟨h1, h2⟩ := List.mem_filter.1 hx
        have h2 : x.1 ≠ j := by simpa using h2
        exact ⟨h1, h2, if_neg (hne x h1 h2)⟩
      · show (if x = i then none else fz x) = _
        rw [if_neg (fun e => by rw [e, hi0] at hx; cases hx)]; exact I.lam.fz1 x f' hx
      · have hx' : (if x = i then none else fz x) = some f' := hx
        split at hx'
        · cases hx'
        · rename_i hxi
          refine (I.lam.fz2 x f' hx').imp id fun ⟨q, hq⟩ => ⟨q, List.mem_filter.2 ⟨hq, ?_⟩⟩
          by_cases hqj : q = j
          · subst hqj
            rcases pw_ne I.lam.pw _ hq _ hm with e | ⟨e, _⟩
            · exact absurd (congrArg Prod.snd e) hxi
            · exact absurd rfl e
          · simpa using hqj
    · rw [I.tr.gW_sound ho hno hg]
      simp only [Bool.false_eq_true, if_false]
      exact stay hΛ _ _ _ _ hd (Nxt.refl _ _) I.H (VR.undef _)

theorem again_inv {t : Tm} {h : AHeap} {x : Option R} : ∀ {js : List Nat}, again P C ops t h x js = some r → x = some r ∧ ∀ j ∈ js, reOk P C ops t h j = some true
  | [], he => ⟨he, by simp⟩
  | j :: js, he => by
    simp only [again, Option.bind_eq_some_iff] at he
    obtain ⟨b, hb, he⟩ := he
    cases b with
    | false => simp at he
    | true =>
      obtain ⟨h1, h2⟩ := again_inv he
      exact ⟨h1, fun i hi => (List.mem_cons.1 hi).elim (fun e => e ▸ hb) (h2 i)⟩
theorem vbeq1_eq {x y : Value} (h : vbeq1 x y = true) : x = y := by
  unfold vbeq1 at h
  split at h
  case h_3 a b =>
    obtain ⟨a⟩ := a
    obtain ⟨b⟩ := b
    simp [BEq.beq, ByteArray.beq] at h
    rw [Array.eq_of_isEqv _ _ h]
  all_goals simp_all
theorem vbeqL_eq : ∀ {l m : List Value}, vbeqL l m = true → l = m
  | [], [], _ => rfl
  | x :: l, y :: m, h => by
    simp only [vbeqL, Bool.and_eq_true] at h
    rw [vbeq1_eq h.1, vbeqL_eq h.2]
  | [], _ :: _, h => by simp [vbeqL] at h
  | _ :: _, [], h => by simp [vbeqL] at h
theorem vbeq_eq {x y : Value} (h : vbeq x y = true) : x = y := by
  unfold vbeq at h
  split at h
  · rw [Array.ext' (vbeqL_eq h)]
  · exact vbeq1_eq h
theorem reOk_fact {t : Tm} {h : AHeap} {j : Nat} {o : Oper} (ho : ops[j]? = some o) (hs : isEff o.op = false) (hg : gW ops o t = some true) (he : reOk P C ops t h j = some true) :
    ∃ v, evOp P C o t h (fun v _ => some v) = some v ∧ ∀ d, o.dst = some d → d < t.n → t.getD d junk = v := by
  simp only [reOk, ho] at he
  rcases evG_inv he with ⟨_, t', hsm, he⟩ | ⟨hg', _⟩
  · rw [evOp_bind hs, Option.bind_eq_some_iff] at he
    obtain ⟨v, hv, he⟩ := he
    have he := nrm_inv he
    refine ⟨v, by rw [evOp_congr (evX_congr ho fun d _ => (hsm.at' d).symm)]; exact hv, fun d hd _ => ?_⟩
    simp only [Option.some.injEq] at he
    rw [hd] at he
    rw [← hsm.at']
    exact (vbeq_eq he).symm
  · rw [hg] at hg'; cases hg'

/-- The next effect. -/
theorem Inv.effect (hC : CallOk P w0 C) {Q : Exit → Act → World → Prop} {j : Nat} (I : Inv P w0 C L ops D k r ι fz Λ X (j :: ρ) rs listed t h a w) (hj : eff L ops j = true)
    (hl : ∀ o, ops[j]? = some o → ∀ e ∈ o.after, Region.binds .any e = true → listed.getD e.on false = true) :
    wpOp P ops Q j (fun a' w' => ∃ ι' rs' t' h', Nxt ι w ι' w' ∧ Inv P w0 C L ops D k r ι' fz Λ (X ++ [j]) ρ rs' (listed.setIfInBounds j true) t' h' a' w') a w := by
  have K := I.ok
  have hlt : j < ops.size := K.lt j (by simp)
  have ho : ops[j]? = some ops[j] := Array.getElem?_eq_getElem hlt
  generalize hoe : ops[j] = o at ho
  have hie : effL L o.op = true := by rw [← op_of_eff ho]; exact hj
  have hjs : j < listed.size := by rw [I.size]; exact hlt
  have hpair := fun i (hi : i ∈ X) => drawRow_pair K.row i hi
  have hno : ∀ d ∈ looks ops j, ¬ Waits L ops X listed d := fun d hd ⟨i, hi, hui, hei, hdi⟩ => by
    have := I.pre j hl (K.ssa i (by simp [hi]) hei d hdi j (by simp) hd)
    rw [hui] at this; cases this
  have fin : ∀ (t : Tm) (v v' : Value) (h' : AHeap) (w' : World) (ι' : Inj) (rs' : List Nat), TRm L ops X listed ι t a → evDraw P C L ops (pres ops) ρ rs' (put t o.dst v) h' k = some r → Nxt ι w ι' w' → HRel P ⟨w0.w, fz⟩ ι' h' w' → VR ι' v v' →
      (∀ i ∈ X, Unl listed i → Facts P C ops fz Λ rs' (put t o.dst v) h' i) →
      ∃ ι' rs' t' h', Nxt ι w ι' w' ∧ Inv P w0 C L ops D k r ι' fz Λ (X ++ [j]) ρ rs' (listed.setIfInBounds j true) t' h' (a.put o.dst v') w' := by
    intro t v v' h' w' ι' rs' htr hrun n H' hv hf
    refine ⟨ι', rs', put t o.dst v, h', n, ⟨by simpa using K, by simpa using I.size, I.closed_set hl, fun i hi => ?_, fun i hi he => ?_, hrun, H', ⟨by rw [aput_size, put_len]; exact htr.len, fun s => ?_⟩, fun i hi hui => ?_, ⟨fun x hx => ?_, I.lam.late, I.lam.pw, I.lam.fz1, I.lam.fz2⟩, by rw [Act.put_defers]; exact I.defers⟩⟩
    · have hne : j ≠ i := by
        rintro rfl
        obtain ⟨X1, X2, rfl⟩ := List.append_of_mem hi
        exact (drawRow_pair (X := X ++ j :: X1) (r := X2) (by simpa using K.row) j (by simp)).2.2 rfl
      show _ = _
      rw [getD_set_ne false hne]; exact I.un i (List.mem_cons_of_mem _ hi)
    · rcases List.mem_append.1 hi with hi | hi
      · exact getD_set_true (I.effs i hi he)
      · simp at hi; subst hi; simp [hjs]
    · by_cases hs : o.dst = some s
      · right
        by_cases hlt : s < t.n
        · rw [hs, put_same hlt, aput_same (by rw [← htr.len]; exact hlt)]; exact hv
        · rw [getD_out (by rw [put_len]; exact hlt)]; exact .junk _
      · rw [aput_ne hs, put_getD hs]
        refine (htr.slot s).imp (fun ⟨i, hi, hui, hei, hdi⟩ => ⟨i, List.mem_append_left _ hi, ?_, hei, hdi⟩) fun hv => hv.mono n.le
        have hne : j ≠ i := (hpair i hi).2.2.symm
        show _ = _
        rw [getD_set_ne false hne]; exact hui
    · rcases List.mem_append.1 hi with hi | hi
      · exact hf i hi (set_unl hui)
      · simp at hi; exact absurd hi (set_unl_ne hjs hui)
    · obtain ⟨g1, g2, g3⟩ := I.lam.mem x hx
      have hne : j ≠ x.1 := (hpair x.1 g1).2.2.symm
      exact ⟨List.mem_append_left _ g1, by show _ = _; rw [getD_set_ne false hne]; exact g2, g3⟩
  have hp : ∀ i ∈ X, Unl listed i → ∀ d, o.dst = some d → d ∉ looks ops i ∧ dstOf ops i ≠ some d := fun i hi hui d hd => ⟨fun hl => by
    have hle := I.pre j ‹_› (((hpair i hi).1 d (by simp [dstOf, ho, hd])).1 hl).2
    exact absurd (hui.symm.trans hle) (by simp), ((hpair i hi).1 d (by simp [dstOf, ho, hd])).2⟩
  unfold wpOp
  simp only [ho]
  have hrun := I.run
  simp only [evDraw, ho, hie, cond_true] at hrun
  rcases evG_inv hrun with ⟨hg, t', hs, he⟩ | ⟨hg, t', hs, he⟩
  · rw [I.tr.gW_sound ho hno hg]
    simp only [if_true]
    left
    rw [evOp_congr (evX_congr ho fun d hl => (veil_getD (hno d hl)).symm)] at he
    obtain ⟨htr, hfacts⟩ := I.same hs
    refine op_sound (w0 := ⟨w0.w, fz⟩) (hC.at fz) he htr.veil I.H fun v h' v' w' ι' n H' hv' he => ?_
    obtain ⟨he, hre⟩ := again_inv (nrm_inv he)
    refine fin t' v v' h' w' ι' _ htr he n H' hv' fun i hi hui => ?_
    obtain ⟨o', ⟨hf, hr⟩ | hf⟩ := hfacts i hi hui
    case inr => exact ⟨o', .inr (hf.put (hp i hi hui) (fun _ _ a b => ⟨a, b⟩) fun _ a => a)⟩
    have hf' := hf.put (v := v) (hp i hi hui)
    have eg : gW ops o' (put t' o.dst v) = gW ops o' t' := gW_congr hf.at' fun d hl => put_getD fun e => (hp i hi hui d e).1 hl
    cases hrd : isRd o'.op with
    | false => exact ⟨o', .inl ⟨hf'.heap hrd h', fun h => absurd (hrd ▸ h) (by simp)⟩⟩
    | true =>
      rcases hf'.says with ⟨hg2, _⟩ | ⟨hg2, hd⟩
      · have hin : i ∈ rs.filter fun i => !((pres ops).getD j 0).testBit i := by
          rw [List.mem_filter]
          refine ⟨(hr hrd).resolve_right (fun e => by rw [← eg, hg2] at e; cases e), ?_⟩
          cases hb : ((pres ops).getD j 0).testBit i with
          | false => rfl
          | true => have := I.pre j hl hb; rw [hui] at this; cases this
        exact ⟨o', .inl ⟨⟨hf.at', hf.still, .inl ⟨hg2, reOk_fact hf.at' hf.still hg2 (hre i hin)⟩⟩, fun _ => .inl hin⟩⟩
      · exact ⟨o', .inl ⟨⟨hf.at', hf.still, .inr ⟨hg2, hd⟩⟩, fun _ => .inr hg2⟩⟩
  · rw [I.tr.gW_sound ho hno hg]
    simp only [Bool.false_eq_true, if_false]
    obtain ⟨htr, hfacts⟩ := I.same hs
    refine fin t' undef undef h w ι rs htr he (Nxt.refl _ _) I.H (VR.undef _) fun i hi hui => ?_
    obtain ⟨o', ⟨hf, hr⟩ | hf⟩ := hfacts i hi hui
    case inr => exact ⟨o', .inr (hf.put (hp i hi hui) (fun _ _ a b => ⟨a, b⟩) fun _ a => a)⟩
    have eg : gW ops o' (put t' o.dst undef) = gW ops o' t' := gW_congr hf.at' fun d hl => put_getD fun e => (hp i hi hui d e).1 hl
    exact ⟨o', .inl ⟨hf.put (hp i hi hui), fun h => (hr h).imp id fun e => by rw [eg]; exact e⟩⟩

theorem filter_lt {p p' : Nat → Bool} : ∀ {l : List Nat}, (∀ x ∈ l, p' x = true → p x = true) → ∀ j ∈ l, p j = true → p' j = false → (l.filter p').length < (l.filter p).length
  | [], _, j, hj, _, _ => by simp at hj
  | x :: l, h, j, hj, h1, h2 => by
    have hle : (l.filter p').length ≤ (l.filter p).length := by
      have : ∀ m : List Nat, (∀ x ∈ m, p' x = true → p x = true) → (m.filter p').length ≤ (m.filter p).length := by
        intro m
        induction m with
        | nil => intro _; simp
        | cons y m ih =>
          intro hm
          have ih := ih fun x hx => hm x (List.mem_cons_of_mem _ hx)
          have hy := hm y (List.mem_cons_self ..)
          simp only [List.filter_cons]
          split
          · rename_i e; rw [if_pos (hy e)]; simpa using ih
          · split <;> simp <;> omega
      exact this l fun x hx => h x (List.mem_cons_of_mem _ hx)
    rcases List.mem_cons.1 hj with rfl | hj
    · simp only [List.filter_cons, h1, h2]
      simp; omega
    · have ih := filter_lt (fun x hx => h x (List.mem_cons_of_mem _ hx)) j hj h1 h2
      have hy := h x (List.mem_cons_self ..)
      simp only [List.filter_cons]
      split
      · rename_i e; rw [if_pos (hy e)]; simpa using ih
      · split <;> simp <;> omega
def todo (n : Nat) (listed : Array Bool) : Nat := ((List.range n).filter fun i => !listed.getD i false).length
theorem todo_set {listed : Array Bool} {n j : Nat} (hn : n = listed.size) (hj : j < n) (hu : Unl listed j) : todo n (listed.setIfInBounds j true) < todo n listed := by
  refine filter_lt (fun x _ hx => ?_) j (by simpa using hj) (by rw [show listed.getD j false = false from hu]; rfl) (by subst hn; simp [hj])
  simp only [Bool.not_eq_true'] at hx ⊢
  exact set_unl hx
theorem unl_ready {j : Nat} (hl : j < listed.size) : listed.getD j true = listed.getD j false := by simp [Array.getD_eq_getD_getElem?, hl]
theorem Inv.ready (I : Inv P w0 C L ops D k r ι fz Λ X ρ rs listed t h a w) {j : Nat} (hr : j ∈ Region.ready .any ops listed) :
    j < ops.size ∧ Unl listed j ∧ ∀ o, ops[j]? = some o → ∀ e ∈ o.after, Region.binds .any e = true → listed.getD e.on false = true := by
  obtain ⟨h0, o, ho, hall⟩ := mem_ready.1 hr
  have hlt := (Array.getElem?_eq_some_iff.1 ho).1
  refine ⟨hlt, by rw [unl_ready (by rw [I.size]; exact hlt)] at h0; exact h0, fun o' ho' => ?_⟩
  rw [ho] at ho'; cases ho'; exact hall
theorem Inv.all (I : Inv P w0 C L ops D k r ι fz Λ X ρ rs listed t h a w) (hr : Region.ready .any ops listed = []) : ∀ j, j < ops.size → listed.getD j false = true := by
  intro j
  induction j using Nat.strongRecOn with
  | _ j ih =>
    intro hj
    cases hl : listed.getD j false with
    | true => rfl
    | false =>
      have : j ∈ Region.ready .any ops listed := mem_ready.2 ⟨by rw [unl_ready (by rw [I.size]; exact hj)]; exact hl, ops[j], Array.getElem?_eq_getElem hj, fun e he hbi => by
        have := I.ok.top j _ (Array.getElem?_eq_getElem hj) e he hbi
        exact ih _ this (by omega)⟩
      rw [hr] at this; cases this
theorem Inv.done (I : Inv P w0 C L ops D k r ι fz Λ X ρ rs listed t h a w) (hall : ∀ j, j < ops.size → listed.getD j false = true) {Q : Exit → Act → World → Prop}
    (hk : ∀ t' h' a' w' ι', Nxt ι w ι' w' → HRel P w0 ι' h' w' → TR ι' t' a'.tmps → a'.defers = D → k t' h' = some r → Q .normal a' w') : Q .normal a w := by
  have hρ : ρ = [] := by
    cases hρ : ρ with
    | nil => rfl
    | cons e ρ' =>
      have := I.un e (by rw [hρ]; exact List.mem_cons_self ..)
      have h2 := hall e (I.ok.lt e (by rw [hρ]; simp))
      rw [this] at h2; cases h2
  subst hρ
  have hfz : fz = w0.fz := by
    funext i
    cases e : fz i with
    | none =>
      cases e' : w0.fz i with
      | none => rfl
      | some f => rw [I.lam.fz1 i f e'] at e; cases e
    | some f =>
      rcases I.lam.fz2 i f e with h1 | ⟨j, hj⟩
      · exact h1.symm
      · obtain ⟨h1, h2, _⟩ := I.lam.mem _ hj
        have h3 := hall j (I.ok.lt j (by simp [h1]))
        rw [h2] at h3; cases h3
  have HH := I.H
  rw [hfz] at HH
  refine hk t h a w ι (Nxt.refl _ _) HH ?_ I.defers I.run
  exact ⟨I.tr.len, fun i => (I.tr.slot i).resolve_left fun ⟨j, hj, hu, _⟩ => by
    have h2 := hall j (I.ok.lt j (by simp [hj]))
    rw [hu] at h2; cases h2⟩

theorem Inv.any (hC : CallOk P w0 C) {Q : Exit → Act → World → Prop} : ∀ (fuel : Nat) {X ρ rs : List Nat} {listed : Array Bool} {t : Tm} {h : AHeap} {a : Act} {w : World} {ι : Inj} {fz : Nat → Option Fz} {Λ : List (Nat × Nat)},
    todo ops.size listed ≤ fuel → Inv P w0 C L ops D k r ι fz Λ X ρ rs listed t h a w →
    (∀ t' h' a' w' ι', Nxt ι w ι' w' → HRel P w0 ι' h' w' → TR ι' t' a'.tmps → a'.defers = D → k t' h' = some r → Q .normal a' w') → wpAny P .any ops Q fuel listed a w := by
  intro fuel
  induction fuel with
  | zero =>
    intro X ρ rs listed t h a w ι fz Λ hf I hk
    have hr : Region.ready .any ops listed = [] := by
      cases hr : Region.ready .any ops listed with
      | nil => rfl
      | cons j l =>
        obtain ⟨h1, h2, _⟩ := I.ready (j := j) (by rw [hr]; exact List.mem_cons_self ..)
        have := todo_set (n := ops.size) I.size.symm h1 h2
        omega
    exact ⟨hr, I.done (I.all hr) hk⟩
  | succ fuel ih =>
    intro X ρ rs listed t h a w ι fz Λ hf I hk
    refine ⟨fun hr => I.done (I.all hr) hk, fun j hr => ?_⟩
    obtain ⟨X, ρ, rs, t, h, fz, Λ, I, hhead⟩ := I.advAll
    obtain ⟨h1, h2, h3⟩ := I.ready hr
    have hlt := todo_set (n := ops.size) I.size.symm h1 h2
    have hmem := I.ok.mem j h1
    rcases List.mem_append.1 hmem with hj | hj
    · refine wpOp_mono (fun a' w' ⟨ι', fz', Λ', n, I'⟩ => ?_) (I.catch hC hj h2 h3)
      exact ih (by omega) I' fun t' h' a'' w'' ι'' n' => hk t' h' a'' w'' ι'' (n.trans n')
    · cases hρ : ρ with
      | nil => rw [hρ] at hj; cases hj
      | cons e ρ' =>
        subst hρ
        have he := hhead e ρ' rfl
        have hje : j = e := by
          rcases List.mem_cons.1 hj with hj | hj
          · exact hj
          · obtain ⟨ρ1, ρ2, rfl⟩ := List.append_of_mem hj
            have hrow := I.ok.row
            have := (drawRow_pair (X := X ++ e :: ρ1) (r := ρ2) (by simpa using hrow) e (by simp)).2.1 he
            have hle := I.pre j h3 this
            have hun := I.un e (List.mem_cons_self ..)
            rw [hun] at hle; cases hle
        subst hje
        refine wpOp_mono (fun a' w' ⟨ι', rs', t', h', n, I'⟩ => ?_) (I.effect hC he h3)
        exact ih (by omega) I' fun t' h' a'' w'' ι'' n' => hk t' h' a'' w'' ι'' (n.trans n')

theorem evDraw_one (hC : CallOk P w0 C) (hm : P.follows .mixedOrders = true) {id : Nat} {Q : Exit → Act → World → Prop} {t : Tm} {h : AHeap} {w : World} {ι : Inj} {a : Act}
    (hok : drawOk L ops (pres ops) (sched L ops (pres ops)) = true) (he : evDraw P C L ops (pres ops) (sched L ops (pres ops)) [] t h k = some r)
    (ht : TR ι t a.tmps) (H : HRel P w0 ι h w) (hd : a.defers = D)
    (hk : ∀ t' h' a' w' ι', Nxt ι w ι' w' → HRel P w0 ι' h' w' → TR ι' t' a'.tmps → a'.defers = D → k t' h' = some r → Q .normal a' w') : (Code.region id ops true).wp P Q a w := by
  refine wp_region_any hm (Inv.any (L := L) hC ops.size (X := []) (ρ := sched L ops (pres ops)) (rs := []) (t := t) (h := h) (ι := ι) (D := D) (k := k) (r := r) (fz := w0.fz) (Λ := []) ?_ ?_ ?_)
  · unfold todo
    exact Nat.le_trans (List.length_filter_le ..) (by simp)
  · refine ⟨drawOk_spec hok, by simp, fun j o _ hl => ?_, fun j _ => ?_, by simp, he, H.drew, ⟨ht.len, fun s => .inr (ht.getD s undef)⟩, by simp, ⟨by simp, by simp, .nil, fun _ _ h => h, fun _ _ h => .inl h⟩, hd⟩
    · simp [Array.getD_eq_getD_getElem?, Array.getElem?_replicate] at hl
      split at hl <;> simp at hl
    · simp [Unl, Array.getD_eq_getD_getElem?, Array.getElem?_replicate]
      split <;> rfl
  · exact fun t' h' a' w' ι' n => hk t' h' a' w' ι' ((Nxt.drew _ _).trans n)
theorem evDraw_sound (hC : CallOk P w0 C) (hm : P.follows .mixedOrders = true) {id : Nat} {Q : Exit → Act → World → Prop} {t : Tm} {h : AHeap} {w : World} {ι : Inj} {a : Act}
    (he : (bif drawOk false ops (pres ops) (sched false ops (pres ops)) then evDraw P C false ops (pres ops) (sched false ops (pres ops)) [] t h k else
      bif drawOk true ops (pres ops) (sched true ops (pres ops)) then evDraw P C true ops (pres ops) (sched true ops (pres ops)) [] t h k else none) = some r)
    (ht : TR ι t a.tmps) (H : HRel P w0 ι h w) (hd : a.defers = D)
    (hk : ∀ t' h' a' w' ι', Nxt ι w ι' w' → HRel P w0 ι' h' w' → TR ι' t' a'.tmps → a'.defers = D → k t' h' = some r → Q .normal a' w') : (Code.region id ops true).wp P Q a w := by
  cases hok : drawOk false ops (pres ops) (sched false ops (pres ops)) with
  | true => rw [hok] at he; exact evDraw_one hC hm hok he ht H hd hk
  | false =>
    rw [hok] at he
    cases hok2 : drawOk true ops (pres ops) (sched true ops (pres ops)) with
    | true => rw [hok2] at he; exact evDraw_one hC hm hok2 he ht H hd hk
    | false => rw [hok2] at he; cases he
end
end Go.AH
/- Code and calls. -/
set_option linter.unusedSimpArgs false
set_option linter.unusedVariables false
namespace Go.AH
open Go.RowKit Go.Lib
variable {P : Program} {w0 : W0} {w : World} {ι : Inj} {h : AHeap}

def Ex.exit' : Ex → Exit
  | .norm => .normal
  | .exit id => .exit id
  | .ret => .ret

section
variable {C : ACall} (hC : CallOk P w0 C) (hm : P.follows .mixedOrders = true) {R : Type} {M : Masks} {N : Nat} {D : List Deferred} {r : R}
include hC hm

/-- What has to hold where a code ends, and what follows for it. -/
def Ends (P : Program) (w0 : W0) (D : List Deferred) (k : Kt R) (r : R) (Q : Exit → Act → World → Prop) (ι : Inj) (w : World) : Prop :=
  ∀ ex t' h' a' w' ι', Nxt ι w ι' w' → HRel P w0 ι' h' w' → TR ι' t' a'.tmps → a'.defers = D → k ex t' h' = some r → Q ex.exit' a' w'

omit hC hm in
theorem Ends.on {k : Kt R} {Q : Exit → Act → World → Prop} {ι' : Inj} {w' : World} (h : Ends P w0 D k r Q ι w) (n : Nxt ι w ι' w') : Ends P w0 D k r Q ι' w' :=
  fun ex t' h' a' w'' ι'' n' => h ex t' h' a' w'' ι'' (n.trans n')

omit hC hm in
theorem bnd_inv {c : Code} {nx : Nx R} {t : Tm} {a : Act} (h' : bnd hk0 M c nx t h = some r) (ht : TR ι t a.tmps) : ∃ t', TR ι t' a.tmps ∧ nx t' h = some r := by
  unfold bnd at h'
  split at h'
  · split at h'
    · exact ⟨_, TR.mask _ ht 0, h'⟩
    · exact ⟨_, ht, h'⟩
  · exact ⟨_, ht, h'⟩
omit hC hm in
theorem maskLoop_TR {c : Code} {t : Tm} {a : Act} (ht : TR ι t a.tmps) : TR ι (maskLoop M c t) a.tmps := by
  unfold maskLoop
  split
  · exact TR.mask _ ht 0
  · exact ht

omit hm hC in
theorem iter_sound {c : Code} (ih : ∀ {t : Tm} {h : AHeap} {w : World} {ι : Inj} {a : Act} {k : Kt R} {r : R} {Q : Exit → Act → World → Prop},
      evCode hk0 P C M N c t h k = some r → TR ι t a.tmps → HRel P w0 ι h w → a.defers = D → Ends P w0 D k r Q ι w → Code.wp P c Q a w) :
    ∀ (n : Nat) {t : Tm} {h : AHeap} {w : World} {ι : Inj} {a : Act} {k : Kt R} {r : R} {Q : Exit → Act → World → Prop},
      evIter (evCode hk0 P C M N c) (maskLoop M c) k n t h = some r → TR ι t a.tmps → HRel P w0 ι h w → a.defers = D → Ends P w0 D k r Q ι w → Code.rounds P c Q n a w := by
  intro n
  induction n with
  | zero => intro t h w ι a k r Q he; simp [evIter] at he
  | succ n ihn =>
    intro t h w ι a k r Q he ht H hd hk
    rw [rounds_succ]
    simp only [evIter] at he
    refine ih he ht H hd fun ex t' h' a' w' ι' nx H' ht' hd' he' => ?_
    cases ex with
    | norm => exact ihn he' (maskLoop_TR ht') H' hd' (hk.on nx)
    | exit id => exact hk (.exit id) _ _ _ _ _ nx H' ht' hd' he'
    | ret => exact hk .ret _ _ _ _ _ nx H' ht' hd' he'

theorem evCode_sound : ∀ (c : Code) {t : Tm} {h : AHeap} {w : World} {ι : Inj} {a : Act} {k : Kt R} {r : R} {Q : Exit → Act → World → Prop},
    evCode hk0 P C M N c t h k = some r → TR ι t a.tmps → HRel P w0 ι h w → a.defers = D → Ends P w0 D k r Q ι w → Code.wp P c Q a w := by
  intro c
  induction c with
  | skip => intro t h w ι a k r Q he ht H hd hk; exact wp_skip (hk .norm _ _ _ _ _ (Nxt.refl _ _) H ht hd he)
  | exit id => intro t h w ι a k r Q he ht H hd hk; exact wp_exit (hk (.exit id) _ _ _ _ _ (Nxt.refl _ _) H ht hd he)
  | ret => intro t h w ι a k r Q he ht H hd hk; exact wp_ret (hk .ret _ _ _ _ _ (Nxt.refl _ _) H ht hd he)
  | region id ops draw =>
    intro t h w ι a k r Q he ht H hd hk
    simp only [evCode, evRegion] at he
    cases draw with
    | false =>
      simp only [cond_false] at he
      exact wp_region_list (evOps_sound hC _ he ht H hd fun t' h' a' w' ι' n H' ht' hd' he' => hk .norm _ _ _ _ _ n H' ht' hd' he')
    | true =>
      simp only [cond_true] at he
      exact evDraw_sound hC hm he ht H hd fun t' h' a' w' ι' n H' ht' hd' he' => hk .norm _ _ _ _ _ n H' ht' hd' he'
  | seq x y ihx ihy =>
    intro t h w ι a k r Q he ht H hd hk
    simp only [evCode] at he
    refine wp_seq (ihx he ht H hd fun ex t' h' a' w' ι' n H' ht' hd' he' => ?_)
    cases ex with
    | norm =>
      obtain ⟨t2, ht2, he2⟩ := bnd_inv he' ht'
      exact ihy he2 ht2 H' hd' (hk.on n)
    | exit id => exact hk (.exit id) _ _ _ _ _ n H' ht' hd' he'
    | ret => exact hk .ret _ _ _ _ _ n H' ht' hd' he'
  | cond c x y ihx ihy =>
    intro t h w ι a k r Q he ht H hd hk
    simp only [evCode, Option.bind_eq_some_iff] at he
    obtain ⟨b, hb, he⟩ := he
    have hc := ht.evX c
    rw [asB_inv hb] at hc
    refine wp_cond (t := b) (VR.bool_inv' hc) ?_
    cases b with
    | true => obtain ⟨t2, ht2, he2⟩ := bnd_inv he ht; exact ihx he2 ht2 H hd hk
    | false => obtain ⟨t2, ht2, he2⟩ := bnd_inv he ht; exact ihy he2 ht2 H hd hk
  | block id x ihx =>
    intro t h w ι a k r Q he ht H hd hk
    simp only [evCode] at he
    refine wp_block (ihx he ht H hd fun ex t' h' a' w' ι' n H' ht' hd' he' => ?_)
    cases ex with
    | norm => exact hk .norm _ _ _ _ _ n H' ht' hd' he'
    | exit j =>
      simp only [kBlock] at he'
      simp only [Ex.exit', Exit.inBlock]
      split at he'
      · rename_i e; rw [if_pos e]; exact hk .norm _ _ _ _ _ n H' ht' hd' he'
      · rename_i e; rw [if_neg e]; exact hk (.exit j) _ _ _ _ _ n H' ht' hd' he'
    | ret => exact hk .ret _ _ _ _ _ n H' ht' hd' he'
  | loop x ihx =>
    intro t h w ι a k r Q he ht H hd hk
    simp only [evCode] at he
    exact wp_loop_rounds N (iter_sound (fun {t h w ι a k r Q} => ihx) N he (maskLoop_TR ht) H hd hk)
  | _ => intro t h w ι a k r Q he; simp [evCode] at he
end

/-! ### calls -/
theorem isS2_S2 {v v' : Value} (h : VR ι v v') (hs : isS2 v = true) : S2 ι v v' := by
  cases h with
  | junk => simp [isS2, junk] at hs
  | s2 r => exact r
  | tuple => simp [isS2] at hs
def resF (tmps : Array Value) : ResultVar → Sem Value
  | .tmp t => pure (tmps.getD t undef)
  | .cell a t => do loadVar t (← asAddr (tmps.getD a undef))
theorem resK_sound {t : Tm} {a : Act} (H : HRel P w0 ι h w) (ht : TR ι t a.tmps) : ∀ (l : List ResultVar) (acc acc' : List Value) {r : Value × AHeap}, resK P t h l acc = some r → All2 (VR ι) acc acc' →
    ∃ vs, (l.mapM (resF a.tmps)).run P w = .ok vs w ∧ r.2 = h ∧ VR ι r.1 (match acc' ++ vs with | [v] => v | vs => .tuple vs.toArray)
  | [], acc, acc', r, he, hacc => by
    refine ⟨[], by simp [List.mapM_nil], ?_⟩
    simp only [resK] at he
    split at he
    · simp at he; subst he
      cases hacc with
      | cons hv hn => cases hn; exact ⟨rfl, by simpa using hv⟩
    · rename_i hne
      cases hall : acc.all isS2 with
      | false => rw [hall] at he; cases he
      | true =>
        rw [hall] at he
        simp at he; subst he
        refine ⟨rfl, ?_⟩
        have h2 : All2 (S2 ι) acc acc' := by
          clear hne
          induction hacc with
          | nil => exact .nil
          | cons hv hn ih =>
            simp only [List.all_cons, Bool.and_eq_true] at hall
            exact .cons (isS2_S2 hv hall.1) (ih hall.2)
        have : ∀ v, acc' ≠ [v] := by
          intro v e
          subst e
          cases hacc with
          | cons hv hn => cases hn; exact hne _ rfl
        rw [List.append_nil]
        split
        · rename_i v; exact absurd rfl (this v)
        · exact .tuple (by simpa using h2)
  | .tmp i :: l, acc, acc', r, he, hacc => by
    simp only [resK] at he
    obtain ⟨vs, h1, h2, h3⟩ := resK_sound H ht l (acc ++ [t.getD i junk]) (acc' ++ [a.tmps.getD i undef]) he (hacc.append (.cons (ht.getD i undef) .nil))
    exact ⟨a.tmps.getD i undef :: vs, by simp [List.mapM_cons, resF, h1], h2, by simpa using h3⟩
  | .cell i ty :: l, acc, acc', r, he, hacc => by
    simp only [resK] at he
    have key : ∀ {v : Value}, (∃ ad v', a.tmps.getD i undef = .pointer (some ad) ∧ (loadVar ty ad).run P w = .ok v' w ∧ VR ι v v') → resK P t h l (acc ++ [v]) = some r →
        ∃ vs, ((ResultVar.cell i ty :: l).mapM (resF a.tmps)).run P w = .ok vs w ∧ r.2 = h ∧ VR ι r.1 (match acc' ++ vs with | [v] => v | vs => .tuple vs.toArray) := by
      intro v ⟨ad, v', hp, hr, hv⟩ he
      obtain ⟨vs, h1, h2, h3⟩ := resK_sound H ht l (acc ++ [v]) (acc' ++ [v']) he (hacc.append (.cons hv .nil))
      exact ⟨v' :: vs, by simp [List.mapM_cons, resF, hp, asAddr, hr, h1], h2, by simpa using h3⟩
    split at he
    · rename_i n hg hn
      simp only [Option.bind_eq_some_iff] at he
      obtain ⟨v, hv, he⟩ := he
      exact key (ldN_run H hg hn hv (ht.getD i undef)) he
    · rename_i hg
      simp only [Option.bind_eq_some_iff] at he
      obtain ⟨v, hv, he⟩ := he
      exact key (ld1_run H hg hv (ht.getD i undef)) he
    · simp at he
theorem results_sound {fn : Func} {t : Tm} {a : Act} (H : HRel P w0 ι h w) (ht : TR ι t a.tmps) {r : Value × AHeap} (he : resK P t h fn.results.toList [] = some r) :
    ∃ v', (results fn a.tmps).run P w = .ok v' w ∧ r.2 = h ∧ VR ι r.1 v' := by
  obtain ⟨vs, h1, h2, h3⟩ := resK_sound H ht fn.results.toList [] [] he .nil
  refine ⟨_, ?_, h2, h3⟩
  have : (results fn a.tmps) = (do let vs ← fn.results.mapM (resF a.tmps); pure (if h : vs.size = 1 then vs[0] else .tuple vs)) := rfl
  rw [this, Array.mapM_eq_mapM_toList]
  simp only [bind_map_left, Sem.run_bind, h1, Result.andThen_ok, Sem.run_pure]
  congr 1
  simp only [List.nil_append]
  match vs with
  | [] => rfl
  | [v] => rfl
  | v :: u :: vs => simp
theorem lk_number : ∀ (l : List Value) (j i : Nat), lk junk (j + i) (number j l) = l.getD i junk
  | [], _, _ => rfl
  | v :: l, j, 0 => by unfold number; rw [Nat.add_zero, lk_cons_same]; rfl
  | v :: l, j, i + 1 => by
    unfold number
    rw [lk_cons_ne (by omega), show j + (i + 1) = (j + 1) + i by omega, lk_number l]; rfl
theorem init_TR {fn : Func} {args : List Value} {args' : Array Value} (ha : All2 (VR ι) args args'.toList) : TR ι (init fn args) (args' ++ Array.replicate (fn.ntmps - args'.size) undef) := by
  have hl : args.length = args'.size := by simpa using ha.length
  have hg : ∀ i, VR ι (args.getD i junk) ((args' ++ Array.replicate (fn.ntmps - args'.size) undef).getD i undef) := fun i => by
    rw [List.getD_eq_getElem?_getD]
    cases h : args[i]? with
    | none => exact .junk _
    | some v =>
      obtain ⟨b, hb, hr⟩ := All2.get ha i v h
      have hb' : args'[i]? = some b := by simpa using hb
      have hlt := (Array.getElem?_eq_some_iff.1 hb').1
      rw [Array.getD_eq_getD_getElem?, Array.getElem?_append_left hlt, hb']; exact hr
  have hn : ∀ i, lk junk i (number 0 args) = args.getD i junk := fun i => by simpa using lk_number args 0 i
  have hin : ∀ n i, VR ι (Tm.getD ⟨n, number 0 args⟩ i junk) ((args' ++ Array.replicate (fn.ntmps - args'.size) undef).getD i undef) := fun n i => by
    by_cases hi : i < n
    · rw [getD_in (t := ⟨n, number 0 args⟩) hi, hn]; exact hg i
    · rw [getD_out (t := ⟨n, number 0 args⟩) hi]; exact .junk _
  unfold init
  cases e : Nat.ble args.length fn.ntmps with
  | true =>
    have := Nat.le_of_ble_eq_true e
    exact ⟨by simp; omega, hin _⟩
  | false =>
    have : ¬ args.length ≤ fn.ntmps := fun h => by rw [Nat.ble_eq_true_of_le h] at e; cases e
    exact ⟨by simp; omega, hin _⟩
/-- A call of the small evaluator says what the machine's does. -/
theorem call_sound (hm : P.follows .mixedOrders = true) (hn : P.funcs.all (fun (fn : Func) => fn.name != "runtime.NumGoroutine") = true) (Ms : FuncId → Masks) : ∀ d, CallOk P w0 (call P Ms d) := by
  intro d
  induction d with
  | zero => exact ⟨fun f args h r he => by simp [call] at he, fun fz f args h v h' he => by simp [call] at he⟩
  | succ d ih =>
    have hfn : ∀ {f : FuncId} {fn : Func}, P.funcs[f]? = some fn → (fn.name == "runtime.NumGoroutine") = false := fun hf => by
      have := Array.all_eq_true_iff_forall_mem.1 hn _ (Array.mem_of_getElem? hf)
      simpa using this
    refine ⟨fun f args h r he => ?_, fun fz f args h v h' he ι w args' ha H => ?_⟩
    · simp only [call] at he
      split at he
      · rename_i fn hf
        unfold evFn at he
        split at he
        · rename_i c hc; exact ⟨fn, hf, by simp [hc], hfn hf⟩
        · simp at he
      · simp at he
    · simp only [call] at he
      split at he
      · rename_i fn hf
        unfold evFn at he
        split at he
        · rename_i c hc
          refine calls_of_wp hf hc (evCode_sound (w0 := ⟨w0.w, fz⟩) (ih.at fz) hm (D := []) c he (init_TR ha) H rfl fun ex t' h2 a' w' ι' n H' ht' hd' he' => ?_)
          have fin : resK P t' h2 fn.results.toList [] = some (v, h') → ∃ u, (results fn a'.tmps).run P w' = .ok u w' ∧ ∃ v' ι', Ending.returned u = .returned v' ∧ Nxt ι w ι' w' ∧ HRel P ⟨w0.w, fz⟩ ι' h' w' ∧ VR ι' v v' := by
            intro he
            obtain ⟨v', hr, h2, hv⟩ := results_sound H' ht' he
            simp at h2; subst h2
            exact ⟨v', hr, v', ι', rfl, n, H', hv⟩
          cases ex with
          | norm => exact ⟨hd', fin he'⟩
          | ret => exact ⟨hd', fin he'⟩
          | exit => simp [kBody] at he'
        · simp at he
      · simp at he
end Go.AH
/- From the small evaluator to a row: a law that returns true and leaves all as it was. -/
namespace Go.AH
open Go.ChangeShapes Go.WideShapes Go.ChangeAt Go.RowKit
variable {H : Type} {enc : TypeId × Value → H} {P : Program}

theorem post_below {f : Func} {s : ChangeSpec} {apart fresh handsOn : Bool} {W W' : World} {args : Array Value} {v : Value} {ds gs : List (DataW H)} {before pa pv : List MemPlace}
    (hW : DataW.Whole enc P f.params.toList s.vars apart W args.toList ds gs before)
    (hres : ∀ (b : Nat) (sp : Nat → Bool) (hd : Bool), DataW.TrodAll enc P W' b sp hd f.resultTypes.toList (v.resultList f.resultTypes.size) (s.fn H (ds ++ gs)).results [])
    (hargs : ∀ sp : Nat → Bool, (∀ p ∈ before, sp p.block = true) → DataW.TrodAll enc P W' 0 sp true f.params.toList args.toList (s.fn H (ds ++ gs)).args pa)
    (hvars : ∀ sp : Nat → Bool, (∀ p ∈ before, sp p.block = true) → DataW.TrodVars enc P W' sp s.vars (s.fn H (ds ++ gs)).vars pv)
    (hb : Below W.heap.size W W') :
    s.post enc P f apart fresh handsOn false W args v W' := by
  have hold : ∀ p ∈ before, (fun b => decide (b < W.heap.size)) p.block = true := fun p hp => by simpa using hW.lt p hp
  refine ⟨ds, gs, before, [], pa, pv, hW, hres _ _ _, hargs _ hold, hvars _ hold, hb.frame _, fun h => by cases h⟩

/-- At the start nothing is known of memory. -/
def h00 : AHeap := ⟨0, fun _ => none, fun _ _ => 0, fun _ _ => 0, fun _ => none⟩
def i00 : Inj := ⟨fun _ => none, fun _ => none⟩
theorem start_rel (W : World) : HRel P W i00 h00 W where
  below := Below.refl _ _
  dom := fun i p h => by cases h
  domM := fun i p h => by cases h
  pl := fun i p h => by cases h
  obj := fun i o _ h => by simp [AHeap.at?, h00] at h
  tip := fun i o h => by simp [AHeap.at?, h00] at h
  eps := fun i o h => by cases h
  fam := fun i j oi oj p q h => by simp [AHeap.at?, h00] at h
  maps := fun i l _ h => by cases h
  mp := fun i r h => by cases h
  mpInj := fun i j r h => by cases h
  objs := fun j o h => by cases h
  mapd := fun j l h => by cases h
  fz := fun i f h => by cases h

theorem law_calls {Ms : FuncId → Masks} {d : Nat} {f : FuncId} {args : List Value} {args' : Array Value} {W : World} {ι : Inj} {h h' : AHeap} (hm : P.follows .mixedOrders = true)
    (hn : P.funcs.all (fun (fn : Func) => fn.name != "runtime.NumGoroutine") = true) (he : call P Ms d f args h = some (.bool true, h')) (ha : All2 (VR ι) args args'.toList) (H : HRel P W ι h W) :
    Calls P f args' W fun e W' => e = .returned (.bool true) ∧ Below W.heap.size W W' :=
  ((call_sound (w0 := W) hm hn Ms d).calls _ _ _ _ _ _ he ι W args' ha H).mono fun e W' ⟨v', ι', e1, _, H', hv⟩ => by
    subst e1
    rw [VR.bool_inv' hv]
    exact ⟨rfl, H'.below⟩
end Go.AH
namespace Go.Proofs.Ytadmoackacickaa
open Go Go.AH
def M3 : Masks := ⟨[(7, [0, 3, 4, 5, 6]), (18, [6, 9])], []⟩
def M4 : Masks := ⟨[], []⟩
def M5 : Masks := ⟨[], []⟩
def M6 : Masks := ⟨[], []⟩
def M7 : Masks := ⟨[(16, [1, 4, 6]), (100015, [1, 4, 6, 42])], []⟩
def M8 : Masks := ⟨[(8, [4, 8]), (14, [4, 8, 10, 11]), (19, [4, 10]), (22, [4, 12]), (100007, [4, 8, 46]), (100013, [4, 8, 10, 11, 68]), (100018, [4, 8, 10, 98]), (100021, [4, 12, 120]), (100026, [4, 12, 15, 163])], [(10, [4, 8, 10, 11]), (23, [4, 12, 15])]⟩
def M9 : Masks := ⟨[(16, [1, 4, 6]), (100015, [1, 4, 6, 42])], []⟩
def M10 : Masks := ⟨[(10, [1, 4, 5, 6, 7, 8]), (16, [1, 4, 5, 7]), (27, [7, 10]), (100009, [1, 4, 5, 6, 7, 8, 40]), (100015, [1, 4, 5, 7, 61]), (100026, [7, 10, 87])], []⟩
def M11 : Masks := ⟨[(10, [1, 6]), (100009, [1, 6, 34])], []⟩
def M12 : Masks := ⟨[(7, [0, 3, 4, 5, 6]), (18, [6, 9]), (100006, [0, 3, 4, 5, 6, 42]), (100017, [6, 9, 73])], []⟩
def M14 : Masks := ⟨[(9, [0, 5, 6, 7]), (10, [0, 5, 6]), (12, [0, 5, 6])], [(5, [0, 5, 6]), (10, [0, 5, 6])]⟩
def M15 : Masks := ⟨[(7, [0, 5, 6]), (14, [0, 5, 6, 7])], [(5, [0, 5, 6])]⟩
def M16 : Masks := ⟨[], [(4, [0, 1, 5])]⟩
def M17 : Masks := ⟨[], [(2, [0, 1, 5])]⟩
def M18 : Masks := ⟨[], [(2, [0, 1, 5])]⟩
def M19 : Masks := ⟨[], []⟩
def M20 : Masks := ⟨[], []⟩
def M21 : Masks := ⟨[], []⟩
def M22 : Masks := ⟨[(4, [1, 3]), (100003, [1, 3, 31])], [(5, [1, 3, 34, 35])]⟩
def M23 : Masks := ⟨[], []⟩
def M24 : Masks := ⟨[], []⟩
def M25 : Masks := ⟨[], [(5, [1, 3, 16, 17, 18]), (8, [1, 3, 4, 5, 16, 17, 18, 24, 25, 26])]⟩
def M26 : Masks := ⟨[], []⟩
def M27 : Masks := ⟨[], []⟩
def M28 : Masks := ⟨[(7, [2, 5, 8, 9])], [(6, [2, 5, 8, 9])]⟩
def M29 : Masks := ⟨[], []⟩
def M30 : Masks := ⟨[], [(5, [1, 3, 4])]⟩
def M31 : Masks := ⟨[], [(6, [3, 4, 19, 20, 21]), (10, [3, 4, 5, 6, 19, 20, 21, 30, 31, 32])]⟩
def M32 : Masks := ⟨[], [(4, [0, 1, 5])]⟩
def M33 : Masks := ⟨[], []⟩
def M34 : Masks := ⟨[], [(2, [0, 1, 5])]⟩
def M35 : Masks := ⟨[], [(2, [0, 1, 5])]⟩
def M36 : Masks := ⟨[], []⟩
def M37 : Masks := ⟨[], []⟩
def M38 : Masks := ⟨[(100009, [3, 4, 6, 14, 15, 16, 45])], [(6, [3, 4, 14, 15, 16])]⟩
def M39 : Masks := ⟨[], [(4, [0, 1, 5])]⟩
def M40 : Masks := ⟨[], [(2, [0, 1, 5])]⟩
def M41 : Masks := ⟨[], [(2, [0, 1, 5])]⟩
def M42 : Masks := ⟨[], []⟩
def M43 : Masks := ⟨[], []⟩
def M44 : Masks := ⟨[], []⟩
def M45 : Masks := ⟨[(10, [4, 5, 6])], [(6, [4, 5, 6])]⟩
def M46 : Masks := ⟨[], [(5, [4, 18, 19, 20])]⟩
def M47 : Masks := ⟨[(7, [2, 5, 8, 9])], [(6, [2, 5, 8, 9])]⟩
def M50 : Masks := ⟨[(12, [4, 7, 8]), (18, [0, 1, 4, 7, 8]), (31, [0, 1, 4, 7, 8]), (40, [1, 4, 8, 10, 11, 12])], [(4, [0, 1, 4, 7, 8]), (14, [0, 1, 4, 7, 8]), (21, [0, 4, 7, 8, 9]), (27, [0, 1, 4, 7, 8]), (36, [0, 1, 4, 8, 10, 11])]⟩
def M51 : Masks := ⟨[], [(1, [0, 1, 2])]⟩
def M52 : Masks := ⟨[], []⟩
def M53 : Masks := ⟨[(8, [4, 8]), (16, [0, 1, 4, 11]), (25, [0, 1, 4, 7]), (44, [4])], []⟩
def M54 : Masks := ⟨[], []⟩
def M55 : Masks := ⟨[], [(4, [0, 3])]⟩
def M56 : Masks := ⟨[], [(5, [0, 1, 5])]⟩
def M57 : Masks := ⟨[(3, [1, 2, 3, 4, 5]), (6, [1, 2, 3, 4, 5, 12, 13]), (8, [1, 3, 4, 5, 12, 13]), (11, [1, 3, 4, 5, 12, 14]), (100002, [1, 2, 3, 4, 5, 31]), (100010, [1, 3, 4, 5, 12, 14, 69])], [(12, [1, 3, 4, 5, 12, 14, 16])]⟩
def M58 : Masks := ⟨[], [(3, [0, 3, 4])]⟩
def M59 : Masks := ⟨[], [(3, [0, 1, 5, 16, 17, 18])]⟩
def M60 : Masks := ⟨[], [(2, [0, 1, 2, 16, 17, 18])]⟩
def M61 : Masks := ⟨[], [(4, [0, 1, 5])]⟩
def M62 : Masks := ⟨[], [(4, [2, 6, 7, 8, 9])]⟩
def M63 : Masks := ⟨[], []⟩
def M64 : Masks := ⟨[], []⟩
def M65 : Masks := ⟨[], [(4, [1, 2, 15, 16, 17])]⟩
def M66 : Masks := ⟨[], []⟩
def M67 : Masks := ⟨[], [(4, [0, 1, 12, 13])]⟩
def M68 : Masks := ⟨[], [(2, [0, 1, 5])]⟩
def M69 : Masks := ⟨[(5, [0, 3, 4])], [(3, [0, 3, 4])]⟩
def M70 : Masks := ⟨[], []⟩
def M71 : Masks := ⟨[], []⟩
def M72 : Masks := ⟨[], []⟩
def M73 : Masks := ⟨[(100010, [2, 3, 10, 11, 39, 40]), (100011, [2, 3, 10, 54]), (100014, [2, 3, 10, 11, 39, 62]), (100017, [2, 3, 11, 73])], [(4, [2, 3, 4, 10, 11, 12])]⟩
def M74 : Masks := ⟨[], []⟩
def M75 : Masks := ⟨[], []⟩
def M76 : Masks := ⟨[(21, [0, 7, 8, 9, 11, 12, 13]), (22, [0, 7, 8, 9, 11, 12]), (100009, [0, 4, 7, 8, 9, 10, 67])], [(5, [0, 4, 7, 8, 9, 10])]⟩
def M77 : Masks := ⟨[], [(4, [0, 5, 17, 18, 19])]⟩
def M78 : Masks := ⟨[], [(3, [0, 5, 21, 22, 23])]⟩
def M79 : Masks := ⟨[], [(2, [0, 1, 5])]⟩
def M80 : Masks := ⟨[], [(10, [2, 5, 6, 7])]⟩
def M81 : Masks := ⟨[(100013, [0, 4, 16, 52]), (100037, [0, 4, 127])], []⟩
def M82 : Masks := ⟨[(15, [0, 6])], []⟩
def M83 : Masks := ⟨[], []⟩
def M87 : Masks := ⟨[], []⟩
def M88 : Masks := ⟨[], []⟩
def M89 : Masks := ⟨[], []⟩
def M90 : Masks := ⟨[], []⟩
def M91 : Masks := ⟨[], []⟩
def M92 : Masks := ⟨[], []⟩
def M93 : Masks := ⟨[], []⟩
def M94 : Masks := ⟨[], []⟩
def M95 : Masks := ⟨[(5, [0, 1, 4, 6, 7])], [(6, [0, 4, 6, 7, 8])]⟩
def M96 : Masks := ⟨[], []⟩
def M97 : Masks := ⟨[], []⟩
def M98 : Masks := ⟨[], []⟩
def M99 : Masks := ⟨[(100002, [0, 3]), (100004, [0, 10]), (100010, [23])], []⟩
def M100 : Masks := ⟨[(39, [4, 5, 6]), (42, [4, 5, 6, 7]), (100016, [4, 5, 6, 13, 29]), (100026, [4, 5, 6, 13, 46])], [(6, [4, 5, 6]), (19, [4, 5, 6]), (40, [4, 5, 6, 7])]⟩
def M101 : Masks := ⟨[(14, [1]), (100006, [1, 5, 6])], [(9, [1, 3])]⟩
def M102 : Masks := ⟨[], []⟩
def M103 : Masks := ⟨[], []⟩
def M104 : Masks := ⟨[(17, [1]), (100006, [1, 4, 5])], []⟩
def M105 : Masks := ⟨[(100009, [0, 3, 5, 9, 10]), (100020, [0, 3, 5, 9, 59]), (100028, [0, 3, 5, 9, 81])], []⟩
def M106 : Masks := ⟨[], []⟩
def M107 : Masks := ⟨[], []⟩
def M108 : Masks := ⟨[], []⟩
def M109 : Masks := ⟨[], []⟩
def M110 : Masks := ⟨[], []⟩
def M111 : Masks := ⟨[(5, [0, 3])], [(4, [0, 3])]⟩
def M112 : Masks := ⟨[(17, [0]), (100006, [0, 3, 4, 21]), (100008, [0, 3, 4, 33]), (100013, [0, 3, 4, 60])], []⟩
def M113 : Masks := ⟨[], [(4, [0, 3, 4, 5]), (9, [3, 4, 6])]⟩
def M114 : Masks := ⟨[(16, [8])], [(5, [0, 2, 7, 8, 9, 10]), (13, [0, 7, 8, 12, 13])]⟩
def M115 : Masks := ⟨[], []⟩
def M116 : Masks := ⟨[], []⟩
def M117 : Masks := ⟨[], []⟩
def M118 : Masks := ⟨[], [(2, [0, 1, 5])]⟩
def M119 : Masks := ⟨[(5, [0, 1, 2, 6, 7, 8]), (100013, [0, 1, 2, 7, 44, 45]), (100016, [0, 1, 2, 7, 44, 52]), (100020, [0, 7, 72])], [(6, [0, 1, 2, 6, 7, 8, 32, 33, 34])]⟩
def M120 : Masks := ⟨[], [(2, [0, 1, 7, 8])]⟩
def M121 : Masks := ⟨[], []⟩
def M122 : Masks := ⟨[], []⟩
def M123 : Masks := ⟨[(3, [0, 4, 5, 6]), (5, [6]), (100002, [0, 4, 5, 6, 15]), (100004, [4, 5, 6, 45])], []⟩
def M124 : Masks := ⟨[(4, [2, 3])], []⟩
def M125 : Masks := ⟨[(8, [0, 3, 4]), (100005, [0, 3, 4, 39]), (100009, [0, 3, 4, 78]), (100012, [0, 103]), (100015, [0, 113])], []⟩
def M126 : Masks := ⟨[(26, [2, 3, 7]), (28, [2, 3, 7]), (32, [3]), (100023, [2, 3, 10, 104])], []⟩
def M127 : Masks := ⟨[], []⟩
def M128 : Masks := ⟨[], []⟩
def M129 : Masks := ⟨[(5, [0, 5, 6, 7, 8])], [(1, [0, 6, 7, 8])]⟩
def M130 : Masks := ⟨[(7, [0, 3, 4, 5])], [(4, [0, 3, 4])]⟩
def M131 : Masks := ⟨[], [(1, [0, 6, 7, 8])]⟩
def M132 : Masks := ⟨[(8, [0, 3, 5])], []⟩
def M133 : Masks := ⟨[], [(4, [0, 12, 13, 14])]⟩
def M134 : Masks := ⟨[(3, [0, 1]), (100002, [0, 1, 22])], []⟩
def M135 : Masks := ⟨[], []⟩
def M136 : Masks := ⟨[], []⟩
def M137 : Masks := ⟨[], []⟩
def M138 : Masks := ⟨[(6, [0, 3])], [(5, [0, 3])]⟩
def M139 : Masks := ⟨[(100006, [0, 3, 4, 21]), (100009, [0, 3, 4, 41]), (100015, [0, 3, 4, 76])], []⟩
def M143 : Masks := ⟨[], []⟩
def M144 : Masks := ⟨[], []⟩
def M145 : Masks := ⟨[(3, [0]), (100002, [0, 11])], [(4, [0, 3])]⟩
def M146 : Masks := ⟨[], [(3, [0, 3, 4])]⟩
def M147 : Masks := ⟨[], []⟩
def M148 : Masks := ⟨[], []⟩
def M149 : Masks := ⟨[], []⟩
def M150 : Masks := ⟨[], []⟩
def M151 : Masks := ⟨[], [(4, [0, 4, 15, 16, 17])]⟩
def M152 : Masks := ⟨[], []⟩
def M153 : Masks := ⟨[], []⟩
def M154 : Masks := ⟨[], []⟩
def M155 : Masks := ⟨[(3, [0, 2]), (100002, [0, 2, 19])], []⟩
def M156 : Masks := ⟨[], []⟩
def M157 : Masks := ⟨[(2, [0]), (100001, [0, 12])], []⟩
def M158 : Masks := ⟨[], [(2, [0, 3])]⟩
def M159 : Masks := ⟨[(4, [0, 1, 2]), (46, [0, 1]), (100003, [0, 1, 2, 35]), (100007, [0, 1, 2, 42, 43]), (100014, [0, 1, 2, 42, 68]), (100026, [0, 1, 2, 42, 112])], []⟩
def M160 : Masks := ⟨[], []⟩
def M161 : Masks := ⟨[(5, [0]), (6, [0, 1, 2]), (28, [0, 1, 2]), (100003, [0, 1, 2, 7, 18]), (100004, [0, 7, 26])], []⟩
def M162 : Masks := ⟨[], []⟩
def M163 : Masks := ⟨[], [(2, [0, 1, 2, 6])]⟩
def M164 : Masks := ⟨[(20, [6, 8]), (100010, [1, 2, 6, 30])], []⟩
def M165 : Masks := ⟨[(17, [7, 8]), (19, [7]), (100018, [7, 58])], []⟩
def M166 : Masks := ⟨[], []⟩
def M167 : Masks := ⟨[(4, [3])], []⟩
def M168 : Masks := ⟨[], []⟩
def M169 : Masks := ⟨[(9, [0, 3, 4, 5])], [(5, [0, 3, 4])]⟩
def M170 : Masks := ⟨[(7, [1, 2, 5, 6])], [(3, [1, 2, 5, 6])]⟩
def M171 : Masks := ⟨[], []⟩
def M172 : Masks := ⟨[], []⟩
def M173 : Masks := ⟨[(3, [0]), (100002, [0, 19])], []⟩
def M174 : Masks := ⟨[], []⟩
def M175 : Masks := ⟨[], []⟩
def M176 : Masks := ⟨[(13, [0, 1, 5, 6, 7]), (100010, [0, 1, 5, 6, 7, 28]), (100012, [0, 1, 5, 6, 7, 35])], [(4, [0, 1, 5])]⟩
def M185 : Masks := ⟨[], []⟩
def M186 : Masks := ⟨[], []⟩
def M187 : Masks := ⟨[], []⟩
def M188 : Masks := ⟨[], [(2, [0, 3])]⟩
def M189 : Masks := ⟨[], []⟩
def M190 : Masks := ⟨[(4, [0, 1, 2]), (6, [0, 1, 2]), (100003, [0, 1, 2, 7, 16]), (100005, [0, 1, 2, 25])], []⟩
def M191 : Masks := ⟨[(8, [0, 1, 2, 7, 8, 9])], [(4, [0, 1, 2, 7, 8, 9])]⟩
def M192 : Masks := ⟨[], [(3, [0, 1, 5, 6])]⟩
def M193 : Masks := ⟨[], []⟩
def M194 : Masks := ⟨[], []⟩
def M195 : Masks := ⟨[(11, [0, 1, 9, 10, 11]), (12, [1, 9, 10, 11]), (100010, [0, 1, 9, 10, 11, 44])], [(5, [0, 1, 2, 3, 9, 10, 11, 12, 13])]⟩
def M196 : Masks := ⟨[(100002, [0, 1, 13])], []⟩
def M197 : Masks := ⟨[(9, [0, 3])], []⟩
def M198 : Masks := ⟨[(100006, [0, 1, 5, 6, 7, 27])], [(3, [0, 1, 5, 6, 7])]⟩
def M202 : Masks := ⟨[], [(2, [0, 1, 7, 8])]⟩
def M203 : Masks := ⟨[], []⟩
def M204 : Masks := ⟨[(8, [0, 4]), (10, [0, 4])], [(2, [0, 3]), (7, [0, 4])]⟩
def M205 : Masks := ⟨[], []⟩
def M220 : Masks := ⟨[], []⟩
def M221 : Masks := ⟨[], [(2, [0, 7, 8, 9])]⟩
def M222 : Masks := ⟨[], []⟩
def M231 : Masks := ⟨[], [(2, [0, 1, 2, 7])]⟩
def M232 : Masks := ⟨[], []⟩
def M233 : Masks := ⟨[(4, [0, 3]), (6, [0, 3])], [(3, [0, 3])]⟩
def M234 : Masks := ⟨[(3, [0, 3]), (5, [0, 3])], [(2, [0, 3])]⟩
def M238 : Masks := ⟨[], []⟩
def M239 : Masks := ⟨[(14, [0]), (100009, [0, 77])], []⟩
def M241 : Masks := ⟨[(9, [0, 3])], []⟩
def M242 : Masks := ⟨[], [(3, [0, 3])]⟩
def M243 : Masks := ⟨[], []⟩
def M244 : Masks := ⟨[], [(5, [0, 3])]⟩
def M245 : Masks := ⟨[(8, [0, 3])], [(4, [0, 3])]⟩
def M246 : Masks := ⟨[], [(4, [0, 3])]⟩
def M247 : Masks := ⟨[(13, [0]), (100009, [0, 5, 71])], []⟩
theorem hk0_app {R : Type} (i : Nat) (t : Tm) (h : AHeap) (x : Nx R) : hk0 i t h x = x t h := rfl
def Ms (k : Nat) : Masks :=
  (bif Nat.blt k 108 then (bif Nat.blt k 55 then (bif Nat.blt k 28 then (bif Nat.blt k 16 then (bif Nat.blt k 9 then (bif Nat.blt k 6 then (bif Nat.blt k 4 then (bif Nat.beq k 3 then M3 else ⟨[], []⟩) else (bif Nat.blt k 5 then (bif Nat.beq k 4 then M4 else ⟨[], []⟩) else (bif Nat.beq k 5 then M5 else ⟨[], []⟩))) else (bif Nat.blt k 7 then (bif Nat.beq k 6 then M6 else ⟨[], []⟩) else (bif Nat.blt k 8 then (bif Nat.beq k 7 then M7 else ⟨[], []⟩) else (bif Nat.beq k 8 then M8 else ⟨[], []⟩)))) else (bif Nat.blt k 12 then (bif Nat.blt k 10 then (bif Nat.beq k 9 then M9 else ⟨[], []⟩) else (bif Nat.blt k 11 then (bif Nat.beq k 10 then M10 else ⟨[], []⟩) else (bif Nat.beq k 11 then M11 else ⟨[], []⟩))) else (bif Nat.blt k 14 then (bif Nat.beq k 12 then M12 else ⟨[], []⟩) else (bif Nat.blt k 15 then (bif Nat.beq k 14 then M14 else ⟨[], []⟩) else (bif Nat.beq k 15 then M15 else ⟨[], []⟩))))) else (bif Nat.blt k 22 then (bif Nat.blt k 19 then (bif Nat.blt k 17 then (bif Nat.beq k 16 then M16 else ⟨[], []⟩) else (bif Nat.blt k 18 then (bif Nat.beq k 17 then M17 else ⟨[], []⟩) else (bif Nat.beq k 18 then M18 else ⟨[], []⟩))) else (bif Nat.blt k 20 then (bif Nat.beq k 19 then M19 else ⟨[], []⟩) else (bif Nat.blt k 21 then (bif Nat.beq k 20 then M20 else ⟨[], []⟩) else (bif Nat.beq k 21 then M21 else ⟨[], []⟩)))) else (bif Nat.blt k 25 then (bif Nat.blt k 23 then (bif Nat.beq k 22 then M22 else ⟨[], []⟩) else (bif Nat.blt k 24 then (bif Nat.beq k 23 then M23 else ⟨[], []⟩) else (bif Nat.beq k 24 then M24 else ⟨[], []⟩))) else (bif Nat.blt k 26 then (bif Nat.beq k 25 then M25 else ⟨[], []⟩) else (bif Nat.blt k 27 then (bif Nat.beq k 26 then M26 else ⟨[], []⟩) else (bif Nat.beq k 27 then M27 else ⟨[], []⟩)))))) else (bif Nat.blt k 40 then (bif Nat.blt k 34 then (bif Nat.blt k 31 then (bif Nat.blt k 29 then (bif Nat.beq k 28 then M28 else ⟨[], []⟩) else (bif Nat.blt k 30 then (bif Nat.beq k 29 then M29 else ⟨[], []⟩) else (bif Nat.beq k 30 then M30 else ⟨[], []⟩))) else (bif Nat.blt k 32 then (bif Nat.beq k 31 then M31 else ⟨[], []⟩) else (bif Nat.blt k 33 then (bif Nat.beq k 32 then M32 else ⟨[], []⟩) else (bif Nat.beq k 33 then M33 else ⟨[], []⟩)))) else (bif Nat.blt k 37 then (bif Nat.blt k 35 then (bif Nat.beq k 34 then M34 else ⟨[], []⟩) else (bif Nat.blt k 36 then (bif Nat.beq k 35 then M35 else ⟨[], []⟩) else (bif Nat.beq k 36 then M36 else ⟨[], []⟩))) else (bif Nat.blt k 38 then (bif Nat.beq k 37 then M37 else ⟨[], []⟩) else (bif Nat.blt k 39 then (bif Nat.beq k 38 then M38 else ⟨[], []⟩) else (bif Nat.beq k 39 then M39 else ⟨[], []⟩))))) else (bif Nat.blt k 46 then (bif Nat.blt k 43 then (bif Nat.blt k 41 then (bif Nat.beq k 40 then M40 else ⟨[], []⟩) else (bif Nat.blt k 42 then (bif Nat.beq k 41 then M41 else ⟨[], []⟩) else (bif Nat.beq k 42 then M42 else ⟨[], []⟩))) else (bif Nat.blt k 44 then (bif Nat.beq k 43 then M43 else ⟨[], []⟩) else (bif Nat.blt k 45 then (bif Nat.beq k 44 then M44 else ⟨[], []⟩) else (bif Nat.beq k 45 then M45 else ⟨[], []⟩)))) else (bif Nat.blt k 51 then (bif Nat.blt k 47 then (bif Nat.beq k 46 then M46 else ⟨[], []⟩) else (bif Nat.blt k 50 then (bif Nat.beq k 47 then M47 else ⟨[], []⟩) else (bif Nat.beq k 50 then M50 else ⟨[], []⟩))) else (bif Nat.blt k 53 then (bif Nat.blt k 52 then (bif Nat.beq k 51 then M51 else ⟨[], []⟩) else (bif Nat.beq k 52 then M52 else ⟨[], []⟩)) else (bif Nat.blt k 54 then (bif Nat.beq k 53 then M53 else ⟨[], []⟩) else (bif Nat.beq k 54 then M54 else ⟨[], []⟩))))))) else (bif Nat.blt k 80 then (bif Nat.blt k 67 then (bif Nat.blt k 61 then (bif Nat.blt k 58 then (bif Nat.blt k 56 then (bif Nat.beq k 55 then M55 else ⟨[], []⟩) else (bif Nat.blt k 57 then (bif Nat.beq k 56 then M56 else ⟨[], []⟩) else (bif Nat.beq k 57 then M57 else ⟨[], []⟩))) else (bif Nat.blt k 59 then (bif Nat.beq k 58 then M58 else ⟨[], []⟩) else (bif Nat.blt k 60 then (bif Nat.beq k 59 then M59 else ⟨[], []⟩) else (bif Nat.beq k 60 then M60 else ⟨[], []⟩)))) else (bif Nat.blt k 64 then (bif Nat.blt k 62 then (bif Nat.beq k 61 then M61 else ⟨[], []⟩) else (bif Nat.blt k 63 then (bif Nat.beq k 62 then M62 else ⟨[], []⟩) else (bif Nat.beq k 63 then M63 else ⟨[], []⟩))) else (bif Nat.blt k 65 then (bif Nat.beq k 64 then M64 else ⟨[], []⟩) else (bif Nat.blt k 66 then (bif Nat.beq k 65 then M65 else ⟨[], []⟩) else (bif Nat.beq k 66 then M66 else ⟨[], []⟩))))) else (bif Nat.blt k 73 then (bif Nat.blt k 70 then (bif Nat.blt k 68 then (bif Nat.beq k 67 then M67 else ⟨[], []⟩) else (bif Nat.blt k 69 then (bif Nat.beq k 68 then M68 else ⟨[], []⟩) else (bif Nat.beq k 69 then M69 else ⟨[], []⟩))) else (bif Nat.blt k 71 then (bif Nat.beq k 70 then M70 else ⟨[], []⟩) else (bif Nat.blt k 72 then (bif Nat.beq k 71 then M71 else ⟨[], []⟩) else (bif Nat.beq k 72 then M72 else ⟨[], []⟩)))) else (bif Nat.blt k 76 then (bif Nat.blt k 74 then (bif Nat.beq k 73 then M73 else ⟨[], []⟩) else (bif Nat.blt k 75 then (bif Nat.beq k 74 then M74 else ⟨[], []⟩) else (bif Nat.beq k 75 then M75 else ⟨[], []⟩))) else (bif Nat.blt k 78 then (bif Nat.blt k 77 then (bif Nat.beq k 76 then M76 else ⟨[], []⟩) else (bif Nat.beq k 77 then M77 else ⟨[], []⟩)) else (bif Nat.blt k 79 then (bif Nat.beq k 78 then M78 else ⟨[], []⟩) else (bif Nat.beq k 79 then M79 else ⟨[], []⟩)))))) else (bif Nat.blt k 95 then (bif Nat.blt k 89 then (bif Nat.blt k 83 then (bif Nat.blt k 81 then (bif Nat.beq k 80 then M80 else ⟨[], []⟩) else (bif Nat.blt k 82 then (bif Nat.beq k 81 then M81 else ⟨[], []⟩) else (bif Nat.beq k 82 then M82 else ⟨[], []⟩))) else (bif Nat.blt k 87 then (bif Nat.beq k 83 then M83 else ⟨[], []⟩) else (bif Nat.blt k 88 then (bif Nat.beq k 87 then M87 else ⟨[], []⟩) else (bif Nat.beq k 88 then M88 else ⟨[], []⟩)))) else (bif Nat.blt k 92 then (bif Nat.blt k 90 then (bif Nat.beq k 89 then M89 else ⟨[], []⟩) else (bif Nat.blt k 91 then (bif Nat.beq k 90 then M90 else ⟨[], []⟩) else (bif Nat.beq k 91 then M91 else ⟨[], []⟩))) else (bif Nat.blt k 93 then (bif Nat.beq k 92 then M92 else ⟨[], []⟩) else (bif Nat.blt k 94 then (bif Nat.beq k 93 then M93 else ⟨[], []⟩) else (bif Nat.beq k 94 then M94 else ⟨[], []⟩))))) else (bif Nat.blt k 101 then (bif Nat.blt k 98 then (bif Nat.blt k 96 then (bif Nat.beq k 95 then M95 else ⟨[], []⟩) else (bif Nat.blt k 97 then (bif Nat.beq k 96 then M96 else ⟨[], []⟩) else (bif Nat.beq k 97 then M97 else ⟨[], []⟩))) else (bif Nat.blt k 99 then (bif Nat.beq k 98 then M98 else ⟨[], []⟩) else (bif Nat.blt k 100 then (bif Nat.beq k 99 then M99 else ⟨[], []⟩) else (bif Nat.beq k 100 then M100 else ⟨[], []⟩)))) else (bif Nat.blt k 104 then (bif Nat.blt k 102 then (bif Nat.beq k 101 then M101 else ⟨[], []⟩) else (bif Nat.blt k 103 then (bif Nat.beq k 102 then M102 else ⟨[], []⟩) else (bif Nat.beq k 103 then M103 else ⟨[], []⟩))) else (bif Nat.blt k 106 then (bif Nat.blt k 105 then (bif Nat.beq k 104 then M104 else ⟨[], []⟩) else (bif Nat.beq k 105 then M105 else ⟨[], []⟩)) else (bif Nat.blt k 107 then (bif Nat.beq k 106 then M106 else ⟨[], []⟩) else (bif Nat.beq k 107 then M107 else ⟨[], []⟩)))))))) else (bif Nat.blt k 161 then (bif Nat.blt k 133 then (bif Nat.blt k 120 then (bif Nat.blt k 114 then (bif Nat.blt k 111 then (bif Nat.blt k 109 then (bif Nat.beq k 108 then M108 else ⟨[], []⟩) else (bif Nat.blt k 110 then (bif Nat.beq k 109 then M109 else ⟨[], []⟩) else (bif Nat.beq k 110 then M110 else ⟨[], []⟩))) else (bif Nat.blt k 112 then (bif Nat.beq k 111 then M111 else ⟨[], []⟩) else (bif Nat.blt k 113 then (bif Nat.beq k 112 then M112 else ⟨[], []⟩) else (bif Nat.beq k 113 then M113 else ⟨[], []⟩)))) else (bif Nat.blt k 117 then (bif Nat.blt k 115 then (bif Nat.beq k 114 then M114 else ⟨[], []⟩) else (bif Nat.blt k 116 then (bif Nat.beq k 115 then M115 else ⟨[], []⟩) else (bif Nat.beq k 116 then M116 else ⟨[], []⟩))) else (bif Nat.blt k 118 then (bif Nat.beq k 117 then M117 else ⟨[], []⟩) else (bif Nat.blt k 119 then (bif Nat.beq k 118 then M118 else ⟨[], []⟩) else (bif Nat.beq k 119 then M119 else ⟨[], []⟩))))) else (bif Nat.blt k 126 then (bif Nat.blt k 123 then (bif Nat.blt k 121 then (bif Nat.beq k 120 then M120 else ⟨[], []⟩) else (bif Nat.blt k 122 then (bif Nat.beq k 121 then M121 else ⟨[], []⟩) else (bif Nat.beq k 122 then M122 else ⟨[], []⟩))) else (bif Nat.blt k 124 then (bif Nat.beq k 123 then M123 else ⟨[], []⟩) else (bif Nat.blt k 125 then (bif Nat.beq k 124 then M124 else ⟨[], []⟩) else (bif Nat.beq k 125 then M125 else ⟨[], []⟩)))) else (bif Nat.blt k 129 then (bif Nat.blt k 127 then (bif Nat.beq k 126 then M126 else ⟨[], []⟩) else (bif Nat.blt k 128 then (bif Nat.beq k 127 then M127 else ⟨[], []⟩) else (bif Nat.beq k 128 then M128 else ⟨[], []⟩))) else (bif Nat.blt k 131 then (bif Nat.blt k 130 then (bif Nat.beq k 129 then M129 else ⟨[], []⟩) else (bif Nat.beq k 130 then M130 else ⟨[], []⟩)) else (bif Nat.blt k 132 then (bif Nat.beq k 131 then M131 else ⟨[], []⟩) else (bif Nat.beq k 132 then M132 else ⟨[], []⟩)))))) else (bif Nat.blt k 148 then (bif Nat.blt k 139 then (bif Nat.blt k 136 then (bif Nat.blt k 134 then (bif Nat.beq k 133 then M133 else ⟨[], []⟩) else (bif Nat.blt k 135 then (bif Nat.beq k 134 then M134 else ⟨[], []⟩) else (bif Nat.beq k 135 then M135 else ⟨[], []⟩))) else (bif Nat.blt k 137 then (bif Nat.beq k 136 then M136 else ⟨[], []⟩) else (bif Nat.blt k 138 then (bif Nat.beq k 137 then M137 else ⟨[], []⟩) else (bif Nat.beq k 138 then M138 else ⟨[], []⟩)))) else (bif Nat.blt k 145 then (bif Nat.blt k 143 then (bif Nat.beq k 139 then M139 else ⟨[], []⟩) else (bif Nat.blt k 144 then (bif Nat.beq k 143 then M143 else ⟨[], []⟩) else (bif Nat.beq k 144 then M144 else ⟨[], []⟩))) else (bif Nat.blt k 146 then (bif Nat.beq k 145 then M145 else ⟨[], []⟩) else (bif Nat.blt k 147 then (bif Nat.beq k 146 then M146 else ⟨[], []⟩) else (bif Nat.beq k 147 then M147 else ⟨[], []⟩))))) else (bif Nat.blt k 154 then (bif Nat.blt k 151 then (bif Nat.blt k 149 then (bif Nat.beq k 148 then M148 else ⟨[], []⟩) else (bif Nat.blt k 150 then (bif Nat.beq k 149 then M149 else ⟨[], []⟩) else (bif Nat.beq k 150 then M150 else ⟨[], []⟩))) else (bif Nat.blt k 152 then (bif Nat.beq k 151 then M151 else ⟨[], []⟩) else (bif Nat.blt k 153 then (bif Nat.beq k 152 then M152 else ⟨[], []⟩) else (bif Nat.beq k 153 then M153 else ⟨[], []⟩)))) else (bif Nat.blt k 157 then (bif Nat.blt k 155 then (bif Nat.beq k 154 then M154 else ⟨[], []⟩) else (bif Nat.blt k 156 then (bif Nat.beq k 155 then M155 else ⟨[], []⟩) else (bif Nat.beq k 156 then M156 else ⟨[], []⟩))) else (bif Nat.blt k 159 then (bif Nat.blt k 158 then (bif Nat.beq k 157 then M157 else ⟨[], []⟩) else (bif Nat.beq k 158 then M158 else ⟨[], []⟩)) else (bif Nat.blt k 160 then (bif Nat.beq k 159 then M159 else ⟨[], []⟩) else (bif Nat.beq k 160 then M160 else ⟨[], []⟩))))))) else (bif Nat.blt k 194 then (bif Nat.blt k 173 then (bif Nat.blt k 167 then (bif Nat.blt k 164 then (bif Nat.blt k 162 then (bif Nat.beq k 161 then M161 else ⟨[], []⟩) else (bif Nat.blt k 163 then (bif Nat.beq k 162 then M162 else ⟨[], []⟩) else (bif Nat.beq k 163 then M163 else ⟨[], []⟩))) else (bif Nat.blt k 165 then (bif Nat.beq k 164 then M164 else ⟨[], []⟩) else (bif Nat.blt k 166 then (bif Nat.beq k 165 then M165 else ⟨[], []⟩) else (bif Nat.beq k 166 then M166 else ⟨[], []⟩)))) else (bif Nat.blt k 170 then (bif Nat.blt k 168 then (bif Nat.beq k 167 then M167 else ⟨[], []⟩) else (bif Nat.blt k 169 then (bif Nat.beq k 168 then M168 else ⟨[], []⟩) else (bif Nat.beq k 169 then M169 else ⟨[], []⟩))) else (bif Nat.blt k 171 then (bif Nat.beq k 170 then M170 else ⟨[], []⟩) else (bif Nat.blt k 172 then (bif Nat.beq k 171 then M171 else ⟨[], []⟩) else (bif Nat.beq k 172 then M172 else ⟨[], []⟩))))) else (bif Nat.blt k 187 then (bif Nat.blt k 176 then (bif Nat.blt k 174 then (bif Nat.beq k 173 then M173 else ⟨[], []⟩) else (bif Nat.blt k 175 then (bif Nat.beq k 174 then M174 else ⟨[], []⟩) else (bif Nat.beq k 175 then M175 else ⟨[], []⟩))) else (bif Nat.blt k 185 then (bif Nat.beq k 176 then M176 else ⟨[], []⟩) else (bif Nat.blt k 186 then (bif Nat.beq k 185 then M185 else ⟨[], []⟩) else (bif Nat.beq k 186 then M186 else ⟨[], []⟩)))) else (bif Nat.blt k 190 then (bif Nat.blt k 188 then (bif Nat.beq k 187 then M187 else ⟨[], []⟩) else (bif Nat.blt k 189 then (bif Nat.beq k 188 then M188 else ⟨[], []⟩) else (bif Nat.beq k 189 then M189 else ⟨[], []⟩))) else (bif Nat.blt k 192 then (bif Nat.blt k 191 then (bif Nat.beq k 190 then M190 else ⟨[], []⟩) else (bif Nat.beq k 191 then M191 else ⟨[], []⟩)) else (bif Nat.blt k 193 then (bif Nat.beq k 192 then M192 else ⟨[], []⟩) else (bif Nat.beq k 193 then M193 else ⟨[], []⟩)))))) else (bif Nat.blt k 231 then (bif Nat.blt k 203 then (bif Nat.blt k 197 then (bif Nat.blt k 195 then (bif Nat.beq k 194 then M194 else ⟨[], []⟩) else (bif Nat.blt k 196 then (bif Nat.beq k 195 then M195 else ⟨[], []⟩) else (bif Nat.beq k 196 then M196 else ⟨[], []⟩))) else (bif Nat.blt k 198 then (bif Nat.beq k 197 then M197 else ⟨[], []⟩) else (bif Nat.blt k 202 then (bif Nat.beq k 198 then M198 else ⟨[], []⟩) else (bif Nat.beq k 202 then M202 else ⟨[], []⟩)))) else (bif Nat.blt k 220 then (bif Nat.blt k 204 then (bif Nat.beq k 203 then M203 else ⟨[], []⟩) else (bif Nat.blt k 205 then (bif Nat.beq k 204 then M204 else ⟨[], []⟩) else (bif Nat.beq k 205 then M205 else ⟨[], []⟩))) else (bif Nat.blt k 221 then (bif Nat.beq k 220 then M220 else ⟨[], []⟩) else (bif Nat.blt k 222 then (bif Nat.beq k 221 then M221 else ⟨[], []⟩) else (bif Nat.beq k 222 then M222 else ⟨[], []⟩))))) else (bif Nat.blt k 241 then (bif Nat.blt k 234 then (bif Nat.blt k 232 then (bif Nat.beq k 231 then M231 else ⟨[], []⟩) else (bif Nat.blt k 233 then (bif Nat.beq k 232 then M232 else ⟨[], []⟩) else (bif Nat.beq k 233 then M233 else ⟨[], []⟩))) else (bif Nat.blt k 238 then (bif Nat.beq k 234 then M234 else ⟨[], []⟩) else (bif Nat.blt k 239 then (bif Nat.beq k 238 then M238 else ⟨[], []⟩) else (bif Nat.beq k 239 then M239 else ⟨[], []⟩)))) else (bif Nat.blt k 244 then (bif Nat.blt k 242 then (bif Nat.beq k 241 then M241 else ⟨[], []⟩) else (bif Nat.blt k 243 then (bif Nat.beq k 242 then M242 else ⟨[], []⟩) else (bif Nat.beq k 243 then M243 else ⟨[], []⟩))) else (bif Nat.blt k 246 then (bif Nat.blt k 245 then (bif Nat.beq k 244 then M244 else ⟨[], []⟩) else (bif Nat.beq k 245 then M245 else ⟨[], []⟩)) else (bif Nat.blt k 247 then (bif Nat.beq k 246 then M246 else ⟨[], []⟩) else (bif Nat.beq k 247 then M247 else ⟨[], []⟩)))))))))
end Go.Proofs.Ytadmoackacickaa
/- FnExactLex: the row, given what the small evaluator says. -/
namespace Go.Proofs.Ytadmoackacickaa
open Go.ChangeShapes Go.WideShapes Go.ChangeAt Go.RowKit Go.ChangeMaps Go.AH

theorem own : ownKnob Try.prog.godebug = none := by kernel_rfl
theorem fnOk : Try.prog.funcs.all (fun (fn : Func) => fn.name != "runtime.NumGoroutine") = true := by kernel_rfl
theorem uStr : Try.prog.underlying 9 = some .string := by kernel_rfl
theorem uBool : Try.prog.underlying 4 = some .bool := by kernel_rfl
theorem mixed : Try.prog.follows .mixedOrders = true := Checked.mixed Try.checked

end Go.Proofs.Ytadmoackacickaa
/- Plain laws of the small evaluator's heap: frames, rows that are one's own. -/
namespace Go.AH

/-- Below b nothing has turned. -/
structure Ext (b : Nat) (h h' : AHeap) : Prop where
  size : h.size ≤ h'.size
  obj : ∀ i, i < b → h'.obj i = h.obj i
  ep : ∀ e r, r < b → h'.ep e r = h.ep e r
  tip : ∀ e r, r < b → h'.tip e r = h.tip e r
theorem Ext.refl (b : Nat) (h : AHeap) : Ext b h h := ⟨Nat.le_refl _, fun _ _ => rfl, fun _ _ _ => rfl, fun _ _ _ => rfl⟩
theorem Ext.trans {b : Nat} {h h' h'' : AHeap} (x : Ext b h h') (y : Ext b h' h'') : Ext b h h'' :=
  ⟨Nat.le_trans x.size y.size, fun i hi => (y.obj i hi).trans (x.obj i hi), fun e r hr => (y.ep e r hr).trans (x.ep e r hr), fun e r hr => (y.tip e r hr).trans (x.tip e r hr)⟩
theorem Ext.mono {b c : Nat} {h h' : AHeap} (x : Ext b h h') (hc : c ≤ b) : Ext c h h' :=
  ⟨x.size, fun i hi => x.obj i (by omega), fun e r hr => x.ep e r (by omega), fun e r hr => x.tip e r (by omega)⟩
theorem Ext.at? {b : Nat} {h h' : AHeap} (x : Ext b h h') {i : Nat} {o : AObj} (hi : i < b) (ho : h.at? i = some o) : h'.at? i = some o := by
  obtain ⟨h1, h2, h3, h4⟩ := at?_obj ho
  exact at?_mk ((x.obj i hi).trans h1) (by have := x.size; omega) h3 ((x.ep _ _ (by omega)).trans h4)
theorem Ext.new {b : Nat} {h : AHeap} (hb : b ≤ h.size) (e : TypeId) (cs : List Value) : Ext b h (h.new e cs) :=
  ⟨by simp [AHeap.new], fun i hi => by simp [AHeap.new]; omega, fun _ _ _ => rfl, fun e' r hr => by simp [AHeap.new]; omega⟩
theorem Ext.put {b : Nat} {h : AHeap} {i : Nat} {o : AObj} (hi : b ≤ i) (hr : b ≤ o.root) (cs : List Value) : Ext b h (h.put i o cs) :=
  ⟨Nat.le_refl _, fun j hj => by simp [AHeap.put]; omega, fun e r h' => by simp [AHeap.put]; omega, fun e r h' => by simp [AHeap.put]; omega⟩
theorem Ext.app {b : Nat} {h : AHeap} {o : AObj} (hb : b ≤ h.size) (hr : b ≤ o.root) (k : Nat) (cs : List Value) : Ext b h (h.app o k cs) :=
  ⟨by simp [AHeap.app], fun j hj => by simp [AHeap.app]; omega, fun e r h' => by simp only [AHeap.app]; rw [if_neg (by omega)], fun e r h' => by simp only [AHeap.app]; rw [if_neg (by omega)]⟩

/-- A row that may be written, of a family from b on. -/
def Own (b : Nat) (h : AHeap) (i : Nat) (e : TypeId) (cs : List Value) : Prop := ∃ root ep, h.at? i = some ⟨root, ep, false, e, cs⟩ ∧ b ≤ root
/-- A row that can be read. -/
def Row (h : AHeap) (i : Nat) (cs : List Value) : Prop := ∃ o, h.at? i = some o ∧ o.cells = cs
theorem Own.row {b : Nat} {h : AHeap} {i : Nat} {e : TypeId} {cs : List Value} (x : Own b h i e cs) : Row h i cs := let ⟨_, _, h1, _⟩ := x; ⟨_, h1, rfl⟩
theorem Own.lt {b : Nat} {h : AHeap} {i : Nat} {e : TypeId} {cs : List Value} (x : Own b h i e cs) : b ≤ i ∧ i < h.size := by
  obtain ⟨r, ep, h1, h2⟩ := x
  obtain ⟨_, h3, h4, _⟩ := at?_obj h1
  exact ⟨Nat.le_trans h2 h4, h3⟩
theorem Own.ext {b c : Nat} {h h' : AHeap} {i : Nat} {e : TypeId} {cs : List Value} (x : Own b h i e cs) (y : Ext c h h') (hi : i < c) : Own b h' i e cs :=
  let ⟨r, ep, h1, h2⟩ := x; ⟨r, ep, y.at? hi h1, h2⟩
theorem Row.ext {c : Nat} {h h' : AHeap} {i : Nat} {cs : List Value} (x : Row h i cs) (y : Ext c h h') (hi : i < c) : Row h' i cs :=
  let ⟨o, h1, h2⟩ := x; ⟨o, y.at? hi h1, h2⟩
theorem Own.new {b : Nat} {h : AHeap} (hb : b ≤ h.size) (e : TypeId) (cs : List Value) : Own b (h.new e cs) h.size e cs := ⟨_, _, at?_new_same h e cs, hb⟩
theorem Row.rd {h : AHeap} {i off n : Nat} {cs : List Value} (x : Row h i cs) (hn : off + n ≤ cs.length) : h.rd i off n = some ((cs.drop off).take n) := by
  obtain ⟨o, h1, rfl⟩ := x
  simp [AHeap.rd, h1, hn]
theorem Row.ld1 {h : AHeap} {i off : Nat} {cs : List Value} {v : Value} (x : Row h i cs) (hv : cs[off]? = some v) : aLd1 h (ptr i off) = some v := by
  have hl := (List.getElem?_eq_some_iff.1 hv).1
  simp only [aLd1, ptr, x.rd (off := off) (n := 1) (by omega), Option.bind_some]
  rw [List.head?_take, if_neg (by omega), List.head?_drop, hv]
theorem Row.ldN {h : AHeap} {i off n : Nat} {cs : List Value} (x : Row h i cs) (hn : off + n ≤ cs.length) : aLdN h (ptr i off) n = some (.agg ((cs.drop off).take n).toArray) := by
  simp [aLdN, ptr, x.rd hn]
theorem Own.st {b : Nat} {h : AHeap} {i off n : Nat} {e : TypeId} {cs vs : List Value} {v : Value} (x : Own b h i e cs) (hv : aCells v = some vs) (hl : vs.length = n) (hn : off + n ≤ cs.length) :
    ∃ h', aSt h (ptr i off) v n = some h' ∧ Ext b h h' ∧ Own b h' i e (splice cs off vs) ∧ h'.size = h.size ∧
      (∀ j cs', Row h j cs' → (∀ o, h.at? j = some o → ¬ (o.elem = e ∧ ∃ oi, h.at? i = some oi ∧ o.root = oi.root)) → j ≠ i → Row h' j cs') := by
  obtain ⟨r, ep, h1, h2⟩ := x
  have hi := at?_obj h1
  refine ⟨h.put i ⟨r, ep, false, e, cs⟩ (splice cs off vs), by simp [aSt, ptr, h1, hv, hl, hn], Ext.put (Nat.le_trans h2 hi.2.2.1) h2 _, ⟨_, _, at?_put_same h1 _, h2⟩, rfl, fun j cs' ⟨o, ho, hc⟩ hf hne => ?_⟩
  exact ⟨o, at?_put_other ho hne _ (fun hh => hf o ho ⟨hh.1, _, h1, hh.2⟩), hc⟩
theorem Own.app {b : Nat} {h : AHeap} {i n m esz bytes : Nat} {e : TypeId} {cs ms : List Value} {x : Value} (o : Own b h i e cs) (hb : b ≤ h.size) (hsrc : aSrc h esz x = some (m, ms)) (hn : n * esz = cs.length)
    (h1 : n + m ≤ most) (h2 : (n + m) * bytes ≤ most) :
    ∃ h', aApp h e esz bytes (slc i 0 n) x = some (slc h.size 0 (n + m), h') ∧ Ext b h h' ∧ Own b h' h.size e (cs ++ ms) ∧ h'.size = h.size + 1 := by
  obtain ⟨r, ep, ha, hr⟩ := o
  refine ⟨h.app ⟨r, ep, false, e, cs⟩ (n * esz) (cs ++ ms), ?_, Ext.app hb hr _ _, ⟨_, _, at?_app_same ha _ _, hr⟩, rfl⟩
  simp [aApp, aAppG, slc, ha, hsrc, hn, h1, h2]
theorem Row.src {h : AHeap} {i off n esz : Nat} {cs : List Value} (x : Row h i cs) (hn : off + n * esz ≤ cs.length) : aSrc h esz (slc i off n) = some (n, (cs.drop off).take (n * esz)) := by
  simp [aSrc, slc, x.rd hn]
end Go.AH
