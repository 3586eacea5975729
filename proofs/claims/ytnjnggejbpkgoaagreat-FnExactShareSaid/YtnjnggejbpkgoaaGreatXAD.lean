import Derived.Test.YtnjnggejbpkgoaaGreatXAC
import Derived.LoopN
import Derived.WalkKit
import Derived.ProofKit
import Derived.OpenShut
import Derived.JoinedCond
import Derived.ChangeMaps5
import Derived.Deep.Slices
import Derived.Test.YtnjnggejbpkgoaaGreatXAA
set_option linter.unusedSimpArgs false
set_option linter.unusedVariables false
/- A region that draws its order: the walk. -/
namespace Go.AH
open Go.RowKit Go.Lib
variable {P : Program} {w0 : W0} {w : World} {ι : Inj} {h : AHeap}
section
variable {L : Bool} {ops : Array Oper} {C : ACall} {R : Type} {D : List Deferred} {k : Tm → AHeap → Option R} {r : R}
structure LFact (P : Program) (ops : Array Oper) (fz : Nat → Option Fz) (Λ : List (Nat × Nat)) (t : Tm) (j : Nat) (o : Oper) : Prop where
 at' : ops[j]? = some o
 late : isLate o.op = true
 says : (gW ops o t = some true ∧ ∃ i f v, (j, i) ∈ Λ ∧ fz i = some f ∧ lateV P o.op t = some (f, v) ∧ ∀ d, o.dst = some d → d < t.n → t.getD d junk = lval v i) ∨
  (gW ops o t = some false ∧ (∀ i, (j, i) ∉ Λ) ∧ ∀ d, o.dst = some d → d < t.n → t.getD d junk = undef)
theorem LFact.put {fz fz' : Nat → Option Fz} {Λ Λ' : List (Nat × Nat)} {t : Tm} {j : Nat} {o : Oper} (f : LFact P ops fz Λ t j o) {dst : Option Tmp} {v : Value} (hd : ∀ d, dst = some d → d ∉ looks ops j ∧ dstOf ops j ≠ some d)
  (hz : ∀ i g, (j, i) ∈ Λ → fz i = some g → (j, i) ∈ Λ' ∧ fz' i = some g) (hz2 : ∀ i, (j, i) ∈ Λ' → (j, i) ∈ Λ) : LFact P ops fz' Λ' (put t dst v) j o := by
 have e : ∀ d ∈ looks ops j, (AH.put t dst v).getD d junk = t.getD d junk := fun d hl => put_getD fun e => (hd d e).1 hl
 have e2 : ∀ d, o.dst = some d → (AH.put t dst v).getD d junk = t.getD d junk := fun d ho => put_getD fun e => (hd d e).2 (by simp [dstOf, f.at', ho])
 refine ⟨f.at', f.late, ?_⟩
 rw [gW_congr f.at' e, lateV_congr (evX_congr f.at' e)]
 refine f.says.imp (fun ⟨h1, i, g, v, h2, h3, h4, h5⟩ => ⟨h1, i, g, v, (hz i g h2 h3).1, (hz i g h2 h3).2, h4, fun d h6 h7 => ?_⟩) fun ⟨h1, h2, h3⟩ => ⟨h1, fun i hi => h2 i (hz2 i hi), fun d h4 h5 => ?_⟩
 ·rw [e2 d h6]; exact h5 d h6 (by rwa [put_len] at h7)
 ·rw [e2 d h4]; exact h3 d h4 (by rwa [put_len] at h5)
theorem LFact.same {fz : Nat → Option Fz} {Λ : List (Nat × Nat)} {t t' : Tm} (hs : Same t t') {j : Nat} {o : Oper} (f : LFact P ops fz Λ t j o) : LFact P ops fz Λ t' j o := by
 have e : ∀ d ∈ looks ops j, t'.getD d junk = t.getD d junk := fun d _ => hs.at' d
 refine ⟨f.at', f.late, ?_⟩
 rw [gW_congr f.at' e, lateV_congr (evX_congr f.at' e)]
 refine f.says.imp (fun ⟨h1, i, g, v, h2, h3, h4, h5⟩ => ⟨h1, i, g, v, h2, h3, h4, fun d h6 h7 => ?_⟩) fun ⟨h1, h2, h3⟩ => ⟨h1, h2, fun d h4 h5 => ?_⟩
 ·rw [hs.at']; exact h5 d h6 (by rwa [hs.n] at h7)
 ·rw [hs.at']; exact h3 d h4 (by rwa [hs.n] at h5)
def Facts (P : Program) (C : ACall) (ops : Array Oper) (fz : Nat → Option Fz) (Λ : List (Nat × Nat)) (rs : List Nat) (t : Tm) (h : AHeap) (j : Nat) : Prop :=
 ∃ o, (Fact P C ops t h j o ∧ (isRd o.op = true → j ∈ rs ∨ gW ops o t = some false)) ∨ LFact P ops fz Λ t j o
structure Lam (w0 : W0) (ops : Array Oper) (fz : Nat → Option Fz) (X : List Nat) (listed : Array Bool) (Λ : List (Nat × Nat)) : Prop where
 mem : ∀ x ∈ Λ, x.1 ∈ X ∧ Unl listed x.1 ∧ w0.fz x.2 = none ∧ ∃ f, fz x.2 = some f
 late : ∀ x ∈ Λ, ∃ o, ops[x.1]? = some o ∧ isLate o.op = true
 pw : Λ.Pairwise fun a b => a.1 ≠ b.1 ∧ a.2 ≠ b.2
 fz1 : ∀ i f, w0.fz i = some f → fz i = some f
 fz2 : ∀ i f, fz i = some f → w0.fz i = some f ∨ ∃ j, (j, i) ∈ Λ
structure Inv (P : Program) (w0 : W0) (C : ACall) (L : Bool) (ops : Array Oper) (D : List Deferred) (k : Tm → AHeap → Option R) (r : R)
  (ι : Inj) (fz : Nat → Option Fz) (Λ : List (Nat × Nat)) (X ρ rs : List Nat) (listed : Array Bool) (t : Tm) (h : AHeap) (a : Act) (w : World) : Prop where
 ok : DrawOk L ops (X ++ ρ)
 size : listed.size = ops.size
 closed : ∀ j o, ops[j]? = some o → listed.getD j false = true → ∀ e ∈ o.after, Region.binds .any e = true → listed.getD e.on false = true
 un : ∀ j ∈ ρ, Unl listed j
 effs : ∀ j ∈ X, eff L ops j = true → listed.getD j false = true
 run : evDraw P C L ops (pres ops) ρ rs t h k = some r
 H : HRel P ⟨w0.w, fz⟩ ι h w
 tr : TRm L ops X listed ι t a
 facts : ∀ j ∈ X, Unl listed j → Facts P C ops fz Λ rs t h j
 lam : Lam w0 ops fz X listed Λ
 defers : a.defers = D
variable {X ρ rs : List Nat} {listed : Array Bool} {t : Tm} {a : Act} {fz : Nat → Option Fz} {Λ : List (Nat × Nat)}
theorem Inv.same {X ρ rs : List Nat} {listed : Array Bool} {t t' : Tm} {a : Act} (I : Inv P w0 C L ops D k r ι fz Λ X ρ rs listed t h a w) (hs : Same t t') :
  TRm L ops X listed ι t' a ∧ (∀ j ∈ X, Unl listed j → Facts P C ops fz Λ rs t' h j) :=
 ⟨I.tr.same hs, fun j hj hu => let ⟨o, f⟩ := I.facts j hj hu; ⟨o, f.imp (fun ⟨f, hr⟩ => ⟨f.same hs, fun h => (hr h).imp id fun e => by rw [gW_congr f.at' fun d _ => hs.at' d]; exact e⟩) fun f => f.same hs⟩⟩
theorem op_of_eff {j : Nat} {o : Oper} (ho : ops[j]? = some o) : eff L ops j = effL L o.op := by simp [eff, ho]
theorem set_fz (w0 : W0) (fz : Nat → Option Fz) (i : Nat) (f : Option Fz) : (W0.set ⟨w0.w, fz⟩ i f) = ⟨w0.w, fun j => if j = i then f else fz j⟩ := rfl
theorem Inv.advance {j : Nat} (I : Inv P w0 C L ops D k r ι fz Λ X (j :: ρ) rs listed t h a w) (hj : eff L ops j = false) :
  ∃ rs' t' h' fz' Λ', Inv P w0 C L ops D k r ι fz' Λ' (X ++ [j]) ρ rs' listed t' h' a w := by
 have K := I.ok
 have hlt : j < ops.size := K.lt j (by simp)
 have ho : ops[j]? = some ops[j] := Array.getElem?_eq_getElem hlt
 generalize hoe : ops[j] = o at ho
 have hie : effL L o.op = false := by rw [← op_of_eff ho]; exact hj
 have hnot : ∀ d, o.dst = some d → d ∉ looks ops j := fun d hd hl => by
  have := K.ssa j (by simp) hj d (by simp [dstOf, ho, hd]) j (by simp) hl
  exact absurd (pre_lt K j this) (Nat.lt_irrefl _)
 have hpair := fun i (hi : i ∈ X) => drawRow_pair K.row i hi
 have hp : ∀ i ∈ X, ∀ d, o.dst = some d → d ∉ looks ops i ∧ dstOf ops i ≠ some d := fun i hi d hd => ⟨fun hl => by have := ((hpair i hi).1 d (by simp [dstOf, ho, hd])).1 hl; rw [hj] at this; exact absurd this.1 (by simp), ((hpair i hi).1 d (by simp [dstOf, ho, hd])).2⟩
 have step : ∀ (v : Value) (t : Tm) (h' : AHeap) (fz' : Nat → Option Fz) (Λ' : List (Nat × Nat)) (rs' : List Nat), TRm L ops X listed ι t a → HRel P ⟨w0.w, fz'⟩ ι h' w → Lam w0 ops fz' (X ++ [j]) listed Λ' →
   (∀ i ∈ X, Unl listed i → Facts P C ops fz' Λ' rs' (put t o.dst v) h' i) → Facts P C ops fz' Λ' rs' (put t o.dst v) h' j → evDraw P C L ops (pres ops) ρ rs' (put t o.dst v) h' k = some r →
   ∃ rs' t' h' fz' Λ', Inv P w0 C L ops D k r ι fz' Λ' (X ++ [j]) ρ rs' listed t' h' a w := by
  intro v t h' fz' Λ' rs' htr H' hl' hfacts hf hrun
  refine ⟨rs', put t o.dst v, h', fz', Λ', ⟨by simpa using K, I.size, I.closed, fun i hi => I.un i (List.mem_cons_of_mem _ hi), fun i hi he => ?_, hrun, H', ⟨by rw [put_len]; exact htr.len, fun s => ?_⟩, fun i hi hu => ?_, hl', I.defers⟩⟩
  ·rcases List.mem_append.1 hi with hi | hi
   ·exact I.effs i hi he
   ·simp at hi; subst hi; rw [hj] at he; cases he
  ·by_cases hs : o.dst = some s
   ·exact .inl ⟨j, by simp, I.un j (List.mem_cons_self ..), hj, by simp [dstOf, ho, hs]⟩
   ·rw [put_getD hs]
    exact (htr.slot s).imp (fun ⟨i, hi, x⟩ => ⟨i, List.mem_append_left _ hi, x⟩) id
  ·rcases List.mem_append.1 hi with hi | hi
   ·exact hfacts i hi hu
   ·simp at hi; subst hi; exact hf
 have e : ∀ (t : Tm) (v : Value), ∀ d ∈ looks ops j, (put t o.dst v).getD d junk = t.getD d junk := fun t v d hl => put_getD fun e => hnot d e hl
 have lam0 : Lam w0 ops fz (X ++ [j]) listed Λ := ⟨fun x hx => let ⟨h1, h2⟩ := I.lam.mem x hx; ⟨List.mem_append_left _ h1, h2⟩, I.lam.late, I.lam.pw, I.lam.fz1, I.lam.fz2⟩
 -- the others, where the heap stays
 have oth : ∀ (t : Tm) (v : Value) (rs' : List Nat), (∀ i ∈ rs, i ∈ rs') → (∀ i ∈ X, Unl listed i → Facts P C ops fz Λ rs t h i) → ∀ i ∈ X, Unl listed i → Facts P C ops fz Λ rs' (put t o.dst v) h i := by
  intro t v rs' hrs hfacts i hi hu
  obtain ⟨o', hf⟩ := hfacts i hi hu
  refine ⟨o', hf.imp (fun ⟨hf, hr⟩ => ⟨hf.put (hp i hi), fun h => (hr h).imp (hrs i) fun hg => ?_⟩) fun hf => hf.put (hp i hi) (fun _ _ a b => ⟨a, b⟩) fun _ a => a⟩
  rw [gW_congr hf.at' fun d hl => put_getD fun e => (hp i hi d e).1 hl]; exact hg
 have hrun := I.run
 simp only [evDraw, ho, hie, cond_false] at hrun
 cases hee : isEff o.op with
 | false =>
  rcases evG_inv hrun with ⟨hg, t', hs, he⟩ | ⟨hg, t', hs, he⟩
  ·rw [evOp_bind hee, Option.bind_eq_some_iff] at he
   obtain ⟨v, hv, he⟩ := he
   have he := nrm_inv he
   refine step v t' h fz Λ _ (I.same hs).1 I.H lam0 (oth t' v _ (fun i hi => ?_) (I.same hs).2) ⟨o, .inl ⟨⟨ho, hee, .inl ⟨by rw [gW_congr ho (e t' v), gW_congr ho fun d _ => hs.at' d]; exact hg, v, by rw [evOp_congr (evX_congr ho (e t' v))]; exact hv, fun d hd hl => by rw [hd, put_len] at *; exact put_same hl⟩⟩, fun hr => .inl ?_⟩⟩ he
   ·split
    ·exact List.mem_append_left _ hi
    ·exact hi
   ·rw [if_pos hr]; simp
  ·have hg' : gW ops o (put t' o.dst undef) = some false := by rw [gW_congr ho (e t' _), gW_congr ho fun d _ => hs.at' d]; exact hg
   exact step undef t' h fz Λ _ (I.same hs).1 I.H lam0 (oth t' undef _ (fun i hi => hi) (I.same hs).2) ⟨o, .inl ⟨⟨ho, hee, .inr ⟨hg', fun d hd hl => by rw [hd, put_len] at *; exact put_same hl⟩⟩, fun _ => .inr hg'⟩⟩ he
 | true =>
  have hla : isLate o.op = true := by
   unfold effL at hie
   rw [hee] at hie
   cases L <;> simp at hie; exact hie
  rcases evG_inv hrun with ⟨hg, t', hs, he⟩ | ⟨hg, t', hs, he⟩
  ·obtain ⟨f, v, hv, he⟩ := late_ev hla he
   have he := nrm_inv he
   have H' := I.H.freeze f
   rw [set_fz] at H'
   have hold : ∀ i g, fz i = some g → i ≠ h.size := fun i g hi => by have := (I.H.fz i g hi).1; omega
   have hfn : fz h.size = none := by
    cases e : fz h.size with
    | none => rfl
    | some g => exact absurd rfl (hold _ g e)
   refine step (lval v h.size) t' (hAdd h f) _ ((j, h.size) :: Λ) _ (I.same hs).1 H' ?_ (fun i hi hu => ?_) ⟨o, .inr ⟨ho, hla, .inl ⟨by rw [gW_congr ho (e t' _), gW_congr ho fun d _ => hs.at' d]; exact hg, h.size, f, v, List.mem_cons_self .., if_pos rfl,
    by rw [lateV_congr (evX_congr ho (e t' _))]; exact hv, fun d hd hl => by rw [hd, put_len] at *; exact put_same hl⟩⟩⟩ he
   ·refine ⟨fun x hx => ?_, fun x hx => ?_, List.pairwise_cons.2 ⟨fun x hx => ?_, I.lam.pw⟩, fun i g hi => ?_, fun i g hi => ?_⟩
    ·rcases List.mem_cons.1 hx with rfl | hx
     ·refine ⟨by simp, I.un j (List.mem_cons_self ..), ?_, f, if_pos rfl⟩
      cases e : w0.fz h.size with
      | none => rfl
      | some g => exact absurd rfl (hold _ g (I.lam.fz1 _ g e))
     ·obtain ⟨h1, h2, h3, g, h4⟩ := lam0.mem x hx
      exact ⟨h1, h2, h3, g, by show (if x.2 = h.size then _ else _) = _; rw [if_neg (hold _ g h4)]; exact h4⟩
    ·rcases List.mem_cons.1 hx with rfl | hx
     ·exact ⟨o, ho, hla⟩
     ·exact I.lam.late x hx
    ·obtain ⟨h1, h2, h3, g, h4⟩ := I.lam.mem x hx
     exact ⟨fun e => by have := (hpair x.1 h1).2.2; exact this e.symm, (hold _ g h4).symm⟩
    ·have := I.lam.fz1 i g hi
     show (if i = h.size then _ else _) = _
     rw [if_neg (hold _ g this)]; exact this
    ·by_cases hi2 : i = h.size
     ·exact .inr ⟨j, by rw [hi2]; exact List.mem_cons_self ..⟩
     ·have hi' : (if i = h.size then some f else fz i) = some g := hi
      rw [if_neg hi2] at hi'
      exact (I.lam.fz2 i g hi').imp id fun ⟨q, hq⟩ => ⟨q, List.mem_cons_of_mem _ hq⟩
   ·obtain ⟨o', hf⟩ := (I.same hs).2 i hi hu
    refine ⟨o', hf.imp (fun ⟨hf, hr⟩ => ?_) fun hf => hf.put (hp i hi) (fun x g a b => ⟨List.mem_cons_of_mem _ a, by show (if x = h.size then _ else _) = _; rw [if_neg (hold _ g b)]; exact b⟩) fun x hx => (List.mem_cons.1 hx).elim (fun e => absurd (congrArg Prod.fst e) (hpair i hi).2.2) id⟩
    have hf' := hf.put (v := lval v h.size) (hp i hi)
    have eg : gW ops o' (put t' o.dst (lval v h.size)) = gW ops o' t' := gW_congr hf.at' fun d hl => put_getD fun e => (hp i hi d e).1 hl
    refine ⟨?_, fun h => (hr h).imp (fun hx => by split; exact List.mem_append_left _ hx; exact hx) fun hg => by rw [eg]; exact hg⟩
    cases hrd : isRd o'.op with
    | false => exact hf'.heap hrd _
    | true => exact ⟨hf'.at', hf'.still, hf'.says.imp (fun ⟨h1, u, h2, h3⟩ => ⟨h1, u, evOp_hAdd I.H hrd h2, h3⟩) id⟩
  ·have hg' : gW ops o (put t' o.dst undef) = some false := by rw [gW_congr ho (e t' _), gW_congr ho fun d _ => hs.at' d]; exact hg
   exact step undef t' h fz Λ _ (I.same hs).1 I.H lam0 (oth t' undef _ (fun i hi => hi) (I.same hs).2) ⟨o, .inr ⟨ho, hla, .inr ⟨hg', fun i hi => by have := (hpair j (I.lam.mem _ hi).1).2.2; exact this rfl, fun d hd hl => by rw [hd, put_len] at *; exact put_same hl⟩⟩⟩ he
theorem Inv.advAll : ∀ (ρ : List Nat) {X rs : List Nat} {t : Tm} {h : AHeap} {fz : Nat → Option Fz} {Λ : List (Nat × Nat)}, Inv P w0 C L ops D k r ι fz Λ X ρ rs listed t h a w →
  ∃ X' ρ' rs' t' h' fz' Λ', Inv P w0 C L ops D k r ι fz' Λ' X' ρ' rs' listed t' h' a w ∧ ∀ j js, ρ' = j :: js → eff L ops j = true := by
 intro ρ
 induction ρ with
 | nil => intro X rs t h fz Λ I; exact ⟨X, [], rs, t, h, fz, Λ, I, by simp⟩
 | cons j js ih =>
  intro X rs t h fz Λ I
  cases hj : eff L ops j with
  | true => exact ⟨X, _, rs, t, h, fz, Λ, I, fun j' js' e => by cases e; exact hj⟩
  | false =>
   obtain ⟨rs', t', h', fz', Λ', I'⟩ := I.advance hj
   exact ih I'
theorem Inv.pre (I : Inv P w0 C L ops D k r ι fz Λ X ρ rs listed t h a w) : ∀ (j : Nat) {i : Nat},
  (∀ o, ops[j]? = some o → ∀ e ∈ o.after, Region.binds .any e = true → listed.getD e.on false = true) → ((pres ops).getD j 0).testBit i = true → listed.getD i false = true := by
 intro j
 induction j using Nat.strongRecOn with
 | _ j ih =>
  intro i hl hb
  obtain ⟨o, ho, e, he, hbi, hh⟩ := pres_spec hb
  have hon := hl o ho e he hbi
  rcases hh with hh | hh
  ·exact hh ▸ hon
  ·exact ih e.on (I.ok.top j o ho e he hbi) (fun o' ho' => I.closed e.on o' ho' hon) hh
theorem TRm.gW_sound {j : Nat} {o : Oper} (T : TRm L ops X listed ι t a) (ho : ops[j]? = some o) (hno : ∀ d ∈ looks ops j, ¬ Waits L ops X listed d) {b : Bool} (h : gW ops o t = some b) :
  Region.wanted o (yielded ops a.tmps) = b :=
 AH.gW_sound h fun g want d hg hd => (T.slot d).resolve_left (hno d (mem_looks_guard ho hg hd))
theorem set_unl {listed : Array Bool} {i j : Nat} (h : Unl (listed.setIfInBounds j true) i) : Unl listed i := by
 unfold Unl at *
 by_cases hij : j = i
 ·subst hij
  by_cases hl : j < listed.size
  ·simp [hl] at h
  ·simp [Array.getElem?_eq_none (Nat.le_of_not_lt hl)]
 ·rwa [Array.getD_eq_getD_getElem?, Array.getElem?_setIfInBounds_ne hij, ← Array.getD_eq_getD_getElem?] at h
theorem set_unl_ne {listed : Array Bool} {i j : Nat} (hl : j < listed.size) (h : Unl (listed.setIfInBounds j true) i) : i ≠ j := by
 rintro rfl; simp [Unl, hl] at h
theorem Inv.closed_set (I : Inv P w0 C L ops D k r ι fz Λ X ρ rs listed t h a w) {j : Nat} (hl : ∀ o, ops[j]? = some o → ∀ e ∈ o.after, Region.binds .any e = true → listed.getD e.on false = true) :
  ∀ i o, ops[i]? = some o → (listed.setIfInBounds j true).getD i false = true → ∀ e ∈ o.after, Region.binds .any e = true → (listed.setIfInBounds j true).getD e.on false = true := by
 intro i o ho hi e he hb
 refine getD_set_true ?_
 by_cases hij : j = i
 ·subst hij; exact hl o ho e he hb
 ·exact I.closed i o ho (by rwa [getD_set_ne false hij] at hi) e he hb
theorem waits_set {X : List Nat} {j s : Nat} (h : Waits L ops X (listed.setIfInBounds j true) s) : Waits L ops X listed s :=
 let ⟨i, hi, hu, x⟩ := h; ⟨i, hi, set_unl hu, x⟩
theorem pw_ne : ∀ {Λ : List (Nat × Nat)}, (Λ.Pairwise fun a b => a.1 ≠ b.1 ∧ a.2 ≠ b.2) → ∀ x ∈ Λ, ∀ y ∈ Λ, x = y ∨ (x.1 ≠ y.1 ∧ x.2 ≠ y.2)
 | [], _, x, hx, _, _ => by simp at hx
 | z :: Λ, h, x, hx, y, hy => by
  obtain ⟨h1, h2⟩ := List.pairwise_cons.1 h
  rcases List.mem_cons.1 hx with ex | hx' <;> rcases List.mem_cons.1 hy with ey | hy'
  ·exact .inl (ex.trans ey.symm)
  ·subst ex; exact .inr (h1 y hy')
  ·subst ey; exact .inr ⟨(h1 x hx').1.symm, (h1 x hx').2.symm⟩
  ·exact pw_ne h2 x hx' y hy'
theorem Inv.catch (hC : CallOk P w0 C) {Q : Exit → Act → World → Prop} (I : Inv P w0 C L ops D k r ι fz Λ X ρ rs listed t h a w) {j : Nat} (hj : j ∈ X) (hu : Unl listed j)
  (hl : ∀ o, ops[j]? = some o → ∀ e ∈ o.after, Region.binds .any e = true → listed.getD e.on false = true) :
  wpOp P ops Q j (fun a' w' => ∃ ι' fz' Λ', Nxt ι w ι' w' ∧ Inv P w0 C L ops D k r ι' fz' Λ' X ρ rs (listed.setIfInBounds j true) t h a' w') a w := by
 have K := I.ok
 obtain ⟨o, hfo⟩ := I.facts j hj hu
 have ho : ops[j]? = some o := hfo.elim (fun f => f.1.at') fun f => f.at'
 have hjs : j < listed.size := by rw [I.size]; exact (Array.getElem?_eq_some_iff.1 ho).1
 have hno : ∀ d ∈ looks ops j, ¬ Waits L ops X listed d := fun d hd ⟨i, hi, hui, hei, hdi⟩ => by
  have := I.pre j hl (K.ssa i (by simp [hi]) hei d hdi j (by simp [hj]) hd)
  rw [hui] at this; cases this
 have fin : ∀ (v v' : Value) (w' : World) (ι' : Inj) (fz' : Nat → Option Fz) (Λ' : List (Nat × Nat)), (∀ d, o.dst = some d → d < t.n → t.getD d junk = v) → Nxt ι w ι' w' → HRel P ⟨w0.w, fz'⟩ ι' h w' → VR ι' v v' →
   (∀ x ∈ Λ', x ∈ Λ ∧ x.1 ≠ j ∧ fz' x.2 = fz x.2) → (∀ x ∈ Λ, x.1 ≠ j → x ∈ Λ') → Λ'.Pairwise (fun a b => a.1 ≠ b.1 ∧ a.2 ≠ b.2) → (∀ i f, w0.fz i = some f → fz' i = some f) → (∀ i f, fz' i = some f → w0.fz i = some f ∨ ∃ j, (j, i) ∈ Λ') →
   ∃ ι' fz' Λ', Nxt ι w ι' w' ∧ Inv P w0 C L ops D k r ι' fz' Λ' X ρ rs (listed.setIfInBounds j true) t h (a.put o.dst v') w' := by
  intro v v' w' ι' fz' Λ' hd n H' hv hL1 hL2 hL3 hL4 hL5
  refine ⟨ι', fz', Λ', n, ⟨K, by simpa using I.size, I.closed_set hl, fun i hi => ?_, fun i hi he => ?_, I.run, H', ⟨by rw [aput_size]; exact I.tr.len, fun s => ?_⟩, fun i hi hui => ?_, ⟨fun x hx => ?_, fun x hx => I.lam.late x (hL1 x hx).1, hL3, hL4, hL5⟩, by rw [Act.put_defers]; exact I.defers⟩⟩
  ·have hne : j ≠ i := by
    rintro rfl
    obtain ⟨X1, X2, rfl⟩ := List.append_of_mem hi
    exact (drawRow_pair (X := X ++ X1) (r := X2) (by simpa using K.row) j (by simp [hj])).2.2 rfl
   show _ = _
   rw [getD_set_ne false hne]; exact I.un i hi
  ·exact getD_set_true (I.effs i hi he)
  ·by_cases hs : o.dst = some s
   ·by_cases hlt : s < t.n
    ·right
     rw [hd s hs hlt, hs, aput_same (by rw [← I.tr.len]; exact hlt)]; exact hv
    ·right
     rw [getD_out hlt]; exact .junk _
   ·rw [aput_ne hs]
    refine (I.tr.slot s).imp (fun ⟨i, hi, hui, hei, hdi⟩ => ⟨i, hi, ?_, hei, hdi⟩) fun hv => hv.mono n.le
    have hne : j ≠ i := by
     rintro rfl
     simp [dstOf, ho] at hdi
     exact hs hdi
    show _ = _
    rw [getD_set_ne false hne]; exact hui
  ·have hij := set_unl_ne hjs hui
   obtain ⟨o', hf⟩ := I.facts i hi (set_unl hui)
   refine ⟨o', hf.imp id fun hf => ⟨hf.at', hf.late, hf.says.imp (fun ⟨h1, x, g, u, h2, h3, h4⟩ => ?_) fun ⟨h1, h2, h3⟩ => ⟨h1, fun x hx => h2 x (hL1 _ hx).1, h3⟩⟩⟩
   have hm := hL2 _ h2 hij
   exact ⟨h1, x, g, u, hm, by rw [(hL1 _ hm).2.2]; exact h3, h4⟩
  ·obtain ⟨h1, h2, h3⟩ := hL1 x hx
   obtain ⟨g1, g2, g3, f, g4⟩ := I.lam.mem x h1
   exact ⟨g1, by show _ = _; rw [getD_set_ne false (Ne.symm h2)]; exact g2, g3, f, by rw [h3]; exact g4⟩
 have stay : (∀ i, (j, i) ∉ Λ) → ∀ (v v' : Value) (w' : World) (ι' : Inj), (∀ d, o.dst = some d → d < t.n → t.getD d junk = v) → Nxt ι w ι' w' → HRel P ⟨w0.w, fz⟩ ι' h w' → VR ι' v v' →
   ∃ ι' fz' Λ', Nxt ι w ι' w' ∧ Inv P w0 C L ops D k r ι' fz' Λ' X ρ rs (listed.setIfInBounds j true) t h (a.put o.dst v') w' :=
  fun hΛ v v' w' ι' hd n H' hv => fin v v' w' ι' fz Λ hd n H' hv (fun x hx => ⟨hx, fun e => hΛ x.2 (by rw [← e]; exact hx), rfl⟩) (fun x hx _ => hx) I.lam.pw I.lam.fz1 I.lam.fz2
 unfold wpOp
 simp only [ho]
 rcases hfo with ⟨f, hrd⟩ | f
 ·have hΛ : ∀ i, (j, i) ∉ Λ := fun i hi => by
   obtain ⟨o', h1, h2⟩ := I.lam.late _ hi
   rw [ho] at h1; cases h1
   have h3 := f.still
   cases hop : o.op <;> rw [hop] at h2 h3 <;> simp [isLate] at h2 <;> simp [isEff] at h3
  rcases f.says with ⟨hg, v, hv, hd⟩ | ⟨hg, hd⟩
  ·rw [I.tr.gW_sound ho hno hg]
   simp only [if_true]
   left
   have hv2 : evOp P C o (veil L ops X listed t) h (fun v h' => some (v, h')) = some (v, h) := by
    rw [evOp_congr (evX_congr ho fun d hl => veil_getD (hno d hl)), evOp_bind f.still, hv]; rfl
   refine op_sound (w0 := ⟨w0.w, fz⟩) (hC.at fz) hv2 I.tr.veil I.H fun v2 h2 v' w' ι' n H' hv' he => ?_
   simp at he
   obtain ⟨rfl, rfl⟩ := he
   exact stay hΛ _ _ _ _ hd n H' hv'
  ·rw [I.tr.gW_sound ho hno hg]
   simp only [Bool.false_eq_true, if_false]
   exact stay hΛ _ _ _ _ hd (Nxt.refl _ _) I.H (VR.undef _)
 ·rcases f.says with ⟨hg, i, g, v, hm, hfz, hv, hd⟩ | ⟨hg, hΛ, hd⟩
  ·rw [I.tr.gW_sound ho hno hg]
   simp only [if_true]
   left
   have hv2 : lateV P o.op (veil L ops X listed t) = some (g, v) := by
    rw [lateV_congr (evX_congr ho fun d hl => veil_getD (hno d hl))]; exact hv
   refine late_step (w0 := ⟨w0.w, fz⟩) hv2 I.tr.veil I.H hfz fun v' w' ι' n H' hv' => ?_
   rw [set_fz] at H'
   have hi0 := (I.lam.mem _ hm).2.2.1
   have hne : ∀ x ∈ Λ, x.1 ≠ j → x.2 ≠ i := fun x hx hxj => by
    rcases pw_ne I.lam.pw x hx _ hm with e | ⟨_, e⟩
    ·exact absurd (congrArg Prod.fst e) hxj
    ·exact e
   refine fin _ _ _ _ _ (Λ.filter fun x => x.1 != j) hd n H' hv' (fun x hx => ?_) (fun x hx hxj => List.mem_filter.2 ⟨hx, by simpa using hxj⟩) (I.lam.pw.filter _) (fun x f' hx => ?_) fun x f' hx => ?_
   ·obtain ⟨h1, h2⟩ := List.mem_filter.1 hx
    have h2 : x.1 ≠ j := by simpa using h2
    exact ⟨h1, h2, if_neg (hne x h1 h2)⟩
   ·show (if x = i then none else fz x) = _
    rw [if_neg (fun e => by rw [e, hi0] at hx; cases hx)]; exact I.lam.fz1 x f' hx
   ·have hx' : (if x = i then none else fz x) = some f' := hx
    split at hx'
    ·cases hx'
    ·rename_i hxi
     refine (I.lam.fz2 x f' hx').imp id fun ⟨q, hq⟩ => ⟨q, List.mem_filter.2 ⟨hq, ?_⟩⟩
     by_cases hqj : q = j
     ·subst hqj
      rcases pw_ne I.lam.pw _ hq _ hm with e | ⟨e, _⟩
      ·exact absurd (congrArg Prod.snd e) hxi
      ·exact absurd rfl e
     ·simpa using hqj
  ·rw [I.tr.gW_sound ho hno hg]
   simp only [Bool.false_eq_true, if_false]
   exact stay hΛ _ _ _ _ hd (Nxt.refl _ _) I.H (VR.undef _)
theorem again_inv {t : Tm} {h : AHeap} {x : Option R} : ∀ {js : List Nat}, again P C ops t h x js = some r → x = some r ∧ ∀ j ∈ js, reOk P C ops t h j = some true
 | [], he => ⟨he, by simp⟩
 | j :: js, he => by
  simp only [again, Option.bind_eq_some_iff] at he
  obtain ⟨b, hb, he⟩ := he
  cases b with
  | false => simp at he
  | true =>
   obtain ⟨h1, h2⟩ := again_inv he
   exact ⟨h1, fun i hi => (List.mem_cons.1 hi).elim (fun e => e ▸ hb) (h2 i)⟩
theorem vbeq1_eq {x y : Value} (h : vbeq1 x y = true) : x = y := by
 unfold vbeq1 at h
 split at h
 case h_3 a b =>
  obtain ⟨a⟩ := a
  obtain ⟨b⟩ := b
  simp [BEq.beq, ByteArray.beq] at h
  rw [Array.eq_of_isEqv _ _ h]
 all_goals simp_all
theorem vbeqL_eq : ∀ {l m : List Value}, vbeqL l m = true → l = m
 | [], [], _ => rfl
 | x :: l, y :: m, h => by
  simp only [vbeqL, Bool.and_eq_true] at h
  rw [vbeq1_eq h.1, vbeqL_eq h.2]
 | [], _ :: _, h => by simp [vbeqL] at h
 | _ :: _, [], h => by simp [vbeqL] at h
theorem vbeq_eq {x y : Value} (h : vbeq x y = true) : x = y := by
 unfold vbeq at h
 split at h
 ·rw [Array.ext' (vbeqL_eq h)]
 ·exact vbeq1_eq h
theorem reOk_fact {t : Tm} {h : AHeap} {j : Nat} {o : Oper} (ho : ops[j]? = some o) (hs : isEff o.op = false) (hg : gW ops o t = some true) (he : reOk P C ops t h j = some true) :
  ∃ v, evOp P C o t h (fun v _ => some v) = some v ∧ ∀ d, o.dst = some d → d < t.n → t.getD d junk = v := by
 simp only [reOk, ho] at he
 rcases evG_inv he with ⟨_, t', hsm, he⟩ | ⟨hg', _⟩
 ·rw [evOp_bind hs, Option.bind_eq_some_iff] at he
  obtain ⟨v, hv, he⟩ := he
  have he := nrm_inv he
  refine ⟨v, by rw [evOp_congr (evX_congr ho fun d _ => (hsm.at' d).symm)]; exact hv, fun d hd _ => ?_⟩
  simp only [Option.some.injEq] at he
  rw [hd] at he
  rw [← hsm.at']
  exact (vbeq_eq he).symm
 ·rw [hg] at hg'; cases hg'
theorem Inv.effect (hC : CallOk P w0 C) {Q : Exit → Act → World → Prop} {j : Nat} (I : Inv P w0 C L ops D k r ι fz Λ X (j :: ρ) rs listed t h a w) (hj : eff L ops j = true)
  (hl : ∀ o, ops[j]? = some o → ∀ e ∈ o.after, Region.binds .any e = true → listed.getD e.on false = true) :
  wpOp P ops Q j (fun a' w' => ∃ ι' rs' t' h', Nxt ι w ι' w' ∧ Inv P w0 C L ops D k r ι' fz Λ (X ++ [j]) ρ rs' (listed.setIfInBounds j true) t' h' a' w') a w := by
 have K := I.ok
 have hlt : j < ops.size := K.lt j (by simp)
 have ho : ops[j]? = some ops[j] := Array.getElem?_eq_getElem hlt
 generalize hoe : ops[j] = o at ho
 have hie : effL L o.op = true := by rw [← op_of_eff ho]; exact hj
 have hjs : j < listed.size := by rw [I.size]; exact hlt
 have hpair := fun i (hi : i ∈ X) => drawRow_pair K.row i hi
 have hno : ∀ d ∈ looks ops j, ¬ Waits L ops X listed d := fun d hd ⟨i, hi, hui, hei, hdi⟩ => by
  have := I.pre j hl (K.ssa i (by simp [hi]) hei d hdi j (by simp) hd)
  rw [hui] at this; cases this
 have fin : ∀ (t : Tm) (v v' : Value) (h' : AHeap) (w' : World) (ι' : Inj) (rs' : List Nat), TRm L ops X listed ι t a → evDraw P C L ops (pres ops) ρ rs' (put t o.dst v) h' k = some r → Nxt ι w ι' w' → HRel P ⟨w0.w, fz⟩ ι' h' w' → VR ι' v v' →
   (∀ i ∈ X, Unl listed i → Facts P C ops fz Λ rs' (put t o.dst v) h' i) →
   ∃ ι' rs' t' h', Nxt ι w ι' w' ∧ Inv P w0 C L ops D k r ι' fz Λ (X ++ [j]) ρ rs' (listed.setIfInBounds j true) t' h' (a.put o.dst v') w' := by
  intro t v v' h' w' ι' rs' htr hrun n H' hv hf
  refine ⟨ι', rs', put t o.dst v, h', n, ⟨by simpa using K, by simpa using I.size, I.closed_set hl, fun i hi => ?_, fun i hi he => ?_, hrun, H', ⟨by rw [aput_size, put_len]; exact htr.len, fun s => ?_⟩, fun i hi hui => ?_, ⟨fun x hx => ?_, I.lam.late, I.lam.pw, I.lam.fz1, I.lam.fz2⟩, by rw [Act.put_defers]; exact I.defers⟩⟩
  ·have hne : j ≠ i := by
    rintro rfl
    obtain ⟨X1, X2, rfl⟩ := List.append_of_mem hi
    exact (drawRow_pair (X := X ++ j :: X1) (r := X2) (by simpa using K.row) j (by simp)).2.2 rfl
   show _ = _
   rw [getD_set_ne false hne]; exact I.un i (List.mem_cons_of_mem _ hi)
  ·rcases List.mem_append.1 hi with hi | hi
   ·exact getD_set_true (I.effs i hi he)
   ·simp at hi; subst hi; simp [hjs]
  ·by_cases hs : o.dst = some s
   ·right
    by_cases hlt : s < t.n
    ·rw [hs, put_same hlt, aput_same (by rw [← htr.len]; exact hlt)]; exact hv
    ·rw [getD_out (by rw [put_len]; exact hlt)]; exact .junk _
   ·rw [aput_ne hs, put_getD hs]
    refine (htr.slot s).imp (fun ⟨i, hi, hui, hei, hdi⟩ => ⟨i, List.mem_append_left _ hi, ?_, hei, hdi⟩) fun hv => hv.mono n.le
    have hne : j ≠ i := (hpair i hi).2.2.symm
    show _ = _
    rw [getD_set_ne false hne]; exact hui
  ·rcases List.mem_append.1 hi with hi | hi
   ·exact hf i hi (set_unl hui)
   ·simp at hi; exact absurd hi (set_unl_ne hjs hui)
  ·obtain ⟨g1, g2, g3⟩ := I.lam.mem x hx
   have hne : j ≠ x.1 := (hpair x.1 g1).2.2.symm
   exact ⟨List.mem_append_left _ g1, by show _ = _; rw [getD_set_ne false hne]; exact g2, g3⟩
 have hp : ∀ i ∈ X, Unl listed i → ∀ d, o.dst = some d → d ∉ looks ops i ∧ dstOf ops i ≠ some d := fun i hi hui d hd => ⟨fun hl => by
  have hle := I.pre j ‹_› (((hpair i hi).1 d (by simp [dstOf, ho, hd])).1 hl).2
  exact absurd (hui.symm.trans hle) (by simp), ((hpair i hi).1 d (by simp [dstOf, ho, hd])).2⟩
 unfold wpOp
 simp only [ho]
 have hrun := I.run
 simp only [evDraw, ho, hie, cond_true] at hrun
 rcases evG_inv hrun with ⟨hg, t', hs, he⟩ | ⟨hg, t', hs, he⟩
 ·rw [I.tr.gW_sound ho hno hg]
  simp only [if_true]
  left
  rw [evOp_congr (evX_congr ho fun d hl => (veil_getD (hno d hl)).symm)] at he
  obtain ⟨htr, hfacts⟩ := I.same hs
  refine op_sound (w0 := ⟨w0.w, fz⟩) (hC.at fz) he htr.veil I.H fun v h' v' w' ι' n H' hv' he => ?_
  obtain ⟨he, hre⟩ := again_inv (nrm_inv he)
  refine fin t' v v' h' w' ι' _ htr he n H' hv' fun i hi hui => ?_
  obtain ⟨o', ⟨hf, hr⟩ | hf⟩ := hfacts i hi hui
  case inr => exact ⟨o', .inr (hf.put (hp i hi hui) (fun _ _ a b => ⟨a, b⟩) fun _ a => a)⟩
  have hf' := hf.put (v := v) (hp i hi hui)
  have eg : gW ops o' (put t' o.dst v) = gW ops o' t' := gW_congr hf.at' fun d hl => put_getD fun e => (hp i hi hui d e).1 hl
  cases hrd : isRd o'.op with
  | false => exact ⟨o', .inl ⟨hf'.heap hrd h', fun h => absurd (hrd ▸ h) (by simp)⟩⟩
  | true =>
   rcases hf'.says with ⟨hg2, _⟩ | ⟨hg2, hd⟩
   ·have hin : i ∈ rs.filter fun i => !((pres ops).getD j 0).testBit i := by
     rw [List.mem_filter]
     refine ⟨(hr hrd).resolve_right (fun e => by rw [← eg, hg2] at e; cases e), ?_⟩
     cases hb : ((pres ops).getD j 0).testBit i with
     | false => rfl
     | true => have := I.pre j hl hb; rw [hui] at this; cases this
    exact ⟨o', .inl ⟨⟨hf.at', hf.still, .inl ⟨hg2, reOk_fact hf.at' hf.still hg2 (hre i hin)⟩⟩, fun _ => .inl hin⟩⟩
   ·exact ⟨o', .inl ⟨⟨hf.at', hf.still, .inr ⟨hg2, hd⟩⟩, fun _ => .inr hg2⟩⟩
 ·rw [I.tr.gW_sound ho hno hg]
  simp only [Bool.false_eq_true, if_false]
  obtain ⟨htr, hfacts⟩ := I.same hs
  refine fin t' undef undef h w ι rs htr he (Nxt.refl _ _) I.H (VR.undef _) fun i hi hui => ?_
  obtain ⟨o', ⟨hf, hr⟩ | hf⟩ := hfacts i hi hui
  case inr => exact ⟨o', .inr (hf.put (hp i hi hui) (fun _ _ a b => ⟨a, b⟩) fun _ a => a)⟩
  have eg : gW ops o' (put t' o.dst undef) = gW ops o' t' := gW_congr hf.at' fun d hl => put_getD fun e => (hp i hi hui d e).1 hl
  exact ⟨o', .inl ⟨hf.put (hp i hi hui), fun h => (hr h).imp id fun e => by rw [eg]; exact e⟩⟩
theorem filter_lt {p p' : Nat → Bool} : ∀ {l : List Nat}, (∀ x ∈ l, p' x = true → p x = true) → ∀ j ∈ l, p j = true → p' j = false → (l.filter p').length < (l.filter p).length
 | [], _, j, hj, _, _ => by simp at hj
 | x :: l, h, j, hj, h1, h2 => by
  have hle : (l.filter p').length ≤ (l.filter p).length := by
   have : ∀ m : List Nat, (∀ x ∈ m, p' x = true → p x = true) → (m.filter p').length ≤ (m.filter p).length := by
    intro m
    induction m with
    | nil => intro _; simp
    | cons y m ih =>
     intro hm
     have ih := ih fun x hx => hm x (List.mem_cons_of_mem _ hx)
     have hy := hm y (List.mem_cons_self ..)
     simp only [List.filter_cons]
     split
     ·rename_i e; rw [if_pos (hy e)]; simpa using ih
     ·split <;> simp <;> omega
   exact this l fun x hx => h x (List.mem_cons_of_mem _ hx)
  rcases List.mem_cons.1 hj with rfl | hj
  ·simp only [List.filter_cons, h1, h2]
   simp; omega
  ·have ih := filter_lt (fun x hx => h x (List.mem_cons_of_mem _ hx)) j hj h1 h2
   have hy := h x (List.mem_cons_self ..)
   simp only [List.filter_cons]
   split
   ·rename_i e; rw [if_pos (hy e)]; simpa using ih
   ·split <;> simp <;> omega
def todo (n : Nat) (listed : Array Bool) : Nat := ((List.range n).filter fun i => !listed.getD i false).length
theorem todo_set {listed : Array Bool} {n j : Nat} (hn : n = listed.size) (hj : j < n) (hu : Unl listed j) : todo n (listed.setIfInBounds j true) < todo n listed := by
 refine filter_lt (fun x _ hx => ?_) j (by simpa using hj) (by rw [show listed.getD j false = false from hu]; rfl) (by subst hn; simp [hj])
 simp only [Bool.not_eq_true'] at hx ⊢
 exact set_unl hx
theorem unl_ready {j : Nat} (hl : j < listed.size) : listed.getD j true = listed.getD j false := by simp [Array.getD_eq_getD_getElem?, hl]
theorem Inv.ready (I : Inv P w0 C L ops D k r ι fz Λ X ρ rs listed t h a w) {j : Nat} (hr : j ∈ Region.ready .any ops listed) :
  j < ops.size ∧ Unl listed j ∧ ∀ o, ops[j]? = some o → ∀ e ∈ o.after, Region.binds .any e = true → listed.getD e.on false = true := by
 obtain ⟨h0, o, ho, hall⟩ := mem_ready.1 hr
 have hlt := (Array.getElem?_eq_some_iff.1 ho).1
 refine ⟨hlt, by rw [unl_ready (by rw [I.size]; exact hlt)] at h0; exact h0, fun o' ho' => ?_⟩
 rw [ho] at ho'; cases ho'; exact hall
theorem Inv.all (I : Inv P w0 C L ops D k r ι fz Λ X ρ rs listed t h a w) (hr : Region.ready .any ops listed = []) : ∀ j, j < ops.size → listed.getD j false = true := by
 intro j
 induction j using Nat.strongRecOn with
 | _ j ih =>
  intro hj
  cases hl : listed.getD j false with
  | true => rfl
  | false =>
   have : j ∈ Region.ready .any ops listed := mem_ready.2 ⟨by rw [unl_ready (by rw [I.size]; exact hj)]; exact hl, ops[j], Array.getElem?_eq_getElem hj, fun e he hbi => by
    have := I.ok.top j _ (Array.getElem?_eq_getElem hj) e he hbi
    exact ih _ this (by omega)⟩
   rw [hr] at this; cases this
theorem Inv.done (I : Inv P w0 C L ops D k r ι fz Λ X ρ rs listed t h a w) (hall : ∀ j, j < ops.size → listed.getD j false = true) {Q : Exit → Act → World → Prop}
  (hk : ∀ t' h' a' w' ι', Nxt ι w ι' w' → HRel P w0 ι' h' w' → TR ι' t' a'.tmps → a'.defers = D → k t' h' = some r → Q .normal a' w') : Q .normal a w := by
 have hρ : ρ = [] := by
  cases hρ : ρ with
  | nil => rfl
  | cons e ρ' =>
   have := I.un e (by rw [hρ]; exact List.mem_cons_self ..)
   have h2 := hall e (I.ok.lt e (by rw [hρ]; simp))
   rw [this] at h2; cases h2
 subst hρ
 have hfz : fz = w0.fz := by
  funext i
  cases e : fz i with
  | none =>
   cases e' : w0.fz i with
   | none => rfl
   | some f => rw [I.lam.fz1 i f e'] at e; cases e
  | some f =>
   rcases I.lam.fz2 i f e with h1 | ⟨j, hj⟩
   ·exact h1.symm
   ·obtain ⟨h1, h2, _⟩ := I.lam.mem _ hj
    have h3 := hall j (I.ok.lt j (by simp [h1]))
    rw [h2] at h3; cases h3
 have HH := I.H
 rw [hfz] at HH
 refine hk t h a w ι (Nxt.refl _ _) HH ?_ I.defers I.run
 exact ⟨I.tr.len, fun i => (I.tr.slot i).resolve_left fun ⟨j, hj, hu, _⟩ => by
  have h2 := hall j (I.ok.lt j (by simp [hj]))
  rw [hu] at h2; cases h2⟩
theorem Inv.any (hC : CallOk P w0 C) {Q : Exit → Act → World → Prop} : ∀ (fuel : Nat) {X ρ rs : List Nat} {listed : Array Bool} {t : Tm} {h : AHeap} {a : Act} {w : World} {ι : Inj} {fz : Nat → Option Fz} {Λ : List (Nat × Nat)},
  todo ops.size listed ≤ fuel → Inv P w0 C L ops D k r ι fz Λ X ρ rs listed t h a w →
  (∀ t' h' a' w' ι', Nxt ι w ι' w' → HRel P w0 ι' h' w' → TR ι' t' a'.tmps → a'.defers = D → k t' h' = some r → Q .normal a' w') → wpAny P .any ops Q fuel listed a w := by
 intro fuel
 induction fuel with
 | zero =>
  intro X ρ rs listed t h a w ι fz Λ hf I hk
  have hr : Region.ready .any ops listed = [] := by
   cases hr : Region.ready .any ops listed with
   | nil => rfl
   | cons j l =>
    obtain ⟨h1, h2, _⟩ := I.ready (j := j) (by rw [hr]; exact List.mem_cons_self ..)
    have := todo_set (n := ops.size) I.size.symm h1 h2
    omega
  exact ⟨hr, I.done (I.all hr) hk⟩
 | succ fuel ih =>
  intro X ρ rs listed t h a w ι fz Λ hf I hk
  refine ⟨fun hr => I.done (I.all hr) hk, fun j hr => ?_⟩
  obtain ⟨X, ρ, rs, t, h, fz, Λ, I, hhead⟩ := I.advAll
  obtain ⟨h1, h2, h3⟩ := I.ready hr
  have hlt := todo_set (n := ops.size) I.size.symm h1 h2
  have hmem := I.ok.mem j h1
  rcases List.mem_append.1 hmem with hj | hj
  ·refine wpOp_mono (fun a' w' ⟨ι', fz', Λ', n, I'⟩ => ?_) (I.catch hC hj h2 h3)
   exact ih (by omega) I' fun t' h' a'' w'' ι'' n' => hk t' h' a'' w'' ι'' (n.trans n')
  ·cases hρ : ρ with
   | nil => rw [hρ] at hj; cases hj
   | cons e ρ' =>
    subst hρ
    have he := hhead e ρ' rfl
    have hje : j = e := by
     rcases List.mem_cons.1 hj with hj | hj
     ·exact hj
     ·obtain ⟨ρ1, ρ2, rfl⟩ := List.append_of_mem hj
      have hrow := I.ok.row
      have := (drawRow_pair (X := X ++ e :: ρ1) (r := ρ2) (by simpa using hrow) e (by simp)).2.1 he
      have hle := I.pre j h3 this
      have hun := I.un e (List.mem_cons_self ..)
      rw [hun] at hle; cases hle
    subst hje
    refine wpOp_mono (fun a' w' ⟨ι', rs', t', h', n, I'⟩ => ?_) (I.effect hC he h3)
    exact ih (by omega) I' fun t' h' a'' w'' ι'' n' => hk t' h' a'' w'' ι'' (n.trans n')
theorem evDraw_one (hC : CallOk P w0 C) (hm : P.follows .mixedOrders = true) {id : Nat} {Q : Exit → Act → World → Prop} {t : Tm} {h : AHeap} {w : World} {ι : Inj} {a : Act}
  (hok : drawOk L ops (pres ops) (sched L ops (pres ops)) = true) (he : evDraw P C L ops (pres ops) (sched L ops (pres ops)) [] t h k = some r)
  (ht : TR ι t a.tmps) (H : HRel P w0 ι h w) (hd : a.defers = D)
  (hk : ∀ t' h' a' w' ι', Nxt ι w ι' w' → HRel P w0 ι' h' w' → TR ι' t' a'.tmps → a'.defers = D → k t' h' = some r → Q .normal a' w') : (Code.region id ops true).wp P Q a w := by
 refine wp_region_any hm (Inv.any (L := L) hC ops.size (X := []) (ρ := sched L ops (pres ops)) (rs := []) (t := t) (h := h) (ι := ι) (D := D) (k := k) (r := r) (fz := w0.fz) (Λ := []) ?_ ?_ ?_)
 ·unfold todo
  exact Nat.le_trans (List.length_filter_le ..) (by simp)
 ·refine ⟨drawOk_spec hok, by simp, fun j o _ hl => ?_, fun j _ => ?_, by simp, he, H.drew, ⟨ht.len, fun s => .inr (ht.getD s undef)⟩, by simp, ⟨by simp, by simp, .nil, fun _ _ h => h, fun _ _ h => .inl h⟩, hd⟩
  ·simp [Array.getD_eq_getD_getElem?, Array.getElem?_replicate] at hl
   split at hl <;> simp at hl
  ·simp [Unl, Array.getD_eq_getD_getElem?, Array.getElem?_replicate]
   split <;> rfl
 ·exact fun t' h' a' w' ι' n => hk t' h' a' w' ι' ((Nxt.drew _ _).trans n)
theorem evDraw_sound (hC : CallOk P w0 C) (hm : P.follows .mixedOrders = true) {id : Nat} {Q : Exit → Act → World → Prop} {t : Tm} {h : AHeap} {w : World} {ι : Inj} {a : Act}
  (he : (bif drawOk false ops (pres ops) (sched false ops (pres ops)) then evDraw P C false ops (pres ops) (sched false ops (pres ops)) [] t h k else
   bif drawOk true ops (pres ops) (sched true ops (pres ops)) then evDraw P C true ops (pres ops) (sched true ops (pres ops)) [] t h k else none) = some r)
  (ht : TR ι t a.tmps) (H : HRel P w0 ι h w) (hd : a.defers = D)
  (hk : ∀ t' h' a' w' ι', Nxt ι w ι' w' → HRel P w0 ι' h' w' → TR ι' t' a'.tmps → a'.defers = D → k t' h' = some r → Q .normal a' w') : (Code.region id ops true).wp P Q a w := by
 cases hok : drawOk false ops (pres ops) (sched false ops (pres ops)) with
 | true => rw [hok] at he; exact evDraw_one hC hm hok he ht H hd hk
 | false =>
  rw [hok] at he
  cases hok2 : drawOk true ops (pres ops) (sched true ops (pres ops)) with
  | true => rw [hok2] at he; exact evDraw_one hC hm hok2 he ht H hd hk
  | false => rw [hok2] at he; cases he
end
open Go.RowKit Go.Lib
variable {P : Program} {w0 : W0} {w : World} {ι : Inj} {h : AHeap}
def Ex.exit' : Ex → Exit
 | .norm => .normal
 | .exit id => .exit id
 | .ret => .ret
section
variable {C : ACall} (hC : CallOk P w0 C) (hm : P.follows .mixedOrders = true) {R : Type} {M : Masks} {N : Nat} {D : List Deferred} {r : R}
include hC hm
def Ends (P : Program) (w0 : W0) (D : List Deferred) (k : Kt R) (r : R) (Q : Exit → Act → World → Prop) (ι : Inj) (w : World) : Prop :=
 ∀ ex t' h' a' w' ι', Nxt ι w ι' w' → HRel P w0 ι' h' w' → TR ι' t' a'.tmps → a'.defers = D → k ex t' h' = some r → Q ex.exit' a' w'
omit hC hm in
theorem Ends.on {k : Kt R} {Q : Exit → Act → World → Prop} {ι' : Inj} {w' : World} (h : Ends P w0 D k r Q ι w) (n : Nxt ι w ι' w') : Ends P w0 D k r Q ι' w' :=
 fun ex t' h' a' w'' ι'' n' => h ex t' h' a' w'' ι'' (n.trans n')
omit hC hm in
theorem bnd_inv {c : Code} {nx : Nx R} {t : Tm} {a : Act} (h' : bnd hk0 M c nx t h = some r) (ht : TR ι t a.tmps) : ∃ t', TR ι t' a.tmps ∧ nx t' h = some r := by
 unfold bnd at h'
 split at h'
 ·split at h'
  ·exact ⟨_, TR.mask _ ht 0, h'⟩
  ·exact ⟨_, ht, h'⟩
 ·exact ⟨_, ht, h'⟩
omit hC hm in
theorem maskLoop_TR {c : Code} {t : Tm} {a : Act} (ht : TR ι t a.tmps) : TR ι (maskLoop M c t) a.tmps := by
 unfold maskLoop
 split
 ·exact TR.mask _ ht 0
 ·exact ht
omit hm hC in
theorem iter_sound {c : Code} (ih : ∀ {t : Tm} {h : AHeap} {w : World} {ι : Inj} {a : Act} {k : Kt R} {r : R} {Q : Exit → Act → World → Prop},
   evCode hk0 P C M N c t h k = some r → TR ι t a.tmps → HRel P w0 ι h w → a.defers = D → Ends P w0 D k r Q ι w → Code.wp P c Q a w) :
  ∀ (n : Nat) {t : Tm} {h : AHeap} {w : World} {ι : Inj} {a : Act} {k : Kt R} {r : R} {Q : Exit → Act → World → Prop},
   evIter (evCode hk0 P C M N c) (maskLoop M c) k n t h = some r → TR ι t a.tmps → HRel P w0 ι h w → a.defers = D → Ends P w0 D k r Q ι w → Code.rounds P c Q n a w := by
 intro n
 induction n with
 | zero => intro t h w ι a k r Q he; simp [evIter] at he
 | succ n ihn =>
  intro t h w ι a k r Q he ht H hd hk
  rw [rounds_succ]
  simp only [evIter] at he
  refine ih he ht H hd fun ex t' h' a' w' ι' nx H' ht' hd' he' => ?_
  cases ex with
  | norm => exact ihn he' (maskLoop_TR ht') H' hd' (hk.on nx)
  | exit id => exact hk (.exit id) _ _ _ _ _ nx H' ht' hd' he'
  | ret => exact hk .ret _ _ _ _ _ nx H' ht' hd' he'
theorem evCode_sound : ∀ (c : Code) {t : Tm} {h : AHeap} {w : World} {ι : Inj} {a : Act} {k : Kt R} {r : R} {Q : Exit → Act → World → Prop},
  evCode hk0 P C M N c t h k = some r → TR ι t a.tmps → HRel P w0 ι h w → a.defers = D → Ends P w0 D k r Q ι w → Code.wp P c Q a w := by
 intro c
 induction c with
 | skip => intro t h w ι a k r Q he ht H hd hk; exact wp_skip (hk .norm _ _ _ _ _ (Nxt.refl _ _) H ht hd he)
 | exit id => intro t h w ι a k r Q he ht H hd hk; exact wp_exit (hk (.exit id) _ _ _ _ _ (Nxt.refl _ _) H ht hd he)
 | ret => intro t h w ι a k r Q he ht H hd hk; exact wp_ret (hk .ret _ _ _ _ _ (Nxt.refl _ _) H ht hd he)
 | region id ops draw =>
  intro t h w ι a k r Q he ht H hd hk
  simp only [evCode, evRegion] at he
  cases draw with
  | false =>
   simp only [cond_false] at he
   exact wp_region_list (evOps_sound hC _ he ht H hd fun t' h' a' w' ι' n H' ht' hd' he' => hk .norm _ _ _ _ _ n H' ht' hd' he')
  | true =>
   simp only [cond_true] at he
   exact evDraw_sound hC hm he ht H hd fun t' h' a' w' ι' n H' ht' hd' he' => hk .norm _ _ _ _ _ n H' ht' hd' he'
 | seq x y ihx ihy =>
  intro t h w ι a k r Q he ht H hd hk
  simp only [evCode] at he
  refine wp_seq (ihx he ht H hd fun ex t' h' a' w' ι' n H' ht' hd' he' => ?_)
  cases ex with
  | norm =>
   obtain ⟨t2, ht2, he2⟩ := bnd_inv he' ht'
   exact ihy he2 ht2 H' hd' (hk.on n)
  | exit id => exact hk (.exit id) _ _ _ _ _ n H' ht' hd' he'
  | ret => exact hk .ret _ _ _ _ _ n H' ht' hd' he'
 | cond c x y ihx ihy =>
  intro t h w ι a k r Q he ht H hd hk
  simp only [evCode, Option.bind_eq_some_iff] at he
  obtain ⟨b, hb, he⟩ := he
  have hc := ht.evX c
  rw [asB_inv hb] at hc
  refine wp_cond (t := b) (VR.bool_inv' hc) ?_
  cases b with
  | true => obtain ⟨t2, ht2, he2⟩ := bnd_inv he ht; exact ihx he2 ht2 H hd hk
  | false => obtain ⟨t2, ht2, he2⟩ := bnd_inv he ht; exact ihy he2 ht2 H hd hk
 | block id x ihx =>
  intro t h w ι a k r Q he ht H hd hk
  simp only [evCode] at he
  refine wp_block (ihx he ht H hd fun ex t' h' a' w' ι' n H' ht' hd' he' => ?_)
  cases ex with
  | norm => exact hk .norm _ _ _ _ _ n H' ht' hd' he'
  | exit j =>
   simp only [kBlock] at he'
   simp only [Ex.exit', Exit.inBlock]
   split at he'
   ·rename_i e; rw [if_pos e]; exact hk .norm _ _ _ _ _ n H' ht' hd' he'
   ·rename_i e; rw [if_neg e]; exact hk (.exit j) _ _ _ _ _ n H' ht' hd' he'
  | ret => exact hk .ret _ _ _ _ _ n H' ht' hd' he'
 | loop x ihx =>
  intro t h w ι a k r Q he ht H hd hk
  simp only [evCode] at he
  exact wp_loop_rounds N (iter_sound (fun {t h w ι a k r Q} => ihx) N he (maskLoop_TR ht) H hd hk)
 | _ => intro t h w ι a k r Q he; simp [evCode] at he
end
theorem isS2_S2 {v v' : Value} (h : VR ι v v') (hs : isS2 v = true) : S2 ι v v' := by
 cases h with
 | junk => simp [isS2, junk] at hs
 | s2 r => exact r
 | tuple => simp [isS2] at hs
def resF (tmps : Array Value) : ResultVar → Sem Value
 | .tmp t => pure (tmps.getD t undef)
 | .cell a t => do loadVar t (← asAddr (tmps.getD a undef))
theorem resK_sound {t : Tm} {a : Act} (H : HRel P w0 ι h w) (ht : TR ι t a.tmps) : ∀ (l : List ResultVar) (acc acc' : List Value) {r : Value × AHeap}, resK P t h l acc = some r → All2 (VR ι) acc acc' →
  ∃ vs, (l.mapM (resF a.tmps)).run P w = .ok vs w ∧ r.2 = h ∧ VR ι r.1 (match acc' ++ vs with | [v] => v | vs => .tuple vs.toArray)
 | [], acc, acc', r, he, hacc => by
  refine ⟨[], by simp [List.mapM_nil], ?_⟩
  simp only [resK] at he
  split at he
  ·simp at he; subst he
   cases hacc with
   | cons hv hn => cases hn; exact ⟨rfl, by simpa using hv⟩
  ·rename_i hne
   cases hall : acc.all isS2 with
   | false => rw [hall] at he; cases he
   | true =>
    rw [hall] at he
    simp at he; subst he
    refine ⟨rfl, ?_⟩
    have h2 : All2 (S2 ι) acc acc' := by
     clear hne
     induction hacc with
     | nil => exact .nil
     | cons hv hn ih =>
      simp only [List.all_cons, Bool.and_eq_true] at hall
      exact .cons (isS2_S2 hv hall.1) (ih hall.2)
    have : ∀ v, acc' ≠ [v] := by
     intro v e
     subst e
     cases hacc with
     | cons hv hn => cases hn; exact hne _ rfl
    rw [List.append_nil]
    split
    ·rename_i v; exact absurd rfl (this v)
    ·exact .tuple (by simpa using h2)
 | .tmp i :: l, acc, acc', r, he, hacc => by
  simp only [resK] at he
  obtain ⟨vs, h1, h2, h3⟩ := resK_sound H ht l (acc ++ [t.getD i junk]) (acc' ++ [a.tmps.getD i undef]) he (hacc.append (.cons (ht.getD i undef) .nil))
  exact ⟨a.tmps.getD i undef :: vs, by simp [List.mapM_cons, resF, h1], h2, by simpa using h3⟩
 | .cell i ty :: l, acc, acc', r, he, hacc => by
  simp only [resK] at he
  have key : ∀ {v : Value}, (∃ ad v', a.tmps.getD i undef = .pointer (some ad) ∧ (loadVar ty ad).run P w = .ok v' w ∧ VR ι v v') → resK P t h l (acc ++ [v]) = some r →
    ∃ vs, ((ResultVar.cell i ty :: l).mapM (resF a.tmps)).run P w = .ok vs w ∧ r.2 = h ∧ VR ι r.1 (match acc' ++ vs with | [v] => v | vs => .tuple vs.toArray) := by
   intro v ⟨ad, v', hp, hr, hv⟩ he
   obtain ⟨vs, h1, h2, h3⟩ := resK_sound H ht l (acc ++ [v]) (acc' ++ [v']) he (hacc.append (.cons hv .nil))
   exact ⟨v' :: vs, by simp [List.mapM_cons, resF, hp, asAddr, hr, h1], h2, by simpa using h3⟩
  split at he
  ·rename_i n hg hn
   simp only [Option.bind_eq_some_iff] at he
   obtain ⟨v, hv, he⟩ := he
   exact key (ldN_run H hg hn hv (ht.getD i undef)) he
  ·rename_i hg
   simp only [Option.bind_eq_some_iff] at he
   obtain ⟨v, hv, he⟩ := he
   exact key (ld1_run H hg hv (ht.getD i undef)) he
  ·simp at he
theorem results_sound {fn : Func} {t : Tm} {a : Act} (H : HRel P w0 ι h w) (ht : TR ι t a.tmps) {r : Value × AHeap} (he : resK P t h fn.results.toList [] = some r) :
  ∃ v', (results fn a.tmps).run P w = .ok v' w ∧ r.2 = h ∧ VR ι r.1 v' := by
 obtain ⟨vs, h1, h2, h3⟩ := resK_sound H ht fn.results.toList [] [] he .nil
 refine ⟨_, ?_, h2, h3⟩
 have : (results fn a.tmps) = (do let vs ← fn.results.mapM (resF a.tmps); pure (if h : vs.size = 1 then vs[0] else .tuple vs)) := rfl
 rw [this, Array.mapM_eq_mapM_toList]
 simp only [bind_map_left, Sem.run_bind, h1, Result.andThen_ok, Sem.run_pure]
 congr 1
 simp only [List.nil_append]
 match vs with
 | [] => rfl
 | [v] => rfl
 | v :: u :: vs => simp
theorem lk_number : ∀ (l : List Value) (j i : Nat), lk junk (j + i) (number j l) = l.getD i junk
 | [], _, _ => rfl
 | v :: l, j, 0 => by unfold number; rw [Nat.add_zero, lk_cons_same]; rfl
 | v :: l, j, i + 1 => by
  unfold number
  rw [lk_cons_ne (by omega), show j + (i + 1) = (j + 1) + i by omega, lk_number l]; rfl
theorem init_TR {fn : Func} {args : List Value} {args' : Array Value} (ha : All2 (VR ι) args args'.toList) : TR ι (init fn args) (args' ++ Array.replicate (fn.ntmps - args'.size) undef) := by
 have hl : args.length = args'.size := by simpa using ha.length
 have hg : ∀ i, VR ι (args.getD i junk) ((args' ++ Array.replicate (fn.ntmps - args'.size) undef).getD i undef) := fun i => by
  rw [List.getD_eq_getElem?_getD]
  cases h : args[i]? with
  | none => exact .junk _
  | some v =>
   obtain ⟨b, hb, hr⟩ := All2.get ha i v h
   have hb' : args'[i]? = some b := by simpa using hb
   have hlt := (Array.getElem?_eq_some_iff.1 hb').1
   rw [Array.getD_eq_getD_getElem?, Array.getElem?_append_left hlt, hb']; exact hr
 have hn : ∀ i, lk junk i (number 0 args) = args.getD i junk := fun i => by simpa using lk_number args 0 i
 have hin : ∀ n i, VR ι (Tm.getD ⟨n, number 0 args⟩ i junk) ((args' ++ Array.replicate (fn.ntmps - args'.size) undef).getD i undef) := fun n i => by
  by_cases hi : i < n
  ·rw [getD_in (t := ⟨n, number 0 args⟩) hi, hn]; exact hg i
  ·rw [getD_out (t := ⟨n, number 0 args⟩) hi]; exact .junk _
 unfold init
 cases e : Nat.ble args.length fn.ntmps with
 | true =>
  have := Nat.le_of_ble_eq_true e
  exact ⟨by simp; omega, hin _⟩
 | false =>
  have : ¬ args.length ≤ fn.ntmps := fun h => by rw [Nat.ble_eq_true_of_le h] at e; cases e
  exact ⟨by simp; omega, hin _⟩
theorem call_sound (hm : P.follows .mixedOrders = true) (hn : P.funcs.all (fun (fn : Func) => fn.name != "runtime.NumGoroutine") = true) (Ms : FuncId → Masks) : ∀ d, CallOk P w0 (call P Ms d) := by
 intro d
 induction d with
 | zero => exact ⟨fun f args h r he => by simp [call] at he, fun fz f args h v h' he => by simp [call] at he⟩
 | succ d ih =>
  have hfn : ∀ {f : FuncId} {fn : Func}, P.funcs[f]? = some fn → (fn.name == "runtime.NumGoroutine") = false := fun hf => by
   have := Array.all_eq_true_iff_forall_mem.1 hn _ (Array.mem_of_getElem? hf)
   simpa using this
  refine ⟨fun f args h r he => ?_, fun fz f args h v h' he ι w args' ha H => ?_⟩
  ·simp only [call] at he
   split at he
   ·rename_i fn hf
    unfold evFn at he
    split at he
    ·rename_i c hc; exact ⟨fn, hf, by simp [hc], hfn hf⟩
    ·simp at he
   ·simp at he
  ·simp only [call] at he
   split at he
   ·rename_i fn hf
    unfold evFn at he
    split at he
    ·rename_i c hc
     refine calls_of_wp hf hc (evCode_sound (w0 := ⟨w0.w, fz⟩) (ih.at fz) hm (D := []) c he (init_TR ha) H rfl fun ex t' h2 a' w' ι' n H' ht' hd' he' => ?_)
     have fin : resK P t' h2 fn.results.toList [] = some (v, h') → ∃ u, (results fn a'.tmps).run P w' = .ok u w' ∧ ∃ v' ι', Ending.returned u = .returned v' ∧ Nxt ι w ι' w' ∧ HRel P ⟨w0.w, fz⟩ ι' h' w' ∧ VR ι' v v' := by
      intro he
      obtain ⟨v', hr, h2, hv⟩ := results_sound H' ht' he
      simp at h2; subst h2
      exact ⟨v', hr, v', ι', rfl, n, H', hv⟩
     cases ex with
     | norm => exact ⟨hd', fin he'⟩
     | ret => exact ⟨hd', fin he'⟩
     | exit => simp [kBody] at he'
    ·simp at he
   ·simp at he
open Go.ChangeShapes Go.WideShapes Go.ChangeAt Go.RowKit
variable {H : Type} {enc : TypeId × Value → H} {P : Program}
theorem post_below {f : Func} {s : ChangeSpec} {apart fresh handsOn : Bool} {W W' : World} {args : Array Value} {v : Value} {ds gs : List (DataW H)} {before pa pv : List MemPlace}
  (hW : DataW.Whole enc P f.params.toList s.vars apart W args.toList ds gs before)
  (hres : ∀ (b : Nat) (sp : Nat → Bool) (hd : Bool), DataW.TrodAll enc P W' b sp hd f.resultTypes.toList (v.resultList f.resultTypes.size) (s.fn H (ds ++ gs)).results [])
  (hargs : ∀ sp : Nat → Bool, (∀ p ∈ before, sp p.block = true) → DataW.TrodAll enc P W' 0 sp true f.params.toList args.toList (s.fn H (ds ++ gs)).args pa)
  (hvars : ∀ sp : Nat → Bool, (∀ p ∈ before, sp p.block = true) → DataW.TrodVars enc P W' sp s.vars (s.fn H (ds ++ gs)).vars pv)
  (hb : Below W.heap.size W W') :
  s.post enc P f apart fresh handsOn false W args v W' := by
 have hold : ∀ p ∈ before, (fun b => decide (b < W.heap.size)) p.block = true := fun p hp => by simpa using hW.lt p hp
 refine ⟨ds, gs, before, [], pa, pv, hW, hres _ _ _, hargs _ hold, hvars _ hold, hb.frame _, fun h => by cases h⟩
def h00 : AHeap := ⟨0, fun _ => none, fun _ _ => 0, fun _ _ => 0, fun _ => none⟩
def i00 : Inj := ⟨fun _ => none, fun _ => none⟩
theorem start_rel (W : World) : HRel P W i00 h00 W where
 below := Below.refl _ _
 dom := fun i p h => by cases h
 domM := fun i p h => by cases h
 pl := fun i p h => by cases h
 obj := fun i o _ h => by simp [AHeap.at?, h00] at h
 tip := fun i o h => by simp [AHeap.at?, h00] at h
 eps := fun i o h => by cases h
 fam := fun i j oi oj p q h => by simp [AHeap.at?, h00] at h
 maps := fun i l _ h => by cases h
 mp := fun i r h => by cases h
 mpInj := fun i j r h => by cases h
 objs := fun j o h => by cases h
 mapd := fun j l h => by cases h
 fz := fun i f h => by cases h
theorem law_calls {Ms : FuncId → Masks} {d : Nat} {f : FuncId} {args : List Value} {args' : Array Value} {W : World} {ι : Inj} {h h' : AHeap} (hm : P.follows .mixedOrders = true)
  (hn : P.funcs.all (fun (fn : Func) => fn.name != "runtime.NumGoroutine") = true) (he : call P Ms d f args h = some (.bool true, h')) (ha : All2 (VR ι) args args'.toList) (H : HRel P W ι h W) :
  Calls P f args' W fun e W' => e = .returned (.bool true) ∧ Below W.heap.size W W' :=
 ((call_sound (w0 := W) hm hn Ms d).calls _ _ _ _ _ _ he ι W args' ha H).mono fun e W' ⟨v', ι', e1, _, H', hv⟩ => by
  subst e1
  rw [VR.bool_inv' hv]
  exact ⟨rfl, H'.below⟩
open Go.RowKit
variable {P : Program}
def hRows (n : Nat) (R : Nat → Option (Place × List Value)) : AHeap := ⟨n, fun i => (R i).map fun r => ⟨i, 0, true, r.1.el, r.2⟩, fun _ _ => 0, fun _ _ => 0, fun _ => none⟩
def iRows (R : Nat → Option (Place × List Value)) : Inj := ⟨fun i => (R i).map (·.1), fun _ => none⟩
theorem rows_at {n : Nat} {R : Nat → Option (Place × List Value)} {i : Nat} {r : Place × List Value} (hn : i < n) (h : R i = some r) : (hRows n R).at? i = some ⟨i, 0, true, r.1.el, r.2⟩ :=
 at?_mk (by simp [hRows, h]) hn (Nat.le_refl _) rfl
theorem at_rows {n : Nat} {R : Nat → Option (Place × List Value)} {i : Nat} {o : AObj} (h : (hRows n R).at? i = some o) : ∃ r, R i = some r ∧ o = ⟨i, 0, true, r.1.el, r.2⟩ := by
 obtain ⟨h1, _, _, _⟩ := at?_obj h
 simp only [hRows, Option.map_eq_some_iff] at h1
 obtain ⟨r, a, b⟩ := h1
 exact ⟨r, a, b.symm⟩
theorem start_rows {W : World} {n : Nat} {R : Nat → Option (Place × List Value)} (hn : ∀ i r, R i = some r → i < n)
  (hok : ∀ i r, R i = some r → r.1.Ok P W W ∧ r.1.ro = true ∧ r.2.length ≤ r.1.cap ∧ ∀ (j : Nat) v, r.2[j]? = some v → ∃ v', W.cell? ⟨r.1.blk, r.1.base + j, none⟩ = some v' ∧ S1 (iRows R) v v') :
  HRel P W (iRows R) (hRows n R) W where
 below := Below.refl _ _
 dom := fun i p h => by
  simp only [iRows, Option.map_eq_some_iff] at h
  obtain ⟨r, a, _⟩ := h
  exact hn i r a
 domM := fun i p h => by cases h
 pl := fun i p h => by
  simp only [iRows, Option.map_eq_some_iff] at h
  obtain ⟨r, a, b⟩ := h
  subst b
  exact (hok i r a).1
 obj := fun i o _ h => by
  obtain ⟨r, a, rfl⟩ := at_rows h
  obtain ⟨h1, h2, h3, h4⟩ := hok i r a
  exact ⟨r.1, by simp [iRows, a], h2, rfl, h3, h4⟩
 tip := fun i o h hro => by
  obtain ⟨r, a, rfl⟩ := at_rows h
  cases hro
 eps := fun i o h => by
  simp only [hRows, Option.map_eq_some_iff] at h
  obtain ⟨r, a, b⟩ := h
  subst b
  exact Nat.le_refl _
 fam := fun i j oi oj p q h1 h2 h3 h4 h5 h6 => by
  obtain ⟨r, a, rfl⟩ := at_rows h1
  simp only [iRows, a, Option.map_some, Option.some.injEq] at h3
  subst h3
  rw [(hok i r a).2.1] at h6; cases h6
 maps := fun i l _ h => by cases h
 mp := fun i r h => by cases h
 mpInj := fun i j r h => by cases h
 objs := fun j o h => by
  simp only [hRows, Option.map_eq_some_iff] at h
  obtain ⟨r, a, b⟩ := h
  subst b
  exact ⟨hn j r a, Nat.le_refl _⟩
 mapd := fun j l h => by cases h
 fz := fun i f h => by cases h
theorem open_rowM {H : Type} {enc : TypeId × Value → H} {w : World} {t e : TypeId} {fuel esz : Nat} {v : Value} {x : DataW H × List MemPlace} (ht : P.underlying t = some (.slice e)) (hc : P.cellsOf e = esz) (hpos : 0 < esz)
  (h : DataW.trod enc P w 0 (fun _ => true) true fuel t [v] = some x) :
  v = .slice none 0 0 ∨ (∃ a, v = .slice (some a) 0 0) ∨
  ∃ (b off len cap n : Nat) (D : Nat → DataW H) (Pl : Nat → List MemPlace), v = .slice (some ⟨b, off, none⟩) len cap ∧ len ≤ cap ∧ cap ≤ maxLen ∧ (∃ arr el fr, w.heap[b]? = some (.cells arr el fr) ∧ off + cap * esz ≤ arr.size) ∧
   ∀ i, i < len → ∃ cs', cs'.length = esz ∧ (∀ j, j < esz → w.cell? ⟨b, off + (i * esz + j), none⟩ = cs'[j]?) ∧ DataW.trod enc P w 0 (fun _ => true) true n e cs' = some (D i, Pl i) := by
 rcases Deep.open_slice ht h with ⟨h0, _⟩ | ⟨a, len, cap, m, n, D, Pl, h0, _, hl, hm, hmm, _, hx⟩
 ·exact .inl (by simpa using h0)
 have hv : v = .slice (some a) len cap := by simpa using h0
 subst hv
 simp only [if_true] at hmm
 subst hmm
 by_cases hcap : m = 0
 ·subst hcap
  have : len = 0 := by omega
  subst this
  exact .inr (.inl ⟨a, rfl⟩)
 ·right; right
  rw [hc] at hx
  have cellOf : ∀ i, i < m → ∃ cs', cs'.length = esz ∧ (∀ j, j < esz → w.cell? ((a.add (i * esz)).add j) = cs'[j]?) ∧ DataW.trod enc P w 0 (fun _ => true) true n e cs' = some (D i, Pl i) := fun i hi => by
   obtain ⟨cs', h1, h2⟩ := hx i hi
   obtain ⟨_, h3, h4⟩ := World.cells?_some h1
   exact ⟨cs', h3, h4, h2⟩
  have hspot : a.spot = none := by
   obtain ⟨cs', h1, h2, _⟩ := cellOf 0 (by omega)
   have := h2 0 hpos
   rw [Nat.zero_mul] at this
   have e0 : (a.add 0).add 0 = a := rfl
   rw [e0, List.getElem?_eq_getElem (by omega)] at this
   exact World.cell?_spot this
  obtain ⟨b, off, sp⟩ := a
  simp only at hspot
  subst hspot
  have hadd : ∀ i j, ((⟨b, off, none⟩ : Addr).add i).add j = ⟨b, off + (i + j), none⟩ := fun i j => by
   unfold Addr.add
   by_cases hi : i = 0 <;> by_cases hj : j = 0 <;> simp [hi, hj, Nat.add_assoc]
  refine ⟨b, off, len, m, n, D, Pl, rfl, hl, hm, ?_, fun i hi => ?_⟩
  ·obtain ⟨cs', h1, h2, _⟩ := cellOf (m - 1) (by omega)
   have := h2 (esz - 1) (by omega)
   rw [hadd, List.getElem?_eq_getElem (by omega)] at this
   unfold World.cell? at this
   split at this
   ·rename_i arr el fr hb
    refine ⟨arr, el, fr, hb, ?_⟩
    have h5 : arr[off + ((m - 1) * esz + (esz - 1))]? = some _ := this
    obtain ⟨hlt, _⟩ := Array.getElem?_eq_some_iff.1 h5
    have : (m - 1) * esz + esz = m * esz := by rw [← Nat.succ_mul]; congr 1; omega
    omega
   ·cases this
  ·obtain ⟨cs', h1, h2, h3⟩ := cellOf i (by omega)
   exact ⟨cs', h1, fun j hj => by rw [← h2 j hj, hadd], h3⟩
end Go.AH
/- Plain laws of the small evaluator's heap: frames, rows that are one's own. -/
namespace Go.AM
open Go.AH
structure Ext (b : Nat) (h h' : AHeap) : Prop where
 size : h.size ≤ h'.size
 obj : ∀ i, i < b → h'.obj i = h.obj i
 ep : ∀ e r, r < b → h'.ep e r = h.ep e r
 tip : ∀ e r, r < b → h'.tip e r = h.tip e r
 map : ∀ i, i < b → h'.map i = h.map i
theorem Ext.refl (b : Nat) (h : AHeap) : Ext b h h := ⟨Nat.le_refl _, fun _ _ => rfl, fun _ _ _ => rfl, fun _ _ _ => rfl, fun _ _ => rfl⟩
theorem Ext.trans {b : Nat} {h h' h'' : AHeap} (x : Ext b h h') (y : Ext b h' h'') : Ext b h h'' :=
 ⟨Nat.le_trans x.size y.size, fun i hi => (y.obj i hi).trans (x.obj i hi), fun e r hr => (y.ep e r hr).trans (x.ep e r hr), fun e r hr => (y.tip e r hr).trans (x.tip e r hr), fun i hi => (y.map i hi).trans (x.map i hi)⟩
theorem Ext.mono {b c : Nat} {h h' : AHeap} (x : Ext b h h') (hc : c ≤ b) : Ext c h h' :=
 ⟨x.size, fun i hi => x.obj i (by omega), fun e r hr => x.ep e r (by omega), fun e r hr => x.tip e r (by omega), fun i hi => x.map i (by omega)⟩
theorem Ext.at? {b : Nat} {h h' : AHeap} (x : Ext b h h') {i : Nat} {o : AObj} (hi : i < b) (ho : h.at? i = some o) : h'.at? i = some o := by
 obtain ⟨h1, h2, h3, h4⟩ := at?_obj ho
 exact at?_mk ((x.obj i hi).trans h1) (by have := x.size; omega) h3 ((x.ep _ _ (by omega)).trans h4)
theorem Ext.new {b : Nat} {h : AHeap} (hb : b ≤ h.size) (e : TypeId) (cs : List Value) : Ext b h (h.new e cs) :=
 ⟨by simp [AHeap.new], fun i hi => by simp [AHeap.new]; omega, fun _ _ _ => rfl, fun e' r hr => by simp [AHeap.new]; omega, fun i hi => by simp [AHeap.new]⟩
theorem Ext.put {b : Nat} {h : AHeap} {i : Nat} {o : AObj} (hi : b ≤ i) (hr : b ≤ o.root) (cs : List Value) : Ext b h (h.put i o cs) :=
 ⟨Nat.le_refl _, fun j hj => by simp [AHeap.put]; omega, fun e r h' => by simp [AHeap.put]; omega, fun e r h' => by simp [AHeap.put]; omega, fun _ _ => rfl⟩
theorem Ext.app {b : Nat} {h : AHeap} {o : AObj} (hb : b ≤ h.size) (hr : b ≤ o.root) (k : Nat) (cs : List Value) : Ext b h (h.app o k cs) :=
 ⟨by simp [AHeap.app], fun j hj => by simp [AHeap.app]; omega, fun e r h' => by simp only [AHeap.app]; rw [if_neg (by omega)], fun e r h' => by simp only [AHeap.app]; rw [if_neg (by omega)], fun i hi => by simp [AHeap.app]⟩
def Own (b : Nat) (h : AHeap) (i : Nat) (e : TypeId) (cs : List Value) : Prop := ∃ root ep, h.at? i = some ⟨root, ep, false, e, cs⟩ ∧ b ≤ root
def Row (h : AHeap) (i : Nat) (cs : List Value) : Prop := ∃ o, h.at? i = some o ∧ o.cells = cs
theorem Own.row {b : Nat} {h : AHeap} {i : Nat} {e : TypeId} {cs : List Value} (x : Own b h i e cs) : Row h i cs := let ⟨_, _, h1, _⟩ := x; ⟨_, h1, rfl⟩
theorem Own.lt {b : Nat} {h : AHeap} {i : Nat} {e : TypeId} {cs : List Value} (x : Own b h i e cs) : b ≤ i ∧ i < h.size := by
 obtain ⟨r, ep, h1, h2⟩ := x
 obtain ⟨_, h3, h4, _⟩ := at?_obj h1
 exact ⟨Nat.le_trans h2 h4, h3⟩
theorem Own.ext {b c : Nat} {h h' : AHeap} {i : Nat} {e : TypeId} {cs : List Value} (x : Own b h i e cs) (y : Ext c h h') (hi : i < c) : Own b h' i e cs :=
 let ⟨r, ep, h1, h2⟩ := x; ⟨r, ep, y.at? hi h1, h2⟩
theorem Row.ext {c : Nat} {h h' : AHeap} {i : Nat} {cs : List Value} (x : Row h i cs) (y : Ext c h h') (hi : i < c) : Row h' i cs :=
 let ⟨o, h1, h2⟩ := x; ⟨o, y.at? hi h1, h2⟩
theorem Own.mono {b c : Nat} {h : AHeap} {i : Nat} {e : TypeId} {cs : List Value} (x : Own b h i e cs) (hc : c ≤ b) : Own c h i e cs :=
 let ⟨r, ep, h1, h2⟩ := x; ⟨r, ep, h1, Nat.le_trans hc h2⟩
theorem Own.new {b : Nat} {h : AHeap} (hb : b ≤ h.size) (e : TypeId) (cs : List Value) : Own b (h.new e cs) h.size e cs := ⟨_, _, at?_new_same h e cs, hb⟩
theorem Row.rd {h : AHeap} {i off n : Nat} {cs : List Value} (x : Row h i cs) (hn : off + n ≤ cs.length) : h.rd i off n = some ((cs.drop off).take n) := by
 obtain ⟨o, h1, rfl⟩ := x
 simp [AHeap.rd, h1, hn]
theorem Row.ld1 {h : AHeap} {i off : Nat} {cs : List Value} {v : Value} (x : Row h i cs) (hv : cs[off]? = some v) : aLd1 h (ptr i off) = some v := by
 have hl := (List.getElem?_eq_some_iff.1 hv).1
 simp only [aLd1, ptr, x.rd (off := off) (n := 1) (by omega), oBs]
 rw [List.head?_take, if_neg (by omega), List.head?_drop, hv]
theorem Row.ldN {h : AHeap} {i off n : Nat} {cs : List Value} (x : Row h i cs) (hn : off + n ≤ cs.length) : aLdN h (ptr i off) n = some (.agg ((cs.drop off).take n).toArray) := by
 simp [aLdN, ptr, x.rd hn]
theorem Own.st {b : Nat} {h : AHeap} {i off n : Nat} {e : TypeId} {cs vs : List Value} {v : Value} (x : Own b h i e cs) (hv : aCells v = some vs) (hl : vs.length = n) (hn : off + n ≤ cs.length) :
  ∃ h', aSt h (ptr i off) v n = some h' ∧ Ext b h h' ∧ Own b h' i e (splice cs off vs) ∧ h'.size = h.size ∧
   (∀ j cs', Row h j cs' → (∀ o, h.at? j = some o → ¬ (o.elem = e ∧ ∃ oi, h.at? i = some oi ∧ o.root = oi.root)) → j ≠ i → Row h' j cs') := by
 obtain ⟨r, ep, h1, h2⟩ := x
 have hi := at?_obj h1
 refine ⟨h.put i ⟨r, ep, false, e, cs⟩ (splice cs off vs), by simp [aSt, ptr, h1, hv, hl, hn], Ext.put (Nat.le_trans h2 hi.2.2.1) h2 _, ⟨_, _, at?_put_same h1 _, h2⟩, rfl, fun j cs' ⟨o, ho, hc⟩ hf hne => ?_⟩
 exact ⟨o, at?_put_other ho hne _ (fun hh => hf o ho ⟨hh.1, _, h1, hh.2⟩), hc⟩
theorem Own.app {b : Nat} {h : AHeap} {i n m esz bytes : Nat} {e : TypeId} {cs ms : List Value} {x : Value} (o : Own b h i e cs) (hb : b ≤ h.size) (hsrc : aSrc h esz x = some (m, ms)) (hn : n * esz = cs.length)
  (h1 : n + m ≤ most) (h2 : (n + m) * bytes ≤ most) :
  ∃ h', aApp h e esz bytes (slc i 0 n) x = some (slc h.size 0 (n + m), h') ∧ Ext b h h' ∧ Own b h' h.size e (cs ++ ms) ∧ h'.size = h.size + 1 := by
 obtain ⟨r, ep, ha, hr⟩ := o
 refine ⟨h.app ⟨r, ep, false, e, cs⟩ (n * esz) (cs ++ ms), ?_, Ext.app hb hr _ _, ⟨_, _, at?_app_same ha _ _, hr⟩, rfl⟩
 simp [aApp, aAppG, slc, ha, hsrc, hn, h1, h2]
theorem Row.src {h : AHeap} {i off n esz : Nat} {cs : List Value} (x : Row h i cs) (hn : off + n * esz ≤ cs.length) : aSrc h esz (slc i off n) = some (n, (cs.drop off).take (n * esz)) := by
 simp [aSrc, slc, x.rd hn]
open Go.AH
section
variable {P : Option (Value × AHeap) → Prop}
theorem xb {α : Type} {o : Option α} {k : α → Option (Value × AHeap)} {v : α} (e : o = some v) (hk : P (k v)) : P (o.bind k) := by rw [e]; exact hk
theorem xf {c : Bool} {x y : Option (Value × AHeap)} (e : c = false) (hk : P y) : P (bif c then x else y) := by rw [e]; exact hk
theorem xt {c : Bool} {x y : Option (Value × AHeap)} (e : c = true) (hk : P x) : P (bif c then x else y) := by rw [e]; exact hk
end
def Is (h : AHeap) (v : Value) (o : Option (Value × AHeap)) : Prop := ∃ g, o = some (v, g) ∧ Ext h.size h g
theorem Is.mk {h g : AHeap} {v : Value} (e : Ext h.size h g) : Is h v (some (v, g)) := ⟨g, rfl, e⟩
theorem Is.mk' {h g : AHeap} {u v : Value} (e : Ext h.size h g) (hv : u = v) : Is h v (some (u, g)) := by subst hv; exact ⟨g, rfl, e⟩
theorem Is.up {h g : AHeap} {v : Value} {o : Option (Value × AHeap)} (e : Ext h.size h g) (x : Is g v o) : Is h v o := let ⟨g', a, b⟩ := x; ⟨g', a, e.trans (b.mono e.size)⟩
theorem Is.self {h : AHeap} {v : Value} : Is h v (some (v, h)) := ⟨h, rfl, Ext.refl _ _⟩
def OwnI (h : AHeap) (i rt : Nat) (e : TypeId) (cs : List Value) : Prop := ∃ ep, h.at? i = some ⟨rt, ep, false, e, cs⟩
theorem OwnI.row {h : AHeap} {i rt : Nat} {e : TypeId} {cs : List Value} (x : OwnI h i rt e cs) : Row h i cs := let ⟨_, a⟩ := x; ⟨_, a, rfl⟩
theorem OwnI.lt {h : AHeap} {i rt : Nat} {e : TypeId} {cs : List Value} (x : OwnI h i rt e cs) : rt ≤ i ∧ i < h.size := let ⟨_, a⟩ := x; ⟨(at?_obj a).2.2.1, (at?_obj a).2.1⟩
theorem OwnI.ext {h g : AHeap} {i rt : Nat} {e : TypeId} {cs : List Value} (x : OwnI h i rt e cs) (E : Ext h.size h g) : OwnI g i rt e cs := let ⟨ep, a⟩ := x; ⟨ep, E.at? (at?_obj a).2.1 a⟩
theorem OwnI.extb {b : Nat} {h g : AHeap} {i rt : Nat} {e : TypeId} {cs : List Value} (x : OwnI h i rt e cs) (E : Ext b h g) (hi : i < b) : OwnI g i rt e cs := let ⟨ep, a⟩ := x; ⟨ep, E.at? hi a⟩
abbrev FRow := Nat × List Value
abbrev MRow := Nat × List (Value × Value)
def mEnt (l : List Int) : List (Value × Value) := l.map fun k => (.int .i64 k, .bool true)
instance : Coe (List Int) (List (Value × Value)) := ⟨mEnt⟩
structure ORow where
 i : Nat
 rt : Nat
 e : TypeId
 lv : Bool
 cs : List Value
structure Cx (b : Nat) (h : AHeap) (F : List FRow) (O : List ORow) (M : List MRow) : Prop where
 bh : b ≤ h.size
 fr : ∀ q ∈ F, Row h q.1 q.2 ∧ q.1 < b
 ow : ∀ q ∈ O, (q.lv = true → OwnI h q.i q.rt q.e q.cs ∧ b ≤ q.rt) ∧ (q.lv = false → q.cs = [])
 nd : O.Pairwise fun p q => p.lv = true → q.lv = true → p.rt ≠ q.rt
 ms : ∀ q ∈ M, h.map q.1 = some q.2 ∧ b ≤ q.1 ∧ q.1 < h.size
 md : M.Pairwise fun p q => p.1 ≠ q.1
section
variable {b : Nat} {h g : AHeap} {F : List FRow} {O : List ORow} {M : List MRow}
theorem Cx.ext (y : Cx b h F O M) (E : Ext h.size h g) : Cx b g F O M :=
 ⟨Nat.le_trans y.bh E.size, fun q hq => ⟨(y.fr q hq).1.ext E (Nat.lt_of_lt_of_le (y.fr q hq).2 y.bh), (y.fr q hq).2⟩, fun q hq => ⟨fun l => ⟨((y.ow q hq).1 l).1.ext E, ((y.ow q hq).1 l).2⟩, (y.ow q hq).2⟩, y.nd, fun q hq => ⟨(E.map _ (y.ms q hq).2.2).trans (y.ms q hq).1, (y.ms q hq).2.1, Nat.lt_of_lt_of_le (y.ms q hq).2.2 E.size⟩, y.md⟩
theorem Cx.add (y : Cx b h F O M) {g : AHeap} {i rt : Nat} {e : TypeId} {cs : List Value} {lv : Bool} (E : Ext h.size h g) (o : lv = true → OwnI g i rt e cs ∧ h.size ≤ rt) (z : lv = false → cs = []) : Cx b g F (⟨i, rt, e, lv, cs⟩ :: O) M := by
 have y' := y.ext E
 refine ⟨y'.bh, y'.fr, fun q hq => ?_, List.Pairwise.cons (fun q hq l1 l2 => ?_) y'.nd, y'.ms, y'.md⟩
 ·rcases List.mem_cons.1 hq with rfl | hq
  ·exact ⟨fun l => ⟨(o l).1, Nat.le_trans y.bh (o l).2⟩, z⟩
  ·exact y'.ow q hq
 ·have a := ((y.ow q hq).1 l2).1.lt
  have c := (o l1).2
  show rt ≠ q.rt
  omega
theorem Cx.new (y : Cx b h F O M) (e : TypeId) (cs : List Value) : Cx b (h.new e cs) F (⟨h.size, h.size, e, true, cs⟩ :: O) M :=
 y.add (Ext.new (Nat.le_refl h.size) e cs) (fun _ => ⟨⟨_, at?_new_same h e cs⟩, Nat.le_refl _⟩) (fun h => by cases h)
theorem Cx.start (h : AHeap) (hF : ∀ q ∈ F, Row h q.1 q.2 ∧ q.1 < h.size) : Cx h.size h F [] [] := ⟨Nat.le_refl _, hF, fun q hq => (by cases hq), .nil, fun q hq => (by cases hq), .nil⟩
theorem Cx.addF (y : Cx b h F O M) {i : Nat} {cs : List Value} (r : Row h i cs) (hi : i < b) : Cx b h ((i, cs) :: F) O M :=
 ⟨y.bh, fun q hq => by rcases List.mem_cons.1 hq with rfl | hq; exact ⟨r, hi⟩; exact y.fr q hq, y.ow, y.nd, y.ms, y.md⟩
theorem Cx.pick (y : Cx b h F O M) {O' : List ORow} (s : O'.Sublist O) : Cx b h F O' M := ⟨y.bh, y.fr, fun q hq => y.ow q (s.subset hq), y.nd.sublist s, y.ms, y.md⟩
theorem Cx.live (y : Cx b h F O M) {n k : Nat} {q : ORow} {v : Value} (e : O[n]? = some q) (hv : q.cs[k]? = some v) : OwnI h q.i q.rt q.e q.cs ∧ b ≤ q.rt := by
 have o := y.ow q (List.mem_of_getElem? e)
 cases hl : q.lv with
 | true => exact o.1 hl
 | false => rw [o.2 hl] at hv; cases hv
theorem Cx.ldF (y : Cx b h F O M) (n k : Nat) {i : Nat} {cs : List Value} {v : Value} (e : F[n]? = some (i, cs)) (hv : cs[k]? = some v) : aLd1 h (ptr i k) = some v := (y.fr _ (List.mem_of_getElem? e)).1.ld1 hv
theorem Cx.ldO (y : Cx b h F O M) (n k : Nat) {i rt : Nat} {t : TypeId} {l : Bool} {cs : List Value} {v : Value} (e : O[n]? = some ⟨i, rt, t, l, cs⟩) (hv : cs[k]? = some v) : aLd1 h (ptr i k) = some v :=
 (y.live (q := ⟨i, rt, t, l, cs⟩) e hv).1.row.ld1 hv
theorem Cx.ldFN (y : Cx b h F O M) (n : Nat) {i m : Nat} {cs : List Value} (e : F[n]? = some (i, cs)) (hm : m = cs.length) : aLdN h (ptr i 0) m = some (.agg cs.toArray) := by
 subst hm
 rw [(y.fr _ (List.mem_of_getElem? e)).1.ldN (off := 0) (by show 0 + cs.length ≤ cs.length; omega)]; simp
theorem Cx.ldON (y : Cx b h F O M) (n : Nat) {i rt m : Nat} {t : TypeId} {cs : List Value} (e : O[n]? = some ⟨i, rt, t, true, cs⟩) (hm : m = cs.length) : aLdN h (ptr i 0) m = some (.agg cs.toArray) := by
 subst hm
 rw [((y.ow _ (List.mem_of_getElem? e)).1 rfl).1.row.ldN (off := 0) (by show 0 + cs.length ≤ cs.length; omega)]; simp
theorem Cx.turn (y : Cx b h F O M) (n : Nat) {i rt j : Nat} {t : TypeId} {cs ds : List Value} {g : AHeap} (e : O[n]? = some ⟨i, rt, t, true, cs⟩) (E : Ext b h g) (o : OwnI g j rt t ds)
  (k : ∀ l q, h.at? l = some q → q.root ≠ rt → g.at? l = some q) (km : g.map = h.map) : Cx b g F (O.set n ⟨j, rt, t, true, ds⟩) M := by
 have hlt := (List.getElem?_eq_some_iff.1 e).1
 have e1 : O[n] = ⟨i, rt, t, true, cs⟩ := by rw [List.getElem?_eq_getElem hlt] at e; exact Option.some.inj e
 have hb : b ≤ rt := ((y.ow _ (List.mem_of_getElem? e)).1 rfl).2
 have pw := List.pairwise_iff_getElem.1 y.nd
 refine ⟨Nat.le_trans y.bh E.size, fun q hq => ⟨(y.fr q hq).1.ext E (y.fr q hq).2, (y.fr q hq).2⟩, fun q hq => ?_, ?_, fun q hq => ⟨(congrFun km _).trans (y.ms q hq).1, (y.ms q hq).2.1, Nat.lt_of_lt_of_le (y.ms q hq).2.2 E.size⟩, y.md⟩
 ·rw [List.mem_iff_getElem?] at hq
  obtain ⟨m, hm⟩ := hq
  by_cases hmn : m = n
  ·subst hmn
   rw [List.getElem?_set_self hlt] at hm
   cases hm
   exact ⟨fun _ => ⟨o, hb⟩, fun h => by cases h⟩
  ·rw [List.getElem?_set_ne (fun h => hmn h.symm)] at hm
   have q0 := y.ow q (List.mem_of_getElem? hm)
   have hlk := (List.getElem?_eq_some_iff.1 hm).1
   have e2 : O[m] = q := by rw [List.getElem?_eq_getElem hlk] at hm; exact Option.some.inj hm
   refine ⟨fun l => ?_, q0.2⟩
   obtain ⟨⟨ep', a'⟩, hq'⟩ := q0.1 l
   have hne : q.rt ≠ rt := by
    rcases Nat.lt_or_gt_of_ne hmn with hl | hl
    ·have := pw m n hlk hlt hl
     rw [e1, e2] at this; exact this l rfl
    ·have := pw n m hlt hlk hl
     rw [e1, e2] at this; exact fun h => this rfl l h.symm
   exact ⟨⟨ep', k _ _ a' hne⟩, hq'⟩
 ·rw [List.pairwise_iff_getElem]
  intro m l hm hl hml
  rw [List.length_set] at hm hl
  have key : ∀ m (hm : m < O.length), ((O.set n ⟨j, rt, t, true, ds⟩)[m]'(by rw [List.length_set]; exact hm)).rt = (O[m]).rt ∧ ((O.set n ⟨j, rt, t, true, ds⟩)[m]'(by rw [List.length_set]; exact hm)).lv = (O[m]).lv := fun m hm => by
   rw [List.getElem_set]
   split
   ·next h => subst h; rw [e1]; exact ⟨rfl, rfl⟩
   ·exact ⟨rfl, rfl⟩
  rw [(key m hm).1, (key l hl).1, (key m hm).2, (key l hl).2]
  exact pw m l hm hl hml
theorem Cx.st (y : Cx b h F O M) (n : Nat) {i rt off m : Nat} {t : TypeId} {cs vs : List Value} {v : Value} (e : O[n]? = some ⟨i, rt, t, true, cs⟩) (hv : aCells v = some vs) (hl : vs.length = m) (hn : off + m ≤ cs.length) :
  ∃ g, aSt h (ptr i off) v m = some g ∧ Ext b h g ∧ Cx b g F (O.set n ⟨i, rt, t, true, splice cs off vs⟩) M ∧ g.size = h.size := by
 obtain ⟨⟨ep, a⟩, hb⟩ := (y.ow _ (List.mem_of_getElem? e)).1 rfl
 have ha : h.at? i = some ⟨rt, ep, false, t, cs⟩ := a
 have ho := at?_obj ha
 have E : Ext b h (h.put i ⟨rt, ep, false, t, cs⟩ (splice cs off vs)) := Ext.put (Nat.le_trans hb ho.2.2.1) hb _
 refine ⟨_, by simp [aSt, ptr, ha, hv, hl, hn], E, y.turn n e E ⟨_, at?_put_same ha _⟩ (fun l q hq hr => at?_put_other hq (fun h => ?_) _ (fun hh => hr hh.2)) rfl, rfl⟩
 subst h; rw [ha] at hq; cases hq; exact hr rfl
theorem at?_app_oth {o oj : AObj} {j : Nat} (hj : h.at? j = some oj) (k : Nat) (cs : List Value) (hf : oj.root ≠ o.root) : (h.app o k cs).at? j = some oj := by
 obtain ⟨h1, h2, h3, h4⟩ := at?_obj hj
 refine at?_mk ?_ ?_ h3 ?_
 ·show (if j = h.size then _ else h.obj j) = _
  rw [if_neg (by omega)]; exact h1
 ·show j < h.size + 1; omega
 ·show (if oj.elem = o.elem ∧ oj.root = o.root then _ else h.ep oj.elem oj.root) = _
  rw [if_neg (fun x => hf x.2)]; exact h4
theorem Cx.app (y : Cx b h F O M) (n : Nat) {i rt n' m esz bytes : Nat} {t : TypeId} {cs ms : List Value} {x : Value} (e : O[n]? = some ⟨i, rt, t, true, cs⟩) (hsrc : aSrc h esz x = some (m, ms)) (hn : n' * esz = cs.length)
  (h1 : n' + m ≤ most) (h2 : (n' + m) * bytes ≤ most) :
  ∃ j g, aApp h t esz bytes (slc i 0 n') x = some (slc j 0 (n' + m), g) ∧ Ext b h g ∧ Cx b g F (O.set n ⟨j, rt, t, true, cs ++ ms⟩) M := by
 obtain ⟨⟨ep, a⟩, hb⟩ := (y.ow _ (List.mem_of_getElem? e)).1 rfl
 have ha : h.at? i = some ⟨rt, ep, false, t, cs⟩ := a
 have E : Ext b h (h.app ⟨rt, ep, false, t, cs⟩ (n' * esz) (cs ++ ms)) := Ext.app y.bh hb _ _
 refine ⟨h.size, h.app ⟨rt, ep, false, t, cs⟩ (n' * esz) (cs ++ ms), by simp [aApp, aAppG, slc, ha, hsrc, hn, h1, h2], E, y.turn n e E ⟨_, at?_app_same ha _ _⟩ (fun l q hq hr => at?_app_oth hq _ _ hr) rfl⟩
end
theorem newC {P : Option (Value × AHeap) → Prop} {b : Nat} {h : AHeap} {F : List FRow} {O : List ORow} {M : List MRow} {e : TypeId} {cells : List Value} {k : Value → AHeap → Option (Value × AHeap)} (y : Cx b h F O M)
  (hk : ∀ p g, Ext h.size h g → Cx b g F (⟨p, p, e, true, cells⟩ :: O) M → P (k (ptr p 0) g)) : P (aNew h e cells k) := hk _ _ (Ext.new (Nat.le_refl _) _ _) (y.new e cells)
section
variable {b : Nat} {h g : AHeap} {F : List FRow} {O : List ORow} {M : List MRow}
theorem Ext.newM (h : AHeap) : Ext h.size h h.newMap := ⟨by simp [AHeap.newMap], fun i hi => rfl, fun _ _ _ => rfl, fun _ _ _ => rfl, fun i hi => by simp [AHeap.newMap]; omega⟩
theorem Cx.newM (y : Cx b h F O M) : Cx b h.newMap F O ((h.size, mEnt []) :: M) := by
 have y' := y.ext (Ext.newM h)
 refine ⟨y'.bh, y'.fr, y'.ow, y'.nd, fun q hq => ?_, List.Pairwise.cons (fun q hq => ?_) y'.md⟩
 ·rcases List.mem_cons.1 hq with rfl | hq
  ·exact ⟨by simp [AHeap.newMap, mEnt], y.bh, by simp [AHeap.newMap]⟩
  ·exact y'.ms q hq
 ·have := (y.ms q hq).2.2
  show h.size ≠ q.1
  omega
theorem mfind_ent (k : Int) : ∀ l : List Int, mfind (.int .i64 k) (mEnt l) = some (if k ∈ l then some (.bool true) else none)
 | [] => rfl
 | x :: l => by
  show (match keyEq (.int .i64 k) (.int .i64 x) with | some true => some (some _) | some false => mfind (.int .i64 k) (mEnt l) | none => none) = _
  have : keyEq (.int .i64 k) (.int .i64 x) = some (k == x) := by simp [keyEq]
  rw [this]
  by_cases hx : k = x
  ·subst hx; simp
  ·have : (k == x) = false := by simp [hx]
   rw [this]
   simp only [mfind_ent k l, List.mem_cons, hx, false_or]
def insM (l : List Int) (k : Int) : List Int := if k ∈ l then l else l ++ [k]
theorem mset_ent (k : Int) : ∀ l : List Int, mset (.int .i64 k) (.bool true) (mEnt l) = some (mEnt (insM l k))
 | [] => rfl
 | x :: l => by
  show (match keyEq (.int .i64 k) (.int .i64 x) with | some true => some _ | some false => (mset (.int .i64 k) (.bool true) (mEnt l)).map _ | none => none) = _
  have : keyEq (.int .i64 k) (.int .i64 x) = some (k == x) := by simp [keyEq]
  rw [this]
  by_cases hx : k = x
  ·subst hx; simp [insM, mEnt]
  ·have : (k == x) = false := by simp [hx]
   rw [this]
   simp only [mset_ent k l, insM, List.mem_cons, hx, false_or]
   by_cases hl : k ∈ l
   ·simp [hl, mEnt]
   ·simp [hl, mEnt]
theorem Cx.mget (y : Cx b h F O M) (n : Nat) {i : Nat} {l : List Int} (e : M[n]? = some (i, mEnt l)) (k : Int) : aMget h (.map (some i)) (.int .i64 k) (.bool false) false = some (.bool (decide (k ∈ l))) := by
 have m := (y.ms _ (List.mem_of_getElem? e)).1
 show ((h.map i).bind fun l => _) = _
 rw [m]
 show (mfind _ (mEnt l)).map _ = _
 rw [mfind_ent]
 by_cases hk : k ∈ l <;> simp [hk]
theorem Cx.msetE (y : Cx b h F O M) (n : Nat) {i : Nat} {l l2 : List (Value × Value)} (e : M[n]? = some (i, l)) {key v : Value} (hv : isCell v = true) (hl2 : mset key v l = some l2) :
  ∃ g, aMset h (.map (some i)) key v = some g ∧ Ext b h g ∧ Cx b g F O (M.set n (i, l2)) := by
 have m := y.ms _ (List.mem_of_getElem? e)
 have hlt := (List.getElem?_eq_some_iff.1 e).1
 have e1 : M[n] = (i, l) := by rw [List.getElem?_eq_getElem hlt] at e; exact Option.some.inj e
 refine ⟨h.putMap i l2, ?_, ⟨Nat.le_refl _, fun _ _ => rfl, fun _ _ _ => rfl, fun _ _ _ => rfl, fun j hj => ?_⟩, y.bh, y.fr, y.ow, y.nd, fun q hq => ?_, ?_⟩
 ·show (if isCell v = true then (h.map i).bind _ else none) = _
  have m1 : h.map i = some l := m.1
  rw [if_pos hv, m1, oBs, hl2]; rfl
 ·have : b ≤ i := m.2.1
  show (if j = i then _ else h.map j) = _
  rw [if_neg (by omega)]
 ·rw [List.mem_iff_getElem?] at hq
  obtain ⟨p, hp⟩ := hq
  by_cases hpn : p = n
  ·subst hpn
   rw [List.getElem?_set_self hlt] at hp; cases hp
   exact ⟨by simp [AHeap.putMap], m.2⟩
  ·rw [List.getElem?_set_ne (fun h => hpn h.symm)] at hp
   have q0 := y.ms q (List.mem_of_getElem? hp)
   have hlk := (List.getElem?_eq_some_iff.1 hp).1
   have e2 : M[p] = q := by rw [List.getElem?_eq_getElem hlk] at hp; exact Option.some.inj hp
   have hne : q.1 ≠ i := by
    have pw := List.pairwise_iff_getElem.1 y.md
    rcases Nat.lt_or_gt_of_ne hpn with hl | hl
    ·have := pw p n hlk hlt hl
     rw [e1, e2] at this; exact this
    ·have := pw n p hlt hlk hl
     rw [e1, e2] at this; exact this.symm
   refine ⟨?_, q0.2⟩
   show (if q.1 = i then _ else h.map q.1) = _
   rw [if_neg hne]; exact q0.1
 ·rw [List.pairwise_iff_getElem]
  intro p l' hp hl hpl
  rw [List.length_set] at hp hl
  have key : ∀ p (hp : p < M.length), ((M.set n (i, l2))[p]'(by rw [List.length_set]; exact hp)).1 = (M[p]).1 := fun p hp => by
   rw [List.getElem_set]
   split
   ·next h => subst h; rw [e1]
   ·rfl
  rw [key p hp, key l' hl]
  exact List.pairwise_iff_getElem.1 y.md p l' hp hl hpl
theorem Cx.mset (y : Cx b h F O M) (n : Nat) {i : Nat} {l : List Int} (e : M[n]? = some (i, mEnt l)) (k : Int) :
  ∃ g, aMset h (.map (some i)) (.int .i64 k) (.bool true) = some g ∧ Ext b h g ∧ Cx b g F O (M.set n (i, insM l k)) := y.msetE n e rfl (mset_ent k l)
theorem Cx.frontM (y : Cx b h F O M) (n : Nat) {q : MRow} (e : M[n]? = some q) : Cx b h F O (q :: M.eraseIdx n) := by
 have hl := (List.getElem?_eq_some_iff.1 e).1
 have p : List.Perm M (q :: M.eraseIdx n) := by
  have e1 : M = M.take n ++ q :: M.drop (n + 1) := by
   have e2 : M[n] = q := by rw [List.getElem?_eq_getElem hl] at e; exact Option.some.inj e
   rw [← e2, ← List.drop_eq_getElem_cons hl, List.take_append_drop]
  rw [List.eraseIdx_eq_take_drop_succ]
  exact (List.Perm.of_eq e1).trans List.perm_middle
 exact ⟨y.bh, y.fr, y.ow, y.nd, fun r hr => y.ms r (p.mem_iff.2 hr), (p.pairwise_iff (fun {x z} hx he => hx he.symm)).1 y.md⟩
theorem Cx.pickM (y : Cx b h F O M) {M' : List MRow} (s : M'.Sublist M) : Cx b h F O M' := ⟨y.bh, y.fr, y.ow, y.nd, fun q hq => y.ms q (s.subset hq), y.md.sublist s⟩
end
end Go.AM
