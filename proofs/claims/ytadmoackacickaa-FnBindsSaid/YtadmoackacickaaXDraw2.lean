import Derived.Test.YtadmoackacickaaXDraw
/- A region that draws its order: the walk. -/
set_option linter.unusedSimpArgs false
set_option linter.unusedVariables false
namespace Go.AH
open Go.RowKit Go.Lib
variable {P : Program} {w0 w : World} {ι : Inj} {h : AHeap}
section
variable {ops : Array Oper} {C : ACall} {R : Type} {D : List Deferred} {k : Tm → AHeap → Option R} {r : R}

structure Inv (P : Program) (w0 : World) (C : ACall) (ops : Array Oper) (D : List Deferred) (k : Tm → AHeap → Option R) (r : R)
    (ι : Inj) (X ρ rs : List Nat) (listed : Array Bool) (t : Tm) (h : AHeap) (a : Act) (w : World) : Prop where
  ok : DrawOk ops (X ++ ρ)
  size : listed.size = ops.size
  closed : ∀ j o, ops[j]? = some o → listed.getD j false = true → ∀ e ∈ o.after, Region.binds .any e = true → listed.getD e.on false = true
  un : ∀ j ∈ ρ, Unl listed j
  effs : ∀ j ∈ X, eff ops j = true → listed.getD j false = true
  run : evDraw P C ops (pres ops) ρ rs t h k = some r
  H : HRel P w0 ι h w
  tr : TRm ops X listed ι t a
  facts : ∀ j ∈ X, Unl listed j → ∃ o, Fact P C ops t h j o ∧ (isRd o.op = true → j ∈ rs ∨ gW ops o t = some false)
  defers : a.defers = D

variable {X ρ rs : List Nat} {listed : Array Bool} {t : Tm} {a : Act}

theorem Inv.same {X ρ rs : List Nat} {listed : Array Bool} {t t' : Tm} {a : Act} (I : Inv P w0 C ops D k r ι X ρ rs listed t h a w) (hs : Same t t') :
    TRm ops X listed ι t' a ∧ (∀ j ∈ X, Unl listed j → ∃ o, Fact P C ops t' h j o ∧ (isRd o.op = true → j ∈ rs ∨ gW ops o t' = some false)) :=
  ⟨I.tr.same hs, fun j hj hu => let ⟨o, f, hr⟩ := I.facts j hj hu; ⟨o, f.same hs, fun h => (hr h).imp id fun e => by rw [gW_congr f.at' fun d _ => hs.at' d]; exact e⟩⟩
theorem op_of_eff {j : Nat} {o : Oper} (ho : ops[j]? = some o) : eff ops j = isEff o.op := by simp [eff, ho]

theorem Inv.advance {j : Nat} (I : Inv P w0 C ops D k r ι X (j :: ρ) rs listed t h a w) (hj : eff ops j = false) :
    ∃ rs' t', Inv P w0 C ops D k r ι (X ++ [j]) ρ rs' listed t' h a w := by
  have K := I.ok
  have hlt : j < ops.size := K.lt j (by simp)
  have ho : ops[j]? = some ops[j] := Array.getElem?_eq_getElem hlt
  generalize hoe : ops[j] = o at ho
  have hie : isEff o.op = false := by rw [← op_of_eff ho]; exact hj
  have hnot : ∀ d, o.dst = some d → d ∉ looks ops j := fun d hd hl => by
    have := K.ssa j (by simp) hj d (by simp [dstOf, ho, hd]) j (by simp) hl
    exact absurd (pre_lt K j this) (Nat.lt_irrefl _)
  have hpair := fun i (hi : i ∈ X) => drawRow_pair K.row i hi
  have step : ∀ (v : Value) (t : Tm) (rs' : List Nat), TRm ops X listed ι t a → (∀ j ∈ X, Unl listed j → ∃ o, Fact P C ops t h j o ∧ (isRd o.op = true → j ∈ rs ∨ gW ops o t = some false)) →
      Fact P C ops (put t o.dst v) h j o → (∀ i ∈ rs, i ∈ rs') → (isRd o.op = true → j ∈ rs' ∨ gW ops o (put t o.dst v) = some false) → evDraw P C ops (pres ops) ρ rs' (put t o.dst v) h k = some r →
      ∃ rs' t', Inv P w0 C ops D k r ι (X ++ [j]) ρ rs' listed t' h a w := by
    intro v t rs' htr hfacts hf hrs hrd hrun
    refine ⟨rs', put t o.dst v, ⟨by simpa using K, I.size, I.closed, fun i hi => I.un i (List.mem_cons_of_mem _ hi), fun i hi he => ?_, hrun, I.H, ⟨by rw [put_len]; exact htr.len, fun s => ?_⟩, fun i hi hu => ?_, I.defers⟩⟩
    · rcases List.mem_append.1 hi with hi | hi
      · exact I.effs i hi he
      · simp at hi; subst hi; rw [hj] at he; cases he
    · by_cases hs : o.dst = some s
      · exact .inl ⟨j, by simp, I.un j (List.mem_cons_self ..), hj, by simp [dstOf, ho, hs]⟩
      · rw [put_getD hs]
        exact (htr.slot s).imp (fun ⟨i, hi, x⟩ => ⟨i, List.mem_append_left _ hi, x⟩) id
    · rcases List.mem_append.1 hi with hi | hi
      · obtain ⟨o', hf', hr'⟩ := hfacts i hi hu
        have hp : ∀ d, o.dst = some d → d ∉ looks ops i ∧ dstOf ops i ≠ some d := fun d hd => ⟨fun hl => by have := ((hpair i hi).1 d (by simp [dstOf, ho, hd])).1 hl; rw [hj] at this; exact absurd this.1 (by simp), ((hpair i hi).1 d (by simp [dstOf, ho, hd])).2⟩
        refine ⟨o', hf'.put hp, fun hr => (hr' hr).imp (hrs i) fun hg => ?_⟩
        rw [gW_congr hf'.at' fun d hl => put_getD fun e => (hp d e).1 hl]; exact hg
      · simp at hi; subst hi; exact ⟨o, hf, hrd⟩
  have e : ∀ (t : Tm) (v : Value), ∀ d ∈ looks ops j, (put t o.dst v).getD d junk = t.getD d junk := fun t v d hl => put_getD fun e => hnot d e hl
  have hrun := I.run
  simp only [evDraw, ho, hie, cond_false] at hrun
  rcases evG_inv hrun with ⟨hg, t', hs, he⟩ | ⟨hg, t', hs, he⟩
  · rw [evOp_bind hie, Option.bind_eq_some_iff] at he
    obtain ⟨v, hv, he⟩ := he
    have he := nrm_inv he
    refine step v t' _ (I.same hs).1 (I.same hs).2 ⟨ho, hie, .inl ⟨by rw [gW_congr ho (e t' v), gW_congr ho fun d _ => hs.at' d]; exact hg, v, by rw [evOp_congr (evX_congr ho (e t' v))]; exact hv, fun d hd hl => by rw [hd, put_len] at *; exact put_same hl⟩⟩ (fun i hi => ?_) (fun hr => .inl ?_) he
    · split
      · exact List.mem_append_left _ hi
      · exact hi
    · rw [if_pos hr]; simp
  · have hg' : gW ops o (put t' o.dst undef) = some false := by rw [gW_congr ho (e t' _), gW_congr ho fun d _ => hs.at' d]; exact hg
    exact step undef t' _ (I.same hs).1 (I.same hs).2 ⟨ho, hie, .inr ⟨hg', fun d hd hl => by rw [hd, put_len] at *; exact put_same hl⟩⟩ (fun i hi => hi) (fun _ => .inr hg') he

theorem Inv.advAll : ∀ (ρ : List Nat) {X rs : List Nat} {t : Tm}, Inv P w0 C ops D k r ι X ρ rs listed t h a w →
    ∃ X' ρ' rs' t', Inv P w0 C ops D k r ι X' ρ' rs' listed t' h a w ∧ ∀ j js, ρ' = j :: js → eff ops j = true := by
  intro ρ
  induction ρ with
  | nil => intro X rs t I; exact ⟨X, [], rs, t, I, by simp⟩
  | cons j js ih =>
    intro X rs t I
    cases hj : eff ops j with
    | true => exact ⟨X, _, rs, t, I, fun j' js' e => by cases e; exact hj⟩
    | false =>
      obtain ⟨rs', t', I'⟩ := I.advance hj
      exact ih I'

/-- Whatever is listed closes what comes ahead of it. -/
theorem Inv.pre (I : Inv P w0 C ops D k r ι X ρ rs listed t h a w) : ∀ (j : Nat) {i : Nat},
    (∀ o, ops[j]? = some o → ∀ e ∈ o.after, Region.binds .any e = true → listed.getD e.on false = true) → ((pres ops).getD j 0).testBit i = true → listed.getD i false = true := by
  intro j
  induction j using Nat.strongRecOn with
  | _ j ih =>
    intro i hl hb
    obtain ⟨o, ho, e, he, hbi, hh⟩ := pres_spec hb
    have hon := hl o ho e he hbi
    rcases hh with hh | hh
    · exact hh ▸ hon
    · exact ih e.on (I.ok.top j o ho e he hbi) (fun o' ho' => I.closed e.on o' ho' hon) hh

theorem TRm.gW_sound {j : Nat} {o : Oper} (T : TRm ops X listed ι t a) (ho : ops[j]? = some o) (hno : ∀ d ∈ looks ops j, ¬ Waits ops X listed d) {b : Bool} (h : gW ops o t = some b) :
    Region.wanted o (yielded ops a.tmps) = b :=
  AH.gW_sound h fun g want d hg hd => (T.slot d).resolve_left (hno d (mem_looks_guard ho hg hd))

theorem set_unl {listed : Array Bool} {i j : Nat} (h : Unl (listed.setIfInBounds j true) i) : Unl listed i := by
  unfold Unl at *
  by_cases hij : j = i
  · subst hij
    by_cases hl : j < listed.size
    · simp [hl] at h
    · simp [Array.getElem?_eq_none (Nat.le_of_not_lt hl)]
  · rwa [Array.getD_eq_getD_getElem?, Array.getElem?_setIfInBounds_ne hij, ← Array.getD_eq_getD_getElem?] at h
theorem set_unl_ne {listed : Array Bool} {i j : Nat} (hl : j < listed.size) (h : Unl (listed.setIfInBounds j true) i) : i ≠ j := by
  rintro rfl; simp [Unl, hl] at h
theorem Inv.closed_set (I : Inv P w0 C ops D k r ι X ρ rs listed t h a w) {j : Nat} (hl : ∀ o, ops[j]? = some o → ∀ e ∈ o.after, Region.binds .any e = true → listed.getD e.on false = true) :
    ∀ i o, ops[i]? = some o → (listed.setIfInBounds j true).getD i false = true → ∀ e ∈ o.after, Region.binds .any e = true → (listed.setIfInBounds j true).getD e.on false = true := by
  intro i o ho hi e he hb
  refine getD_set_true ?_
  by_cases hij : j = i
  · subst hij; exact hl o ho e he hb
  · exact I.closed i o ho (by rwa [getD_set_ne false hij] at hi) e he hb
theorem waits_set {X : List Nat} {j s : Nat} (h : Waits ops X (listed.setIfInBounds j true) s) : Waits ops X listed s :=
  let ⟨i, hi, hu, x⟩ := h; ⟨i, hi, set_unl hu, x⟩

/-- What the small evaluator has done is done. -/
theorem Inv.catch (hC : CallOk P w0 C) {Q : Exit → Act → World → Prop} (I : Inv P w0 C ops D k r ι X ρ rs listed t h a w) {j : Nat} (hj : j ∈ X) (hu : Unl listed j)
    (hl : ∀ o, ops[j]? = some o → ∀ e ∈ o.after, Region.binds .any e = true → listed.getD e.on false = true) :
    wpOp P ops Q j (fun a' w' => ∃ ι', Nxt ι w ι' w' ∧ Inv P w0 C ops D k r ι' X ρ rs (listed.setIfInBounds j true) t h a' w') a w := by
  have K := I.ok
  obtain ⟨o, f, hrd⟩ := I.facts j hj hu
  have ho := f.at'
  have hjs : j < listed.size := by rw [I.size]; exact (Array.getElem?_eq_some_iff.1 ho).1
  have hno : ∀ d ∈ looks ops j, ¬ Waits ops X listed d := fun d hd ⟨i, hi, hui, hei, hdi⟩ => by
    have := I.pre j hl (K.ssa i (by simp [hi]) hei d hdi j (by simp [hj]) hd)
    rw [hui] at this; cases this
  have fin : ∀ (v v' : Value) (w' : World) (ι' : Inj), (∀ d, o.dst = some d → d < t.n → t.getD d junk = v) → Nxt ι w ι' w' → HRel P w0 ι' h w' → VR ι' v v' →
      ∃ ι', Nxt ι w ι' w' ∧ Inv P w0 C ops D k r ι' X ρ rs (listed.setIfInBounds j true) t h (a.put o.dst v') w' := by
    intro v v' w' ι' hd n H' hv
    refine ⟨ι', n, ⟨K, by simpa using I.size, I.closed_set hl, fun i hi => ?_, fun i hi he => ?_, I.run, H', ⟨by rw [aput_size]; exact I.tr.len, fun s => ?_⟩, fun i hi hui => I.facts i hi (set_unl hui), by rw [Act.put_defers]; exact I.defers⟩⟩
    · have hne : j ≠ i := by
        rintro rfl
        obtain ⟨X1, X2, rfl⟩ := List.append_of_mem hi
        exact (drawRow_pair (X := X ++ X1) (r := X2) (by simpa using K.row) j (by simp [hj])).2.2 rfl
      show _ = _
      rw [getD_set_ne false hne]; exact I.un i hi
    · exact getD_set_true (I.effs i hi he)
    · by_cases hs : o.dst = some s
      · by_cases hlt : s < t.n
        · right
          rw [hd s hs hlt, hs, aput_same (by rw [← I.tr.len]; exact hlt)]; exact hv
        · right
          rw [getD_out hlt]; exact .junk _
      · rw [aput_ne hs]
        refine (I.tr.slot s).imp (fun ⟨i, hi, hui, hei, hdi⟩ => ⟨i, hi, ?_, hei, hdi⟩) fun hv => hv.mono n.le
        have hne : j ≠ i := by
          rintro rfl
          simp [dstOf, ho] at hdi
          exact hs hdi
        show _ = _
        rw [getD_set_ne false hne]; exact hui
  unfold wpOp
  simp only [ho]
  rcases f.says with ⟨hg, v, hv, hd⟩ | ⟨hg, hd⟩
  · rw [I.tr.gW_sound ho hno hg]
    simp only [if_true]
    left
    have hv2 : evOp P C o (veil ops X listed t) h (fun v h' => some (v, h')) = some (v, h) := by
      rw [evOp_congr (evX_congr ho fun d hl => veil_getD (hno d hl)), evOp_bind f.still, hv]; rfl
    refine op_sound hC hv2 I.tr.veil I.H fun v2 h2 v' w' ι' n H' hv' he => ?_
    simp at he
    obtain ⟨rfl, rfl⟩ := he
    exact fin _ _ _ _ hd n H' hv'
  · rw [I.tr.gW_sound ho hno hg]
    simp only [Bool.false_eq_true, if_false]
    exact fin _ _ _ _ hd (Nxt.refl _ _) I.H (VR.undef _)

theorem again_inv {t : Tm} {h : AHeap} {x : Option R} : ∀ {js : List Nat}, again P C ops t h x js = some r → x = some r ∧ ∀ j ∈ js, reOk P C ops t h j = some true
  | [], he => ⟨he, by simp⟩
  | j :: js, he => by
    simp only [again, Option.bind_eq_some_iff] at he
    obtain ⟨b, hb, he⟩ := he
    cases b with
    | false => simp at he
    | true =>
      obtain ⟨h1, h2⟩ := again_inv he
      exact ⟨h1, fun i hi => (List.mem_cons.1 hi).elim (fun e => e ▸ hb) (h2 i)⟩
theorem vbeq1_eq {x y : Value} (h : vbeq1 x y = true) : x = y := by
  unfold vbeq1 at h
  split at h
  case h_3 a b =>
    obtain ⟨a⟩ := a
    obtain ⟨b⟩ := b
    simp [BEq.beq, ByteArray.beq] at h
    rw [Array.eq_of_isEqv _ _ h]
  all_goals simp_all
theorem vbeqL_eq : ∀ {l m : List Value}, vbeqL l m = true → l = m
  | [], [], _ => rfl
  | x :: l, y :: m, h => by
    simp only [vbeqL, Bool.and_eq_true] at h
    rw [vbeq1_eq h.1, vbeqL_eq h.2]
  | [], _ :: _, h => by simp [vbeqL] at h
  | _ :: _, [], h => by simp [vbeqL] at h
theorem vbeq_eq {x y : Value} (h : vbeq x y = true) : x = y := by
  unfold vbeq at h
  split at h
  · rw [Array.ext' (vbeqL_eq h)]
  · exact vbeq1_eq h
theorem reOk_fact {t : Tm} {h : AHeap} {j : Nat} {o : Oper} (ho : ops[j]? = some o) (hs : isEff o.op = false) (hg : gW ops o t = some true) (he : reOk P C ops t h j = some true) :
    ∃ v, evOp P C o t h (fun v _ => some v) = some v ∧ ∀ d, o.dst = some d → d < t.n → t.getD d junk = v := by
  simp only [reOk, ho] at he
  rcases evG_inv he with ⟨_, t', hsm, he⟩ | ⟨hg', _⟩
  · rw [evOp_bind hs, Option.bind_eq_some_iff] at he
    obtain ⟨v, hv, he⟩ := he
    have he := nrm_inv he
    refine ⟨v, by rw [evOp_congr (evX_congr ho fun d _ => (hsm.at' d).symm)]; exact hv, fun d hd _ => ?_⟩
    simp only [Option.some.injEq] at he
    rw [hd] at he
    rw [← hsm.at']
    exact (vbeq_eq he).symm
  · rw [hg] at hg'; cases hg'

/-- The next effect. -/
theorem Inv.effect (hC : CallOk P w0 C) {Q : Exit → Act → World → Prop} {j : Nat} (I : Inv P w0 C ops D k r ι X (j :: ρ) rs listed t h a w) (hj : eff ops j = true)
    (hl : ∀ o, ops[j]? = some o → ∀ e ∈ o.after, Region.binds .any e = true → listed.getD e.on false = true) :
    wpOp P ops Q j (fun a' w' => ∃ ι' rs' t' h', Nxt ι w ι' w' ∧ Inv P w0 C ops D k r ι' (X ++ [j]) ρ rs' (listed.setIfInBounds j true) t' h' a' w') a w := by
  have K := I.ok
  have hlt : j < ops.size := K.lt j (by simp)
  have ho : ops[j]? = some ops[j] := Array.getElem?_eq_getElem hlt
  generalize hoe : ops[j] = o at ho
  have hie : isEff o.op = true := by rw [← op_of_eff ho]; exact hj
  have hjs : j < listed.size := by rw [I.size]; exact hlt
  have hpair := fun i (hi : i ∈ X) => drawRow_pair K.row i hi
  have hno : ∀ d ∈ looks ops j, ¬ Waits ops X listed d := fun d hd ⟨i, hi, hui, hei, hdi⟩ => by
    have := I.pre j hl (K.ssa i (by simp [hi]) hei d hdi j (by simp) hd)
    rw [hui] at this; cases this
  have fin : ∀ (t : Tm) (v v' : Value) (h' : AHeap) (w' : World) (ι' : Inj) (rs' : List Nat), TRm ops X listed ι t a → evDraw P C ops (pres ops) ρ rs' (put t o.dst v) h' k = some r → Nxt ι w ι' w' → HRel P w0 ι' h' w' → VR ι' v v' →
      (∀ i ∈ X, Unl listed i → ∃ o', Fact P C ops (put t o.dst v) h' i o' ∧ (isRd o'.op = true → i ∈ rs' ∨ gW ops o' (put t o.dst v) = some false)) →
      ∃ ι' rs' t' h', Nxt ι w ι' w' ∧ Inv P w0 C ops D k r ι' (X ++ [j]) ρ rs' (listed.setIfInBounds j true) t' h' (a.put o.dst v') w' := by
    intro t v v' h' w' ι' rs' htr hrun n H' hv hf
    refine ⟨ι', rs', put t o.dst v, h', n, ⟨by simpa using K, by simpa using I.size, I.closed_set hl, fun i hi => ?_, fun i hi he => ?_, hrun, H', ⟨by rw [aput_size, put_len]; exact htr.len, fun s => ?_⟩, fun i hi hui => ?_, by rw [Act.put_defers]; exact I.defers⟩⟩
    · have hne : j ≠ i := by
        rintro rfl
        obtain ⟨X1, X2, rfl⟩ := List.append_of_mem hi
        exact (drawRow_pair (X := X ++ j :: X1) (r := X2) (by simpa using K.row) j (by simp)).2.2 rfl
      show _ = _
      rw [getD_set_ne false hne]; exact I.un i (List.mem_cons_of_mem _ hi)
    · rcases List.mem_append.1 hi with hi | hi
      · exact getD_set_true (I.effs i hi he)
      · simp at hi; subst hi; simp [hjs]
    · by_cases hs : o.dst = some s
      · right
        by_cases hlt : s < t.n
        · rw [hs, put_same hlt, aput_same (by rw [← htr.len]; exact hlt)]; exact hv
        · rw [getD_out (by rw [put_len]; exact hlt)]; exact .junk _
      · rw [aput_ne hs, put_getD hs]
        refine (htr.slot s).imp (fun ⟨i, hi, hui, hei, hdi⟩ => ⟨i, List.mem_append_left _ hi, ?_, hei, hdi⟩) fun hv => hv.mono n.le
        have hne : j ≠ i := (hpair i hi).2.2.symm
        show _ = _
        rw [getD_set_ne false hne]; exact hui
    · rcases List.mem_append.1 hi with hi | hi
      · exact hf i hi (set_unl hui)
      · simp at hi; exact absurd hi (set_unl_ne hjs hui)
  have hp : ∀ i ∈ X, Unl listed i → ∀ d, o.dst = some d → d ∉ looks ops i ∧ dstOf ops i ≠ some d := fun i hi hui d hd => ⟨fun hl => by
    have hle := I.pre j ‹_› (((hpair i hi).1 d (by simp [dstOf, ho, hd])).1 hl).2
    exact absurd (hui.symm.trans hle) (by simp), ((hpair i hi).1 d (by simp [dstOf, ho, hd])).2⟩
  unfold wpOp
  simp only [ho]
  have hrun := I.run
  simp only [evDraw, ho, hie, cond_true] at hrun
  rcases evG_inv hrun with ⟨hg, t', hs, he⟩ | ⟨hg, t', hs, he⟩
  · rw [I.tr.gW_sound ho hno hg]
    simp only [if_true]
    left
    rw [evOp_congr (evX_congr ho fun d hl => (veil_getD (hno d hl)).symm)] at he
    obtain ⟨htr, hfacts⟩ := I.same hs
    refine op_sound hC he htr.veil I.H fun v h' v' w' ι' n H' hv' he => ?_
    obtain ⟨he, hre⟩ := again_inv (nrm_inv he)
    refine fin t' v v' h' w' ι' _ htr he n H' hv' fun i hi hui => ?_
    obtain ⟨o', hf, hr⟩ := hfacts i hi hui
    have hf' := hf.put (v := v) (hp i hi hui)
    have eg : gW ops o' (put t' o.dst v) = gW ops o' t' := gW_congr hf.at' fun d hl => put_getD fun e => (hp i hi hui d e).1 hl
    cases hrd : isRd o'.op with
    | false => exact ⟨o', hf'.heap hrd h', fun h => absurd (hrd ▸ h) (by simp)⟩
    | true =>
      rcases hf'.says with ⟨hg2, _⟩ | ⟨hg2, hd⟩
      · have hin : i ∈ rs.filter fun i => !((pres ops).getD j 0).testBit i := by
          rw [List.mem_filter]
          refine ⟨(hr hrd).resolve_right (fun e => by rw [← eg, hg2] at e; cases e), ?_⟩
          cases hb : ((pres ops).getD j 0).testBit i with
          | false => rfl
          | true => have := I.pre j hl hb; rw [hui] at this; cases this
        exact ⟨o', ⟨hf.at', hf.still, .inl ⟨hg2, reOk_fact hf.at' hf.still hg2 (hre i hin)⟩⟩, fun _ => .inl hin⟩
      · exact ⟨o', ⟨hf.at', hf.still, .inr ⟨hg2, hd⟩⟩, fun _ => .inr hg2⟩
  · rw [I.tr.gW_sound ho hno hg]
    simp only [Bool.false_eq_true, if_false]
    obtain ⟨htr, hfacts⟩ := I.same hs
    refine fin t' undef undef h w ι rs htr he (Nxt.refl _ _) I.H (VR.undef _) fun i hi hui => ?_
    obtain ⟨o', hf, hr⟩ := hfacts i hi hui
    have eg : gW ops o' (put t' o.dst undef) = gW ops o' t' := gW_congr hf.at' fun d hl => put_getD fun e => (hp i hi hui d e).1 hl
    exact ⟨o', hf.put (hp i hi hui), fun h => (hr h).imp id fun e => by rw [eg]; exact e⟩

theorem filter_lt {p p' : Nat → Bool} : ∀ {l : List Nat}, (∀ x ∈ l, p' x = true → p x = true) → ∀ j ∈ l, p j = true → p' j = false → (l.filter p').length < (l.filter p).length
  | [], _, j, hj, _, _ => by simp at hj
  | x :: l, h, j, hj, h1, h2 => by
    have hle : (l.filter p').length ≤ (l.filter p).length := by
      have : ∀ m : List Nat, (∀ x ∈ m, p' x = true → p x = true) → (m.filter p').length ≤ (m.filter p).length := by
        intro m
        induction m with
        | nil => intro _; simp
        | cons y m ih =>
          intro hm
          have ih := ih fun x hx => hm x (List.mem_cons_of_mem _ hx)
          have hy := hm y (List.mem_cons_self ..)
          simp only [List.filter_cons]
          split
          · rename_i e; rw [if_pos (hy e)]; simpa using ih
          · split <;> simp <;> omega
      exact this l fun x hx => h x (List.mem_cons_of_mem _ hx)
    rcases List.mem_cons.1 hj with rfl | hj
    · simp only [List.filter_cons, h1, h2]
      simp; omega
    · have ih := filter_lt (fun x hx => h x (List.mem_cons_of_mem _ hx)) j hj h1 h2
      have hy := h x (List.mem_cons_self ..)
      simp only [List.filter_cons]
      split
      · rename_i e; rw [if_pos (hy e)]; simpa using ih
      · split <;> simp <;> omega
def todo (n : Nat) (listed : Array Bool) : Nat := ((List.range n).filter fun i => !listed.getD i false).length
theorem todo_set {listed : Array Bool} {n j : Nat} (hn : n = listed.size) (hj : j < n) (hu : Unl listed j) : todo n (listed.setIfInBounds j true) < todo n listed := by
  refine filter_lt (fun x _ hx => ?_) j (by simpa using hj) (by rw [show listed.getD j false = false from hu]; rfl) (by subst hn; simp [hj])
  simp only [Bool.not_eq_true'] at hx ⊢
  exact set_unl hx
theorem unl_ready {j : Nat} (hl : j < listed.size) : listed.getD j true = listed.getD j false := by simp [Array.getD_eq_getD_getElem?, hl]
theorem Inv.ready (I : Inv P w0 C ops D k r ι X ρ rs listed t h a w) {j : Nat} (hr : j ∈ Region.ready .any ops listed) :
    j < ops.size ∧ Unl listed j ∧ ∀ o, ops[j]? = some o → ∀ e ∈ o.after, Region.binds .any e = true → listed.getD e.on false = true := by
  obtain ⟨h0, o, ho, hall⟩ := mem_ready.1 hr
  have hlt := (Array.getElem?_eq_some_iff.1 ho).1
  refine ⟨hlt, by rw [unl_ready (by rw [I.size]; exact hlt)] at h0; exact h0, fun o' ho' => ?_⟩
  rw [ho] at ho'; cases ho'; exact hall
theorem Inv.all (I : Inv P w0 C ops D k r ι X ρ rs listed t h a w) (hr : Region.ready .any ops listed = []) : ∀ j, j < ops.size → listed.getD j false = true := by
  intro j
  induction j using Nat.strongRecOn with
  | _ j ih =>
    intro hj
    cases hl : listed.getD j false with
    | true => rfl
    | false =>
      have : j ∈ Region.ready .any ops listed := mem_ready.2 ⟨by rw [unl_ready (by rw [I.size]; exact hj)]; exact hl, ops[j], Array.getElem?_eq_getElem hj, fun e he hbi => by
        have := I.ok.top j _ (Array.getElem?_eq_getElem hj) e he hbi
        exact ih _ this (by omega)⟩
      rw [hr] at this; cases this
theorem Inv.done (I : Inv P w0 C ops D k r ι X ρ rs listed t h a w) (hall : ∀ j, j < ops.size → listed.getD j false = true) {Q : Exit → Act → World → Prop}
    (hk : ∀ t' h' a' w' ι', Nxt ι w ι' w' → HRel P w0 ι' h' w' → TR ι' t' a'.tmps → a'.defers = D → k t' h' = some r → Q .normal a' w') : Q .normal a w := by
  have hρ : ρ = [] := by
    cases hρ : ρ with
    | nil => rfl
    | cons e ρ' =>
      have := I.un e (by rw [hρ]; exact List.mem_cons_self ..)
      have h2 := hall e (I.ok.lt e (by rw [hρ]; simp))
      rw [this] at h2; cases h2
  subst hρ
  refine hk t h a w ι (Nxt.refl _ _) I.H ?_ I.defers I.run
  exact ⟨I.tr.len, fun i => (I.tr.slot i).resolve_left fun ⟨j, hj, hu, _⟩ => by
    have h2 := hall j (I.ok.lt j (by simp [hj]))
    rw [hu] at h2; cases h2⟩

theorem Inv.any (hC : CallOk P w0 C) {Q : Exit → Act → World → Prop} : ∀ (fuel : Nat) {X ρ rs : List Nat} {listed : Array Bool} {t : Tm} {h : AHeap} {a : Act} {w : World} {ι : Inj},
    todo ops.size listed ≤ fuel → Inv P w0 C ops D k r ι X ρ rs listed t h a w →
    (∀ t' h' a' w' ι', Nxt ι w ι' w' → HRel P w0 ι' h' w' → TR ι' t' a'.tmps → a'.defers = D → k t' h' = some r → Q .normal a' w') → wpAny P .any ops Q fuel listed a w := by
  intro fuel
  induction fuel with
  | zero =>
    intro X ρ rs listed t h a w ι hf I hk
    have hr : Region.ready .any ops listed = [] := by
      cases hr : Region.ready .any ops listed with
      | nil => rfl
      | cons j l =>
        obtain ⟨h1, h2, _⟩ := I.ready (j := j) (by rw [hr]; exact List.mem_cons_self ..)
        have := todo_set (n := ops.size) I.size.symm h1 h2
        omega
    exact ⟨hr, I.done (I.all hr) hk⟩
  | succ fuel ih =>
    intro X ρ rs listed t h a w ι hf I hk
    refine ⟨fun hr => I.done (I.all hr) hk, fun j hr => ?_⟩
    obtain ⟨X, ρ, rs, t, I, hhead⟩ := I.advAll
    obtain ⟨h1, h2, h3⟩ := I.ready hr
    have hlt := todo_set (n := ops.size) I.size.symm h1 h2
    have hmem := I.ok.mem j h1
    rcases List.mem_append.1 hmem with hj | hj
    · refine wpOp_mono (fun a' w' ⟨ι', n, I'⟩ => ?_) (I.catch hC hj h2 h3)
      exact ih (by omega) I' fun t' h' a'' w'' ι'' n' => hk t' h' a'' w'' ι'' (n.trans n')
    · cases hρ : ρ with
      | nil => rw [hρ] at hj; cases hj
      | cons e ρ' =>
        subst hρ
        have he := hhead e ρ' rfl
        have hje : j = e := by
          rcases List.mem_cons.1 hj with hj | hj
          · exact hj
          · obtain ⟨ρ1, ρ2, rfl⟩ := List.append_of_mem hj
            have hrow := I.ok.row
            have := (drawRow_pair (X := X ++ e :: ρ1) (r := ρ2) (by simpa using hrow) e (by simp)).2.1 he
            have hle := I.pre j h3 this
            have hun := I.un e (List.mem_cons_self ..)
            rw [hun] at hle; cases hle
        subst hje
        refine wpOp_mono (fun a' w' ⟨ι', rs', t', h', n, I'⟩ => ?_) (I.effect hC he h3)
        exact ih (by omega) I' fun t' h' a'' w'' ι'' n' => hk t' h' a'' w'' ι'' (n.trans n')

theorem evDraw_sound (hC : CallOk P w0 C) (hm : P.follows .mixedOrders = true) {id : Nat} {Q : Exit → Act → World → Prop} {t : Tm} {h : AHeap} {w : World} {ι : Inj} {a : Act}
    (he : (bif drawOk ops (pres ops) (sched ops (pres ops)) then evDraw P C ops (pres ops) (sched ops (pres ops)) [] t h k else none) = some r)
    (ht : TR ι t a.tmps) (H : HRel P w0 ι h w) (hd : a.defers = D)
    (hk : ∀ t' h' a' w' ι', Nxt ι w ι' w' → HRel P w0 ι' h' w' → TR ι' t' a'.tmps → a'.defers = D → k t' h' = some r → Q .normal a' w') : (Code.region id ops true).wp P Q a w := by
  cases hok : drawOk ops (pres ops) (sched ops (pres ops)) with
  | false => rw [hok] at he; cases he
  | true =>
    rw [hok] at he
    refine wp_region_any hm (Inv.any hC ops.size (X := []) (ρ := sched ops (pres ops)) (rs := []) (t := t) (h := h) (ι := ι) (D := D) (k := k) (r := r) ?_ ?_ ?_)
    · unfold todo
      exact Nat.le_trans (List.length_filter_le ..) (by simp)
    · refine ⟨drawOk_spec hok, by simp, fun j o _ hl => ?_, fun j _ => ?_, by simp, he, H.drew, ⟨ht.len, fun s => .inr (ht.getD s undef)⟩, by simp, hd⟩
      · simp [Array.getD_eq_getD_getElem?, Array.getElem?_replicate] at hl
        split at hl <;> simp at hl
      · simp [Unl, Array.getD_eq_getD_getElem?, Array.getElem?_replicate]
        split <;> rfl
    · exact fun t' h' a' w' ι' n => hk t' h' a' w' ι' ((Nxt.drew _ _).trans n)
end
end Go.AH
