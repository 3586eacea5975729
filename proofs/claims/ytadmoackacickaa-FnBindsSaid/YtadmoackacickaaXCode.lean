import Derived.Test.YtadmoackacickaaXDraw2
import Derived.LoopN
/- Code and calls. -/
set_option linter.unusedSimpArgs false
set_option linter.unusedVariables false
namespace Go.AH
open Go.RowKit Go.Lib
variable {P : Program} {w0 w : World} {ι : Inj} {h : AHeap}

def Ex.exit' : Ex → Exit
  | .norm => .normal
  | .exit id => .exit id
  | .ret => .ret

section
variable {C : ACall} (hC : CallOk P w0 C) (hm : P.follows .mixedOrders = true) {R : Type} {M : Masks} {N : Nat} {D : List Deferred} {r : R}
include hC hm

/-- What has to hold where a code ends, and what follows for it. -/
def Ends (P : Program) (w0 : World) (D : List Deferred) (k : Kt R) (r : R) (Q : Exit → Act → World → Prop) (ι : Inj) (w : World) : Prop :=
  ∀ ex t' h' a' w' ι', Nxt ι w ι' w' → HRel P w0 ι' h' w' → TR ι' t' a'.tmps → a'.defers = D → k ex t' h' = some r → Q ex.exit' a' w'

omit hC hm in
theorem Ends.on {k : Kt R} {Q : Exit → Act → World → Prop} {ι' : Inj} {w' : World} (h : Ends P w0 D k r Q ι w) (n : Nxt ι w ι' w') : Ends P w0 D k r Q ι' w' :=
  fun ex t' h' a' w'' ι'' n' => h ex t' h' a' w'' ι'' (n.trans n')

omit hC hm in
theorem bnd_inv {c : Code} {nx : Nx R} {t : Tm} {a : Act} (h' : bnd hk0 M c nx t h = some r) (ht : TR ι t a.tmps) : ∃ t', TR ι t' a.tmps ∧ nx t' h = some r := by
  unfold bnd at h'
  split at h'
  · split at h'
    · exact ⟨_, TR.mask _ ht 0, h'⟩
    · exact ⟨_, ht, h'⟩
  · exact ⟨_, ht, h'⟩
omit hC hm in
theorem maskLoop_TR {c : Code} {t : Tm} {a : Act} (ht : TR ι t a.tmps) : TR ι (maskLoop M c t) a.tmps := by
  unfold maskLoop
  split
  · exact TR.mask _ ht 0
  · exact ht

omit hm hC in
theorem iter_sound {c : Code} (ih : ∀ {t : Tm} {h : AHeap} {w : World} {ι : Inj} {a : Act} {k : Kt R} {r : R} {Q : Exit → Act → World → Prop},
      evCode hk0 P C M N c t h k = some r → TR ι t a.tmps → HRel P w0 ι h w → a.defers = D → Ends P w0 D k r Q ι w → Code.wp P c Q a w) :
    ∀ (n : Nat) {t : Tm} {h : AHeap} {w : World} {ι : Inj} {a : Act} {k : Kt R} {r : R} {Q : Exit → Act → World → Prop},
      evIter (evCode hk0 P C M N c) (maskLoop M c) k n t h = some r → TR ι t a.tmps → HRel P w0 ι h w → a.defers = D → Ends P w0 D k r Q ι w → Code.rounds P c Q n a w := by
  intro n
  induction n with
  | zero => intro t h w ι a k r Q he; simp [evIter] at he
  | succ n ihn =>
    intro t h w ι a k r Q he ht H hd hk
    rw [rounds_succ]
    simp only [evIter] at he
    refine ih he ht H hd fun ex t' h' a' w' ι' nx H' ht' hd' he' => ?_
    cases ex with
    | norm => exact ihn he' (maskLoop_TR ht') H' hd' (hk.on nx)
    | exit id => exact hk (.exit id) _ _ _ _ _ nx H' ht' hd' he'
    | ret => exact hk .ret _ _ _ _ _ nx H' ht' hd' he'

theorem evCode_sound : ∀ (c : Code) {t : Tm} {h : AHeap} {w : World} {ι : Inj} {a : Act} {k : Kt R} {r : R} {Q : Exit → Act → World → Prop},
    evCode hk0 P C M N c t h k = some r → TR ι t a.tmps → HRel P w0 ι h w → a.defers = D → Ends P w0 D k r Q ι w → Code.wp P c Q a w := by
  intro c
  induction c with
  | skip => intro t h w ι a k r Q he ht H hd hk; exact wp_skip (hk .norm _ _ _ _ _ (Nxt.refl _ _) H ht hd he)
  | exit id => intro t h w ι a k r Q he ht H hd hk; exact wp_exit (hk (.exit id) _ _ _ _ _ (Nxt.refl _ _) H ht hd he)
  | ret => intro t h w ι a k r Q he ht H hd hk; exact wp_ret (hk .ret _ _ _ _ _ (Nxt.refl _ _) H ht hd he)
  | region id ops draw =>
    intro t h w ι a k r Q he ht H hd hk
    simp only [evCode, evRegion] at he
    cases draw with
    | false =>
      simp only [cond_false] at he
      exact wp_region_list (evOps_sound hC _ he ht H hd fun t' h' a' w' ι' n H' ht' hd' he' => hk .norm _ _ _ _ _ n H' ht' hd' he')
    | true =>
      simp only [cond_true] at he
      exact evDraw_sound hC hm he ht H hd fun t' h' a' w' ι' n H' ht' hd' he' => hk .norm _ _ _ _ _ n H' ht' hd' he'
  | seq x y ihx ihy =>
    intro t h w ι a k r Q he ht H hd hk
    simp only [evCode] at he
    refine wp_seq (ihx he ht H hd fun ex t' h' a' w' ι' n H' ht' hd' he' => ?_)
    cases ex with
    | norm =>
      obtain ⟨t2, ht2, he2⟩ := bnd_inv he' ht'
      exact ihy he2 ht2 H' hd' (hk.on n)
    | exit id => exact hk (.exit id) _ _ _ _ _ n H' ht' hd' he'
    | ret => exact hk .ret _ _ _ _ _ n H' ht' hd' he'
  | cond c x y ihx ihy =>
    intro t h w ι a k r Q he ht H hd hk
    simp only [evCode, Option.bind_eq_some_iff] at he
    obtain ⟨b, hb, he⟩ := he
    have hc := ht.evX c
    rw [asB_inv hb] at hc
    refine wp_cond (t := b) (VR.bool_inv' hc) ?_
    cases b with
    | true => obtain ⟨t2, ht2, he2⟩ := bnd_inv he ht; exact ihx he2 ht2 H hd hk
    | false => obtain ⟨t2, ht2, he2⟩ := bnd_inv he ht; exact ihy he2 ht2 H hd hk
  | block id x ihx =>
    intro t h w ι a k r Q he ht H hd hk
    simp only [evCode] at he
    refine wp_block (ihx he ht H hd fun ex t' h' a' w' ι' n H' ht' hd' he' => ?_)
    cases ex with
    | norm => exact hk .norm _ _ _ _ _ n H' ht' hd' he'
    | exit j =>
      simp only [kBlock] at he'
      simp only [Ex.exit', Exit.inBlock]
      split at he'
      · rename_i e; rw [if_pos e]; exact hk .norm _ _ _ _ _ n H' ht' hd' he'
      · rename_i e; rw [if_neg e]; exact hk (.exit j) _ _ _ _ _ n H' ht' hd' he'
    | ret => exact hk .ret _ _ _ _ _ n H' ht' hd' he'
  | loop x ihx =>
    intro t h w ι a k r Q he ht H hd hk
    simp only [evCode] at he
    exact wp_loop_rounds N (iter_sound (fun {t h w ι a k r Q} => ihx) N he (maskLoop_TR ht) H hd hk)
  | _ => intro t h w ι a k r Q he; simp [evCode] at he
end

/-! ### calls -/
theorem isS2_S2 {v v' : Value} (h : VR ι v v') (hs : isS2 v = true) : S2 ι v v' := by
  cases h with
  | junk => simp [isS2, junk] at hs
  | s2 r => exact r
  | tuple => simp [isS2] at hs
def resF (tmps : Array Value) : ResultVar → Sem Value
  | .tmp t => pure (tmps.getD t undef)
  | .cell a t => do loadVar t (← asAddr (tmps.getD a undef))
theorem resK_sound {t : Tm} {a : Act} (H : HRel P w0 ι h w) (ht : TR ι t a.tmps) : ∀ (l : List ResultVar) (acc acc' : List Value) {r : Value × AHeap}, resK P t h l acc = some r → All2 (VR ι) acc acc' →
    ∃ vs, (l.mapM (resF a.tmps)).run P w = .ok vs w ∧ r.2 = h ∧ VR ι r.1 (match acc' ++ vs with | [v] => v | vs => .tuple vs.toArray)
  | [], acc, acc', r, he, hacc => by
    refine ⟨[], by simp [List.mapM_nil], ?_⟩
    simp only [resK] at he
    split at he
    · simp at he; subst he
      cases hacc with
      | cons hv hn => cases hn; exact ⟨rfl, by simpa using hv⟩
    · rename_i hne
      cases hall : acc.all isS2 with
      | false => rw [hall] at he; cases he
      | true =>
        rw [hall] at he
        simp at he; subst he
        refine ⟨rfl, ?_⟩
        have h2 : All2 (S2 ι) acc acc' := by
          clear hne
          induction hacc with
          | nil => exact .nil
          | cons hv hn ih =>
            simp only [List.all_cons, Bool.and_eq_true] at hall
            exact .cons (isS2_S2 hv hall.1) (ih hall.2)
        have : ∀ v, acc' ≠ [v] := by
          intro v e
          subst e
          cases hacc with
          | cons hv hn => cases hn; exact hne _ rfl
        rw [List.append_nil]
        split
        · rename_i v; exact absurd rfl (this v)
        · exact .tuple (by simpa using h2)
  | .tmp i :: l, acc, acc', r, he, hacc => by
    simp only [resK] at he
    obtain ⟨vs, h1, h2, h3⟩ := resK_sound H ht l (acc ++ [t.getD i junk]) (acc' ++ [a.tmps.getD i undef]) he (hacc.append (.cons (ht.getD i undef) .nil))
    exact ⟨a.tmps.getD i undef :: vs, by simp [List.mapM_cons, resF, h1], h2, by simpa using h3⟩
  | .cell i ty :: l, acc, acc', r, he, hacc => by
    simp only [resK] at he
    have key : ∀ {v : Value}, (∃ ad v', a.tmps.getD i undef = .pointer (some ad) ∧ (loadVar ty ad).run P w = .ok v' w ∧ VR ι v v') → resK P t h l (acc ++ [v]) = some r →
        ∃ vs, ((ResultVar.cell i ty :: l).mapM (resF a.tmps)).run P w = .ok vs w ∧ r.2 = h ∧ VR ι r.1 (match acc' ++ vs with | [v] => v | vs => .tuple vs.toArray) := by
      intro v ⟨ad, v', hp, hr, hv⟩ he
      obtain ⟨vs, h1, h2, h3⟩ := resK_sound H ht l (acc ++ [v]) (acc' ++ [v']) he (hacc.append (.cons hv .nil))
      exact ⟨v' :: vs, by simp [List.mapM_cons, resF, hp, asAddr, hr, h1], h2, by simpa using h3⟩
    split at he
    · rename_i n hg hn
      simp only [Option.bind_eq_some_iff] at he
      obtain ⟨v, hv, he⟩ := he
      exact key (ldN_run H hg hn hv (ht.getD i undef)) he
    · rename_i hg
      simp only [Option.bind_eq_some_iff] at he
      obtain ⟨v, hv, he⟩ := he
      exact key (ld1_run H hg hv (ht.getD i undef)) he
    · simp at he
theorem results_sound {fn : Func} {t : Tm} {a : Act} (H : HRel P w0 ι h w) (ht : TR ι t a.tmps) {r : Value × AHeap} (he : resK P t h fn.results.toList [] = some r) :
    ∃ v', (results fn a.tmps).run P w = .ok v' w ∧ r.2 = h ∧ VR ι r.1 v' := by
  obtain ⟨vs, h1, h2, h3⟩ := resK_sound H ht fn.results.toList [] [] he .nil
  refine ⟨_, ?_, h2, h3⟩
  have : (results fn a.tmps) = (do let vs ← fn.results.mapM (resF a.tmps); pure (if h : vs.size = 1 then vs[0] else .tuple vs)) := rfl
  rw [this, Array.mapM_eq_mapM_toList]
  simp only [bind_map_left, Sem.run_bind, h1, Result.andThen_ok, Sem.run_pure]
  congr 1
  simp only [List.nil_append]
  match vs with
  | [] => rfl
  | [v] => rfl
  | v :: u :: vs => simp
theorem lk_number : ∀ (l : List Value) (j i : Nat), lk junk (j + i) (number j l) = l.getD i junk
  | [], _, _ => rfl
  | v :: l, j, 0 => by unfold number; rw [Nat.add_zero, lk_cons_same]; rfl
  | v :: l, j, i + 1 => by
    unfold number
    rw [lk_cons_ne (by omega), show j + (i + 1) = (j + 1) + i by omega, lk_number l]; rfl
theorem init_TR {fn : Func} {args : List Value} {args' : Array Value} (ha : All2 (VR ι) args args'.toList) : TR ι (init fn args) (args' ++ Array.replicate (fn.ntmps - args'.size) undef) := by
  have hl : args.length = args'.size := by simpa using ha.length
  have hg : ∀ i, VR ι (args.getD i junk) ((args' ++ Array.replicate (fn.ntmps - args'.size) undef).getD i undef) := fun i => by
    rw [List.getD_eq_getElem?_getD]
    cases h : args[i]? with
    | none => exact .junk _
    | some v =>
      obtain ⟨b, hb, hr⟩ := All2.get ha i v h
      have hb' : args'[i]? = some b := by simpa using hb
      have hlt := (Array.getElem?_eq_some_iff.1 hb').1
      rw [Array.getD_eq_getD_getElem?, Array.getElem?_append_left hlt, hb']; exact hr
  have hn : ∀ i, lk junk i (number 0 args) = args.getD i junk := fun i => by simpa using lk_number args 0 i
  have hin : ∀ n i, VR ι (Tm.getD ⟨n, number 0 args⟩ i junk) ((args' ++ Array.replicate (fn.ntmps - args'.size) undef).getD i undef) := fun n i => by
    by_cases hi : i < n
    · rw [getD_in (t := ⟨n, number 0 args⟩) hi, hn]; exact hg i
    · rw [getD_out (t := ⟨n, number 0 args⟩) hi]; exact .junk _
  unfold init
  cases e : Nat.ble args.length fn.ntmps with
  | true =>
    have := Nat.le_of_ble_eq_true e
    exact ⟨by simp; omega, hin _⟩
  | false =>
    have : ¬ args.length ≤ fn.ntmps := fun h => by rw [Nat.ble_eq_true_of_le h] at e; cases e
    exact ⟨by simp; omega, hin _⟩
/-- A call of the small evaluator says what the machine's does. -/
theorem call_sound (hm : P.follows .mixedOrders = true) (hn : P.funcs.all (fun (fn : Func) => fn.name != "runtime.NumGoroutine") = true) (Ms : FuncId → Masks) : ∀ d, CallOk P w0 (call P Ms d) := by
  intro d
  induction d with
  | zero => exact ⟨fun f args h r he => by simp [call] at he, fun f args h v h' he => by simp [call] at he⟩
  | succ d ih =>
    have hfn : ∀ {f : FuncId} {fn : Func}, P.funcs[f]? = some fn → (fn.name == "runtime.NumGoroutine") = false := fun hf => by
      have := Array.all_eq_true_iff_forall_mem.1 hn _ (Array.mem_of_getElem? hf)
      simpa using this
    refine ⟨fun f args h r he => ?_, fun f args h v h' he ι w args' ha H => ?_⟩
    · simp only [call] at he
      split at he
      · rename_i fn hf
        unfold evFn at he
        split at he
        · rename_i c hc; exact ⟨fn, hf, by simp [hc], hfn hf⟩
        · simp at he
      · simp at he
    · simp only [call] at he
      split at he
      · rename_i fn hf
        unfold evFn at he
        split at he
        · rename_i c hc
          refine calls_of_wp hf hc (evCode_sound ih hm (D := []) c he (init_TR ha) H rfl fun ex t' h2 a' w' ι' n H' ht' hd' he' => ?_)
          have fin : resK P t' h2 fn.results.toList [] = some (v, h') → ∃ u, (results fn a'.tmps).run P w' = .ok u w' ∧ ∃ v' ι', Ending.returned u = .returned v' ∧ Nxt ι w ι' w' ∧ HRel P w0 ι' h' w' ∧ VR ι' v v' := by
            intro he
            obtain ⟨v', hr, h2, hv⟩ := results_sound H' ht' he
            simp at h2; subst h2
            exact ⟨v', hr, v', ι', rfl, n, H', hv⟩
          cases ex with
          | norm => exact ⟨hd', fin he'⟩
          | ret => exact ⟨hd', fin he'⟩
          | exit => simp [kBody] at he'
        · simp at he
      · simp at he
end Go.AH
