import Derived.Test.YtadmoackacickaaXAC
import Derived.LoopN
import Derived.WalkKit
import Derived.ProofKit
import Derived.OpenShut
import Derived.JoinedCond
import Derived.ChangeMaps5
import Derived.Deep.Slices
import Derived.Test.YtadmoackacickaaXAA
import Derived.KernelRfl
import Derived.Test.YtadmoackacickaaProg
import Derived.Laws.Strings
set_option linter.unusedSimpArgs false
set_option linter.unusedVariables false
/- Code and calls. -/
namespace Go.AH
open Go.RowKit Go.Lib
variable {P : Program} {w0 : W0} {w : World} {ι : Inj} {h : AHeap}
def Ex.exit' : Ex → Exit
 | .norm => .normal
 | .exit id => .exit id
 | .ret => .ret
section
variable {C : ACall} (hC : CallOk P w0 C) (hm : P.follows .mixedOrders = true) {R : Type} {M : Masks} {N : Nat} {D : List Deferred} {r : R}
include hC hm
def Ends (P : Program) (w0 : W0) (D : List Deferred) (k : Kt R) (r : R) (Q : Exit → Act → World → Prop) (ι : Inj) (w : World) : Prop :=
 ∀ ex t' h' a' w' ι', Nxt ι w ι' w' → HRel P w0 ι' h' w' → TR ι' t' a'.tmps → a'.defers = D → k ex t' h' = some r → Q ex.exit' a' w'
omit hC hm in
theorem Ends.on {k : Kt R} {Q : Exit → Act → World → Prop} {ι' : Inj} {w' : World} (h : Ends P w0 D k r Q ι w) (n : Nxt ι w ι' w') : Ends P w0 D k r Q ι' w' :=
 fun ex t' h' a' w'' ι'' n' => h ex t' h' a' w'' ι'' (n.trans n')
omit hC hm in
theorem bnd_inv {c : Code} {nx : Nx R} {t : Tm} {a : Act} (h' : bnd hk0 M c nx t h = some r) (ht : TR ι t a.tmps) : ∃ t', TR ι t' a.tmps ∧ nx t' h = some r := by
 unfold bnd at h'
 split at h'
 ·split at h'
  ·exact ⟨_, TR.mask _ ht 0, h'⟩
  ·exact ⟨_, ht, h'⟩
 ·exact ⟨_, ht, h'⟩
omit hC hm in
theorem maskLoop_TR {c : Code} {t : Tm} {a : Act} (ht : TR ι t a.tmps) : TR ι (maskLoop M c t) a.tmps := by
 unfold maskLoop
 split
 ·exact TR.mask _ ht 0
 ·exact ht
omit hm hC in
theorem iter_sound {c : Code} (ih : ∀ {t : Tm} {h : AHeap} {w : World} {ι : Inj} {a : Act} {k : Kt R} {r : R} {Q : Exit → Act → World → Prop},
   evCode hk0 P C M N c t h k = some r → TR ι t a.tmps → HRel P w0 ι h w → a.defers = D → Ends P w0 D k r Q ι w → Code.wp P c Q a w) :
  ∀ (n : Nat) {t : Tm} {h : AHeap} {w : World} {ι : Inj} {a : Act} {k : Kt R} {r : R} {Q : Exit → Act → World → Prop},
   evIter (evCode hk0 P C M N c) (maskLoop M c) k n t h = some r → TR ι t a.tmps → HRel P w0 ι h w → a.defers = D → Ends P w0 D k r Q ι w → Code.rounds P c Q n a w := by
 intro n
 induction n with
 | zero => intro t h w ι a k r Q he; simp [evIter] at he
 | succ n ihn =>
  intro t h w ι a k r Q he ht H hd hk
  rw [rounds_succ]
  simp only [evIter] at he
  refine ih he ht H hd fun ex t' h' a' w' ι' nx H' ht' hd' he' => ?_
  cases ex with
  | norm => exact ihn he' (maskLoop_TR ht') H' hd' (hk.on nx)
  | exit id => exact hk (.exit id) _ _ _ _ _ nx H' ht' hd' he'
  | ret => exact hk .ret _ _ _ _ _ nx H' ht' hd' he'
theorem evCode_sound : ∀ (c : Code) {t : Tm} {h : AHeap} {w : World} {ι : Inj} {a : Act} {k : Kt R} {r : R} {Q : Exit → Act → World → Prop},
  evCode hk0 P C M N c t h k = some r → TR ι t a.tmps → HRel P w0 ι h w → a.defers = D → Ends P w0 D k r Q ι w → Code.wp P c Q a w := by
 intro c
 induction c with
 | skip => intro t h w ι a k r Q he ht H hd hk; exact wp_skip (hk .norm _ _ _ _ _ (Nxt.refl _ _) H ht hd he)
 | exit id => intro t h w ι a k r Q he ht H hd hk; exact wp_exit (hk (.exit id) _ _ _ _ _ (Nxt.refl _ _) H ht hd he)
 | ret => intro t h w ι a k r Q he ht H hd hk; exact wp_ret (hk .ret _ _ _ _ _ (Nxt.refl _ _) H ht hd he)
 | region id ops draw =>
  intro t h w ι a k r Q he ht H hd hk
  simp only [evCode, evRegion] at he
  cases draw with
  | false =>
   simp only [cond_false] at he
   exact wp_region_list (evOps_sound hC _ he ht H hd fun t' h' a' w' ι' n H' ht' hd' he' => hk .norm _ _ _ _ _ n H' ht' hd' he')
  | true =>
   simp only [cond_true] at he
   exact evDraw_sound hC hm he ht H hd fun t' h' a' w' ι' n H' ht' hd' he' => hk .norm _ _ _ _ _ n H' ht' hd' he'
 | seq x y ihx ihy =>
  intro t h w ι a k r Q he ht H hd hk
  simp only [evCode] at he
  refine wp_seq (ihx he ht H hd fun ex t' h' a' w' ι' n H' ht' hd' he' => ?_)
  cases ex with
  | norm =>
   obtain ⟨t2, ht2, he2⟩ := bnd_inv he' ht'
   exact ihy he2 ht2 H' hd' (hk.on n)
  | exit id => exact hk (.exit id) _ _ _ _ _ n H' ht' hd' he'
  | ret => exact hk .ret _ _ _ _ _ n H' ht' hd' he'
 | cond c x y ihx ihy =>
  intro t h w ι a k r Q he ht H hd hk
  simp only [evCode, Option.bind_eq_some_iff] at he
  obtain ⟨b, hb, he⟩ := he
  have hc := ht.evX c
  rw [asB_inv hb] at hc
  refine wp_cond (t := b) (VR.bool_inv' hc) ?_
  cases b with
  | true => obtain ⟨t2, ht2, he2⟩ := bnd_inv he ht; exact ihx he2 ht2 H hd hk
  | false => obtain ⟨t2, ht2, he2⟩ := bnd_inv he ht; exact ihy he2 ht2 H hd hk
 | block id x ihx =>
  intro t h w ι a k r Q he ht H hd hk
  simp only [evCode] at he
  refine wp_block (ihx he ht H hd fun ex t' h' a' w' ι' n H' ht' hd' he' => ?_)
  cases ex with
  | norm => exact hk .norm _ _ _ _ _ n H' ht' hd' he'
  | exit j =>
   simp only [kBlock] at he'
   simp only [Ex.exit', Exit.inBlock]
   split at he'
   ·rename_i e; rw [if_pos e]; exact hk .norm _ _ _ _ _ n H' ht' hd' he'
   ·rename_i e; rw [if_neg e]; exact hk (.exit j) _ _ _ _ _ n H' ht' hd' he'
  | ret => exact hk .ret _ _ _ _ _ n H' ht' hd' he'
 | loop x ihx =>
  intro t h w ι a k r Q he ht H hd hk
  simp only [evCode] at he
  exact wp_loop_rounds N (iter_sound (fun {t h w ι a k r Q} => ihx) N he (maskLoop_TR ht) H hd hk)
 | _ => intro t h w ι a k r Q he; simp [evCode] at he
end
theorem isS2_S2 {v v' : Value} (h : VR ι v v') (hs : isS2 v = true) : S2 ι v v' := by
 cases h with
 | junk => simp [isS2, junk] at hs
 | s2 r => exact r
 | tuple => simp [isS2] at hs
def resF (tmps : Array Value) : ResultVar → Sem Value
 | .tmp t => pure (tmps.getD t undef)
 | .cell a t => do loadVar t (← asAddr (tmps.getD a undef))
theorem resK_sound {t : Tm} {a : Act} (H : HRel P w0 ι h w) (ht : TR ι t a.tmps) : ∀ (l : List ResultVar) (acc acc' : List Value) {r : Value × AHeap}, resK P t h l acc = some r → All2 (VR ι) acc acc' →
  ∃ vs, (l.mapM (resF a.tmps)).run P w = .ok vs w ∧ r.2 = h ∧ VR ι r.1 (match acc' ++ vs with | [v] => v | vs => .tuple vs.toArray)
 | [], acc, acc', r, he, hacc => by
  refine ⟨[], by simp [List.mapM_nil], ?_⟩
  simp only [resK] at he
  split at he
  ·simp at he; subst he
   cases hacc with
   | cons hv hn => cases hn; exact ⟨rfl, by simpa using hv⟩
  ·rename_i hne
   cases hall : acc.all isS2 with
   | false => rw [hall] at he; cases he
   | true =>
    rw [hall] at he
    simp at he; subst he
    refine ⟨rfl, ?_⟩
    have h2 : All2 (S2 ι) acc acc' := by
     clear hne
     induction hacc with
     | nil => exact .nil
     | cons hv hn ih =>
      simp only [List.all_cons, Bool.and_eq_true] at hall
      exact .cons (isS2_S2 hv hall.1) (ih hall.2)
    have : ∀ v, acc' ≠ [v] := by
     intro v e
     subst e
     cases hacc with
     | cons hv hn => cases hn; exact hne _ rfl
    rw [List.append_nil]
    split
    ·rename_i v; exact absurd rfl (this v)
    ·exact .tuple (by simpa using h2)
 | .tmp i :: l, acc, acc', r, he, hacc => by
  simp only [resK] at he
  obtain ⟨vs, h1, h2, h3⟩ := resK_sound H ht l (acc ++ [t.getD i junk]) (acc' ++ [a.tmps.getD i undef]) he (hacc.append (.cons (ht.getD i undef) .nil))
  exact ⟨a.tmps.getD i undef :: vs, by simp [List.mapM_cons, resF, h1], h2, by simpa using h3⟩
 | .cell i ty :: l, acc, acc', r, he, hacc => by
  simp only [resK] at he
  have key : ∀ {v : Value}, (∃ ad v', a.tmps.getD i undef = .pointer (some ad) ∧ (loadVar ty ad).run P w = .ok v' w ∧ VR ι v v') → resK P t h l (acc ++ [v]) = some r →
    ∃ vs, ((ResultVar.cell i ty :: l).mapM (resF a.tmps)).run P w = .ok vs w ∧ r.2 = h ∧ VR ι r.1 (match acc' ++ vs with | [v] => v | vs => .tuple vs.toArray) := by
   intro v ⟨ad, v', hp, hr, hv⟩ he
   obtain ⟨vs, h1, h2, h3⟩ := resK_sound H ht l (acc ++ [v]) (acc' ++ [v']) he (hacc.append (.cons hv .nil))
   exact ⟨v' :: vs, by simp [List.mapM_cons, resF, hp, asAddr, hr, h1], h2, by simpa using h3⟩
  split at he
  ·rename_i n hg hn
   simp only [Option.bind_eq_some_iff] at he
   obtain ⟨v, hv, he⟩ := he
   exact key (ldN_run H hg hn hv (ht.getD i undef)) he
  ·rename_i hg
   simp only [Option.bind_eq_some_iff] at he
   obtain ⟨v, hv, he⟩ := he
   exact key (ld1_run H hg hv (ht.getD i undef)) he
  ·simp at he
theorem results_sound {fn : Func} {t : Tm} {a : Act} (H : HRel P w0 ι h w) (ht : TR ι t a.tmps) {r : Value × AHeap} (he : resK P t h fn.results.toList [] = some r) :
  ∃ v', (results fn a.tmps).run P w = .ok v' w ∧ r.2 = h ∧ VR ι r.1 v' := by
 obtain ⟨vs, h1, h2, h3⟩ := resK_sound H ht fn.results.toList [] [] he .nil
 refine ⟨_, ?_, h2, h3⟩
 have : (results fn a.tmps) = (do let vs ← fn.results.mapM (resF a.tmps); pure (if h : vs.size = 1 then vs[0] else .tuple vs)) := rfl
 rw [this, Array.mapM_eq_mapM_toList]
 simp only [bind_map_left, Sem.run_bind, h1, Result.andThen_ok, Sem.run_pure]
 congr 1
 simp only [List.nil_append]
 match vs with
 | [] => rfl
 | [v] => rfl
 | v :: u :: vs => simp
theorem lk_number : ∀ (l : List Value) (j i : Nat), lk junk (j + i) (number j l) = l.getD i junk
 | [], _, _ => rfl
 | v :: l, j, 0 => by unfold number; rw [Nat.add_zero, lk_cons_same]; rfl
 | v :: l, j, i + 1 => by
  unfold number
  rw [lk_cons_ne (by omega), show j + (i + 1) = (j + 1) + i by omega, lk_number l]; rfl
theorem init_TR {fn : Func} {args : List Value} {args' : Array Value} (ha : All2 (VR ι) args args'.toList) : TR ι (init fn args) (args' ++ Array.replicate (fn.ntmps - args'.size) undef) := by
 have hl : args.length = args'.size := by simpa using ha.length
 have hg : ∀ i, VR ι (args.getD i junk) ((args' ++ Array.replicate (fn.ntmps - args'.size) undef).getD i undef) := fun i => by
  rw [List.getD_eq_getElem?_getD]
  cases h : args[i]? with
  | none => exact .junk _
  | some v =>
   obtain ⟨b, hb, hr⟩ := All2.get ha i v h
   have hb' : args'[i]? = some b := by simpa using hb
   have hlt := (Array.getElem?_eq_some_iff.1 hb').1
   rw [Array.getD_eq_getD_getElem?, Array.getElem?_append_left hlt, hb']; exact hr
 have hn : ∀ i, lk junk i (number 0 args) = args.getD i junk := fun i => by simpa using lk_number args 0 i
 have hin : ∀ n i, VR ι (Tm.getD ⟨n, number 0 args⟩ i junk) ((args' ++ Array.replicate (fn.ntmps - args'.size) undef).getD i undef) := fun n i => by
  by_cases hi : i < n
  ·rw [getD_in (t := ⟨n, number 0 args⟩) hi, hn]; exact hg i
  ·rw [getD_out (t := ⟨n, number 0 args⟩) hi]; exact .junk _
 unfold init
 cases e : Nat.ble args.length fn.ntmps with
 | true =>
  have := Nat.le_of_ble_eq_true e
  exact ⟨by simp; omega, hin _⟩
 | false =>
  have : ¬ args.length ≤ fn.ntmps := fun h => by rw [Nat.ble_eq_true_of_le h] at e; cases e
  exact ⟨by simp; omega, hin _⟩
theorem call_sound (hm : P.follows .mixedOrders = true) (hn : P.funcs.all (fun (fn : Func) => fn.name != "runtime.NumGoroutine") = true) (Ms : FuncId → Masks) : ∀ d, CallOk P w0 (call P Ms d) := by
 intro d
 induction d with
 | zero => exact ⟨fun f args h r he => by simp [call] at he, fun fz f args h v h' he => by simp [call] at he⟩
 | succ d ih =>
  have hfn : ∀ {f : FuncId} {fn : Func}, P.funcs[f]? = some fn → (fn.name == "runtime.NumGoroutine") = false := fun hf => by
   have := Array.all_eq_true_iff_forall_mem.1 hn _ (Array.mem_of_getElem? hf)
   simpa using this
  refine ⟨fun f args h r he => ?_, fun fz f args h v h' he ι w args' ha H => ?_⟩
  ·simp only [call] at he
   split at he
   ·rename_i fn hf
    unfold evFn at he
    split at he
    ·rename_i c hc; exact ⟨fn, hf, by simp [hc], hfn hf⟩
    ·simp at he
   ·simp at he
  ·simp only [call] at he
   split at he
   ·rename_i fn hf
    unfold evFn at he
    split at he
    ·rename_i c hc
     refine calls_of_wp hf hc (evCode_sound (w0 := ⟨w0.w, fz⟩) (ih.at fz) hm (D := []) c he (init_TR ha) H rfl fun ex t' h2 a' w' ι' n H' ht' hd' he' => ?_)
     have fin : resK P t' h2 fn.results.toList [] = some (v, h') → ∃ u, (results fn a'.tmps).run P w' = .ok u w' ∧ ∃ v' ι', Ending.returned u = .returned v' ∧ Nxt ι w ι' w' ∧ HRel P ⟨w0.w, fz⟩ ι' h' w' ∧ VR ι' v v' := by
      intro he
      obtain ⟨v', hr, h2, hv⟩ := results_sound H' ht' he
      simp at h2; subst h2
      exact ⟨v', hr, v', ι', rfl, n, H', hv⟩
     cases ex with
     | norm => exact ⟨hd', fin he'⟩
     | ret => exact ⟨hd', fin he'⟩
     | exit => simp [kBody] at he'
    ·simp at he
   ·simp at he
open Go.ChangeShapes Go.WideShapes Go.ChangeAt Go.RowKit
variable {H : Type} {enc : TypeId × Value → H} {P : Program}
theorem post_below {f : Func} {s : ChangeSpec} {apart fresh handsOn : Bool} {W W' : World} {args : Array Value} {v : Value} {ds gs : List (DataW H)} {before pa pv : List MemPlace}
  (hW : DataW.Whole enc P f.params.toList s.vars apart W args.toList ds gs before)
  (hres : ∀ (b : Nat) (sp : Nat → Bool) (hd : Bool), DataW.TrodAll enc P W' b sp hd f.resultTypes.toList (v.resultList f.resultTypes.size) (s.fn H (ds ++ gs)).results [])
  (hargs : ∀ sp : Nat → Bool, (∀ p ∈ before, sp p.block = true) → DataW.TrodAll enc P W' 0 sp true f.params.toList args.toList (s.fn H (ds ++ gs)).args pa)
  (hvars : ∀ sp : Nat → Bool, (∀ p ∈ before, sp p.block = true) → DataW.TrodVars enc P W' sp s.vars (s.fn H (ds ++ gs)).vars pv)
  (hb : Below W.heap.size W W') :
  s.post enc P f apart fresh handsOn false W args v W' := by
 have hold : ∀ p ∈ before, (fun b => decide (b < W.heap.size)) p.block = true := fun p hp => by simpa using hW.lt p hp
 refine ⟨ds, gs, before, [], pa, pv, hW, hres _ _ _, hargs _ hold, hvars _ hold, hb.frame _, fun h => by cases h⟩
def h00 : AHeap := ⟨0, fun _ => none, fun _ _ => 0, fun _ _ => 0, fun _ => none⟩
def i00 : Inj := ⟨fun _ => none, fun _ => none⟩
theorem start_rel (W : World) : HRel P W i00 h00 W where
 below := Below.refl _ _
 dom := fun i p h => by cases h
 domM := fun i p h => by cases h
 pl := fun i p h => by cases h
 obj := fun i o _ h => by simp [AHeap.at?, h00] at h
 tip := fun i o h => by simp [AHeap.at?, h00] at h
 eps := fun i o h => by cases h
 fam := fun i j oi oj p q h => by simp [AHeap.at?, h00] at h
 maps := fun i l _ h => by cases h
 mp := fun i r h => by cases h
 mpInj := fun i j r h => by cases h
 objs := fun j o h => by cases h
 mapd := fun j l h => by cases h
 fz := fun i f h => by cases h
theorem law_calls {Ms : FuncId → Masks} {d : Nat} {f : FuncId} {args : List Value} {args' : Array Value} {W : World} {ι : Inj} {h h' : AHeap} (hm : P.follows .mixedOrders = true)
  (hn : P.funcs.all (fun (fn : Func) => fn.name != "runtime.NumGoroutine") = true) (he : call P Ms d f args h = some (.bool true, h')) (ha : All2 (VR ι) args args'.toList) (H : HRel P W ι h W) :
  Calls P f args' W fun e W' => e = .returned (.bool true) ∧ Below W.heap.size W W' :=
 ((call_sound (w0 := W) hm hn Ms d).calls _ _ _ _ _ _ he ι W args' ha H).mono fun e W' ⟨v', ι', e1, _, H', hv⟩ => by
  subst e1
  rw [VR.bool_inv' hv]
  exact ⟨rfl, H'.below⟩
open Go.RowKit
variable {P : Program}
def hRows (n : Nat) (R : Nat → Option (Place × List Value)) : AHeap := ⟨n, fun i => (R i).map fun r => ⟨i, 0, true, r.1.el, r.2⟩, fun _ _ => 0, fun _ _ => 0, fun _ => none⟩
def iRows (R : Nat → Option (Place × List Value)) : Inj := ⟨fun i => (R i).map (·.1), fun _ => none⟩
theorem rows_at {n : Nat} {R : Nat → Option (Place × List Value)} {i : Nat} {r : Place × List Value} (hn : i < n) (h : R i = some r) : (hRows n R).at? i = some ⟨i, 0, true, r.1.el, r.2⟩ :=
 at?_mk (by simp [hRows, h]) hn (Nat.le_refl _) rfl
theorem at_rows {n : Nat} {R : Nat → Option (Place × List Value)} {i : Nat} {o : AObj} (h : (hRows n R).at? i = some o) : ∃ r, R i = some r ∧ o = ⟨i, 0, true, r.1.el, r.2⟩ := by
 obtain ⟨h1, _, _, _⟩ := at?_obj h
 simp only [hRows, Option.map_eq_some_iff] at h1
 obtain ⟨r, a, b⟩ := h1
 exact ⟨r, a, b.symm⟩
theorem start_rows {W : World} {n : Nat} {R : Nat → Option (Place × List Value)} (hn : ∀ i r, R i = some r → i < n)
  (hok : ∀ i r, R i = some r → r.1.Ok P W W ∧ r.1.ro = true ∧ r.2.length ≤ r.1.cap ∧ ∀ (j : Nat) v, r.2[j]? = some v → ∃ v', W.cell? ⟨r.1.blk, r.1.base + j, none⟩ = some v' ∧ S1 (iRows R) v v') :
  HRel P W (iRows R) (hRows n R) W where
 below := Below.refl _ _
 dom := fun i p h => by
  simp only [iRows, Option.map_eq_some_iff] at h
  obtain ⟨r, a, _⟩ := h
  exact hn i r a
 domM := fun i p h => by cases h
 pl := fun i p h => by
  simp only [iRows, Option.map_eq_some_iff] at h
  obtain ⟨r, a, b⟩ := h
  subst b
  exact (hok i r a).1
 obj := fun i o _ h => by
  obtain ⟨r, a, rfl⟩ := at_rows h
  obtain ⟨h1, h2, h3, h4⟩ := hok i r a
  exact ⟨r.1, by simp [iRows, a], h2, rfl, h3, h4⟩
 tip := fun i o h hro => by
  obtain ⟨r, a, rfl⟩ := at_rows h
  cases hro
 eps := fun i o h => by
  simp only [hRows, Option.map_eq_some_iff] at h
  obtain ⟨r, a, b⟩ := h
  subst b
  exact Nat.le_refl _
 fam := fun i j oi oj p q h1 h2 h3 h4 h5 h6 => by
  obtain ⟨r, a, rfl⟩ := at_rows h1
  simp only [iRows, a, Option.map_some, Option.some.injEq] at h3
  subst h3
  rw [(hok i r a).2.1] at h6; cases h6
 maps := fun i l _ h => by cases h
 mp := fun i r h => by cases h
 mpInj := fun i j r h => by cases h
 objs := fun j o h => by
  simp only [hRows, Option.map_eq_some_iff] at h
  obtain ⟨r, a, b⟩ := h
  subst b
  exact ⟨hn j r a, Nat.le_refl _⟩
 mapd := fun j l h => by cases h
 fz := fun i f h => by cases h
theorem open_rowM {H : Type} {enc : TypeId × Value → H} {w : World} {t e : TypeId} {fuel esz : Nat} {v : Value} {x : DataW H × List MemPlace} (ht : P.underlying t = some (.slice e)) (hc : P.cellsOf e = esz) (hpos : 0 < esz)
  (h : DataW.trod enc P w 0 (fun _ => true) true fuel t [v] = some x) :
  v = .slice none 0 0 ∨ (∃ a, v = .slice (some a) 0 0) ∨
  ∃ (b off len cap n : Nat) (D : Nat → DataW H) (Pl : Nat → List MemPlace), v = .slice (some ⟨b, off, none⟩) len cap ∧ len ≤ cap ∧ cap ≤ maxLen ∧ (∃ arr el fr, w.heap[b]? = some (.cells arr el fr) ∧ off + cap * esz ≤ arr.size) ∧
   ∀ i, i < len → ∃ cs', cs'.length = esz ∧ (∀ j, j < esz → w.cell? ⟨b, off + (i * esz + j), none⟩ = cs'[j]?) ∧ DataW.trod enc P w 0 (fun _ => true) true n e cs' = some (D i, Pl i) := by
 rcases Deep.open_slice ht h with ⟨h0, _⟩ | ⟨a, len, cap, m, n, D, Pl, h0, _, hl, hm, hmm, _, hx⟩
 ·exact .inl (by simpa using h0)
 have hv : v = .slice (some a) len cap := by simpa using h0
 subst hv
 simp only [if_true] at hmm
 subst hmm
 by_cases hcap : m = 0
 ·subst hcap
  have : len = 0 := by omega
  subst this
  exact .inr (.inl ⟨a, rfl⟩)
 ·right; right
  rw [hc] at hx
  have cellOf : ∀ i, i < m → ∃ cs', cs'.length = esz ∧ (∀ j, j < esz → w.cell? ((a.add (i * esz)).add j) = cs'[j]?) ∧ DataW.trod enc P w 0 (fun _ => true) true n e cs' = some (D i, Pl i) := fun i hi => by
   obtain ⟨cs', h1, h2⟩ := hx i hi
   obtain ⟨_, h3, h4⟩ := World.cells?_some h1
   exact ⟨cs', h3, h4, h2⟩
  have hspot : a.spot = none := by
   obtain ⟨cs', h1, h2, _⟩ := cellOf 0 (by omega)
   have := h2 0 hpos
   rw [Nat.zero_mul] at this
   have e0 : (a.add 0).add 0 = a := rfl
   rw [e0, List.getElem?_eq_getElem (by omega)] at this
   exact World.cell?_spot this
  obtain ⟨b, off, sp⟩ := a
  simp only at hspot
  subst hspot
  have hadd : ∀ i j, ((⟨b, off, none⟩ : Addr).add i).add j = ⟨b, off + (i + j), none⟩ := fun i j => by
   unfold Addr.add
   by_cases hi : i = 0 <;> by_cases hj : j = 0 <;> simp [hi, hj, Nat.add_assoc]
  refine ⟨b, off, len, m, n, D, Pl, rfl, hl, hm, ?_, fun i hi => ?_⟩
  ·obtain ⟨cs', h1, h2, _⟩ := cellOf (m - 1) (by omega)
   have := h2 (esz - 1) (by omega)
   rw [hadd, List.getElem?_eq_getElem (by omega)] at this
   unfold World.cell? at this
   split at this
   ·rename_i arr el fr hb
    refine ⟨arr, el, fr, hb, ?_⟩
    have h5 : arr[off + ((m - 1) * esz + (esz - 1))]? = some _ := this
    obtain ⟨hlt, _⟩ := Array.getElem?_eq_some_iff.1 h5
    have : (m - 1) * esz + esz = m * esz := by rw [← Nat.succ_mul]; congr 1; omega
    omega
   ·cases this
  ·obtain ⟨cs', h1, h2, h3⟩ := cellOf i (by omega)
   exact ⟨cs', h1, fun j hj => by rw [← h2 j hj, hadd], h3⟩
structure Ext (b : Nat) (h h' : AHeap) : Prop where
 size : h.size ≤ h'.size
 obj : ∀ i, i < b → h'.obj i = h.obj i
 ep : ∀ e r, r < b → h'.ep e r = h.ep e r
 tip : ∀ e r, r < b → h'.tip e r = h.tip e r
theorem Ext.refl (b : Nat) (h : AHeap) : Ext b h h := ⟨Nat.le_refl _, fun _ _ => rfl, fun _ _ _ => rfl, fun _ _ _ => rfl⟩
theorem Ext.trans {b : Nat} {h h' h'' : AHeap} (x : Ext b h h') (y : Ext b h' h'') : Ext b h h'' :=
 ⟨Nat.le_trans x.size y.size, fun i hi => (y.obj i hi).trans (x.obj i hi), fun e r hr => (y.ep e r hr).trans (x.ep e r hr), fun e r hr => (y.tip e r hr).trans (x.tip e r hr)⟩
theorem Ext.mono {b c : Nat} {h h' : AHeap} (x : Ext b h h') (hc : c ≤ b) : Ext c h h' :=
 ⟨x.size, fun i hi => x.obj i (by omega), fun e r hr => x.ep e r (by omega), fun e r hr => x.tip e r (by omega)⟩
theorem Ext.at? {b : Nat} {h h' : AHeap} (x : Ext b h h') {i : Nat} {o : AObj} (hi : i < b) (ho : h.at? i = some o) : h'.at? i = some o := by
 obtain ⟨h1, h2, h3, h4⟩ := at?_obj ho
 exact at?_mk ((x.obj i hi).trans h1) (by have := x.size; omega) h3 ((x.ep _ _ (by omega)).trans h4)
theorem Ext.new {b : Nat} {h : AHeap} (hb : b ≤ h.size) (e : TypeId) (cs : List Value) : Ext b h (h.new e cs) :=
 ⟨by simp [AHeap.new], fun i hi => by simp [AHeap.new]; omega, fun _ _ _ => rfl, fun e' r hr => by simp [AHeap.new]; omega⟩
theorem Ext.put {b : Nat} {h : AHeap} {i : Nat} {o : AObj} (hi : b ≤ i) (hr : b ≤ o.root) (cs : List Value) : Ext b h (h.put i o cs) :=
 ⟨Nat.le_refl _, fun j hj => by simp [AHeap.put]; omega, fun e r h' => by simp [AHeap.put]; omega, fun e r h' => by simp [AHeap.put]; omega⟩
theorem Ext.app {b : Nat} {h : AHeap} {o : AObj} (hb : b ≤ h.size) (hr : b ≤ o.root) (k : Nat) (cs : List Value) : Ext b h (h.app o k cs) :=
 ⟨by simp [AHeap.app], fun j hj => by simp [AHeap.app]; omega, fun e r h' => by simp only [AHeap.app]; rw [if_neg (by omega)], fun e r h' => by simp only [AHeap.app]; rw [if_neg (by omega)]⟩
def Own (b : Nat) (h : AHeap) (i : Nat) (e : TypeId) (cs : List Value) : Prop := ∃ root ep, h.at? i = some ⟨root, ep, false, e, cs⟩ ∧ b ≤ root
def Row (h : AHeap) (i : Nat) (cs : List Value) : Prop := ∃ o, h.at? i = some o ∧ o.cells = cs
theorem Own.row {b : Nat} {h : AHeap} {i : Nat} {e : TypeId} {cs : List Value} (x : Own b h i e cs) : Row h i cs := let ⟨_, _, h1, _⟩ := x; ⟨_, h1, rfl⟩
theorem Own.lt {b : Nat} {h : AHeap} {i : Nat} {e : TypeId} {cs : List Value} (x : Own b h i e cs) : b ≤ i ∧ i < h.size := by
 obtain ⟨r, ep, h1, h2⟩ := x
 obtain ⟨_, h3, h4, _⟩ := at?_obj h1
 exact ⟨Nat.le_trans h2 h4, h3⟩
theorem Own.ext {b c : Nat} {h h' : AHeap} {i : Nat} {e : TypeId} {cs : List Value} (x : Own b h i e cs) (y : Ext c h h') (hi : i < c) : Own b h' i e cs :=
 let ⟨r, ep, h1, h2⟩ := x; ⟨r, ep, y.at? hi h1, h2⟩
theorem Row.ext {c : Nat} {h h' : AHeap} {i : Nat} {cs : List Value} (x : Row h i cs) (y : Ext c h h') (hi : i < c) : Row h' i cs :=
 let ⟨o, h1, h2⟩ := x; ⟨o, y.at? hi h1, h2⟩
theorem Own.mono {b c : Nat} {h : AHeap} {i : Nat} {e : TypeId} {cs : List Value} (x : Own b h i e cs) (hc : c ≤ b) : Own c h i e cs :=
 let ⟨r, ep, h1, h2⟩ := x; ⟨r, ep, h1, Nat.le_trans hc h2⟩
theorem Own.new {b : Nat} {h : AHeap} (hb : b ≤ h.size) (e : TypeId) (cs : List Value) : Own b (h.new e cs) h.size e cs := ⟨_, _, at?_new_same h e cs, hb⟩
theorem Row.rd {h : AHeap} {i off n : Nat} {cs : List Value} (x : Row h i cs) (hn : off + n ≤ cs.length) : h.rd i off n = some ((cs.drop off).take n) := by
 obtain ⟨o, h1, rfl⟩ := x
 simp [AHeap.rd, h1, hn]
theorem Row.ld1 {h : AHeap} {i off : Nat} {cs : List Value} {v : Value} (x : Row h i cs) (hv : cs[off]? = some v) : aLd1 h (ptr i off) = some v := by
 have hl := (List.getElem?_eq_some_iff.1 hv).1
 simp only [aLd1, ptr, x.rd (off := off) (n := 1) (by omega), oBs]
 rw [List.head?_take, if_neg (by omega), List.head?_drop, hv]
theorem Row.ldN {h : AHeap} {i off n : Nat} {cs : List Value} (x : Row h i cs) (hn : off + n ≤ cs.length) : aLdN h (ptr i off) n = some (.agg ((cs.drop off).take n).toArray) := by
 simp [aLdN, ptr, x.rd hn]
theorem Own.st {b : Nat} {h : AHeap} {i off n : Nat} {e : TypeId} {cs vs : List Value} {v : Value} (x : Own b h i e cs) (hv : aCells v = some vs) (hl : vs.length = n) (hn : off + n ≤ cs.length) :
  ∃ h', aSt h (ptr i off) v n = some h' ∧ Ext b h h' ∧ Own b h' i e (splice cs off vs) ∧ h'.size = h.size ∧
   (∀ j cs', Row h j cs' → (∀ o, h.at? j = some o → ¬ (o.elem = e ∧ ∃ oi, h.at? i = some oi ∧ o.root = oi.root)) → j ≠ i → Row h' j cs') := by
 obtain ⟨r, ep, h1, h2⟩ := x
 have hi := at?_obj h1
 refine ⟨h.put i ⟨r, ep, false, e, cs⟩ (splice cs off vs), by simp [aSt, ptr, h1, hv, hl, hn], Ext.put (Nat.le_trans h2 hi.2.2.1) h2 _, ⟨_, _, at?_put_same h1 _, h2⟩, rfl, fun j cs' ⟨o, ho, hc⟩ hf hne => ?_⟩
 exact ⟨o, at?_put_other ho hne _ (fun hh => hf o ho ⟨hh.1, _, h1, hh.2⟩), hc⟩
theorem Own.app {b : Nat} {h : AHeap} {i n m esz bytes : Nat} {e : TypeId} {cs ms : List Value} {x : Value} (o : Own b h i e cs) (hb : b ≤ h.size) (hsrc : aSrc h esz x = some (m, ms)) (hn : n * esz = cs.length)
  (h1 : n + m ≤ most) (h2 : (n + m) * bytes ≤ most) :
  ∃ h', aApp h e esz bytes (slc i 0 n) x = some (slc h.size 0 (n + m), h') ∧ Ext b h h' ∧ Own b h' h.size e (cs ++ ms) ∧ h'.size = h.size + 1 := by
 obtain ⟨r, ep, ha, hr⟩ := o
 refine ⟨h.app ⟨r, ep, false, e, cs⟩ (n * esz) (cs ++ ms), ?_, Ext.app hb hr _ _, ⟨_, _, at?_app_same ha _ _, hr⟩, rfl⟩
 simp [aApp, aAppG, slc, ha, hsrc, hn, h1, h2]
theorem Row.src {h : AHeap} {i off n esz : Nat} {cs : List Value} (x : Row h i cs) (hn : off + n * esz ≤ cs.length) : aSrc h esz (slc i off n) = some (n, (cs.drop off).take (n * esz)) := by
 simp [aSrc, slc, x.rd hn]
end Go.AH
namespace Go.Proofs.Ytadmoackacickaa
open Go Go.AH
noncomputable abbrev Tp : Program := Try.prog
def M3 : Masks := ⟨[(7, [0, 3, 4, 5, 6]), (18, [6, 9])], []⟩
def M4 : Masks := ⟨[], []⟩
def M5 : Masks := ⟨[], []⟩
def M6 : Masks := ⟨[], []⟩
def M7 : Masks := ⟨[(16, [1, 4, 6]), (100015, [1, 4, 6, 42])], []⟩
def M8 : Masks := ⟨[(8, [4, 8]), (14, [4, 8, 10, 11]), (19, [4, 10]), (22, [4, 12]), (100007, [4, 8, 46]), (100013, [4, 8, 10, 11, 68]), (100018, [4, 8, 10, 98]), (100021, [4, 12, 120]), (100026, [4, 12, 15, 163])], [(10, [4, 8, 10, 11]), (23, [4, 12, 15])]⟩
def M9 : Masks := ⟨[(16, [1, 4, 6]), (100015, [1, 4, 6, 42])], []⟩
def M10 : Masks := ⟨[(10, [1, 4, 5, 6, 7, 8]), (16, [1, 4, 5, 7]), (27, [7, 10]), (100009, [1, 4, 5, 6, 7, 8, 40]), (100015, [1, 4, 5, 7, 61]), (100026, [7, 10, 87])], []⟩
def M11 : Masks := ⟨[(10, [1, 6]), (100009, [1, 6, 34])], []⟩
def M12 : Masks := ⟨[(7, [0, 3, 4, 5, 6]), (18, [6, 9]), (100006, [0, 3, 4, 5, 6, 42]), (100017, [6, 9, 73])], []⟩
def M13 : Masks := ⟨[(16, [1, 4, 6]), (100015, [1, 4, 6, 42])], []⟩
def M14 : Masks := ⟨[(9, [0, 5, 6, 7]), (10, [0, 5, 6]), (12, [0, 5, 6])], [(5, [0, 5, 6]), (10, [0, 5, 6])]⟩
def M15 : Masks := ⟨[(7, [0, 5, 6]), (14, [0, 5, 6, 7])], [(5, [0, 5, 6])]⟩
def M16 : Masks := ⟨[], [(4, [0, 1, 5])]⟩
def M17 : Masks := ⟨[], [(2, [0, 1, 5])]⟩
def M18 : Masks := ⟨[], [(2, [0, 1, 5])]⟩
def M19 : Masks := ⟨[], []⟩
def M20 : Masks := ⟨[], []⟩
def M21 : Masks := ⟨[], []⟩
def M22 : Masks := ⟨[(4, [1, 3]), (100003, [1, 3, 31])], [(5, [1, 3, 34, 35])]⟩
def M23 : Masks := ⟨[], []⟩
def M24 : Masks := ⟨[], []⟩
def M25 : Masks := ⟨[], [(5, [1, 3, 16, 17, 18]), (8, [1, 3, 4, 5, 16, 17, 18, 24, 25, 26])]⟩
def M26 : Masks := ⟨[], []⟩
def M27 : Masks := ⟨[], []⟩
def M28 : Masks := ⟨[(7, [2, 5, 8, 9])], [(6, [2, 5, 8, 9])]⟩
def M29 : Masks := ⟨[], []⟩
def M30 : Masks := ⟨[], [(5, [1, 3, 4])]⟩
def M31 : Masks := ⟨[], [(6, [3, 4, 19, 20, 21]), (10, [3, 4, 5, 6, 19, 20, 21, 30, 31, 32])]⟩
def M32 : Masks := ⟨[], [(4, [0, 1, 5])]⟩
def M33 : Masks := ⟨[], []⟩
def M34 : Masks := ⟨[], [(2, [0, 1, 5])]⟩
def M35 : Masks := ⟨[], [(2, [0, 1, 5])]⟩
def M36 : Masks := ⟨[], []⟩
def M37 : Masks := ⟨[], []⟩
def M38 : Masks := ⟨[(100009, [3, 4, 6, 14, 15, 16, 45])], [(6, [3, 4, 14, 15, 16])]⟩
def M39 : Masks := ⟨[], [(4, [0, 1, 5])]⟩
def M40 : Masks := ⟨[], [(2, [0, 1, 5])]⟩
def M41 : Masks := ⟨[], [(2, [0, 1, 5])]⟩
def M42 : Masks := ⟨[], []⟩
def M43 : Masks := ⟨[], []⟩
def M44 : Masks := ⟨[], []⟩
def M45 : Masks := ⟨[(10, [4, 5, 6])], [(6, [4, 5, 6])]⟩
def M46 : Masks := ⟨[], [(5, [4, 18, 19, 20])]⟩
def M47 : Masks := ⟨[(7, [2, 5, 8, 9])], [(6, [2, 5, 8, 9])]⟩
def M48 : Masks := ⟨[], [(8, [3, 7, 8])]⟩
def M49 : Masks := ⟨[], [(8, [3, 4, 20, 21])]⟩
def M50 : Masks := ⟨[(12, [4, 7, 8]), (18, [0, 1, 4, 7, 8]), (31, [0, 1, 4, 7, 8]), (40, [1, 4, 8, 10, 11, 12])], [(4, [0, 1, 4, 7, 8]), (14, [0, 1, 4, 7, 8]), (21, [0, 4, 7, 8, 9]), (27, [0, 1, 4, 7, 8]), (36, [0, 1, 4, 8, 10, 11])]⟩
def M51 : Masks := ⟨[], [(1, [0, 1, 2])]⟩
def M52 : Masks := ⟨[], []⟩
def M53 : Masks := ⟨[(8, [4, 8]), (16, [0, 1, 4, 11]), (25, [0, 1, 4, 7]), (44, [4])], []⟩
def M54 : Masks := ⟨[], []⟩
def M55 : Masks := ⟨[], [(4, [0, 3])]⟩
def M56 : Masks := ⟨[], [(5, [0, 1, 5])]⟩
def M57 : Masks := ⟨[(3, [1, 2, 3, 4, 5]), (6, [1, 2, 3, 4, 5, 12, 13]), (8, [1, 3, 4, 5, 12, 13]), (11, [1, 3, 4, 5, 12, 14]), (100002, [1, 2, 3, 4, 5, 31]), (100010, [1, 3, 4, 5, 12, 14, 69])], [(12, [1, 3, 4, 5, 12, 14, 16])]⟩
def M58 : Masks := ⟨[], [(3, [0, 3, 4])]⟩
def M59 : Masks := ⟨[], [(3, [0, 1, 5, 16, 17, 18])]⟩
def M60 : Masks := ⟨[], [(2, [0, 1, 2, 16, 17, 18])]⟩
def M61 : Masks := ⟨[], [(4, [0, 1, 5])]⟩
def M62 : Masks := ⟨[], [(4, [2, 6, 7, 8, 9])]⟩
def M63 : Masks := ⟨[], []⟩
def M64 : Masks := ⟨[], []⟩
def M65 : Masks := ⟨[], [(4, [1, 2, 15, 16, 17])]⟩
def M66 : Masks := ⟨[], []⟩
def M67 : Masks := ⟨[], [(4, [0, 1, 12, 13])]⟩
def M68 : Masks := ⟨[], [(2, [0, 1, 5])]⟩
def M69 : Masks := ⟨[(5, [0, 3, 4])], [(3, [0, 3, 4])]⟩
def M70 : Masks := ⟨[], []⟩
def M71 : Masks := ⟨[], []⟩
def M72 : Masks := ⟨[], []⟩
def M73 : Masks := ⟨[(100010, [2, 3, 10, 11, 39, 40]), (100011, [2, 3, 10, 54]), (100014, [2, 3, 10, 11, 39, 62]), (100017, [2, 3, 11, 73])], [(4, [2, 3, 4, 10, 11, 12])]⟩
def M74 : Masks := ⟨[], []⟩
def M75 : Masks := ⟨[], []⟩
def M76 : Masks := ⟨[(21, [0, 7, 8, 9, 11, 12, 13]), (22, [0, 7, 8, 9, 11, 12]), (100009, [0, 4, 7, 8, 9, 10, 67])], [(5, [0, 4, 7, 8, 9, 10])]⟩
def M77 : Masks := ⟨[], [(4, [0, 5, 17, 18, 19])]⟩
def M78 : Masks := ⟨[], [(3, [0, 5, 21, 22, 23])]⟩
def M79 : Masks := ⟨[], [(2, [0, 1, 5])]⟩
def M80 : Masks := ⟨[], [(10, [2, 5, 6, 7])]⟩
def M81 : Masks := ⟨[(100013, [0, 4, 16, 52]), (100037, [0, 4, 127])], []⟩
def M82 : Masks := ⟨[(15, [0, 6])], []⟩
def M83 : Masks := ⟨[], []⟩
def M84 : Masks := ⟨[(7, [2, 6])], []⟩
def M85 : Masks := ⟨[], []⟩
def M86 : Masks := ⟨[], [(4, [0, 3, 4, 17, 18, 19])]⟩
def M87 : Masks := ⟨[], []⟩
def M88 : Masks := ⟨[], []⟩
def M89 : Masks := ⟨[], []⟩
def M90 : Masks := ⟨[], []⟩
def M91 : Masks := ⟨[], []⟩
def M92 : Masks := ⟨[], []⟩
def M93 : Masks := ⟨[], []⟩
def M94 : Masks := ⟨[], []⟩
def M95 : Masks := ⟨[(5, [0, 1, 4, 6, 7])], [(6, [0, 4, 6, 7, 8])]⟩
def M96 : Masks := ⟨[], []⟩
def M97 : Masks := ⟨[], []⟩
def M98 : Masks := ⟨[], []⟩
def M99 : Masks := ⟨[(100002, [0, 3]), (100004, [0, 10]), (100010, [23])], []⟩
def M100 : Masks := ⟨[(39, [4, 5, 6]), (42, [4, 5, 6, 7]), (100016, [4, 5, 6, 13, 29]), (100026, [4, 5, 6, 13, 46])], [(6, [4, 5, 6]), (19, [4, 5, 6]), (40, [4, 5, 6, 7])]⟩
def M101 : Masks := ⟨[(14, [1]), (100006, [1, 5, 6])], [(9, [1, 3])]⟩
def M102 : Masks := ⟨[], []⟩
def M103 : Masks := ⟨[], []⟩
def M104 : Masks := ⟨[(17, [1]), (100006, [1, 4, 5])], []⟩
def M105 : Masks := ⟨[(100009, [0, 3, 5, 9, 10]), (100020, [0, 3, 5, 9, 59]), (100028, [0, 3, 5, 9, 81])], []⟩
def M106 : Masks := ⟨[], []⟩
def M107 : Masks := ⟨[], []⟩
def M108 : Masks := ⟨[], []⟩
def M109 : Masks := ⟨[], []⟩
def M110 : Masks := ⟨[], []⟩
def M111 : Masks := ⟨[(5, [0, 3])], [(4, [0, 3])]⟩
def M112 : Masks := ⟨[(17, [0]), (100006, [0, 3, 4, 21]), (100008, [0, 3, 4, 33]), (100013, [0, 3, 4, 60])], []⟩
def M113 : Masks := ⟨[], [(4, [0, 3, 4, 5]), (9, [3, 4, 6])]⟩
def M114 : Masks := ⟨[(16, [8])], [(5, [0, 2, 7, 8, 9, 10]), (13, [0, 7, 8, 12, 13])]⟩
def M115 : Masks := ⟨[], []⟩
def M116 : Masks := ⟨[], []⟩
def M117 : Masks := ⟨[], []⟩
def M118 : Masks := ⟨[], [(2, [0, 1, 5])]⟩
def M119 : Masks := ⟨[(5, [0, 1, 2, 6, 7, 8]), (100013, [0, 1, 2, 7, 44, 45]), (100016, [0, 1, 2, 7, 44, 52]), (100020, [0, 7, 72])], [(6, [0, 1, 2, 6, 7, 8, 32, 33, 34])]⟩
def M120 : Masks := ⟨[], [(2, [0, 1, 7, 8])]⟩
def M121 : Masks := ⟨[], []⟩
def M122 : Masks := ⟨[], []⟩
def M123 : Masks := ⟨[(3, [0, 4, 5, 6]), (5, [6]), (100002, [0, 4, 5, 6, 15]), (100004, [4, 5, 6, 45])], []⟩
def M124 : Masks := ⟨[(4, [2, 3])], []⟩
def M125 : Masks := ⟨[(8, [0, 3, 4]), (100005, [0, 3, 4, 39]), (100009, [0, 3, 4, 78]), (100012, [0, 103]), (100015, [0, 113])], []⟩
def M126 : Masks := ⟨[(26, [2, 3, 7]), (28, [2, 3, 7]), (32, [3]), (100023, [2, 3, 10, 104])], []⟩
def M127 : Masks := ⟨[], []⟩
def M128 : Masks := ⟨[], []⟩
def M129 : Masks := ⟨[(5, [0, 5, 6, 7, 8])], [(1, [0, 6, 7, 8])]⟩
def M130 : Masks := ⟨[(7, [0, 3, 4, 5])], [(4, [0, 3, 4])]⟩
def M131 : Masks := ⟨[], [(1, [0, 6, 7, 8])]⟩
def M132 : Masks := ⟨[(8, [0, 3, 5])], []⟩
def M133 : Masks := ⟨[], [(4, [0, 12, 13, 14])]⟩
def M134 : Masks := ⟨[(3, [0, 1]), (100002, [0, 1, 22])], []⟩
def M135 : Masks := ⟨[], []⟩
def M136 : Masks := ⟨[], []⟩
def M137 : Masks := ⟨[], []⟩
def M138 : Masks := ⟨[(6, [0, 3])], [(5, [0, 3])]⟩
def M139 : Masks := ⟨[(100006, [0, 3, 4, 21]), (100009, [0, 3, 4, 41]), (100015, [0, 3, 4, 76])], []⟩
def M140 : Masks := ⟨[], [(3, [1, 2, 5, 6])]⟩
def M141 : Masks := ⟨[(9, [0, 1, 2, 6, 7, 8, 9]), (14, [0, 1, 2, 6, 7, 8, 10]), (16, [0, 1, 2, 6, 7]), (23, [0, 2, 6, 11]), (100022, [0, 1, 2, 6, 11, 142])], [(7, [0, 1, 2, 6, 7, 8, 9]), (12, [0, 1, 2, 6, 7, 8, 10])]⟩
def M142 : Masks := ⟨[(17, [0, 1]), (100010, [0, 1, 3, 11, 28, 29, 30, 56]), (100016, [0, 1, 88])], [(1, [0, 1, 2, 3, 12, 13, 14]), (7, [0, 1, 3, 28, 29, 30])]⟩
def M143 : Masks := ⟨[], []⟩
def M144 : Masks := ⟨[], []⟩
def M145 : Masks := ⟨[(3, [0]), (100002, [0, 11])], [(4, [0, 3])]⟩
def M146 : Masks := ⟨[], [(3, [0, 3, 4])]⟩
def M147 : Masks := ⟨[], []⟩
def M148 : Masks := ⟨[], []⟩
def M149 : Masks := ⟨[], []⟩
def M150 : Masks := ⟨[], []⟩
def M151 : Masks := ⟨[], [(4, [0, 4, 15, 16, 17])]⟩
def M152 : Masks := ⟨[], []⟩
def M153 : Masks := ⟨[], []⟩
def M154 : Masks := ⟨[], []⟩
def M155 : Masks := ⟨[(3, [0, 2]), (100002, [0, 2, 19])], []⟩
def M156 : Masks := ⟨[], []⟩
def M157 : Masks := ⟨[(2, [0]), (100001, [0, 12])], []⟩
def M158 : Masks := ⟨[], [(2, [0, 3])]⟩
def M159 : Masks := ⟨[(4, [0, 1, 2]), (46, [0, 1]), (100003, [0, 1, 2, 35]), (100007, [0, 1, 2, 42, 43]), (100014, [0, 1, 2, 42, 68]), (100026, [0, 1, 2, 42, 112])], []⟩
def M160 : Masks := ⟨[], []⟩
def M161 : Masks := ⟨[(5, [0]), (6, [0, 1, 2]), (28, [0, 1, 2]), (100003, [0, 1, 2, 7, 18]), (100004, [0, 7, 26])], []⟩
def M162 : Masks := ⟨[], []⟩
def M163 : Masks := ⟨[], [(2, [0, 1, 2, 6])]⟩
def M164 : Masks := ⟨[(20, [6, 8]), (100010, [1, 2, 6, 30])], []⟩
def M165 : Masks := ⟨[(17, [7, 8]), (19, [7]), (100018, [7, 58])], []⟩
def M166 : Masks := ⟨[], []⟩
def M167 : Masks := ⟨[(4, [3])], []⟩
def M168 : Masks := ⟨[], []⟩
def M169 : Masks := ⟨[(9, [0, 3, 4, 5])], [(5, [0, 3, 4])]⟩
def M170 : Masks := ⟨[(7, [1, 2, 5, 6])], [(3, [1, 2, 5, 6])]⟩
def M171 : Masks := ⟨[], []⟩
def M172 : Masks := ⟨[], []⟩
def M173 : Masks := ⟨[(3, [0]), (100002, [0, 19])], []⟩
def M174 : Masks := ⟨[], []⟩
def M175 : Masks := ⟨[], []⟩
def M176 : Masks := ⟨[(13, [0, 1, 5, 6, 7]), (100010, [0, 1, 5, 6, 7, 28]), (100012, [0, 1, 5, 6, 7, 35])], [(4, [0, 1, 5])]⟩
def M177 : Masks := ⟨[], []⟩
def M178 : Masks := ⟨[], []⟩
def M179 : Masks := ⟨[(6, [0, 4, 5, 6, 7, 8])], [(4, [0, 4, 5, 6, 7, 8])]⟩
def M180 : Masks := ⟨[], []⟩
def M181 : Masks := ⟨[], []⟩
def M182 : Masks := ⟨[], []⟩
def M183 : Masks := ⟨[], []⟩
def M184 : Masks := ⟨[], []⟩
def M185 : Masks := ⟨[], []⟩
def M186 : Masks := ⟨[], []⟩
def M187 : Masks := ⟨[], []⟩
def M188 : Masks := ⟨[], [(2, [0, 3])]⟩
def M189 : Masks := ⟨[], []⟩
def M190 : Masks := ⟨[(4, [0, 1, 2]), (6, [0, 1, 2]), (100003, [0, 1, 2, 7, 16]), (100005, [0, 1, 2, 25])], []⟩
def M191 : Masks := ⟨[(8, [0, 1, 2, 7, 8, 9])], [(4, [0, 1, 2, 7, 8, 9])]⟩
def M192 : Masks := ⟨[], [(3, [0, 1, 5, 6])]⟩
def M193 : Masks := ⟨[], []⟩
def M194 : Masks := ⟨[], []⟩
def M195 : Masks := ⟨[(11, [0, 1, 9, 10, 11]), (12, [1, 9, 10, 11]), (100010, [0, 1, 9, 10, 11, 44])], [(5, [0, 1, 2, 3, 9, 10, 11, 12, 13])]⟩
def M196 : Masks := ⟨[(100002, [0, 1, 13])], []⟩
def M197 : Masks := ⟨[(9, [0, 3])], []⟩
def M198 : Masks := ⟨[(100006, [0, 1, 5, 6, 7, 27])], [(3, [0, 1, 5, 6, 7])]⟩
def M199 : Masks := ⟨[(26, [0, 1])], [(3, [0, 4, 8])]⟩
def M200 : Masks := ⟨[(5, [0, 5, 6]), (37, [0, 5])], []⟩
def M201 : Masks := ⟨[], []⟩
def M202 : Masks := ⟨[], [(2, [0, 1, 7, 8])]⟩
def M203 : Masks := ⟨[], []⟩
def M204 : Masks := ⟨[(8, [0, 4]), (10, [0, 4])], [(2, [0, 3]), (7, [0, 4])]⟩
def M205 : Masks := ⟨[], []⟩
def M206 : Masks := ⟨[], []⟩
def M207 : Masks := ⟨[], []⟩
def M208 : Masks := ⟨[], []⟩
def M209 : Masks := ⟨[(26, [0, 4, 6]), (31, [0, 1, 4]), (100022, [0, 1, 4, 23, 69])], [(32, [0, 1, 4, 8])]⟩
def M210 : Masks := ⟨[], []⟩
def M211 : Masks := ⟨[], [(2, [1, 2, 5])]⟩
def M212 : Masks := ⟨[], []⟩
def M213 : Masks := ⟨[(100004, [0, 1, 5, 6, 28])], []⟩
def M214 : Masks := ⟨[], []⟩
def M215 : Masks := ⟨[(11, [0, 4, 7, 11, 12, 13])], [(4, [0, 4, 11, 12, 13])]⟩
def M216 : Masks := ⟨[], [(1, [0, 6, 7, 8])]⟩
def M217 : Masks := ⟨[], []⟩
def M218 : Masks := ⟨[], []⟩
def M219 : Masks := ⟨[], []⟩
def M220 : Masks := ⟨[], []⟩
def M221 : Masks := ⟨[], [(2, [0, 7, 8, 9])]⟩
def M222 : Masks := ⟨[], []⟩
def M223 : Masks := ⟨[], [(2, [0, 1, 6]), (5, [0, 1, 6, 7])]⟩
def M224 : Masks := ⟨[(10, [0, 1, 2, 8])], [(2, [0, 1, 2, 7])]⟩
def M225 : Masks := ⟨[], [(2, [0, 1, 5])]⟩
def M226 : Masks := ⟨[(100005, [0, 1, 4, 5, 6, 7, 40])], []⟩
def M227 : Masks := ⟨[], []⟩
def M228 : Masks := ⟨[(11, [0, 3, 4, 5, 6])], [(4, [0, 3, 4, 5]), (12, [0, 3, 4, 5, 6, 7])]⟩
def M229 : Masks := ⟨[], []⟩
def M230 : Masks := ⟨[(8, [0, 1, 6])], []⟩
def M231 : Masks := ⟨[], [(2, [0, 1, 2, 7])]⟩
def M232 : Masks := ⟨[], []⟩
def M233 : Masks := ⟨[(4, [0, 3]), (6, [0, 3])], [(3, [0, 3])]⟩
def M234 : Masks := ⟨[(3, [0, 3]), (5, [0, 3])], [(2, [0, 3])]⟩
def M235 : Masks := ⟨[], [(3, [0, 3, 4])]⟩
def M236 : Masks := ⟨[], []⟩
def M237 : Masks := ⟨[], [(2, [0, 1, 7, 8])]⟩
def M238 : Masks := ⟨[], []⟩
def M239 : Masks := ⟨[(14, [0]), (100009, [0, 77])], []⟩
def M240 : Masks := ⟨[], []⟩
def M241 : Masks := ⟨[(9, [0, 3])], []⟩
def M242 : Masks := ⟨[], [(3, [0, 3])]⟩
def M243 : Masks := ⟨[], []⟩
def M244 : Masks := ⟨[], [(5, [0, 3])]⟩
def M245 : Masks := ⟨[(8, [0, 3])], [(4, [0, 3])]⟩
def M246 : Masks := ⟨[], [(4, [0, 3])]⟩
def M247 : Masks := ⟨[(13, [0]), (100009, [0, 5, 71])], []⟩
theorem hk0_app {R : Type} (i : Nat) (t : Tm) (h : AHeap) (x : Nx R) : hk0 i t h x = x t h := rfl
def Ms (k : Nat) : Masks :=
 (bif Nat.blt k 125 then (bif Nat.blt k 64 then (bif Nat.blt k 33 then (bif Nat.blt k 18 then (bif Nat.blt k 10 then (bif Nat.blt k 6 then (bif Nat.blt k 4 then (bif Nat.beq k 3 then M3 else ⟨[], []⟩) else (bif Nat.blt k 5 then (bif Nat.beq k 4 then M4 else ⟨[], []⟩) else (bif Nat.beq k 5 then M5 else ⟨[], []⟩))) else (bif Nat.blt k 8 then (bif Nat.blt k 7 then (bif Nat.beq k 6 then M6 else ⟨[], []⟩) else (bif Nat.beq k 7 then M7 else ⟨[], []⟩)) else (bif Nat.blt k 9 then (bif Nat.beq k 8 then M8 else ⟨[], []⟩) else (bif Nat.beq k 9 then M9 else ⟨[], []⟩)))) else (bif Nat.blt k 14 then (bif Nat.blt k 12 then (bif Nat.blt k 11 then (bif Nat.beq k 10 then M10 else ⟨[], []⟩) else (bif Nat.beq k 11 then M11 else ⟨[], []⟩)) else (bif Nat.blt k 13 then (bif Nat.beq k 12 then M12 else ⟨[], []⟩) else (bif Nat.beq k 13 then M13 else ⟨[], []⟩))) else (bif Nat.blt k 16 then (bif Nat.blt k 15 then (bif Nat.beq k 14 then M14 else ⟨[], []⟩) else (bif Nat.beq k 15 then M15 else ⟨[], []⟩)) else (bif Nat.blt k 17 then (bif Nat.beq k 16 then M16 else ⟨[], []⟩) else (bif Nat.beq k 17 then M17 else ⟨[], []⟩))))) else (bif Nat.blt k 25 then (bif Nat.blt k 21 then (bif Nat.blt k 19 then (bif Nat.beq k 18 then M18 else ⟨[], []⟩) else (bif Nat.blt k 20 then (bif Nat.beq k 19 then M19 else ⟨[], []⟩) else (bif Nat.beq k 20 then M20 else ⟨[], []⟩))) else (bif Nat.blt k 23 then (bif Nat.blt k 22 then (bif Nat.beq k 21 then M21 else ⟨[], []⟩) else (bif Nat.beq k 22 then M22 else ⟨[], []⟩)) else (bif Nat.blt k 24 then (bif Nat.beq k 23 then M23 else ⟨[], []⟩) else (bif Nat.beq k 24 then M24 else ⟨[], []⟩)))) else (bif Nat.blt k 29 then (bif Nat.blt k 27 then (bif Nat.blt k 26 then (bif Nat.beq k 25 then M25 else ⟨[], []⟩) else (bif Nat.beq k 26 then M26 else ⟨[], []⟩)) else (bif Nat.blt k 28 then (bif Nat.beq k 27 then M27 else ⟨[], []⟩) else (bif Nat.beq k 28 then M28 else ⟨[], []⟩))) else (bif Nat.blt k 31 then (bif Nat.blt k 30 then (bif Nat.beq k 29 then M29 else ⟨[], []⟩) else (bif Nat.beq k 30 then M30 else ⟨[], []⟩)) else (bif Nat.blt k 32 then (bif Nat.beq k 31 then M31 else ⟨[], []⟩) else (bif Nat.beq k 32 then M32 else ⟨[], []⟩)))))) else (bif Nat.blt k 48 then (bif Nat.blt k 40 then (bif Nat.blt k 36 then (bif Nat.blt k 34 then (bif Nat.beq k 33 then M33 else ⟨[], []⟩) else (bif Nat.blt k 35 then (bif Nat.beq k 34 then M34 else ⟨[], []⟩) else (bif Nat.beq k 35 then M35 else ⟨[], []⟩))) else (bif Nat.blt k 38 then (bif Nat.blt k 37 then (bif Nat.beq k 36 then M36 else ⟨[], []⟩) else (bif Nat.beq k 37 then M37 else ⟨[], []⟩)) else (bif Nat.blt k 39 then (bif Nat.beq k 38 then M38 else ⟨[], []⟩) else (bif Nat.beq k 39 then M39 else ⟨[], []⟩)))) else (bif Nat.blt k 44 then (bif Nat.blt k 42 then (bif Nat.blt k 41 then (bif Nat.beq k 40 then M40 else ⟨[], []⟩) else (bif Nat.beq k 41 then M41 else ⟨[], []⟩)) else (bif Nat.blt k 43 then (bif Nat.beq k 42 then M42 else ⟨[], []⟩) else (bif Nat.beq k 43 then M43 else ⟨[], []⟩))) else (bif Nat.blt k 46 then (bif Nat.blt k 45 then (bif Nat.beq k 44 then M44 else ⟨[], []⟩) else (bif Nat.beq k 45 then M45 else ⟨[], []⟩)) else (bif Nat.blt k 47 then (bif Nat.beq k 46 then M46 else ⟨[], []⟩) else (bif Nat.beq k 47 then M47 else ⟨[], []⟩))))) else (bif Nat.blt k 56 then (bif Nat.blt k 52 then (bif Nat.blt k 50 then (bif Nat.blt k 49 then (bif Nat.beq k 48 then M48 else ⟨[], []⟩) else (bif Nat.beq k 49 then M49 else ⟨[], []⟩)) else (bif Nat.blt k 51 then (bif Nat.beq k 50 then M50 else ⟨[], []⟩) else (bif Nat.beq k 51 then M51 else ⟨[], []⟩))) else (bif Nat.blt k 54 then (bif Nat.blt k 53 then (bif Nat.beq k 52 then M52 else ⟨[], []⟩) else (bif Nat.beq k 53 then M53 else ⟨[], []⟩)) else (bif Nat.blt k 55 then (bif Nat.beq k 54 then M54 else ⟨[], []⟩) else (bif Nat.beq k 55 then M55 else ⟨[], []⟩)))) else (bif Nat.blt k 60 then (bif Nat.blt k 58 then (bif Nat.blt k 57 then (bif Nat.beq k 56 then M56 else ⟨[], []⟩) else (bif Nat.beq k 57 then M57 else ⟨[], []⟩)) else (bif Nat.blt k 59 then (bif Nat.beq k 58 then M58 else ⟨[], []⟩) else (bif Nat.beq k 59 then M59 else ⟨[], []⟩))) else (bif Nat.blt k 62 then (bif Nat.blt k 61 then (bif Nat.beq k 60 then M60 else ⟨[], []⟩) else (bif Nat.beq k 61 then M61 else ⟨[], []⟩)) else (bif Nat.blt k 63 then (bif Nat.beq k 62 then M62 else ⟨[], []⟩) else (bif Nat.beq k 63 then M63 else ⟨[], []⟩))))))) else (bif Nat.blt k 94 then (bif Nat.blt k 79 then (bif Nat.blt k 71 then (bif Nat.blt k 67 then (bif Nat.blt k 65 then (bif Nat.beq k 64 then M64 else ⟨[], []⟩) else (bif Nat.blt k 66 then (bif Nat.beq k 65 then M65 else ⟨[], []⟩) else (bif Nat.beq k 66 then M66 else ⟨[], []⟩))) else (bif Nat.blt k 69 then (bif Nat.blt k 68 then (bif Nat.beq k 67 then M67 else ⟨[], []⟩) else (bif Nat.beq k 68 then M68 else ⟨[], []⟩)) else (bif Nat.blt k 70 then (bif Nat.beq k 69 then M69 else ⟨[], []⟩) else (bif Nat.beq k 70 then M70 else ⟨[], []⟩)))) else (bif Nat.blt k 75 then (bif Nat.blt k 73 then (bif Nat.blt k 72 then (bif Nat.beq k 71 then M71 else ⟨[], []⟩) else (bif Nat.beq k 72 then M72 else ⟨[], []⟩)) else (bif Nat.blt k 74 then (bif Nat.beq k 73 then M73 else ⟨[], []⟩) else (bif Nat.beq k 74 then M74 else ⟨[], []⟩))) else (bif Nat.blt k 77 then (bif Nat.blt k 76 then (bif Nat.beq k 75 then M75 else ⟨[], []⟩) else (bif Nat.beq k 76 then M76 else ⟨[], []⟩)) else (bif Nat.blt k 78 then (bif Nat.beq k 77 then M77 else ⟨[], []⟩) else (bif Nat.beq k 78 then M78 else ⟨[], []⟩))))) else (bif Nat.blt k 86 then (bif Nat.blt k 82 then (bif Nat.blt k 80 then (bif Nat.beq k 79 then M79 else ⟨[], []⟩) else (bif Nat.blt k 81 then (bif Nat.beq k 80 then M80 else ⟨[], []⟩) else (bif Nat.beq k 81 then M81 else ⟨[], []⟩))) else (bif Nat.blt k 84 then (bif Nat.blt k 83 then (bif Nat.beq k 82 then M82 else ⟨[], []⟩) else (bif Nat.beq k 83 then M83 else ⟨[], []⟩)) else (bif Nat.blt k 85 then (bif Nat.beq k 84 then M84 else ⟨[], []⟩) else (bif Nat.beq k 85 then M85 else ⟨[], []⟩)))) else (bif Nat.blt k 90 then (bif Nat.blt k 88 then (bif Nat.blt k 87 then (bif Nat.beq k 86 then M86 else ⟨[], []⟩) else (bif Nat.beq k 87 then M87 else ⟨[], []⟩)) else (bif Nat.blt k 89 then (bif Nat.beq k 88 then M88 else ⟨[], []⟩) else (bif Nat.beq k 89 then M89 else ⟨[], []⟩))) else (bif Nat.blt k 92 then (bif Nat.blt k 91 then (bif Nat.beq k 90 then M90 else ⟨[], []⟩) else (bif Nat.beq k 91 then M91 else ⟨[], []⟩)) else (bif Nat.blt k 93 then (bif Nat.beq k 92 then M92 else ⟨[], []⟩) else (bif Nat.beq k 93 then M93 else ⟨[], []⟩)))))) else (bif Nat.blt k 109 then (bif Nat.blt k 101 then (bif Nat.blt k 97 then (bif Nat.blt k 95 then (bif Nat.beq k 94 then M94 else ⟨[], []⟩) else (bif Nat.blt k 96 then (bif Nat.beq k 95 then M95 else ⟨[], []⟩) else (bif Nat.beq k 96 then M96 else ⟨[], []⟩))) else (bif Nat.blt k 99 then (bif Nat.blt k 98 then (bif Nat.beq k 97 then M97 else ⟨[], []⟩) else (bif Nat.beq k 98 then M98 else ⟨[], []⟩)) else (bif Nat.blt k 100 then (bif Nat.beq k 99 then M99 else ⟨[], []⟩) else (bif Nat.beq k 100 then M100 else ⟨[], []⟩)))) else (bif Nat.blt k 105 then (bif Nat.blt k 103 then (bif Nat.blt k 102 then (bif Nat.beq k 101 then M101 else ⟨[], []⟩) else (bif Nat.beq k 102 then M102 else ⟨[], []⟩)) else (bif Nat.blt k 104 then (bif Nat.beq k 103 then M103 else ⟨[], []⟩) else (bif Nat.beq k 104 then M104 else ⟨[], []⟩))) else (bif Nat.blt k 107 then (bif Nat.blt k 106 then (bif Nat.beq k 105 then M105 else ⟨[], []⟩) else (bif Nat.beq k 106 then M106 else ⟨[], []⟩)) else (bif Nat.blt k 108 then (bif Nat.beq k 107 then M107 else ⟨[], []⟩) else (bif Nat.beq k 108 then M108 else ⟨[], []⟩))))) else (bif Nat.blt k 117 then (bif Nat.blt k 113 then (bif Nat.blt k 111 then (bif Nat.blt k 110 then (bif Nat.beq k 109 then M109 else ⟨[], []⟩) else (bif Nat.beq k 110 then M110 else ⟨[], []⟩)) else (bif Nat.blt k 112 then (bif Nat.beq k 111 then M111 else ⟨[], []⟩) else (bif Nat.beq k 112 then M112 else ⟨[], []⟩))) else (bif Nat.blt k 115 then (bif Nat.blt k 114 then (bif Nat.beq k 113 then M113 else ⟨[], []⟩) else (bif Nat.beq k 114 then M114 else ⟨[], []⟩)) else (bif Nat.blt k 116 then (bif Nat.beq k 115 then M115 else ⟨[], []⟩) else (bif Nat.beq k 116 then M116 else ⟨[], []⟩)))) else (bif Nat.blt k 121 then (bif Nat.blt k 119 then (bif Nat.blt k 118 then (bif Nat.beq k 117 then M117 else ⟨[], []⟩) else (bif Nat.beq k 118 then M118 else ⟨[], []⟩)) else (bif Nat.blt k 120 then (bif Nat.beq k 119 then M119 else ⟨[], []⟩) else (bif Nat.beq k 120 then M120 else ⟨[], []⟩))) else (bif Nat.blt k 123 then (bif Nat.blt k 122 then (bif Nat.beq k 121 then M121 else ⟨[], []⟩) else (bif Nat.beq k 122 then M122 else ⟨[], []⟩)) else (bif Nat.blt k 124 then (bif Nat.beq k 123 then M123 else ⟨[], []⟩) else (bif Nat.beq k 124 then M124 else ⟨[], []⟩)))))))) else (bif Nat.blt k 186 then (bif Nat.blt k 155 then (bif Nat.blt k 140 then (bif Nat.blt k 132 then (bif Nat.blt k 128 then (bif Nat.blt k 126 then (bif Nat.beq k 125 then M125 else ⟨[], []⟩) else (bif Nat.blt k 127 then (bif Nat.beq k 126 then M126 else ⟨[], []⟩) else (bif Nat.beq k 127 then M127 else ⟨[], []⟩))) else (bif Nat.blt k 130 then (bif Nat.blt k 129 then (bif Nat.beq k 128 then M128 else ⟨[], []⟩) else (bif Nat.beq k 129 then M129 else ⟨[], []⟩)) else (bif Nat.blt k 131 then (bif Nat.beq k 130 then M130 else ⟨[], []⟩) else (bif Nat.beq k 131 then M131 else ⟨[], []⟩)))) else (bif Nat.blt k 136 then (bif Nat.blt k 134 then (bif Nat.blt k 133 then (bif Nat.beq k 132 then M132 else ⟨[], []⟩) else (bif Nat.beq k 133 then M133 else ⟨[], []⟩)) else (bif Nat.blt k 135 then (bif Nat.beq k 134 then M134 else ⟨[], []⟩) else (bif Nat.beq k 135 then M135 else ⟨[], []⟩))) else (bif Nat.blt k 138 then (bif Nat.blt k 137 then (bif Nat.beq k 136 then M136 else ⟨[], []⟩) else (bif Nat.beq k 137 then M137 else ⟨[], []⟩)) else (bif Nat.blt k 139 then (bif Nat.beq k 138 then M138 else ⟨[], []⟩) else (bif Nat.beq k 139 then M139 else ⟨[], []⟩))))) else (bif Nat.blt k 147 then (bif Nat.blt k 143 then (bif Nat.blt k 141 then (bif Nat.beq k 140 then M140 else ⟨[], []⟩) else (bif Nat.blt k 142 then (bif Nat.beq k 141 then M141 else ⟨[], []⟩) else (bif Nat.beq k 142 then M142 else ⟨[], []⟩))) else (bif Nat.blt k 145 then (bif Nat.blt k 144 then (bif Nat.beq k 143 then M143 else ⟨[], []⟩) else (bif Nat.beq k 144 then M144 else ⟨[], []⟩)) else (bif Nat.blt k 146 then (bif Nat.beq k 145 then M145 else ⟨[], []⟩) else (bif Nat.beq k 146 then M146 else ⟨[], []⟩)))) else (bif Nat.blt k 151 then (bif Nat.blt k 149 then (bif Nat.blt k 148 then (bif Nat.beq k 147 then M147 else ⟨[], []⟩) else (bif Nat.beq k 148 then M148 else ⟨[], []⟩)) else (bif Nat.blt k 150 then (bif Nat.beq k 149 then M149 else ⟨[], []⟩) else (bif Nat.beq k 150 then M150 else ⟨[], []⟩))) else (bif Nat.blt k 153 then (bif Nat.blt k 152 then (bif Nat.beq k 151 then M151 else ⟨[], []⟩) else (bif Nat.beq k 152 then M152 else ⟨[], []⟩)) else (bif Nat.blt k 154 then (bif Nat.beq k 153 then M153 else ⟨[], []⟩) else (bif Nat.beq k 154 then M154 else ⟨[], []⟩)))))) else (bif Nat.blt k 170 then (bif Nat.blt k 162 then (bif Nat.blt k 158 then (bif Nat.blt k 156 then (bif Nat.beq k 155 then M155 else ⟨[], []⟩) else (bif Nat.blt k 157 then (bif Nat.beq k 156 then M156 else ⟨[], []⟩) else (bif Nat.beq k 157 then M157 else ⟨[], []⟩))) else (bif Nat.blt k 160 then (bif Nat.blt k 159 then (bif Nat.beq k 158 then M158 else ⟨[], []⟩) else (bif Nat.beq k 159 then M159 else ⟨[], []⟩)) else (bif Nat.blt k 161 then (bif Nat.beq k 160 then M160 else ⟨[], []⟩) else (bif Nat.beq k 161 then M161 else ⟨[], []⟩)))) else (bif Nat.blt k 166 then (bif Nat.blt k 164 then (bif Nat.blt k 163 then (bif Nat.beq k 162 then M162 else ⟨[], []⟩) else (bif Nat.beq k 163 then M163 else ⟨[], []⟩)) else (bif Nat.blt k 165 then (bif Nat.beq k 164 then M164 else ⟨[], []⟩) else (bif Nat.beq k 165 then M165 else ⟨[], []⟩))) else (bif Nat.blt k 168 then (bif Nat.blt k 167 then (bif Nat.beq k 166 then M166 else ⟨[], []⟩) else (bif Nat.beq k 167 then M167 else ⟨[], []⟩)) else (bif Nat.blt k 169 then (bif Nat.beq k 168 then M168 else ⟨[], []⟩) else (bif Nat.beq k 169 then M169 else ⟨[], []⟩))))) else (bif Nat.blt k 178 then (bif Nat.blt k 174 then (bif Nat.blt k 172 then (bif Nat.blt k 171 then (bif Nat.beq k 170 then M170 else ⟨[], []⟩) else (bif Nat.beq k 171 then M171 else ⟨[], []⟩)) else (bif Nat.blt k 173 then (bif Nat.beq k 172 then M172 else ⟨[], []⟩) else (bif Nat.beq k 173 then M173 else ⟨[], []⟩))) else (bif Nat.blt k 176 then (bif Nat.blt k 175 then (bif Nat.beq k 174 then M174 else ⟨[], []⟩) else (bif Nat.beq k 175 then M175 else ⟨[], []⟩)) else (bif Nat.blt k 177 then (bif Nat.beq k 176 then M176 else ⟨[], []⟩) else (bif Nat.beq k 177 then M177 else ⟨[], []⟩)))) else (bif Nat.blt k 182 then (bif Nat.blt k 180 then (bif Nat.blt k 179 then (bif Nat.beq k 178 then M178 else ⟨[], []⟩) else (bif Nat.beq k 179 then M179 else ⟨[], []⟩)) else (bif Nat.blt k 181 then (bif Nat.beq k 180 then M180 else ⟨[], []⟩) else (bif Nat.beq k 181 then M181 else ⟨[], []⟩))) else (bif Nat.blt k 184 then (bif Nat.blt k 183 then (bif Nat.beq k 182 then M182 else ⟨[], []⟩) else (bif Nat.beq k 183 then M183 else ⟨[], []⟩)) else (bif Nat.blt k 185 then (bif Nat.beq k 184 then M184 else ⟨[], []⟩) else (bif Nat.beq k 185 then M185 else ⟨[], []⟩))))))) else (bif Nat.blt k 217 then (bif Nat.blt k 201 then (bif Nat.blt k 193 then (bif Nat.blt k 189 then (bif Nat.blt k 187 then (bif Nat.beq k 186 then M186 else ⟨[], []⟩) else (bif Nat.blt k 188 then (bif Nat.beq k 187 then M187 else ⟨[], []⟩) else (bif Nat.beq k 188 then M188 else ⟨[], []⟩))) else (bif Nat.blt k 191 then (bif Nat.blt k 190 then (bif Nat.beq k 189 then M189 else ⟨[], []⟩) else (bif Nat.beq k 190 then M190 else ⟨[], []⟩)) else (bif Nat.blt k 192 then (bif Nat.beq k 191 then M191 else ⟨[], []⟩) else (bif Nat.beq k 192 then M192 else ⟨[], []⟩)))) else (bif Nat.blt k 197 then (bif Nat.blt k 195 then (bif Nat.blt k 194 then (bif Nat.beq k 193 then M193 else ⟨[], []⟩) else (bif Nat.beq k 194 then M194 else ⟨[], []⟩)) else (bif Nat.blt k 196 then (bif Nat.beq k 195 then M195 else ⟨[], []⟩) else (bif Nat.beq k 196 then M196 else ⟨[], []⟩))) else (bif Nat.blt k 199 then (bif Nat.blt k 198 then (bif Nat.beq k 197 then M197 else ⟨[], []⟩) else (bif Nat.beq k 198 then M198 else ⟨[], []⟩)) else (bif Nat.blt k 200 then (bif Nat.beq k 199 then M199 else ⟨[], []⟩) else (bif Nat.beq k 200 then M200 else ⟨[], []⟩))))) else (bif Nat.blt k 209 then (bif Nat.blt k 205 then (bif Nat.blt k 203 then (bif Nat.blt k 202 then (bif Nat.beq k 201 then M201 else ⟨[], []⟩) else (bif Nat.beq k 202 then M202 else ⟨[], []⟩)) else (bif Nat.blt k 204 then (bif Nat.beq k 203 then M203 else ⟨[], []⟩) else (bif Nat.beq k 204 then M204 else ⟨[], []⟩))) else (bif Nat.blt k 207 then (bif Nat.blt k 206 then (bif Nat.beq k 205 then M205 else ⟨[], []⟩) else (bif Nat.beq k 206 then M206 else ⟨[], []⟩)) else (bif Nat.blt k 208 then (bif Nat.beq k 207 then M207 else ⟨[], []⟩) else (bif Nat.beq k 208 then M208 else ⟨[], []⟩)))) else (bif Nat.blt k 213 then (bif Nat.blt k 211 then (bif Nat.blt k 210 then (bif Nat.beq k 209 then M209 else ⟨[], []⟩) else (bif Nat.beq k 210 then M210 else ⟨[], []⟩)) else (bif Nat.blt k 212 then (bif Nat.beq k 211 then M211 else ⟨[], []⟩) else (bif Nat.beq k 212 then M212 else ⟨[], []⟩))) else (bif Nat.blt k 215 then (bif Nat.blt k 214 then (bif Nat.beq k 213 then M213 else ⟨[], []⟩) else (bif Nat.beq k 214 then M214 else ⟨[], []⟩)) else (bif Nat.blt k 216 then (bif Nat.beq k 215 then M215 else ⟨[], []⟩) else (bif Nat.beq k 216 then M216 else ⟨[], []⟩)))))) else (bif Nat.blt k 232 then (bif Nat.blt k 224 then (bif Nat.blt k 220 then (bif Nat.blt k 218 then (bif Nat.beq k 217 then M217 else ⟨[], []⟩) else (bif Nat.blt k 219 then (bif Nat.beq k 218 then M218 else ⟨[], []⟩) else (bif Nat.beq k 219 then M219 else ⟨[], []⟩))) else (bif Nat.blt k 222 then (bif Nat.blt k 221 then (bif Nat.beq k 220 then M220 else ⟨[], []⟩) else (bif Nat.beq k 221 then M221 else ⟨[], []⟩)) else (bif Nat.blt k 223 then (bif Nat.beq k 222 then M222 else ⟨[], []⟩) else (bif Nat.beq k 223 then M223 else ⟨[], []⟩)))) else (bif Nat.blt k 228 then (bif Nat.blt k 226 then (bif Nat.blt k 225 then (bif Nat.beq k 224 then M224 else ⟨[], []⟩) else (bif Nat.beq k 225 then M225 else ⟨[], []⟩)) else (bif Nat.blt k 227 then (bif Nat.beq k 226 then M226 else ⟨[], []⟩) else (bif Nat.beq k 227 then M227 else ⟨[], []⟩))) else (bif Nat.blt k 230 then (bif Nat.blt k 229 then (bif Nat.beq k 228 then M228 else ⟨[], []⟩) else (bif Nat.beq k 229 then M229 else ⟨[], []⟩)) else (bif Nat.blt k 231 then (bif Nat.beq k 230 then M230 else ⟨[], []⟩) else (bif Nat.beq k 231 then M231 else ⟨[], []⟩))))) else (bif Nat.blt k 240 then (bif Nat.blt k 236 then (bif Nat.blt k 234 then (bif Nat.blt k 233 then (bif Nat.beq k 232 then M232 else ⟨[], []⟩) else (bif Nat.beq k 233 then M233 else ⟨[], []⟩)) else (bif Nat.blt k 235 then (bif Nat.beq k 234 then M234 else ⟨[], []⟩) else (bif Nat.beq k 235 then M235 else ⟨[], []⟩))) else (bif Nat.blt k 238 then (bif Nat.blt k 237 then (bif Nat.beq k 236 then M236 else ⟨[], []⟩) else (bif Nat.beq k 237 then M237 else ⟨[], []⟩)) else (bif Nat.blt k 239 then (bif Nat.beq k 238 then M238 else ⟨[], []⟩) else (bif Nat.beq k 239 then M239 else ⟨[], []⟩)))) else (bif Nat.blt k 244 then (bif Nat.blt k 242 then (bif Nat.blt k 241 then (bif Nat.beq k 240 then M240 else ⟨[], []⟩) else (bif Nat.beq k 241 then M241 else ⟨[], []⟩)) else (bif Nat.blt k 243 then (bif Nat.beq k 242 then M242 else ⟨[], []⟩) else (bif Nat.beq k 243 then M243 else ⟨[], []⟩))) else (bif Nat.blt k 246 then (bif Nat.blt k 245 then (bif Nat.beq k 244 then M244 else ⟨[], []⟩) else (bif Nat.beq k 245 then M245 else ⟨[], []⟩)) else (bif Nat.blt k 247 then (bif Nat.beq k 246 then M246 else ⟨[], []⟩) else (bif Nat.beq k 247 then M247 else ⟨[], []⟩)))))))))
noncomputable section
variable (hk : Hk (Value × AHeap)) (C : ACall) (N : Nat)
def F51_0 (n1 : Nat) : Nx (Value × AHeap) := evSt hk Tp C M51 N Try.f51 [1, 0, 2, 6] [n1]
def s51_0 (n1 : Nat) (x0 : ByteArray) (x1 : Int) (x2 : Value) (h : AHeap) := F51_0 hk C N n1 (⟨21, [(0, .string x0), (1, .int .i64 x1), (2, x2)]⟩) h
theorem e51 (x0 : ByteArray) (x1 : Int) (x2 : Value) (h : AHeap) : evFn hk Tp C M51 N Try.f51 [.string x0, .int .i64 x1, x2] h =
  s51_0 hk C N N x0 x1 x2 h := by kernel_rfl
theorem s51_0_eq (n1 : Nat) (x0 : ByteArray) (x1 : Int) (x2 : Value) (h : AHeap) : s51_0 hk C N (n1 + 1) x0 x1 x2 h =
  bif decide (x1 < (ByteArray.size x0 : Int)) then (aStrIx (.string x0) (.int .i64 x1)).bind fun v1 => (asI .u8 v1).bind fun n2 => (aCallV C x2 [.int .u8 n2] h).bind fun r3 => (asB r3.1).bind fun b4 => bif b4 then s51_0 hk C N n1 x0 (IntKind.i64.wrap (x1 + 1)) x2 r3.2 else some (.int .i64 x1, r3.2) else some (.int .i64 x1, h) := by kernel_rfl
theorem c51 (d : Nat) (args : List Value) (h : AHeap) : call Tp Ms (d + 1) 51 args h = evFn hk0 Tp (call Tp Ms d) M51 d Try.f51 args h := by kernel_rfl
def F55_0 (n1 : Nat) : Nx (Value × AHeap) := evSt hk Tp C M55 N Try.f55 [1, 1, 1, 0, 2, 6] [n1]
def s55_0 (n1 : Nat) (x0 : Int) (x3 : ByteArray) (h : AHeap) := F55_0 hk C N n1 (⟨20, [(0, .int .i64 x0), (3, .string x3)]⟩) h
theorem e55 (x0 : Int) (h : AHeap) : evFn hk Tp C M55 N Try.f55 [.int .i64 x0] h =
  bif decide (x0 ≤ 0) then some (.string (⟨#[109, 48]⟩), h) else s55_0 hk C N N x0 ⟨#[]⟩ h := by kernel_rfl
theorem s55_0_eq (n1 : Nat) (x0 : Int) (x3 : ByteArray) (h : AHeap) : s55_0 hk C N (n1 + 1) x0 x3 h =
  bif decide (x0 > 0) then aNewS h 5 [.int .u8 (IntKind.u8.wrap (IntKind.i64.wrap (48 + (Int.tmod x0 10))))] 1 fun p1 h2 => (aCvStr h2 p1).bind fun v3 => (asS v3).bind fun t4 => (aBin .add (.string t4) (.string x3)).bind fun v5 => (asS v5).bind fun t6 => s55_0 hk C N n1 (IntKind.i64.wrap (Int.tdiv x0 10)) t6 h2 else (aBin .add (.string (⟨#[109]⟩)) (.string x3)).bind fun v7 => (asS v7).bind fun t8 => some (.string t8, h) := by kernel_rfl
theorem c55 (d : Nat) (args : List Value) (h : AHeap) : call Tp Ms (d + 1) 55 args h = evFn hk0 Tp (call Tp Ms d) M55 d Try.f55 args h := by kernel_rfl
end
noncomputable section
variable (hk : Hk (Value × AHeap)) (C : ACall) (N : Nat)
theorem e87 (x0 : Int) (h : AHeap) : evFn hk Tp C M87 N Try.f87 [.int .u8 x0] h =
  bif decide (x0 ≥ 97) then bif decide (x0 ≤ 122) then some (.bool true, h) else bif decide (x0 ≥ 65) then some (.bool (decide (x0 ≤ 90)), h) else some (.bool false, h) else bif decide (x0 ≥ 65) then some (.bool (decide (x0 ≤ 90)), h) else some (.bool false, h) := by kernel_rfl
theorem c87 (d : Nat) (args : List Value) (h : AHeap) : call Tp Ms (d + 1) 87 args h = evFn hk0 Tp (call Tp Ms d) M87 d Try.f87 args h := by kernel_rfl
theorem e88 (x0 : ByteArray) (h : AHeap) : evFn hk Tp C M88 N Try.f88 [.string x0] h =
  (C 143 [] h).bind fun r1 => (C 118 [r1.1, .string x0] r1.2).bind fun r2 => (asB r2.1).bind fun b3 => some (.bool b3, r2.2) := by kernel_rfl
theorem c88 (d : Nat) (args : List Value) (h : AHeap) : call Tp Ms (d + 1) 88 args h = evFn hk0 Tp (call Tp Ms d) M88 d Try.f88 args h := by kernel_rfl
theorem e90 (x0 : Int) (h : AHeap) : evFn hk Tp C M90 N Try.f90 [.int .u8 x0] h =
  bif decide (x0 ≥ 32) then bif decide (x0 ≤ 126) then some (.bool (x0 != 34), h) else some (.bool false, h) else some (.bool false, h) := by kernel_rfl
theorem c90 (d : Nat) (args : List Value) (h : AHeap) : call Tp Ms (d + 1) 90 args h = evFn hk0 Tp (call Tp Ms d) M90 d Try.f90 args h := by kernel_rfl
theorem e92 (x0 : Int) (h : AHeap) : evFn hk Tp C M92 N Try.f92 [.int .u8 x0] h =
  bif decide (x0 ≥ 97) then bif decide (x0 ≤ 122) then some (.bool true, h) else bif decide (x0 ≥ 65) then some (.bool (decide (x0 ≤ 90)), h) else some (.bool false, h) else bif decide (x0 ≥ 65) then some (.bool (decide (x0 ≤ 90)), h) else some (.bool false, h) := by kernel_rfl
theorem c92 (d : Nat) (args : List Value) (h : AHeap) : call Tp Ms (d + 1) 92 args h = evFn hk0 Tp (call Tp Ms d) M92 d Try.f92 args h := by kernel_rfl
theorem e93 (x0 : ByteArray) (h : AHeap) : evFn hk Tp C M93 N Try.f93 [.string x0] h =
  bif x0.toList == (⟨#[108, 111, 99, 97, 108]⟩ : ByteArray).toList then bif x0.toList == (⟨#[108, 111, 99, 97, 108]⟩ : ByteArray).toList then some (.bool true, h) else some (.bool false, h) else bif x0.toList == (⟨#[102, 110]⟩ : ByteArray).toList then bif x0.toList == (⟨#[102, 110]⟩ : ByteArray).toList then some (.bool true, h) else some (.bool false, h) else bif x0.toList == (⟨#[105, 102]⟩ : ByteArray).toList then bif x0.toList == (⟨#[105, 102]⟩ : ByteArray).toList then some (.bool true, h) else some (.bool false, h) else bif x0.toList == (⟨#[101, 108, 115, 101]⟩ : ByteArray).toList then bif x0.toList == (⟨#[101, 108, 115, 101]⟩ : ByteArray).toList then some (.bool true, h) else some (.bool false, h) else bif x0.toList == (⟨#[119, 104, 105, 108, 101]⟩ : ByteArray).toList then bif x0.toList == (⟨#[119, 104, 105, 108, 101]⟩ : ByteArray).toList then some (.bool true, h) else some (.bool false, h) else bif x0.toList == (⟨#[114, 101, 116, 117, 114, 110]⟩ : ByteArray).toList then bif x0.toList == (⟨#[114, 101, 116, 117, 114, 110]⟩ : ByteArray).toList then some (.bool true, h) else some (.bool false, h) else bif x0.toList == (⟨#[116, 114, 117, 101]⟩ : ByteArray).toList then bif x0.toList == (⟨#[116, 114, 117, 101]⟩ : ByteArray).toList then some (.bool true, h) else some (.bool false, h) else bif x0.toList == (⟨#[102, 97, 108, 115, 101]⟩ : ByteArray).toList then bif x0.toList == (⟨#[102, 97, 108, 115, 101]⟩ : ByteArray).toList then some (.bool true, h) else some (.bool false, h) else bif x0.toList == (⟨#[110, 105, 108]⟩ : ByteArray).toList then bif x0.toList == (⟨#[110, 105, 108]⟩ : ByteArray).toList then some (.bool true, h) else some (.bool false, h) else bif x0.toList == (⟨#[97, 110, 100]⟩ : ByteArray).toList then bif x0.toList == (⟨#[97, 110, 100]⟩ : ByteArray).toList then some (.bool true, h) else some (.bool false, h) else bif x0.toList == (⟨#[111, 114]⟩ : ByteArray).toList then bif x0.toList == (⟨#[111, 114]⟩ : ByteArray).toList then some (.bool true, h) else some (.bool false, h) else bif x0.toList == (⟨#[110, 111, 116]⟩ : ByteArray).toList then some (.bool true, h) else some (.bool false, h) := by kernel_rfl
theorem c93 (d : Nat) (args : List Value) (h : AHeap) : call Tp Ms (d + 1) 93 args h = evFn hk0 Tp (call Tp Ms d) M93 d Try.f93 args h := by kernel_rfl
theorem e96 (x0 : Int) (h : AHeap) : evFn hk Tp C M96 N Try.f96 [.int .u8 x0] h =
  bif decide (x0 ≥ 32) then bif decide (x0 ≤ 126) then some (.bool (x0 != 34), h) else some (.bool false, h) else some (.bool false, h) := by kernel_rfl
theorem c96 (d : Nat) (args : List Value) (h : AHeap) : call Tp Ms (d + 1) 96 args h = evFn hk0 Tp (call Tp Ms d) M96 d Try.f96 args h := by kernel_rfl
def F118_0 (n1 : Nat) : Nx (Value × AHeap) := evSt hk Tp C M118 N Try.f118 [1, 0, 1, 2, 6] [n1]
def s118_0 (n1 : Nat) (x0 : Value) (x1 : ByteArray) (x5 : Int) (h : AHeap) := F118_0 hk C N n1 (⟨18, [(0, x0), (1, .string x1), (5, .int .i64 x5)]⟩) h
theorem e118 (x0 : Value) (x1 : ByteArray) (h : AHeap) : evFn hk Tp C M118 N Try.f118 [x0, .string x1] h =
  s118_0 hk C N N x0 x1 0 h := by kernel_rfl
theorem s118_0_eq (n1 : Nat) (x0 : Value) (x1 : ByteArray) (x5 : Int) (h : AHeap) : s118_0 hk C N (n1 + 1) x0 x1 x5 h =
  (aLen x0).bind fun v1 => (asI .i64 v1).bind fun n2 => bif decide (x5 < n2) then (aIdx x0 (.int .i64 x5) 1).bind fun v3 => (aLd1 h v3).bind fun v4 => (asS v4).bind fun t5 => bif t5.toList == x1.toList then some (.bool true, h) else s118_0 hk C N n1 x0 x1 (IntKind.i64.wrap (x5 + 1)) h else some (.bool false, h) := by kernel_rfl
theorem c118 (d : Nat) (args : List Value) (h : AHeap) : call Tp Ms (d + 1) 118 args h = evFn hk0 Tp (call Tp Ms d) M118 d Try.f118 args h := by kernel_rfl
theorem e143 (h : AHeap) : evFn hk Tp C M143 N Try.f143 [] h =
  aNewS h 9 [.string (⟨#[108, 111, 99, 97, 108]⟩), .string (⟨#[102, 110]⟩), .string (⟨#[105, 102]⟩), .string (⟨#[101, 108, 115, 101]⟩), .string (⟨#[119, 104, 105, 108, 101]⟩), .string (⟨#[114, 101, 116, 117, 114, 110]⟩), .string (⟨#[116, 114, 117, 101]⟩), .string (⟨#[102, 97, 108, 115, 101]⟩), .string (⟨#[110, 105, 108]⟩), .string (⟨#[97, 110, 100]⟩), .string (⟨#[111, 114]⟩), .string (⟨#[110, 111, 116]⟩)] 12 fun p1 h2 => some (p1, h2) := by kernel_rfl
theorem c143 (d : Nat) (args : List Value) (h : AHeap) : call Tp Ms (d + 1) 143 args h = evFn hk0 Tp (call Tp Ms d) M143 d Try.f143 args h := by kernel_rfl
end
def isLet (x : Int) : Bool := decide (97 ≤ x ∧ x ≤ 122) || decide (65 ≤ x ∧ x ≤ 90)
def isPln (x : Int) : Bool := decide (32 ≤ x ∧ x ≤ 126) && x != 34
theorem l87 (d : Nat) (n : Int) (h : AHeap) : call Tp Ms (d + 1) 87 [.int .u8 n] h = some (.bool (isLet n), h) := by
 rw [c87, e87]; unfold isLet
 by_cases h1 : 97 ≤ n <;> by_cases h2 : n ≤ 122 <;> by_cases h3 : 65 ≤ n <;> by_cases h4 : n ≤ 90 <;> simp [h1, h2, h3, h4]
theorem l92 (d : Nat) (n : Int) (h : AHeap) : call Tp Ms (d + 1) 92 [.int .u8 n] h = some (.bool (isLet n), h) := by
 rw [c92, e92]; unfold isLet
 by_cases h1 : 97 ≤ n <;> by_cases h2 : n ≤ 122 <;> by_cases h3 : 65 ≤ n <;> by_cases h4 : n ≤ 90 <;> simp [h1, h2, h3, h4]
theorem l90 (d : Nat) (n : Int) (h : AHeap) : call Tp Ms (d + 1) 90 [.int .u8 n] h = some (.bool (isPln n), h) := by
 rw [c90, e90]; unfold isPln
 by_cases h1 : 32 ≤ n <;> by_cases h2 : n ≤ 126 <;> simp [h1, h2]
theorem l96 (d : Nat) (n : Int) (h : AHeap) : call Tp Ms (d + 1) 96 [.int .u8 n] h = some (.bool (isPln n), h) := by
 rw [c96, e96]; unfold isPln
 by_cases h1 : 32 ≤ n <;> by_cases h2 : n ≤ 126 <;> simp [h1, h2]
def bt (s : ByteArray) (i : Nat) : Int := ((s.data[i]?).getD 0).toNat
theorem strIx {s : ByteArray} {i : Nat} (hi : i < s.size) : aStrIx (.string s) (.int .i64 (i : Int)) = some (.int .u8 (bt s i)) := by
 have h1 : s[i]? = some (s[i]'hi) := by simp [hi]
 have h2 : s.data[i]? = some (s[i]'hi) := Array.getElem?_eq_getElem (by exact hi)
 simp [aStrIx, h1, bt, h2]
theorem wr {x : Int} (h0 : -1000000 ≤ x) (h1 : x ≤ 4611686018427387904) : IntKind.i64.wrap x = x := by
 simp [IntKind.wrap, IntKind.bits, IntKind.signed]; omega
def endGo (p : Int → Bool) (s : ByteArray) : Nat → Nat → Nat
 | 0, i => i
 | f + 1, i => if i < s.size ∧ p (bt s i) = true then endGo p s f (i + 1) else i
def endOf (p : Int → Bool) (s : ByteArray) (i : Nat) : Nat := endGo p s (s.size - i) i
theorem endOf_stop {p : Int → Bool} {s : ByteArray} {i : Nat} (h : ¬ (i < s.size ∧ p (bt s i) = true)) : endOf p s i = i := by
 unfold endOf
 cases s.size - i with
 | zero => rfl
 | succ f => simp only [endGo]; rw [if_neg h]
theorem endOf_step {p : Int → Bool} {s : ByteArray} {i : Nat} (h : i < s.size) (hp : p (bt s i) = true) : endOf p s i = endOf p s (i + 1) := by
 unfold endOf
 obtain ⟨f, hf⟩ : ∃ f, s.size - i = f + 1 := ⟨s.size - i - 1, by omega⟩
 rw [hf, show s.size - (i + 1) = f by omega]
 simp only [endGo]; rw [if_pos ⟨h, hp⟩]
theorem endOf_bd {p : Int → Bool} {s : ByteArray} : ∀ (n i : Nat), s.size - i = n → i ≤ s.size → i ≤ endOf p s i ∧ endOf p s i ≤ s.size := by
 intro n
 induction n with
 | zero => intro i hn hi; rw [endOf_stop (by omega)]; omega
 | succ n ih =>
  intro i hn hi
  by_cases h : i < s.size ∧ p (bt s i) = true
  ·rw [endOf_step h.1 h.2]
   have := ih (i + 1) (by omega) (by omega)
   omega
  ·rw [endOf_stop h]; omega
theorem run_loop {d N g : Nat} {p : Int → Bool} {s : ByteArray} (hs : s.size ≤ 3000) (hg : ∀ n h, call Tp Ms d g [.int .u8 n] h = some (.bool (p n), h)) (h : AHeap) :
  ∀ (n i m : Nat), s.size - i = n → i ≤ s.size → n < m → s51_0 hk0 (call Tp Ms d) N m s (i : Int) (.func (.func g) #[] #[]) h = some (.int .i64 (endOf p s i : Nat), h) := by
 intro n
 induction n with
 | zero =>
  intro i m hn hi hm
  obtain ⟨m, rfl⟩ : ∃ k, m = k + 1 := ⟨m - 1, by omega⟩
  rw [s51_0_eq, endOf_stop (by omega)]
  have : ¬ ((i : Int) < (s.size : Int)) := by omega
  simp [this]
 | succ n ih =>
  intro i m hn hi hm
  obtain ⟨m, rfl⟩ : ∃ k, m = k + 1 := ⟨m - 1, by omega⟩
  have hlt : i < s.size := by omega
  have : (i : Int) < (s.size : Int) := by omega
  rw [s51_0_eq]
  simp only [this, decide_true, cond_true, strIx hlt, oBs, asI, if_true, aCallV, List.append_nil, List.nil_append, hg, asB]
  cases hp : p (bt s i) with
  | true =>
   rw [endOf_step hlt hp, cond_true, wr (by omega) (by omega)]
   exact ih (i + 1) m (by omega) (by omega) (by omega)
  | false =>
   rw [endOf_stop (by simp [hp])]; rfl
theorem l51 {d g : Nat} {p : Int → Bool} {s : ByteArray} (hs : s.size ≤ 3000) (hd : 3000 < d) (hg : ∀ n h, call Tp Ms d g [.int .u8 n] h = some (.bool (p n), h)) {i : Nat} (hi : i ≤ s.size) (h : AHeap) :
  call Tp Ms (d + 1) 51 [.string s, .int .i64 (i : Int), .func (.func g) #[] #[]] h = some (.int .i64 (endOf p s i : Nat), h) := by
 rw [c51, e51]
 exact run_loop hs hg h _ i d rfl hi (by omega)
theorem cond_twice {α : Type} (b : Bool) (x y z : α) : (bif b then (bif b then x else y) else z) = bif b then x else z := by cases b <;> rfl
theorem cond_or (b c : Bool) (h : AHeap) : (bif b then some (Value.bool true, h) else some (Value.bool c, h)) = some (Value.bool (b || c), h) := by cases b <;> rfl
def wordsL : List ByteArray := [⟨#[108, 111, 99, 97, 108]⟩, ⟨#[102, 110]⟩, ⟨#[105, 102]⟩, ⟨#[101, 108, 115, 101]⟩, ⟨#[119, 104, 105, 108, 101]⟩, ⟨#[114, 101, 116, 117, 114, 110]⟩, ⟨#[116, 114, 117, 101]⟩, ⟨#[102, 97, 108, 115, 101]⟩, ⟨#[110, 105, 108]⟩, ⟨#[97, 110, 100]⟩, ⟨#[111, 114]⟩, ⟨#[110, 111, 116]⟩]
def isWd (t : ByteArray) : Bool := wordsL.any fun w => t.toList == w.toList
theorem l93 (d : Nat) (t : ByteArray) (h : AHeap) : call Tp Ms (d + 1) 93 [.string t] h = some (.bool (isWd t), h) := by
 rw [c93, e93]
 simp only [cond_twice]
 simp only [cond_or]
 simp only [isWd, wordsL, List.any_cons, List.any_nil]
theorem in_loop {d N : Nat} {t : ByteArray} {h : AHeap} {i : Nat} {ws : List ByteArray} (hr : Row h i (ws.map Value.string)) (hw : ws.length ≤ 3000) :
  ∀ (n j m : Nat), ws.length - j = n → j ≤ ws.length → n < m →
   s118_0 hk0 (call Tp Ms d) N m (slc i 0 ws.length) t (j : Int) h = some (.bool ((ws.drop j).any fun w => w.toList == t.toList), h) := by
 intro n
 induction n with
 | zero =>
  intro j m hn hj hm
  obtain ⟨m, rfl⟩ : ∃ k, m = k + 1 := ⟨m - 1, by omega⟩
  have : ¬ ((j : Int) < (ws.length : Int)) := by omega
  rw [s118_0_eq, List.drop_eq_nil_of_le (by omega)]
  simp [aLen, slc, asI, this]
 | succ n ih =>
  intro j m hn hj hm
  obtain ⟨m, rfl⟩ : ∃ k, m = k + 1 := ⟨m - 1, by omega⟩
  have hlt : j < ws.length := by omega
  have hI : (j : Int) < (ws.length : Int) := by omega
  have hix : aIdx (slc i 0 ws.length) (.int .i64 (j : Int)) 1 = some (ptr i j) := by simp [aIdx, slc, hlt]
  have hld : aLd1 h (ptr i j) = some (.string ws[j]) := hr.ld1 (by simp [hlt])
  have hlen : aLen (slc i 0 ws.length) = some (.int .i64 ws.length) := rfl
  rw [s118_0_eq]
  simp only [hlen, oBs, asI, if_true, hI, decide_true, cond_true, hix, hld, asS]
  rw [List.drop_eq_getElem_cons hlt, List.any_cons]
  cases hb : (ws[j].toList == t.toList) with
  | true => simp
  | false =>
   rw [cond_false, wr (by omega) (by omega), Bool.false_or]
   exact ih (j + 1) m (by omega) (by omega) (by omega)
theorem l88 {d : Nat} (hd : 3000 < d) (t : ByteArray) (h : AHeap) : ∃ h', call Tp Ms (d + 2) 88 [.string t] h = some (.bool (isWd t), h') ∧ Ext h.size h h' := by
 refine ⟨h.new 9 (wordsL.map Value.string), ?_, Ext.new (Nat.le_refl _) _ _⟩
 rw [c88, e88, c143, e143]
 simp only [aNewS, oBs]
 rw [c118, e118]
 have := in_loop (d := d) (N := d) (t := t) (h := h.new 9 (wordsL.map Value.string)) (i := h.size) (ws := wordsL) (Own.new (b := h.size) (Nat.le_refl _) _ _).row (by decide) _ 0 d rfl (by decide) (by simp [wordsL]; omega)
 have e : (ptr h.size 0, h) = (ptr h.size 0, h) := rfl
 rw [show (slc h.size 0 12) = slc h.size 0 wordsL.length from rfl]
 erw [this]
 simp only [oBs, asB, List.drop_zero]
 congr 3
 simp only [isWd]
 congr 1
 funext w
 exact Bool.beq_comm ..
theorem aOff_ptr (i o n : Nat) : aOff (ptr i o) n = some (ptr i (o + n)) := rfl
def dig (x : Int) : ByteArray := ⟨#[UInt8.ofNat (IntKind.u8.wrap (IntKind.i64.wrap (48 + Int.tmod x 10))).toNat]⟩
def mtGo : Nat → Int → ByteArray → ByteArray
 | 0, _, t => t
 | f + 1, x, t => if x > 0 then mtGo f (IntKind.i64.wrap (Int.tdiv x 10)) (dig x ++ t) else (⟨#[109]⟩ : ByteArray) ++ t
def markT (x : Int) : ByteArray := if x ≤ 0 then ⟨#[109, 48]⟩ else mtGo 19 x ⟨#[]⟩
theorem size_dig (x : Int) (t : ByteArray) : (dig x ++ t).size = t.size + 1 := by
 rw [ByteArray.size_append]; show 1 + t.size = _; omega
theorem mt_loop {d N : Nat} : ∀ (f m : Nat) (x : Int) (t : ByteArray) (h : AHeap), x < 10 ^ f → f ≤ 18 → t.size + f ≤ 100 → f < m →
  ∃ h', s55_0 hk0 (call Tp Ms d) N m x t h = some (.string (mtGo (f + 1) x t), h') ∧ Ext h.size h h' := by
 intro f
 induction f with
 | zero =>
  intro m x t h hx _ ht hm
  obtain ⟨m, rfl⟩ : ∃ k, m = k + 1 := ⟨m - 1, by omega⟩
  have hx' : ¬ x > 0 := by simp at hx; omega
  have hz : (⟨#[109]⟩ : ByteArray).size + t.size ≤ most := by show 1 + t.size ≤ 140737488355328; omega
  refine ⟨h, ?_, Ext.refl _ _⟩
  rw [s55_0_eq]
  simp only [hx', decide_false, cond_false, aBin, hz, if_true, oBs, asS, mtGo, if_false]
 | succ f ih =>
  intro m x t h hx hf ht hm
  obtain ⟨m, rfl⟩ : ∃ k, m = k + 1 := ⟨m - 1, by omega⟩
  rw [s55_0_eq]
  by_cases hx' : x > 0
  ·have e1 := Ext.new (Nat.le_refl h.size) 5 [Value.int .u8 (IntKind.u8.wrap (IntKind.i64.wrap (48 + Int.tmod x 10)))]
   have r1 := (Own.new (b := h.size) (Nat.le_refl _) 5 [Value.int .u8 (IntKind.u8.wrap (IntKind.i64.wrap (48 + Int.tmod x 10)))]).row
   have hz : (dig x).size + t.size ≤ most := by show 1 + t.size ≤ 140737488355328; omega
   have hcv : aCvStr (h.new 5 [Value.int .u8 (IntKind.u8.wrap (IntKind.i64.wrap (48 + Int.tmod x 10)))]) (slc h.size 0 1) = some (.string (dig x)) := by
    simp [aCvStr, slc, r1.rd (off := 0) (n := 1) (by simp), bytesOf, dig]
   have hdv : IntKind.i64.wrap (Int.tdiv x 10) = x / 10 := by
    rw [Int.tdiv_eq_ediv_of_nonneg (by omega)]
    have : x < 10 ^ 18 := Int.lt_of_lt_of_le hx (by exact_mod_cast Nat.pow_le_pow_right (by omega) (by omega))
    simp [IntKind.wrap, IntKind.bits, IntKind.signed]; omega
   obtain ⟨h2, hr, he⟩ := ih m (IntKind.i64.wrap (Int.tdiv x 10)) (dig x ++ t) (h.new 5 [Value.int .u8 (IntKind.u8.wrap (IntKind.i64.wrap (48 + Int.tmod x 10)))]) (by
    rw [hdv]; rw [Int.pow_succ] at hx; omega) (by omega) (by rw [size_dig]; omega) (by omega)
   refine ⟨h2, ?_, e1.trans (he.mono (by simp [AHeap.new]))⟩
   simp only [hx', decide_true, cond_true, aNewS, hcv, oBs, asS, aBin, hz, if_true]
   have e : mtGo (f + 1 + 1) x t = mtGo (f + 1) (IntKind.i64.wrap (Int.tdiv x 10)) (dig x ++ t) := by rw [mtGo, if_pos hx']
   rw [hr, e]
  ·have hz : (⟨#[109]⟩ : ByteArray).size + t.size ≤ most := by show 1 + t.size ≤ 140737488355328; omega
   refine ⟨h, ?_, Ext.refl _ _⟩
   simp only [hx', decide_false, cond_false, aBin, hz, if_true, oBs, asS]
   rw [mtGo, if_neg hx']
theorem l55 {d : Nat} (hd : 3000 < d) {x : Int} (hx : x < 10 ^ 18) (h : AHeap) : ∃ h', call Tp Ms (d + 1) 55 [.int .i64 x] h = some (.string (markT x), h') ∧ Ext h.size h h' := by
 rw [c55, e55]
 by_cases h0 : x ≤ 0
 ·exact ⟨h, by simp [h0, markT], Ext.refl _ _⟩
 ·obtain ⟨h', hr, he⟩ := mt_loop (d := d) (N := d) 18 d x ⟨#[]⟩ h hx (by omega) (by decide) (by omega)
  refine ⟨h', ?_, he⟩
  simp only [h0, decide_false, cond_false, markT, if_false]
  exact hr
theorem vbeq_str (t : ByteArray) : vbeq (.string t) (.string t) = true := by
 simp [vbeq, vbeq1, BEq.beq, ByteArray.beq]
 exact Array.isEqv_self _
theorem skip {R : Type} {p : Int → Bool} {s : ByteArray} (f : Nat → Int → R) (hf : ∀ (n j : Nat), j < s.size → p (bt s j) = true → f (n + 1) (j : Int) = f n ((j + 1 : Nat) : Int)) :
  ∀ (k j m : Nat), s.size - j = k → j ≤ s.size → k < m → ∃ m', f m (j : Int) = f (m' + 1) ((endOf p s j : Nat) : Int) := by
 intro k
 induction k with
 | zero =>
  intro j m hk hj hm
  obtain ⟨m, rfl⟩ : ∃ q, m = q + 1 := ⟨m - 1, by omega⟩
  rw [endOf_stop (by omega)]
  exact ⟨m, rfl⟩
 | succ k ih =>
  intro j m hk hj hm
  obtain ⟨m, rfl⟩ : ∃ q, m = q + 1 := ⟨m - 1, by omega⟩
  by_cases hp : p (bt s j) = true
  ·rw [hf m j (by omega) hp, endOf_step (by omega) hp]
   exact ih (j + 1) m (by omega) (by omega) (by omega)
  ·rw [endOf_stop (by simp [hp])]
   exact ⟨m, rfl⟩
theorem endOf_no {p : Int → Bool} {s : ByteArray} : ∀ (k j : Nat), s.size - j = k → endOf p s j < s.size → p (bt s (endOf p s j)) = false := by
 intro k
 induction k with
 | zero => intro j hk h; rw [endOf_stop (by omega)] at h; omega
 | succ k ih =>
  intro j hk h
  by_cases hp : p (bt s j) = true
  ·rw [endOf_step (by omega) hp] at h ⊢
   exact ih (j + 1) (by omega) h
  ·rw [endOf_stop (by simp [hp])]
   simpa using hp
noncomputable section
variable (hk : Hk (Value × AHeap)) (C : ACall) (N : Nat)
theorem e19 (x0 : Value) (x1 : Int) (h : AHeap) : evFn hk Tp C M19 N Try.f19 [x0, .int .i64 x1] h =
  (aCells x0).bind fun c1 => aNew h 30 c1 fun p2 h3 => (aOff p2 0).bind fun v4 => (aLd1 h3 v4).bind fun v5 => (C 56 [v5, .int .i64 x1] h3).bind fun r6 => (asI .i64 r6.1).bind fun n7 => bif decide (n7 < 0) then some (.int .i64 (-1), r6.2) else some (.int .i64 n7, r6.2) := by kernel_rfl
theorem c19 (d : Nat) (args : List Value) (h : AHeap) : call Tp Ms (d + 1) 19 args h = evFn hk0 Tp (call Tp Ms d) M19 d Try.f19 args h := by kernel_rfl
theorem e20 (x0 : Value) (h : AHeap) : evFn hk Tp C M20 N Try.f20 [x0] h =
  (aCells x0).bind fun c1 => aNew h 35 c1 fun p2 h3 => (aOff p2 0).bind fun v4 => (aLd1 h3 v4).bind fun v5 => (aLen v5).bind fun v6 => (asI .i64 v6).bind fun n7 => bif decide (n7 > 3000) then some (.bool false, h3) else (aLdN h3 p2 2).bind fun v8 => (aOff p2 1).bind fun v9 => (aLd1 h3 v9).bind fun v10 => (asI .i64 v10).bind fun n11 => (aOff p2 0).bind fun v12 => (aLd1 h3 v12).bind fun v13 => (aLen v13).bind fun v14 => (asI .i64 v14).bind fun n15 => (aMk h3 4 [.bool false] 1 (.int .i64 n15) (.int .i64 n15)).bind fun r16 => ((aLdN r16.2 p2 2).bind fun v17 => some (vbeq v17 v8)).bind fun b18 => bif b18 then ((aLd1 r16.2 v9).bind fun v19 => (asI .i64 v19).bind fun n20 => some (vbeq (.int .i64 n20) (.int .i64 n11))).bind fun b21 => bif b21 then (C 57 [v8, .int .i64 n11, .int .i64 3, .int .i64 0, r16.1] r16.2).bind fun r22 => (aExt r22.1 0).bind fun v23 => (asI .i64 v23).bind fun n24 => (aExt r22.1 1).bind fun v25 => (asB v25).bind fun b26 => bif b26 then (aOff p2 0).bind fun v27 => (aLd1 r22.2 v27).bind fun v28 => (aLen v28).bind fun v29 => (asI .i64 v29).bind fun n30 => some (.bool (n24 == n30), r22.2) else some (.bool false, r22.2) else none else none := by kernel_rfl
theorem c20 (d : Nat) (args : List Value) (h : AHeap) : call Tp Ms (d + 1) 20 args h = evFn hk0 Tp (call Tp Ms d) M20 d Try.f20 args h := by kernel_rfl
theorem e21 (x0 : Value) (h : AHeap) : evFn hk Tp C M21 N Try.f21 [x0] h =
  (aCells x0).bind fun c1 => aNew h 30 c1 fun p2 h3 => aNew h3 35 [.slice none 0 0, .int .i64 0] fun p4 h5 => aNew h5 35 [.slice none 0 0, .int .i64 0] fun p6 h7 => (aOff p2 0).bind fun v8 => (aLd1 h7 v8).bind fun v9 => (C 58 [v9] h7).bind fun r10 => (aOff p6 0).bind fun v11 => (aSt r10.2 v11 r10.1 1).bind fun h12 => (aOff p2 1).bind fun v13 => (aLd1 h12 v13).bind fun v14 => (asI .i64 v14).bind fun n15 => (aOff p6 1).bind fun v16 => (aSt h12 v16 (.int .i64 n15) 1).bind fun h17 => (aLdN h17 p6 2).bind fun v18 => (aSt h17 p4 v18 2).bind fun h19 => (aLdN h19 p4 2).bind fun v20 => some (v20, h19) := by kernel_rfl
theorem c21 (d : Nat) (args : List Value) (h : AHeap) : call Tp Ms (d + 1) 21 args h = evFn hk0 Tp (call Tp Ms d) M21 d Try.f21 args h := by kernel_rfl
def F22_0 : Nx (Value × AHeap) := evSt hk Tp C M22 N Try.f22 [1, 1, 0, 1] []
def s22_0 (x1 : Value) (x3 : Int) (x31 : Bool) (h : AHeap) := hk 100003 (⟨48, [(1, x1), (3, .int .i64 x3), (31, .bool x31)]⟩) h (F22_0 hk C N)
def F22_1 : Nx (Value × AHeap) := evSt hk Tp C M22 N Try.f22 [1, 1, 1] []
def s22_1 (x1 : Value) (x3 : Int) (h : AHeap) := hk 4 (⟨48, [(1, x1), (3, .int .i64 x3)]⟩) h (F22_1 hk C N)
def F22_2 (n1 : Nat) : Nx (Value × AHeap) := evSt hk Tp C M22 N Try.f22 [1, 1, 1, 0, 1, 2, 6] [n1]
def s22_2 (n1 : Nat) (x1 : Value) (x3 x34 x35 : Int) (h : AHeap) := F22_2 hk C N n1 (⟨48, [(1, x1), (3, .int .i64 x3), (34, .int .i64 x34), (35, .int .i64 x35)]⟩) h
theorem e22 (x0 : Value) (h : AHeap) : evFn hk Tp C M22 N Try.f22 [x0] h =
  (aCells x0).bind fun c1 => aNew h 35 c1 fun p2 h3 => (aOff p2 0).bind fun v4 => (aLd1 h3 v4).bind fun v5 => (aLen v5).bind fun v6 => (asI .i64 v6).bind fun n7 => (aOff p2 0).bind fun v8 => (aLd1 h3 v8).bind fun v9 => (aLen v9).bind fun v10 => (asI .i64 v10).bind fun n11 => bif decide (n11 > 3000) then s22_0 hk C N p2 (IntKind.i64.wrap (n7 - 1)) true h3 else bif decide ((IntKind.i64.wrap (n7 - 1)) < 0) then s22_0 hk C N p2 (IntKind.i64.wrap (n7 - 1)) true h3 else (aOff p2 1).bind fun v12 => (aLd1 h3 v12).bind fun v13 => (asI .i64 v13).bind fun n14 => bif n14 != (IntKind.i64.wrap (n7 - 1)) then s22_0 hk C N p2 (IntKind.i64.wrap (n7 - 1)) true h3 else (aOff p2 0).bind fun v15 => (aLd1 h3 v15).bind fun v16 => (aIdx v16 (.int .i64 (IntKind.i64.wrap (n7 - 1))) 4).bind fun v17 => (aOff v17 0).bind fun v18 => (aLd1 h3 v18).bind fun v19 => (asI .i64 v19).bind fun n20 => s22_0 hk C N p2 (IntKind.i64.wrap (n7 - 1)) (n20 != 21) h3 := by kernel_rfl
theorem s22_0_j (x1 : Value) (x3 : Int) (x31 : Bool) (h : AHeap) : s22_0 hk0 C N x1 x3 x31 h = F22_0 hk0 C N (⟨48, [(1, x1), (3, .int .i64 x3), (31, .bool x31)]⟩) h := by delta s22_0; exact hk0_app _ _ _ _
theorem s22_0_eq (x1 : Value) (x3 : Int) (x31 : Bool) (h : AHeap) : F22_0 hk C N (⟨48, [(1, x1), (3, .int .i64 x3), (31, .bool x31)]⟩) h =
  bif x31 then some (.bool false, h) else s22_1 hk C N x1 x3 h := by kernel_rfl
theorem s22_1_j (x1 : Value) (x3 : Int) (h : AHeap) : s22_1 hk0 C N x1 x3 h = F22_1 hk0 C N (⟨48, [(1, x1), (3, .int .i64 x3)]⟩) h := by delta s22_1; exact hk0_app _ _ _ _
theorem s22_1_eq (x1 : Value) (x3 : Int) (h : AHeap) : F22_1 hk C N (⟨48, [(1, x1), (3, .int .i64 x3)]⟩) h =
  (aOff x1 0).bind fun v21 => (aLd1 h v21).bind fun v22 => (aLen v22).bind fun v23 => (asI .i64 v23).bind fun n24 => s22_2 hk C N N x1 x3 n24 0 h := by kernel_rfl
theorem s22_2_eq (n1 : Nat) (x1 : Value) (x3 x34 x35 : Int) (h : AHeap) : s22_2 hk C N (n1 + 1) x1 x3 x34 x35 h =
  bif decide (x35 < x34) then (C 59 [x1, .int .i64 x35] h).bind fun r25 => (asB r25.1).bind fun b26 => bif !b26 then some (.bool false, r25.2) else s22_2 hk C N n1 x1 x3 x34 (IntKind.i64.wrap (x35 + 1)) r25.2 else (aOff x1 0).bind fun v27 => (aLd1 h v27).bind fun v28 => (aLen v28).bind fun v29 => (asI .i64 v29).bind fun n30 => (C 60 [x1, .int .i64 x3, .int .i64 0] h).bind fun r31 => (asI .i64 r31.1).bind fun n32 => ((aLd1 r31.2 v27).bind fun v33 => some (vbeq v33 v28)).bind fun b34 => bif b34 then some (.bool (n32 == n30), r31.2) else none := by kernel_rfl
theorem c22 (d : Nat) (args : List Value) (h : AHeap) : call Tp Ms (d + 1) 22 args h = evFn hk0 Tp (call Tp Ms d) M22 d Try.f22 args h := by kernel_rfl
theorem e23 (x0 x1 : Value) (h : AHeap) : evFn hk Tp C M23 N Try.f23 [x0, x1] h =
  (aCells x0).bind fun c1 => aNew h 35 c1 fun p2 h3 => (aCells x1).bind fun c4 => aNew h3 35 c4 fun p5 h6 => (aOff p2 0).bind fun v7 => (aLd1 h6 v7).bind fun v8 => (aOff p5 0).bind fun v9 => (aLd1 h6 v9).bind fun v10 => (C 61 [v8, v10] h6).bind fun r11 => (asB r11.1).bind fun b12 => bif !b12 then some (.bool false, r11.2) else (aOff p2 1).bind fun v13 => (aLd1 r11.2 v13).bind fun v14 => (asI .i64 v14).bind fun n15 => (aOff p5 1).bind fun v16 => (aLd1 r11.2 v16).bind fun v17 => (asI .i64 v17).bind fun n18 => bif n15 != n18 then some (.bool false, r11.2) else some (.bool true, r11.2) := by kernel_rfl
theorem c23 (d : Nat) (args : List Value) (h : AHeap) : call Tp Ms (d + 1) 23 args h = evFn hk0 Tp (call Tp Ms d) M23 d Try.f23 args h := by kernel_rfl
def F32_0 (n1 : Nat) : Nx (Value × AHeap) := evSt hk Tp C M32 N Try.f32 [1, 1, 0, 1, 2, 6] [n1]
def s32_0 (n1 : Nat) (x0 x1 : Value) (x5 : Int) (h : AHeap) := F32_0 hk C N n1 (⟨26, [(0, x0), (1, x1), (5, .int .i64 x5)]⟩) h
theorem e32 (x0 x1 : Value) (h : AHeap) : evFn hk Tp C M32 N Try.f32 [x0, x1] h =
  (aLen x0).bind fun v1 => (asI .i64 v1).bind fun n2 => (aLen x1).bind fun v3 => (asI .i64 v3).bind fun n4 => bif n2 != n4 then some (.bool false, h) else s32_0 hk C N N x0 x1 0 h := by kernel_rfl
theorem s32_0_eq (n1 : Nat) (x0 x1 : Value) (x5 : Int) (h : AHeap) : s32_0 hk C N (n1 + 1) x0 x1 x5 h =
  (aLen x0).bind fun v5 => (asI .i64 v5).bind fun n6 => bif decide (x5 < n6) then (aIdx x0 (.int .i64 x5) 1).bind fun v7 => (aLd1 h v7).bind fun v8 => (asI .i64 v8).bind fun n9 => (aIdx x1 (.int .i64 x5) 1).bind fun v10 => (aLd1 h v10).bind fun v11 => (asI .i64 v11).bind fun n12 => bif n9 != n12 then some (.bool false, h) else s32_0 hk C N n1 x0 x1 (IntKind.i64.wrap (x5 + 1)) h else some (.bool true, h) := by kernel_rfl
theorem c32 (d : Nat) (args : List Value) (h : AHeap) : call Tp Ms (d + 1) 32 args h = evFn hk0 Tp (call Tp Ms d) M32 d Try.f32 args h := by kernel_rfl
def F56_0 (n1 : Nat) : Nx (Value × AHeap) := evSt hk Tp C M56 N Try.f56 [1, 1, 1, 0, 1, 2, 6] [n1]
def s56_0 (n1 : Nat) (x0 : Value) (x1 x5 : Int) (h : AHeap) := F56_0 hk C N n1 (⟨27, [(0, x0), (1, .int .i64 x1), (5, .int .i64 x5)]⟩) h
theorem e56 (x0 : Value) (x1 : Int) (h : AHeap) : evFn hk Tp C M56 N Try.f56 [x0, .int .i64 x1] h =
  (aLen x0).bind fun v1 => (asI .i64 v1).bind fun n2 => bif decide ((IntKind.i64.wrap (x1 - n2)) < 0) then some (.int .i64 (-1), h) else s56_0 hk C N N x0 (IntKind.i64.wrap (x1 - n2)) 0 h := by kernel_rfl
theorem s56_0_eq (n1 : Nat) (x0 : Value) (x1 x5 : Int) (h : AHeap) : s56_0 hk C N (n1 + 1) x0 x1 x5 h =
  (aLen x0).bind fun v3 => (asI .i64 v3).bind fun n4 => bif decide (x5 < n4) then (aIdx x0 (.int .i64 x5) 4).bind fun v5 => (aLdN h v5 4).bind fun v6 => (C 97 [v6, .int .i64 x1] h).bind fun r7 => (asI .i64 r7.1).bind fun n8 => bif decide (n8 < 0) then some (.int .i64 (-1), r7.2) else s56_0 hk C N n1 x0 n8 (IntKind.i64.wrap (x5 + 1)) r7.2 else some (.int .i64 x1, h) := by kernel_rfl
theorem c56 (d : Nat) (args : List Value) (h : AHeap) : call Tp Ms (d + 1) 56 args h = evFn hk0 Tp (call Tp Ms d) M56 d Try.f56 args h := by kernel_rfl
def F57_0 : Nx (Value × AHeap) := evSt hk Tp C M57 N Try.f57 [1, 0, 1] []
def s57_0 (x1 x2 x3 : Int) (x4 x5 : Value) (x31 : Bool) (h : AHeap) := hk 100002 (⟨108, [(1, .int .i64 x1), (2, .int .i64 x2), (3, .int .i64 x3), (4, x4), (5, x5), (31, .bool x31)]⟩) h (F57_0 hk C N)
def F57_1 : Nx (Value × AHeap) := evSt hk Tp C M57 N Try.f57 [1, 1] []
def s57_1 (x1 x2 x3 : Int) (x4 x5 : Value) (h : AHeap) := hk 3 (⟨108, [(1, .int .i64 x1), (2, .int .i64 x2), (3, .int .i64 x3), (4, x4), (5, x5)]⟩) h (F57_1 hk C N)
def F57_2 : Nx (Value × AHeap) := evSt hk Tp C M57 N Try.f57 [1, 1, 1, 1, 1] []
def s57_2 (x1 x2 x3 : Int) (x4 x5 x12 : Value) (x13 : Bool) (h : AHeap) := hk 6 (⟨108, [(1, .int .i64 x1), (2, .int .i64 x2), (3, .int .i64 x3), (4, x4), (5, x5), (12, x12), (13, .bool x13)]⟩) h (F57_2 hk C N)
def F57_3 : Nx (Value × AHeap) := evSt hk Tp C M57 N Try.f57 [1, 1, 1, 1, 1, 1] []
def s57_3 (x1 x3 : Int) (x4 x5 x12 : Value) (x13 : Bool) (h : AHeap) := hk 8 (⟨108, [(1, .int .i64 x1), (3, .int .i64 x3), (4, x4), (5, x5), (12, x12), (13, .bool x13)]⟩) h (F57_3 hk C N)
def F57_4 : Nx (Value × AHeap) := evSt hk Tp C M57 N Try.f57 [1, 1, 1, 1, 1, 1, 1, 0, 1] []
def s57_4 (x1 x3 : Int) (x4 x5 x12 x14 : Value) (x69 : Bool) (h : AHeap) := hk 100010 (⟨108, [(1, .int .i64 x1), (3, .int .i64 x3), (4, x4), (5, x5), (12, x12), (14, x14), (69, .bool x69)]⟩) h (F57_4 hk C N)
def F57_5 : Nx (Value × AHeap) := evSt hk Tp C M57 N Try.f57 [1, 1, 1, 1, 1, 1, 1, 1] []
def s57_5 (x1 x3 : Int) (x4 x5 x12 x14 : Value) (h : AHeap) := hk 11 (⟨108, [(1, .int .i64 x1), (3, .int .i64 x3), (4, x4), (5, x5), (12, x12), (14, x14)]⟩) h (F57_5 hk C N)
def F57_6 (n1 : Nat) : Nx (Value × AHeap) := evSt hk Tp C M57 N Try.f57 [1, 1, 1, 1, 1, 1, 1, 1, 0, 1, 2, 6] [n1]
def s57_6 (n1 : Nat) (x1 x3 : Int) (x4 x5 x12 x14 : Value) (x16 : Int) (h : AHeap) := F57_6 hk C N n1 (⟨108, [(1, .int .i64 x1), (3, .int .i64 x3), (4, x4), (5, x5), (12, x12), (14, x14), (16, .int .i64 x16)]⟩) h
theorem e57 (x0 : Value) (x1 x2 x3 : Int) (x4 : Value) (h : AHeap) : evFn hk Tp C M57 N Try.f57 [x0, .int .i64 x1, .int .i64 x2, .int .i64 x3, x4] h =
  (aCells x0).bind fun c1 => aNew h 35 c1 fun p2 h3 => (aOff p2 0).bind fun v4 => (aLd1 h3 v4).bind fun v5 => (aLen v5).bind fun v6 => (asI .i64 v6).bind fun n7 => (C 98 [.int .i64 x1, .int .i64 0, .int .i64 (IntKind.i64.wrap (n7 - 1))] h3).bind fun r8 => (asB r8.1).bind fun b9 => bif !b9 then s57_0 hk C N x1 x2 x3 x4 p2 true r8.2 else (aIdx x4 (.int .i64 x1) 1).bind fun v10 => (aLd1 r8.2 v10).bind fun v11 => (asB v11).bind fun b12 => s57_0 hk C N x1 x2 x3 x4 p2 b12 r8.2 := by kernel_rfl
theorem s57_0_j (x1 x2 x3 : Int) (x4 x5 : Value) (x31 : Bool) (h : AHeap) : s57_0 hk0 C N x1 x2 x3 x4 x5 x31 h = F57_0 hk0 C N (⟨108, [(1, .int .i64 x1), (2, .int .i64 x2), (3, .int .i64 x3), (4, x4), (5, x5), (31, .bool x31)]⟩) h := by delta s57_0; exact hk0_app _ _ _ _
theorem s57_0_eq (x1 x2 x3 : Int) (x4 x5 : Value) (x31 : Bool) (h : AHeap) : F57_0 hk C N (⟨108, [(1, .int .i64 x1), (2, .int .i64 x2), (3, .int .i64 x3), (4, x4), (5, x5), (31, .bool x31)]⟩) h =
  bif x31 then some (.tuple (List.toArray [.int .i64 0, .bool false]), h) else s57_1 hk C N x1 x2 x3 x4 x5 h := by kernel_rfl
theorem s57_1_j (x1 x2 x3 : Int) (x4 x5 : Value) (h : AHeap) : s57_1 hk0 C N x1 x2 x3 x4 x5 h = F57_1 hk0 C N (⟨108, [(1, .int .i64 x1), (2, .int .i64 x2), (3, .int .i64 x3), (4, x4), (5, x5)]⟩) h := by delta s57_1; exact hk0_app _ _ _ _
theorem s57_1_eq (x1 x2 x3 : Int) (x4 x5 : Value) (h : AHeap) : F57_1 hk C N (⟨108, [(1, .int .i64 x1), (2, .int .i64 x2), (3, .int .i64 x3), (4, x4), (5, x5)]⟩) h =
  (aIdx x4 (.int .i64 x1) 1).bind fun v13 => (aSt h v13 (.bool true) 1).bind fun h14 => (aOff x5 0).bind fun v15 => (aLd1 h14 v15).bind fun v16 => (aIdx v16 (.int .i64 x1) 4).bind fun v17 => (aLdN h14 v17 4).bind fun v18 => aNew h14 73 [.int .i64 0, .string ⟨#[]⟩, .int .i64 0, .slice none 0 0] fun p19 h20 => (aSt h20 p19 v18 4).bind fun h21 => (aOff p19 0).bind fun v22 => (aLd1 h21 v22).bind fun v23 => (asI .i64 v23).bind fun n24 => (C 99 [.int .i64 n24] h21).bind fun r25 => (asI .i64 r25.1).bind fun n26 => bif n26 == x2 then s57_2 hk C N x1 x2 x3 x4 x5 p19 (x2 != 0) r25.2 else s57_2 hk C N x1 x2 x3 x4 x5 p19 false r25.2 := by kernel_rfl
theorem s57_2_j (x1 x2 x3 : Int) (x4 x5 x12 : Value) (x13 : Bool) (h : AHeap) : s57_2 hk0 C N x1 x2 x3 x4 x5 x12 x13 h = F57_2 hk0 C N (⟨108, [(1, .int .i64 x1), (2, .int .i64 x2), (3, .int .i64 x3), (4, x4), (5, x5), (12, x12), (13, .bool x13)]⟩) h := by delta s57_2; exact hk0_app _ _ _ _
theorem s57_2_eq (x1 x2 x3 : Int) (x4 x5 x12 : Value) (x13 : Bool) (h : AHeap) : F57_2 hk C N (⟨108, [(1, .int .i64 x1), (2, .int .i64 x2), (3, .int .i64 x3), (4, x4), (5, x5), (12, x12), (13, .bool x13)]⟩) h =
  bif x2 == 6 then (aOff x12 0).bind fun v27 => (aLd1 h v27).bind fun v28 => (asI .i64 v28).bind fun n29 => s57_3 hk C N x1 x3 x4 x5 x12 (n29 == 9) h else s57_3 hk C N x1 x3 x4 x5 x12 x13 h := by kernel_rfl
theorem s57_3_j (x1 x3 : Int) (x4 x5 x12 : Value) (x13 : Bool) (h : AHeap) : s57_3 hk0 C N x1 x3 x4 x5 x12 x13 h = F57_3 hk0 C N (⟨108, [(1, .int .i64 x1), (3, .int .i64 x3), (4, x4), (5, x5), (12, x12), (13, .bool x13)]⟩) h := by delta s57_3; exact hk0_app _ _ _ _
theorem s57_3_eq (x1 x3 : Int) (x4 x5 x12 : Value) (x13 : Bool) (h : AHeap) : F57_3 hk C N (⟨108, [(1, .int .i64 x1), (3, .int .i64 x3), (4, x4), (5, x5), (12, x12), (13, .bool x13)]⟩) h =
  (aLdN h x12 4).bind fun v30 => (C 100 [v30] h).bind fun r31 => (aExt r31.1 0).bind fun v32 => (aExt r31.1 1).bind fun v33 => (asB v33).bind fun b34 => bif !x13 then s57_4 hk C N x1 x3 x4 x5 x12 v32 true r31.2 else bif !b34 then s57_4 hk C N x1 x3 x4 x5 x12 v32 true r31.2 else (aLdN r31.2 x12 4).bind fun v35 => (C 101 [v35] r31.2).bind fun r36 => (asB r36.1).bind fun b37 => s57_4 hk C N x1 x3 x4 x5 x12 v32 (!b37) r36.2 := by kernel_rfl
theorem s57_4_j (x1 x3 : Int) (x4 x5 x12 x14 : Value) (x69 : Bool) (h : AHeap) : s57_4 hk0 C N x1 x3 x4 x5 x12 x14 x69 h = F57_4 hk0 C N (⟨108, [(1, .int .i64 x1), (3, .int .i64 x3), (4, x4), (5, x5), (12, x12), (14, x14), (69, .bool x69)]⟩) h := by delta s57_4; exact hk0_app _ _ _ _
theorem s57_4_eq (x1 x3 : Int) (x4 x5 x12 x14 : Value) (x69 : Bool) (h : AHeap) : F57_4 hk C N (⟨108, [(1, .int .i64 x1), (3, .int .i64 x3), (4, x4), (5, x5), (12, x12), (14, x14), (69, .bool x69)]⟩) h =
  bif x69 then some (.tuple (List.toArray [.int .i64 0, .bool false]), h) else s57_5 hk C N x1 x3 x4 x5 x12 x14 h := by kernel_rfl
theorem s57_5_j (x1 x3 : Int) (x4 x5 x12 x14 : Value) (h : AHeap) : s57_5 hk0 C N x1 x3 x4 x5 x12 x14 h = F57_5 hk0 C N (⟨108, [(1, .int .i64 x1), (3, .int .i64 x3), (4, x4), (5, x5), (12, x12), (14, x14)]⟩) h := by delta s57_5; exact hk0_app _ _ _ _
theorem s57_5_eq (x1 x3 : Int) (x4 x5 x12 x14 : Value) (h : AHeap) : F57_5 hk C N (⟨108, [(1, .int .i64 x1), (3, .int .i64 x3), (4, x4), (5, x5), (12, x12), (14, x14)]⟩) h =
  s57_6 hk C N N x1 x3 x4 x5 x12 x14 0 h := by kernel_rfl
theorem s57_6_eq (n1 : Nat) (x1 x3 : Int) (x4 x5 x12 x14 : Value) (x16 : Int) (h : AHeap) : s57_6 hk C N (n1 + 1) x1 x3 x4 x5 x12 x14 x16 h =
  (aOff x12 3).bind fun v38 => (aLd1 h v38).bind fun v39 => (aLen v39).bind fun v40 => (asI .i64 v40).bind fun n41 => bif decide (x16 < n41) then (aOff x12 3).bind fun v42 => (aLd1 h v42).bind fun v43 => (aIdx v43 (.int .i64 x16) 1).bind fun v44 => (aLd1 h v44).bind fun v45 => (asI .i64 v45).bind fun n46 => bif decide (n46 ≥ x1) then some (.tuple (List.toArray [.int .i64 0, .bool false]), h) else (aLdN h x5 2).bind fun v47 => (aOff x12 3).bind fun v48 => (aLd1 h v48).bind fun v49 => (aIdx v49 (.int .i64 x16) 1).bind fun v50 => (aLd1 h v50).bind fun v51 => (asI .i64 v51).bind fun n52 => (aIdx x14 (.int .i64 x16) 1).bind fun v53 => (aLd1 h v53).bind fun v54 => (asI .i64 v54).bind fun n55 => (C 57 [v47, .int .i64 n52, .int .i64 n55, .int .i64 x3, x4] h).bind fun r56 => (aExt r56.1 0).bind fun v57 => (asI .i64 v57).bind fun n58 => (aExt r56.1 1).bind fun v59 => (asB v59).bind fun b60 => bif !b60 then some (.tuple (List.toArray [.int .i64 0, .bool false]), r56.2) else s57_6 hk C N n1 x1 n58 x4 x5 x12 x14 (IntKind.i64.wrap (x16 + 1)) r56.2 else some (.tuple (List.toArray [.int .i64 (IntKind.i64.wrap (x3 + 1)), .bool (x3 == x1)]), h) := by kernel_rfl
theorem c57 (d : Nat) (args : List Value) (h : AHeap) : call Tp Ms (d + 1) 57 args h = evFn hk0 Tp (call Tp Ms d) M57 d Try.f57 args h := by kernel_rfl
def F58_0 (n1 : Nat) : Nx (Value × AHeap) := evSt hk Tp C M58 N Try.f58 [1, 1, 0, 1, 2, 6] [n1]
def s58_0 (n1 : Nat) (x0 x3 : Value) (x4 : Int) (h : AHeap) := F58_0 hk C N n1 (⟨23, [(0, x0), (3, x3), (4, .int .i64 x4)]⟩) h
theorem e58 (x0 : Value) (h : AHeap) : evFn hk Tp C M58 N Try.f58 [x0] h =
  (aLen x0).bind fun v1 => (asI .i64 v1).bind fun n2 => (aMk h 73 [.int .i64 0, .string ⟨#[]⟩, .int .i64 0, .slice none 0 0] 56 (.int .i64 n2) (.int .i64 n2)).bind fun r3 => s58_0 hk C N N x0 r3.1 0 r3.2 := by kernel_rfl
theorem s58_0_eq (n1 : Nat) (x0 x3 : Value) (x4 : Int) (h : AHeap) : s58_0 hk C N (n1 + 1) x0 x3 x4 h =
  (aLen x0).bind fun v4 => (asI .i64 v4).bind fun n5 => bif decide (x4 < n5) then (aIdx x0 (.int .i64 x4) 4).bind fun v6 => (aLdN h v6 4).bind fun v7 => (C 102 [v7] h).bind fun r8 => (aIdx x3 (.int .i64 x4) 4).bind fun v9 => (aSt r8.2 v9 r8.1 4).bind fun h10 => s58_0 hk C N n1 x0 x3 (IntKind.i64.wrap (x4 + 1)) h10 else some (x3, h) := by kernel_rfl
theorem c58 (d : Nat) (args : List Value) (h : AHeap) : call Tp Ms (d + 1) 58 args h = evFn hk0 Tp (call Tp Ms d) M58 d Try.f58 args h := by kernel_rfl
def F59_0 (n1 : Nat) : Nx (Value × AHeap) := evSt hk Tp C M59 N Try.f59 [1, 1, 0, 1, 2, 6] [n1]
def s59_0 (n1 : Nat) (x0 : Value) (x1 : Int) (x5 x16 : Value) (x17 x18 : Int) (h : AHeap) := F59_0 hk C N n1 (⟨35, [(0, x0), (1, .int .i64 x1), (5, x5), (16, x16), (17, .int .i64 x17), (18, .int .i64 x18)]⟩) h
theorem e59 (x0 : Value) (x1 : Int) (h : AHeap) : evFn hk Tp C M59 N Try.f59 [x0, .int .i64 x1] h =
  (aNil x0).bind fun v1 => (aOff v1 0).bind fun v2 => (aLd1 h v2).bind fun v3 => (aIdx v3 (.int .i64 x1) 4).bind fun v4 => (aLdN h v4 4).bind fun v5 => aNew h 73 [.int .i64 0, .string ⟨#[]⟩, .int .i64 0, .slice none 0 0] fun p6 h7 => (aSt h7 p6 v5 4).bind fun h8 => (aOff p6 3).bind fun v9 => (aLd1 h8 v9).bind fun v10 => (aLen v10).bind fun v11 => (asI .i64 v11).bind fun n12 => s59_0 hk C N N x0 x1 p6 v10 n12 0 h8 := by kernel_rfl
theorem s59_0_eq (n1 : Nat) (x0 : Value) (x1 : Int) (x5 x16 : Value) (x17 x18 : Int) (h : AHeap) : s59_0 hk C N (n1 + 1) x0 x1 x5 x16 x17 x18 h =
  bif decide (x18 < x17) then (aIdx x16 (.int .i64 x18) 1).bind fun v13 => (aLd1 h v13).bind fun v14 => (asI .i64 v14).bind fun n15 => (C 103 [.int .i64 n15, .int .i64 0, .int .i64 (IntKind.i64.wrap (x1 - 1))] h).bind fun r16 => (asB r16.1).bind fun b17 => bif !b17 then some (.bool false, r16.2) else s59_0 hk C N n1 x0 x1 x5 x16 x17 (IntKind.i64.wrap (x18 + 1)) r16.2 else (aLdN h x5 4).bind fun v18 => (C 104 [v18] h).bind fun r19 => (asB r19.1).bind fun b20 => bif b20 then (aLdN r19.2 x5 4).bind fun v21 => (C 105 [x0, v21] r19.2).bind fun r22 => (asB r22.1).bind fun b23 => some (.bool b23, r22.2) else some (.bool false, r19.2) := by kernel_rfl
theorem c59 (d : Nat) (args : List Value) (h : AHeap) : call Tp Ms (d + 1) 59 args h = evFn hk0 Tp (call Tp Ms d) M59 d Try.f59 args h := by kernel_rfl
def F60_0 (n1 : Nat) : Nx (Value × AHeap) := evSt hk Tp C M60 N Try.f60 [1, 0, 1, 2, 6] [n1]
def s60_0 (n1 : Nat) (x0 : Value) (x1 x2 : Int) (x16 : Value) (x17 x18 : Int) (h : AHeap) := F60_0 hk C N n1 (⟨34, [(0, x0), (1, .int .i64 x1), (2, .int .i64 x2), (16, x16), (17, .int .i64 x17), (18, .int .i64 x18)]⟩) h
theorem e60 (x0 : Value) (x1 x2 : Int) (h : AHeap) : evFn hk Tp C M60 N Try.f60 [x0, .int .i64 x1, .int .i64 x2] h =
  (aNil x0).bind fun v1 => (aOff v1 0).bind fun v2 => (aLd1 h v2).bind fun v3 => (aIdx v3 (.int .i64 x1) 4).bind fun v4 => (aOff v4 3).bind fun v5 => (aLd1 h v5).bind fun v6 => (aLen v6).bind fun v7 => (asI .i64 v7).bind fun n8 => s60_0 hk C N N x0 x1 x2 v6 n8 0 h := by kernel_rfl
theorem s60_0_eq (n1 : Nat) (x0 : Value) (x1 x2 : Int) (x16 : Value) (x17 x18 : Int) (h : AHeap) : s60_0 hk C N (n1 + 1) x0 x1 x2 x16 x17 x18 h =
  bif decide (x18 < x17) then (aIdx x16 (.int .i64 x18) 1).bind fun v9 => (aLd1 h v9).bind fun v10 => (asI .i64 v10).bind fun n11 => (C 60 [x0, .int .i64 n11, .int .i64 x2] h).bind fun r12 => (asI .i64 r12.1).bind fun n13 => bif decide (n13 < 0) then some (.int .i64 (-1), r12.2) else s60_0 hk C N n1 x0 x1 n13 x16 x17 (IntKind.i64.wrap (x18 + 1)) r12.2 else bif x1 != x2 then some (.int .i64 (-1), h) else some (.int .i64 (IntKind.i64.wrap (x2 + 1)), h) := by kernel_rfl
theorem c60 (d : Nat) (args : List Value) (h : AHeap) : call Tp Ms (d + 1) 60 args h = evFn hk0 Tp (call Tp Ms d) M60 d Try.f60 args h := by kernel_rfl
end
end Go.Proofs.Ytadmoackacickaa
