import Derived.Test.YtajpnemfppaafaaGreatXAC
import Derived.LoopN
import Derived.WalkKit
import Derived.ProofKit
import Derived.OpenShut
import Derived.JoinedCond
import Derived.ChangeMaps5
import Derived.Deep.Slices
import Derived.Test.YtajpnemfppaafaaGreatXAA
import Derived.KernelRfl
import Derived.Test.YtajpnemfppaafaaGreatProg
set_option linter.unusedSimpArgs false
set_option linter.unusedVariables false
/- Code and calls. -/
namespace Go.AH
open Go.RowKit Go.Lib
variable {P : Program} {w0 : W0} {w : World} {ι : Inj} {h : AHeap}
def Ex.exit' : Ex → Exit
 | .norm => .normal
 | .exit id => .exit id
 | .ret => .ret
section
variable {C : ACall} (hC : CallOk P w0 C) (hm : P.follows .mixedOrders = true) {R : Type} {M : Masks} {N : Nat} {D : List Deferred} {r : R}
include hC hm
def Ends (P : Program) (w0 : W0) (D : List Deferred) (k : Kt R) (r : R) (Q : Exit → Act → World → Prop) (ι : Inj) (w : World) : Prop :=
 ∀ ex t' h' a' w' ι', Nxt ι w ι' w' → HRel P w0 ι' h' w' → TR ι' t' a'.tmps → a'.defers = D → k ex t' h' = some r → Q ex.exit' a' w'
omit hC hm in
theorem Ends.on {k : Kt R} {Q : Exit → Act → World → Prop} {ι' : Inj} {w' : World} (h : Ends P w0 D k r Q ι w) (n : Nxt ι w ι' w') : Ends P w0 D k r Q ι' w' :=
 fun ex t' h' a' w'' ι'' n' => h ex t' h' a' w'' ι'' (n.trans n')
omit hC hm in
theorem bnd_inv {c : Code} {nx : Nx R} {t : Tm} {a : Act} (h' : bnd hk0 M c nx t h = some r) (ht : TR ι t a.tmps) : ∃ t', TR ι t' a.tmps ∧ nx t' h = some r := by
 unfold bnd at h'
 split at h'
 ·split at h'
  ·exact ⟨_, TR.mask _ ht 0, h'⟩
  ·exact ⟨_, ht, h'⟩
 ·exact ⟨_, ht, h'⟩
omit hC hm in
theorem maskLoop_TR {c : Code} {t : Tm} {a : Act} (ht : TR ι t a.tmps) : TR ι (maskLoop M c t) a.tmps := by
 unfold maskLoop
 split
 ·exact TR.mask _ ht 0
 ·exact ht
omit hm hC in
theorem iter_sound {c : Code} (ih : ∀ {t : Tm} {h : AHeap} {w : World} {ι : Inj} {a : Act} {k : Kt R} {r : R} {Q : Exit → Act → World → Prop},
   evCode hk0 P C M N c t h k = some r → TR ι t a.tmps → HRel P w0 ι h w → a.defers = D → Ends P w0 D k r Q ι w → Code.wp P c Q a w) :
  ∀ (n : Nat) {t : Tm} {h : AHeap} {w : World} {ι : Inj} {a : Act} {k : Kt R} {r : R} {Q : Exit → Act → World → Prop},
   evIter (evCode hk0 P C M N c) (maskLoop M c) k n t h = some r → TR ι t a.tmps → HRel P w0 ι h w → a.defers = D → Ends P w0 D k r Q ι w → Code.rounds P c Q n a w := by
 intro n
 induction n with
 | zero => intro t h w ι a k r Q he; simp [evIter] at he
 | succ n ihn =>
  intro t h w ι a k r Q he ht H hd hk
  rw [rounds_succ]
  simp only [evIter] at he
  refine ih he ht H hd fun ex t' h' a' w' ι' nx H' ht' hd' he' => ?_
  cases ex with
  | norm => exact ihn he' (maskLoop_TR ht') H' hd' (hk.on nx)
  | exit id => exact hk (.exit id) _ _ _ _ _ nx H' ht' hd' he'
  | ret => exact hk .ret _ _ _ _ _ nx H' ht' hd' he'
theorem evCode_sound : ∀ (c : Code) {t : Tm} {h : AHeap} {w : World} {ι : Inj} {a : Act} {k : Kt R} {r : R} {Q : Exit → Act → World → Prop},
  evCode hk0 P C M N c t h k = some r → TR ι t a.tmps → HRel P w0 ι h w → a.defers = D → Ends P w0 D k r Q ι w → Code.wp P c Q a w := by
 intro c
 induction c with
 | skip => intro t h w ι a k r Q he ht H hd hk; exact wp_skip (hk .norm _ _ _ _ _ (Nxt.refl _ _) H ht hd he)
 | exit id => intro t h w ι a k r Q he ht H hd hk; exact wp_exit (hk (.exit id) _ _ _ _ _ (Nxt.refl _ _) H ht hd he)
 | ret => intro t h w ι a k r Q he ht H hd hk; exact wp_ret (hk .ret _ _ _ _ _ (Nxt.refl _ _) H ht hd he)
 | region id ops draw =>
  intro t h w ι a k r Q he ht H hd hk
  simp only [evCode, evRegion] at he
  cases draw with
  | false =>
   simp only [cond_false] at he
   exact wp_region_list (evOps_sound hC _ he ht H hd fun t' h' a' w' ι' n H' ht' hd' he' => hk .norm _ _ _ _ _ n H' ht' hd' he')
  | true =>
   simp only [cond_true] at he
   exact evDraw_sound hC hm he ht H hd fun t' h' a' w' ι' n H' ht' hd' he' => hk .norm _ _ _ _ _ n H' ht' hd' he'
 | seq x y ihx ihy =>
  intro t h w ι a k r Q he ht H hd hk
  simp only [evCode] at he
  refine wp_seq (ihx he ht H hd fun ex t' h' a' w' ι' n H' ht' hd' he' => ?_)
  cases ex with
  | norm =>
   obtain ⟨t2, ht2, he2⟩ := bnd_inv he' ht'
   exact ihy he2 ht2 H' hd' (hk.on n)
  | exit id => exact hk (.exit id) _ _ _ _ _ n H' ht' hd' he'
  | ret => exact hk .ret _ _ _ _ _ n H' ht' hd' he'
 | cond c x y ihx ihy =>
  intro t h w ι a k r Q he ht H hd hk
  simp only [evCode, Option.bind_eq_some_iff] at he
  obtain ⟨b, hb, he⟩ := he
  have hc := ht.evX c
  rw [asB_inv hb] at hc
  refine wp_cond (t := b) (VR.bool_inv' hc) ?_
  cases b with
  | true => obtain ⟨t2, ht2, he2⟩ := bnd_inv he ht; exact ihx he2 ht2 H hd hk
  | false => obtain ⟨t2, ht2, he2⟩ := bnd_inv he ht; exact ihy he2 ht2 H hd hk
 | block id x ihx =>
  intro t h w ι a k r Q he ht H hd hk
  simp only [evCode] at he
  refine wp_block (ihx he ht H hd fun ex t' h' a' w' ι' n H' ht' hd' he' => ?_)
  cases ex with
  | norm => exact hk .norm _ _ _ _ _ n H' ht' hd' he'
  | exit j =>
   simp only [kBlock] at he'
   simp only [Ex.exit', Exit.inBlock]
   split at he'
   ·rename_i e; rw [if_pos e]; exact hk .norm _ _ _ _ _ n H' ht' hd' he'
   ·rename_i e; rw [if_neg e]; exact hk (.exit j) _ _ _ _ _ n H' ht' hd' he'
  | ret => exact hk .ret _ _ _ _ _ n H' ht' hd' he'
 | loop x ihx =>
  intro t h w ι a k r Q he ht H hd hk
  simp only [evCode] at he
  exact wp_loop_rounds N (iter_sound (fun {t h w ι a k r Q} => ihx) N he (maskLoop_TR ht) H hd hk)
 | _ => intro t h w ι a k r Q he; simp [evCode] at he
end
theorem isS2_S2 {v v' : Value} (h : VR ι v v') (hs : isS2 v = true) : S2 ι v v' := by
 cases h with
 | junk => simp [isS2, junk] at hs
 | s2 r => exact r
 | tuple => simp [isS2] at hs
def resF (tmps : Array Value) : ResultVar → Sem Value
 | .tmp t => pure (tmps.getD t undef)
 | .cell a t => do loadVar t (← asAddr (tmps.getD a undef))
theorem resK_sound {t : Tm} {a : Act} (H : HRel P w0 ι h w) (ht : TR ι t a.tmps) : ∀ (l : List ResultVar) (acc acc' : List Value) {r : Value × AHeap}, resK P t h l acc = some r → All2 (VR ι) acc acc' →
  ∃ vs, (l.mapM (resF a.tmps)).run P w = .ok vs w ∧ r.2 = h ∧ VR ι r.1 (match acc' ++ vs with | [v] => v | vs => .tuple vs.toArray)
 | [], acc, acc', r, he, hacc => by
  refine ⟨[], by simp [List.mapM_nil], ?_⟩
  simp only [resK] at he
  split at he
  ·simp at he; subst he
   cases hacc with
   | cons hv hn => cases hn; exact ⟨rfl, by simpa using hv⟩
  ·rename_i hne
   cases hall : acc.all isS2 with
   | false => rw [hall] at he; cases he
   | true =>
    rw [hall] at he
    simp at he; subst he
    refine ⟨rfl, ?_⟩
    have h2 : All2 (S2 ι) acc acc' := by
     clear hne
     induction hacc with
     | nil => exact .nil
     | cons hv hn ih =>
      simp only [List.all_cons, Bool.and_eq_true] at hall
      exact .cons (isS2_S2 hv hall.1) (ih hall.2)
    have : ∀ v, acc' ≠ [v] := by
     intro v e
     subst e
     cases hacc with
     | cons hv hn => cases hn; exact hne _ rfl
    rw [List.append_nil]
    split
    ·rename_i v; exact absurd rfl (this v)
    ·exact .tuple (by simpa using h2)
 | .tmp i :: l, acc, acc', r, he, hacc => by
  simp only [resK] at he
  obtain ⟨vs, h1, h2, h3⟩ := resK_sound H ht l (acc ++ [t.getD i junk]) (acc' ++ [a.tmps.getD i undef]) he (hacc.append (.cons (ht.getD i undef) .nil))
  exact ⟨a.tmps.getD i undef :: vs, by simp [List.mapM_cons, resF, h1], h2, by simpa using h3⟩
 | .cell i ty :: l, acc, acc', r, he, hacc => by
  simp only [resK] at he
  have key : ∀ {v : Value}, (∃ ad v', a.tmps.getD i undef = .pointer (some ad) ∧ (loadVar ty ad).run P w = .ok v' w ∧ VR ι v v') → resK P t h l (acc ++ [v]) = some r →
    ∃ vs, ((ResultVar.cell i ty :: l).mapM (resF a.tmps)).run P w = .ok vs w ∧ r.2 = h ∧ VR ι r.1 (match acc' ++ vs with | [v] => v | vs => .tuple vs.toArray) := by
   intro v ⟨ad, v', hp, hr, hv⟩ he
   obtain ⟨vs, h1, h2, h3⟩ := resK_sound H ht l (acc ++ [v]) (acc' ++ [v']) he (hacc.append (.cons hv .nil))
   exact ⟨v' :: vs, by simp [List.mapM_cons, resF, hp, asAddr, hr, h1], h2, by simpa using h3⟩
  split at he
  ·rename_i n hg hn
   simp only [Option.bind_eq_some_iff] at he
   obtain ⟨v, hv, he⟩ := he
   exact key (ldN_run H hg hn hv (ht.getD i undef)) he
  ·rename_i hg
   simp only [Option.bind_eq_some_iff] at he
   obtain ⟨v, hv, he⟩ := he
   exact key (ld1_run H hg hv (ht.getD i undef)) he
  ·simp at he
theorem results_sound {fn : Func} {t : Tm} {a : Act} (H : HRel P w0 ι h w) (ht : TR ι t a.tmps) {r : Value × AHeap} (he : resK P t h fn.results.toList [] = some r) :
  ∃ v', (results fn a.tmps).run P w = .ok v' w ∧ r.2 = h ∧ VR ι r.1 v' := by
 obtain ⟨vs, h1, h2, h3⟩ := resK_sound H ht fn.results.toList [] [] he .nil
 refine ⟨_, ?_, h2, h3⟩
 have : (results fn a.tmps) = (do let vs ← fn.results.mapM (resF a.tmps); pure (if h : vs.size = 1 then vs[0] else .tuple vs)) := rfl
 rw [this, Array.mapM_eq_mapM_toList]
 simp only [bind_map_left, Sem.run_bind, h1, Result.andThen_ok, Sem.run_pure]
 congr 1
 simp only [List.nil_append]
 match vs with
 | [] => rfl
 | [v] => rfl
 | v :: u :: vs => simp
theorem lk_number : ∀ (l : List Value) (j i : Nat), lk junk (j + i) (number j l) = l.getD i junk
 | [], _, _ => rfl
 | v :: l, j, 0 => by unfold number; rw [Nat.add_zero, lk_cons_same]; rfl
 | v :: l, j, i + 1 => by
  unfold number
  rw [lk_cons_ne (by omega), show j + (i + 1) = (j + 1) + i by omega, lk_number l]; rfl
theorem init_TR {fn : Func} {args : List Value} {args' : Array Value} (ha : All2 (VR ι) args args'.toList) : TR ι (init fn args) (args' ++ Array.replicate (fn.ntmps - args'.size) undef) := by
 have hl : args.length = args'.size := by simpa using ha.length
 have hg : ∀ i, VR ι (args.getD i junk) ((args' ++ Array.replicate (fn.ntmps - args'.size) undef).getD i undef) := fun i => by
  rw [List.getD_eq_getElem?_getD]
  cases h : args[i]? with
  | none => exact .junk _
  | some v =>
   obtain ⟨b, hb, hr⟩ := All2.get ha i v h
   have hb' : args'[i]? = some b := by simpa using hb
   have hlt := (Array.getElem?_eq_some_iff.1 hb').1
   rw [Array.getD_eq_getD_getElem?, Array.getElem?_append_left hlt, hb']; exact hr
 have hn : ∀ i, lk junk i (number 0 args) = args.getD i junk := fun i => by simpa using lk_number args 0 i
 have hin : ∀ n i, VR ι (Tm.getD ⟨n, number 0 args⟩ i junk) ((args' ++ Array.replicate (fn.ntmps - args'.size) undef).getD i undef) := fun n i => by
  by_cases hi : i < n
  ·rw [getD_in (t := ⟨n, number 0 args⟩) hi, hn]; exact hg i
  ·rw [getD_out (t := ⟨n, number 0 args⟩) hi]; exact .junk _
 unfold init
 cases e : Nat.ble args.length fn.ntmps with
 | true =>
  have := Nat.le_of_ble_eq_true e
  exact ⟨by simp; omega, hin _⟩
 | false =>
  have : ¬ args.length ≤ fn.ntmps := fun h => by rw [Nat.ble_eq_true_of_le h] at e; cases e
  exact ⟨by simp; omega, hin _⟩
theorem call_sound (hm : P.follows .mixedOrders = true) (hn : P.funcs.all (fun (fn : Func) => fn.name != "runtime.NumGoroutine") = true) (Ms : FuncId → Masks) : ∀ d, CallOk P w0 (call P Ms d) := by
 intro d
 induction d with
 | zero => exact ⟨fun f args h r he => by simp [call] at he, fun fz f args h v h' he => by simp [call] at he⟩
 | succ d ih =>
  have hfn : ∀ {f : FuncId} {fn : Func}, P.funcs[f]? = some fn → (fn.name == "runtime.NumGoroutine") = false := fun hf => by
   have := Array.all_eq_true_iff_forall_mem.1 hn _ (Array.mem_of_getElem? hf)
   simpa using this
  refine ⟨fun f args h r he => ?_, fun fz f args h v h' he ι w args' ha H => ?_⟩
  ·simp only [call] at he
   split at he
   ·rename_i fn hf
    unfold evFn at he
    split at he
    ·rename_i c hc; exact ⟨fn, hf, by simp [hc], hfn hf⟩
    ·simp at he
   ·simp at he
  ·simp only [call] at he
   split at he
   ·rename_i fn hf
    unfold evFn at he
    split at he
    ·rename_i c hc
     refine calls_of_wp hf hc (evCode_sound (w0 := ⟨w0.w, fz⟩) (ih.at fz) hm (D := []) c he (init_TR ha) H rfl fun ex t' h2 a' w' ι' n H' ht' hd' he' => ?_)
     have fin : resK P t' h2 fn.results.toList [] = some (v, h') → ∃ u, (results fn a'.tmps).run P w' = .ok u w' ∧ ∃ v' ι', Ending.returned u = .returned v' ∧ Nxt ι w ι' w' ∧ HRel P ⟨w0.w, fz⟩ ι' h' w' ∧ VR ι' v v' := by
      intro he
      obtain ⟨v', hr, h2, hv⟩ := results_sound H' ht' he
      simp at h2; subst h2
      exact ⟨v', hr, v', ι', rfl, n, H', hv⟩
     cases ex with
     | norm => exact ⟨hd', fin he'⟩
     | ret => exact ⟨hd', fin he'⟩
     | exit => simp [kBody] at he'
    ·simp at he
   ·simp at he
open Go.ChangeShapes Go.WideShapes Go.ChangeAt Go.RowKit
variable {H : Type} {enc : TypeId × Value → H} {P : Program}
theorem post_below {f : Func} {s : ChangeSpec} {apart fresh handsOn : Bool} {W W' : World} {args : Array Value} {v : Value} {ds gs : List (DataW H)} {before pa pv : List MemPlace}
  (hW : DataW.Whole enc P f.params.toList s.vars apart W args.toList ds gs before)
  (hres : ∀ (b : Nat) (sp : Nat → Bool) (hd : Bool), DataW.TrodAll enc P W' b sp hd f.resultTypes.toList (v.resultList f.resultTypes.size) (s.fn H (ds ++ gs)).results [])
  (hargs : ∀ sp : Nat → Bool, (∀ p ∈ before, sp p.block = true) → DataW.TrodAll enc P W' 0 sp true f.params.toList args.toList (s.fn H (ds ++ gs)).args pa)
  (hvars : ∀ sp : Nat → Bool, (∀ p ∈ before, sp p.block = true) → DataW.TrodVars enc P W' sp s.vars (s.fn H (ds ++ gs)).vars pv)
  (hb : Below W.heap.size W W') :
  s.post enc P f apart fresh handsOn false W args v W' := by
 have hold : ∀ p ∈ before, (fun b => decide (b < W.heap.size)) p.block = true := fun p hp => by simpa using hW.lt p hp
 refine ⟨ds, gs, before, [], pa, pv, hW, hres _ _ _, hargs _ hold, hvars _ hold, hb.frame _, fun h => by cases h⟩
def h00 : AHeap := ⟨0, fun _ => none, fun _ _ => 0, fun _ _ => 0, fun _ => none⟩
def i00 : Inj := ⟨fun _ => none, fun _ => none⟩
theorem start_rel (W : World) : HRel P W i00 h00 W where
 below := Below.refl _ _
 dom := fun i p h => by cases h
 domM := fun i p h => by cases h
 pl := fun i p h => by cases h
 obj := fun i o _ h => by simp [AHeap.at?, h00] at h
 tip := fun i o h => by simp [AHeap.at?, h00] at h
 eps := fun i o h => by cases h
 fam := fun i j oi oj p q h => by simp [AHeap.at?, h00] at h
 maps := fun i l _ h => by cases h
 mp := fun i r h => by cases h
 mpInj := fun i j r h => by cases h
 objs := fun j o h => by cases h
 mapd := fun j l h => by cases h
 fz := fun i f h => by cases h
theorem law_calls {Ms : FuncId → Masks} {d : Nat} {f : FuncId} {args : List Value} {args' : Array Value} {W : World} {ι : Inj} {h h' : AHeap} (hm : P.follows .mixedOrders = true)
  (hn : P.funcs.all (fun (fn : Func) => fn.name != "runtime.NumGoroutine") = true) (he : call P Ms d f args h = some (.bool true, h')) (ha : All2 (VR ι) args args'.toList) (H : HRel P W ι h W) :
  Calls P f args' W fun e W' => e = .returned (.bool true) ∧ Below W.heap.size W W' :=
 ((call_sound (w0 := W) hm hn Ms d).calls _ _ _ _ _ _ he ι W args' ha H).mono fun e W' ⟨v', ι', e1, _, H', hv⟩ => by
  subst e1
  rw [VR.bool_inv' hv]
  exact ⟨rfl, H'.below⟩
open Go.RowKit
variable {P : Program}
def hRows (n : Nat) (R : Nat → Option (Place × List Value)) : AHeap := ⟨n, fun i => (R i).map fun r => ⟨i, 0, true, r.1.el, r.2⟩, fun _ _ => 0, fun _ _ => 0, fun _ => none⟩
def iRows (R : Nat → Option (Place × List Value)) : Inj := ⟨fun i => (R i).map (·.1), fun _ => none⟩
theorem rows_at {n : Nat} {R : Nat → Option (Place × List Value)} {i : Nat} {r : Place × List Value} (hn : i < n) (h : R i = some r) : (hRows n R).at? i = some ⟨i, 0, true, r.1.el, r.2⟩ :=
 at?_mk (by simp [hRows, h]) hn (Nat.le_refl _) rfl
theorem at_rows {n : Nat} {R : Nat → Option (Place × List Value)} {i : Nat} {o : AObj} (h : (hRows n R).at? i = some o) : ∃ r, R i = some r ∧ o = ⟨i, 0, true, r.1.el, r.2⟩ := by
 obtain ⟨h1, _, _, _⟩ := at?_obj h
 simp only [hRows, Option.map_eq_some_iff] at h1
 obtain ⟨r, a, b⟩ := h1
 exact ⟨r, a, b.symm⟩
theorem start_rows {W : World} {n : Nat} {R : Nat → Option (Place × List Value)} (hn : ∀ i r, R i = some r → i < n)
  (hok : ∀ i r, R i = some r → r.1.Ok P W W ∧ r.1.ro = true ∧ r.2.length ≤ r.1.cap ∧ ∀ (j : Nat) v, r.2[j]? = some v → ∃ v', W.cell? ⟨r.1.blk, r.1.base + j, none⟩ = some v' ∧ S1 (iRows R) v v') :
  HRel P W (iRows R) (hRows n R) W where
 below := Below.refl _ _
 dom := fun i p h => by
  simp only [iRows, Option.map_eq_some_iff] at h
  obtain ⟨r, a, _⟩ := h
  exact hn i r a
 domM := fun i p h => by cases h
 pl := fun i p h => by
  simp only [iRows, Option.map_eq_some_iff] at h
  obtain ⟨r, a, b⟩ := h
  subst b
  exact (hok i r a).1
 obj := fun i o _ h => by
  obtain ⟨r, a, rfl⟩ := at_rows h
  obtain ⟨h1, h2, h3, h4⟩ := hok i r a
  exact ⟨r.1, by simp [iRows, a], h2, rfl, h3, h4⟩
 tip := fun i o h hro => by
  obtain ⟨r, a, rfl⟩ := at_rows h
  cases hro
 eps := fun i o h => by
  simp only [hRows, Option.map_eq_some_iff] at h
  obtain ⟨r, a, b⟩ := h
  subst b
  exact Nat.le_refl _
 fam := fun i j oi oj p q h1 h2 h3 h4 h5 h6 => by
  obtain ⟨r, a, rfl⟩ := at_rows h1
  simp only [iRows, a, Option.map_some, Option.some.injEq] at h3
  subst h3
  rw [(hok i r a).2.1] at h6; cases h6
 maps := fun i l _ h => by cases h
 mp := fun i r h => by cases h
 mpInj := fun i j r h => by cases h
 objs := fun j o h => by
  simp only [hRows, Option.map_eq_some_iff] at h
  obtain ⟨r, a, b⟩ := h
  subst b
  exact ⟨hn j r a, Nat.le_refl _⟩
 mapd := fun j l h => by cases h
 fz := fun i f h => by cases h
theorem open_rowM {H : Type} {enc : TypeId × Value → H} {w : World} {t e : TypeId} {fuel esz : Nat} {v : Value} {x : DataW H × List MemPlace} (ht : P.underlying t = some (.slice e)) (hc : P.cellsOf e = esz) (hpos : 0 < esz)
  (h : DataW.trod enc P w 0 (fun _ => true) true fuel t [v] = some x) :
  v = .slice none 0 0 ∨ (∃ a, v = .slice (some a) 0 0) ∨
  ∃ (b off len cap n : Nat) (D : Nat → DataW H) (Pl : Nat → List MemPlace), v = .slice (some ⟨b, off, none⟩) len cap ∧ len ≤ cap ∧ cap ≤ maxLen ∧ (∃ arr el fr, w.heap[b]? = some (.cells arr el fr) ∧ off + cap * esz ≤ arr.size) ∧
   ∀ i, i < len → ∃ cs', cs'.length = esz ∧ (∀ j, j < esz → w.cell? ⟨b, off + (i * esz + j), none⟩ = cs'[j]?) ∧ DataW.trod enc P w 0 (fun _ => true) true n e cs' = some (D i, Pl i) := by
 rcases Deep.open_slice ht h with ⟨h0, _⟩ | ⟨a, len, cap, m, n, D, Pl, h0, _, hl, hm, hmm, _, hx⟩
 ·exact .inl (by simpa using h0)
 have hv : v = .slice (some a) len cap := by simpa using h0
 subst hv
 simp only [if_true] at hmm
 subst hmm
 by_cases hcap : m = 0
 ·subst hcap
  have : len = 0 := by omega
  subst this
  exact .inr (.inl ⟨a, rfl⟩)
 ·right; right
  rw [hc] at hx
  have cellOf : ∀ i, i < m → ∃ cs', cs'.length = esz ∧ (∀ j, j < esz → w.cell? ((a.add (i * esz)).add j) = cs'[j]?) ∧ DataW.trod enc P w 0 (fun _ => true) true n e cs' = some (D i, Pl i) := fun i hi => by
   obtain ⟨cs', h1, h2⟩ := hx i hi
   obtain ⟨_, h3, h4⟩ := World.cells?_some h1
   exact ⟨cs', h3, h4, h2⟩
  have hspot : a.spot = none := by
   obtain ⟨cs', h1, h2, _⟩ := cellOf 0 (by omega)
   have := h2 0 hpos
   rw [Nat.zero_mul] at this
   have e0 : (a.add 0).add 0 = a := rfl
   rw [e0, List.getElem?_eq_getElem (by omega)] at this
   exact World.cell?_spot this
  obtain ⟨b, off, sp⟩ := a
  simp only at hspot
  subst hspot
  have hadd : ∀ i j, ((⟨b, off, none⟩ : Addr).add i).add j = ⟨b, off + (i + j), none⟩ := fun i j => by
   unfold Addr.add
   by_cases hi : i = 0 <;> by_cases hj : j = 0 <;> simp [hi, hj, Nat.add_assoc]
  refine ⟨b, off, len, m, n, D, Pl, rfl, hl, hm, ?_, fun i hi => ?_⟩
  ·obtain ⟨cs', h1, h2, _⟩ := cellOf (m - 1) (by omega)
   have := h2 (esz - 1) (by omega)
   rw [hadd, List.getElem?_eq_getElem (by omega)] at this
   unfold World.cell? at this
   split at this
   ·rename_i arr el fr hb
    refine ⟨arr, el, fr, hb, ?_⟩
    have h5 : arr[off + ((m - 1) * esz + (esz - 1))]? = some _ := this
    obtain ⟨hlt, _⟩ := Array.getElem?_eq_some_iff.1 h5
    have : (m - 1) * esz + esz = m * esz := by rw [← Nat.succ_mul]; congr 1; omega
    omega
   ·cases this
  ·obtain ⟨cs', h1, h2, h3⟩ := cellOf i (by omega)
   exact ⟨cs', h1, fun j hj => by rw [← h2 j hj, hadd], h3⟩
structure Ext (b : Nat) (h h' : AHeap) : Prop where
 size : h.size ≤ h'.size
 obj : ∀ i, i < b → h'.obj i = h.obj i
 ep : ∀ e r, r < b → h'.ep e r = h.ep e r
 tip : ∀ e r, r < b → h'.tip e r = h.tip e r
theorem Ext.refl (b : Nat) (h : AHeap) : Ext b h h := ⟨Nat.le_refl _, fun _ _ => rfl, fun _ _ _ => rfl, fun _ _ _ => rfl⟩
theorem Ext.trans {b : Nat} {h h' h'' : AHeap} (x : Ext b h h') (y : Ext b h' h'') : Ext b h h'' :=
 ⟨Nat.le_trans x.size y.size, fun i hi => (y.obj i hi).trans (x.obj i hi), fun e r hr => (y.ep e r hr).trans (x.ep e r hr), fun e r hr => (y.tip e r hr).trans (x.tip e r hr)⟩
theorem Ext.mono {b c : Nat} {h h' : AHeap} (x : Ext b h h') (hc : c ≤ b) : Ext c h h' :=
 ⟨x.size, fun i hi => x.obj i (by omega), fun e r hr => x.ep e r (by omega), fun e r hr => x.tip e r (by omega)⟩
theorem Ext.at? {b : Nat} {h h' : AHeap} (x : Ext b h h') {i : Nat} {o : AObj} (hi : i < b) (ho : h.at? i = some o) : h'.at? i = some o := by
 obtain ⟨h1, h2, h3, h4⟩ := at?_obj ho
 exact at?_mk ((x.obj i hi).trans h1) (by have := x.size; omega) h3 ((x.ep _ _ (by omega)).trans h4)
theorem Ext.new {b : Nat} {h : AHeap} (hb : b ≤ h.size) (e : TypeId) (cs : List Value) : Ext b h (h.new e cs) :=
 ⟨by simp [AHeap.new], fun i hi => by simp [AHeap.new]; omega, fun _ _ _ => rfl, fun e' r hr => by simp [AHeap.new]; omega⟩
theorem Ext.put {b : Nat} {h : AHeap} {i : Nat} {o : AObj} (hi : b ≤ i) (hr : b ≤ o.root) (cs : List Value) : Ext b h (h.put i o cs) :=
 ⟨Nat.le_refl _, fun j hj => by simp [AHeap.put]; omega, fun e r h' => by simp [AHeap.put]; omega, fun e r h' => by simp [AHeap.put]; omega⟩
theorem Ext.app {b : Nat} {h : AHeap} {o : AObj} (hb : b ≤ h.size) (hr : b ≤ o.root) (k : Nat) (cs : List Value) : Ext b h (h.app o k cs) :=
 ⟨by simp [AHeap.app], fun j hj => by simp [AHeap.app]; omega, fun e r h' => by simp only [AHeap.app]; rw [if_neg (by omega)], fun e r h' => by simp only [AHeap.app]; rw [if_neg (by omega)]⟩
def Own (b : Nat) (h : AHeap) (i : Nat) (e : TypeId) (cs : List Value) : Prop := ∃ root ep, h.at? i = some ⟨root, ep, false, e, cs⟩ ∧ b ≤ root
def Row (h : AHeap) (i : Nat) (cs : List Value) : Prop := ∃ o, h.at? i = some o ∧ o.cells = cs
theorem Own.row {b : Nat} {h : AHeap} {i : Nat} {e : TypeId} {cs : List Value} (x : Own b h i e cs) : Row h i cs := let ⟨_, _, h1, _⟩ := x; ⟨_, h1, rfl⟩
theorem Own.lt {b : Nat} {h : AHeap} {i : Nat} {e : TypeId} {cs : List Value} (x : Own b h i e cs) : b ≤ i ∧ i < h.size := by
 obtain ⟨r, ep, h1, h2⟩ := x
 obtain ⟨_, h3, h4, _⟩ := at?_obj h1
 exact ⟨Nat.le_trans h2 h4, h3⟩
theorem Own.ext {b c : Nat} {h h' : AHeap} {i : Nat} {e : TypeId} {cs : List Value} (x : Own b h i e cs) (y : Ext c h h') (hi : i < c) : Own b h' i e cs :=
 let ⟨r, ep, h1, h2⟩ := x; ⟨r, ep, y.at? hi h1, h2⟩
theorem Row.ext {c : Nat} {h h' : AHeap} {i : Nat} {cs : List Value} (x : Row h i cs) (y : Ext c h h') (hi : i < c) : Row h' i cs :=
 let ⟨o, h1, h2⟩ := x; ⟨o, y.at? hi h1, h2⟩
theorem Own.new {b : Nat} {h : AHeap} (hb : b ≤ h.size) (e : TypeId) (cs : List Value) : Own b (h.new e cs) h.size e cs := ⟨_, _, at?_new_same h e cs, hb⟩
theorem Row.rd {h : AHeap} {i off n : Nat} {cs : List Value} (x : Row h i cs) (hn : off + n ≤ cs.length) : h.rd i off n = some ((cs.drop off).take n) := by
 obtain ⟨o, h1, rfl⟩ := x
 simp [AHeap.rd, h1, hn]
theorem Row.ld1 {h : AHeap} {i off : Nat} {cs : List Value} {v : Value} (x : Row h i cs) (hv : cs[off]? = some v) : aLd1 h (ptr i off) = some v := by
 have hl := (List.getElem?_eq_some_iff.1 hv).1
 simp only [aLd1, ptr, x.rd (off := off) (n := 1) (by omega), oBs]
 rw [List.head?_take, if_neg (by omega), List.head?_drop, hv]
theorem Row.ldN {h : AHeap} {i off n : Nat} {cs : List Value} (x : Row h i cs) (hn : off + n ≤ cs.length) : aLdN h (ptr i off) n = some (.agg ((cs.drop off).take n).toArray) := by
 simp [aLdN, ptr, x.rd hn]
theorem Own.st {b : Nat} {h : AHeap} {i off n : Nat} {e : TypeId} {cs vs : List Value} {v : Value} (x : Own b h i e cs) (hv : aCells v = some vs) (hl : vs.length = n) (hn : off + n ≤ cs.length) :
  ∃ h', aSt h (ptr i off) v n = some h' ∧ Ext b h h' ∧ Own b h' i e (splice cs off vs) ∧ h'.size = h.size ∧
   (∀ j cs', Row h j cs' → (∀ o, h.at? j = some o → ¬ (o.elem = e ∧ ∃ oi, h.at? i = some oi ∧ o.root = oi.root)) → j ≠ i → Row h' j cs') := by
 obtain ⟨r, ep, h1, h2⟩ := x
 have hi := at?_obj h1
 refine ⟨h.put i ⟨r, ep, false, e, cs⟩ (splice cs off vs), by simp [aSt, ptr, h1, hv, hl, hn], Ext.put (Nat.le_trans h2 hi.2.2.1) h2 _, ⟨_, _, at?_put_same h1 _, h2⟩, rfl, fun j cs' ⟨o, ho, hc⟩ hf hne => ?_⟩
 exact ⟨o, at?_put_other ho hne _ (fun hh => hf o ho ⟨hh.1, _, h1, hh.2⟩), hc⟩
theorem Own.app {b : Nat} {h : AHeap} {i n m esz bytes : Nat} {e : TypeId} {cs ms : List Value} {x : Value} (o : Own b h i e cs) (hb : b ≤ h.size) (hsrc : aSrc h esz x = some (m, ms)) (hn : n * esz = cs.length)
  (h1 : n + m ≤ most) (h2 : (n + m) * bytes ≤ most) :
  ∃ h', aApp h e esz bytes (slc i 0 n) x = some (slc h.size 0 (n + m), h') ∧ Ext b h h' ∧ Own b h' h.size e (cs ++ ms) ∧ h'.size = h.size + 1 := by
 obtain ⟨r, ep, ha, hr⟩ := o
 refine ⟨h.app ⟨r, ep, false, e, cs⟩ (n * esz) (cs ++ ms), ?_, Ext.app hb hr _ _, ⟨_, _, at?_app_same ha _ _, hr⟩, rfl⟩
 simp [aApp, aAppG, slc, ha, hsrc, hn, h1, h2]
theorem Row.src {h : AHeap} {i off n esz : Nat} {cs : List Value} (x : Row h i cs) (hn : off + n * esz ≤ cs.length) : aSrc h esz (slc i off n) = some (n, (cs.drop off).take (n * esz)) := by
 simp [aSrc, slc, x.rd hn]
end Go.AH
namespace Go.Proofs.YtajpnemfppaafaaGreat
open Go Go.AH
noncomputable abbrev Tp : Program := Tryz.prog
def M4 : Masks := ⟨[(10, [3, 7]), (100009, [3, 7, 57])], []⟩
def M19 : Masks := ⟨[], []⟩
def M20 : Masks := ⟨[], []⟩
def M21 : Masks := ⟨[(7, [2, 5, 8, 9])], [(6, [2, 5, 8, 9])]⟩
def M22 : Masks := ⟨[(7, [2, 5, 8, 9])], [(6, [2, 5, 8, 9])]⟩
def M23 : Masks := ⟨[(4, [1, 3]), (100003, [1, 3, 31])], [(5, [1, 3, 34, 35])]⟩
def M24 : Masks := ⟨[(3, [2, 3]), (9, [2, 3, 5, 6, 7]), (100002, [2, 3, 22]), (100008, [2, 3, 5, 6, 7, 67])], [(4, [2, 3, 5]), (10, [2, 3, 5, 6, 7, 8])]⟩
def M33 : Masks := ⟨[], [(4, [0, 1, 5])]⟩
def M34 : Masks := ⟨[], [(2, [0, 1, 5])]⟩
def M35 : Masks := ⟨[], [(2, [0, 1, 5])]⟩
def M37 : Masks := ⟨[(100009, [3, 4, 6, 14, 15, 16, 45])], [(6, [3, 4, 14, 15, 16])]⟩
def M39 : Masks := ⟨[], []⟩
def M42 : Masks := ⟨[], []⟩
def M52 : Masks := ⟨[], [(5, [4, 18, 19, 20])]⟩
def M53 : Masks := ⟨[(10, [4, 5, 6])], [(6, [4, 5, 6])]⟩
def M54 : Masks := ⟨[], []⟩
def M60 : Masks := ⟨[], [(6, [3, 4, 19, 20, 21]), (10, [3, 4, 5, 6, 19, 20, 21, 30, 31, 32])]⟩
def M61 : Masks := ⟨[], [(5, [1, 3, 16, 17, 18]), (8, [1, 3, 4, 5, 16, 17, 18, 24, 25, 26])]⟩
def M62 : Masks := ⟨[], []⟩
def M63 : Masks := ⟨[], [(5, [1, 3, 4])]⟩
def M98 : Masks := ⟨[(5, [0, 3, 4])], [(3, [0, 3, 4])]⟩
def M99 : Masks := ⟨[], []⟩
def M100 : Masks := ⟨[(7, [0, 5, 6]), (14, [0, 5, 6, 7])], [(5, [0, 5, 6])]⟩
def M101 : Masks := ⟨[], []⟩
def M102 : Masks := ⟨[], []⟩
def M103 : Masks := ⟨[(9, [0, 5, 6, 7]), (10, [0, 5, 6]), (12, [0, 5, 6])], [(5, [0, 5, 6]), (10, [0, 5, 6])]⟩
def M104 : Masks := ⟨[(15, [0, 6])], []⟩
def M105 : Masks := ⟨[], []⟩
def M106 : Masks := ⟨[], [(3, [0, 1, 5, 16, 17, 18])]⟩
def M107 : Masks := ⟨[], [(2, [0, 1, 2, 16, 17, 18])]⟩
def M123 : Masks := ⟨[], []⟩
def M124 : Masks := ⟨[], []⟩
def M125 : Masks := ⟨[], []⟩
def M126 : Masks := ⟨[(100010, [2, 3, 10, 11, 39, 40]), (100011, [2, 3, 10, 54]), (100014, [2, 3, 10, 11, 39, 62]), (100017, [2, 3, 11, 73])], [(4, [2, 3, 4, 10, 11, 12])]⟩
def M128 : Masks := ⟨[], [(2, [0, 1, 7, 8])]⟩
def M130 : Masks := ⟨[], [(4, [0, 5, 17, 18, 19])]⟩
def M131 : Masks := ⟨[], [(3, [0, 5, 21, 22, 23])]⟩
def M134 : Masks := ⟨[], []⟩
def M136 : Masks := ⟨[], []⟩
def M144 : Masks := ⟨[], []⟩
def M151 : Masks := ⟨[(100013, [0, 4, 16, 52]), (100037, [0, 4, 127])], []⟩
def M152 : Masks := ⟨[], [(10, [2, 5, 6, 7])]⟩
def M153 : Masks := ⟨[], [(4, [1, 2, 15, 16, 17])]⟩
def M154 : Masks := ⟨[], []⟩
def M155 : Masks := ⟨[], [(4, [0, 1, 12, 13])]⟩
def M157 : Masks := ⟨[], [(4, [2, 6, 7, 8, 9])]⟩
def M158 : Masks := ⟨[(9, [0, 3, 4, 5])], [(5, [0, 3, 4])]⟩
def M159 : Masks := ⟨[], []⟩
def M166 : Masks := ⟨[], []⟩
def M187 : Masks := ⟨[], [(4, [0, 3, 4, 5]), (9, [3, 4, 6])]⟩
def M188 : Masks := ⟨[(16, [8])], [(5, [0, 2, 7, 8, 9, 10]), (13, [0, 7, 8, 12, 13])]⟩
def M189 : Masks := ⟨[], []⟩
def M190 : Masks := ⟨[], []⟩
def M191 : Masks := ⟨[], [(1, [0, 1, 2])]⟩
def M192 : Masks := ⟨[], []⟩
def M193 : Masks := ⟨[(8, [4, 8]), (16, [0, 1, 4, 11]), (25, [0, 1, 4, 7]), (44, [4])], []⟩
def M194 : Masks := ⟨[], []⟩
def M195 : Masks := ⟨[], []⟩
def M196 : Masks := ⟨[], []⟩
def M197 : Masks := ⟨[], []⟩
def M198 : Masks := ⟨[(5, [0, 3])], [(4, [0, 3])]⟩
def M199 : Masks := ⟨[(17, [0]), (100006, [0, 3, 4, 21]), (100008, [0, 3, 4, 33]), (100013, [0, 3, 4, 60])], []⟩
def M200 : Masks := ⟨[(12, [4, 7, 8]), (18, [0, 1, 4, 7, 8]), (31, [0, 1, 4, 7, 8]), (40, [1, 4, 8, 10, 11, 12])], [(4, [0, 1, 4, 7, 8]), (14, [0, 1, 4, 7, 8]), (21, [0, 4, 7, 8, 9]), (27, [0, 1, 4, 7, 8]), (36, [0, 1, 4, 8, 10, 11])]⟩
def M201 : Masks := ⟨[(3, [0, 1]), (100002, [0, 1, 22])], []⟩
def M202 : Masks := ⟨[], []⟩
def M203 : Masks := ⟨[], []⟩
def M204 : Masks := ⟨[], []⟩
def M205 : Masks := ⟨[(6, [0, 3])], [(5, [0, 3])]⟩
def M206 : Masks := ⟨[(100006, [0, 3, 4, 21]), (100009, [0, 3, 4, 41]), (100015, [0, 3, 4, 76])], []⟩
def M207 : Masks := ⟨[(17, [1]), (100006, [1, 4, 5])], []⟩
def M208 : Masks := ⟨[(100009, [0, 3, 5, 9, 10]), (100020, [0, 3, 5, 9, 59]), (100028, [0, 3, 5, 9, 81])], []⟩
def M220 : Masks := ⟨[(5, [0, 1, 2, 6, 7, 8]), (100013, [0, 1, 2, 7, 44, 45]), (100016, [0, 1, 2, 7, 44, 52]), (100020, [0, 7, 72])], [(6, [0, 1, 2, 6, 7, 8, 32, 33, 34])]⟩
def M221 : Masks := ⟨[(3, [1, 2, 3, 4, 5]), (6, [1, 2, 3, 4, 5, 12, 13]), (8, [1, 3, 4, 5, 12, 13]), (11, [1, 3, 4, 5, 12, 14]), (100002, [1, 2, 3, 4, 5, 31]), (100010, [1, 3, 4, 5, 12, 14, 69])], [(12, [1, 3, 4, 5, 12, 14, 16])]⟩
def M222 : Masks := ⟨[], [(2, [0, 1, 5])]⟩
def M225 : Masks := ⟨[(8, [0, 3, 4]), (100005, [0, 3, 4, 39]), (100009, [0, 3, 4, 78]), (100012, [0, 103]), (100015, [0, 113])], []⟩
def M228 : Masks := ⟨[], []⟩
def M247 : Masks := ⟨[(5, [0, 5, 6, 7, 8])], [(1, [0, 6, 7, 8])]⟩
def M248 : Masks := ⟨[(7, [0, 3, 4, 5])], [(4, [0, 3, 4])]⟩
def M249 : Masks := ⟨[], [(1, [0, 6, 7, 8])]⟩
def M250 : Masks := ⟨[(8, [0, 3, 5])], []⟩
def M251 : Masks := ⟨[], [(4, [0, 12, 13, 14])]⟩
def M252 : Masks := ⟨[(100002, [0, 3]), (100004, [0, 10]), (100010, [23])], []⟩
def M253 : Masks := ⟨[(26, [2, 3, 7]), (28, [2, 3, 7]), (32, [3]), (100023, [2, 3, 10, 104])], []⟩
def M254 : Masks := ⟨[], []⟩
def M255 : Masks := ⟨[], []⟩
def M272 : Masks := ⟨[(4, [0, 1, 2]), (46, [0, 1]), (100003, [0, 1, 2, 35]), (100007, [0, 1, 2, 42, 43]), (100014, [0, 1, 2, 42, 68]), (100026, [0, 1, 2, 42, 112])], []⟩
def M273 : Masks := ⟨[], []⟩
def M274 : Masks := ⟨[(5, [0]), (6, [0, 1, 2]), (28, [0, 1, 2]), (100003, [0, 1, 2, 7, 18]), (100004, [0, 7, 26])], []⟩
def M275 : Masks := ⟨[], []⟩
def M276 : Masks := ⟨[], []⟩
def M277 : Masks := ⟨[], []⟩
def M278 : Masks := ⟨[(5, [0, 1, 4, 6, 7])], [(6, [0, 4, 6, 7, 8])]⟩
def M279 : Masks := ⟨[], []⟩
def M280 : Masks := ⟨[], []⟩
def M281 : Masks := ⟨[(3, [0, 2]), (100002, [0, 2, 19])], []⟩
def M282 : Masks := ⟨[], []⟩
def M283 : Masks := ⟨[(2, [0]), (100001, [0, 12])], []⟩
def M284 : Masks := ⟨[], [(2, [0, 3])]⟩
def M285 : Masks := ⟨[], []⟩
def M286 : Masks := ⟨[], []⟩
def M287 : Masks := ⟨[], []⟩
def M288 : Masks := ⟨[], []⟩
def M289 : Masks := ⟨[], []⟩
def M290 : Masks := ⟨[(3, [0]), (100002, [0, 19])], []⟩
def M291 : Masks := ⟨[], []⟩
def M292 : Masks := ⟨[], []⟩
def M293 : Masks := ⟨[(13, [0, 1, 5, 6, 7]), (100010, [0, 1, 5, 6, 7, 28]), (100012, [0, 1, 5, 6, 7, 35])], [(4, [0, 1, 5])]⟩
def M294 : Masks := ⟨[], []⟩
def M295 : Masks := ⟨[], []⟩
def M296 : Masks := ⟨[], []⟩
def M297 : Masks := ⟨[], []⟩
def M298 : Masks := ⟨[], [(4, [0, 4, 15, 16, 17])]⟩
def M299 : Masks := ⟨[], []⟩
def M300 : Masks := ⟨[], []⟩
def M318 : Masks := ⟨[], [(2, [0, 1, 2, 6])]⟩
def M319 : Masks := ⟨[(39, [4, 5, 6]), (42, [4, 5, 6, 7]), (100016, [4, 5, 6, 13, 29]), (100026, [4, 5, 6, 13, 46])], [(6, [4, 5, 6]), (19, [4, 5, 6]), (40, [4, 5, 6, 7])]⟩
def M320 : Masks := ⟨[(14, [1]), (100006, [1, 5, 6])], [(9, [1, 3])]⟩
def M325 : Masks := ⟨[(17, [7, 8]), (19, [7]), (100018, [7, 58])], []⟩
def M326 : Masks := ⟨[], []⟩
def M327 : Masks := ⟨[(4, [3])], []⟩
def M328 : Masks := ⟨[], []⟩
def M341 : Masks := ⟨[], []⟩
def M342 : Masks := ⟨[(7, [1, 2, 5, 6])], [(3, [1, 2, 5, 6])]⟩
def M343 : Masks := ⟨[], []⟩
def M349 : Masks := ⟨[], []⟩
def M350 : Masks := ⟨[(4, [0, 1, 2]), (6, [0, 1, 2]), (100003, [0, 1, 2, 7, 16]), (100005, [0, 1, 2, 25])], []⟩
def M351 : Masks := ⟨[(8, [0, 1, 2, 7, 8, 9])], [(4, [0, 1, 2, 7, 8, 9])]⟩
def M352 : Masks := ⟨[], [(3, [0, 1, 5, 6])]⟩
def M353 : Masks := ⟨[], []⟩
def M354 : Masks := ⟨[], []⟩
def M355 : Masks := ⟨[(11, [0, 1, 9, 10, 11]), (12, [1, 9, 10, 11]), (100010, [0, 1, 9, 10, 11, 44])], [(5, [0, 1, 2, 3, 9, 10, 11, 12, 13])]⟩
def M356 : Masks := ⟨[], [(2, [0, 3])]⟩
def M357 : Masks := ⟨[], []⟩
def M358 : Masks := ⟨[(9, [0, 3])], []⟩
def M359 : Masks := ⟨[(100006, [0, 1, 5, 6, 7, 27])], [(3, [0, 1, 5, 6, 7])]⟩
def M360 : Masks := ⟨[], []⟩
def M361 : Masks := ⟨[], []⟩
def M362 : Masks := ⟨[], []⟩
def M376 : Masks := ⟨[(3, [0]), (100002, [0, 11])], [(4, [0, 3])]⟩
def M378 : Masks := ⟨[(100002, [0, 1, 13])], []⟩
def M382 : Masks := ⟨[], []⟩
def M383 : Masks := ⟨[(8, [0, 4]), (10, [0, 4])], [(2, [0, 3]), (7, [0, 4])]⟩
def M384 : Masks := ⟨[], []⟩
def M385 : Masks := ⟨[], [(2, [0, 1, 7, 8])]⟩
def M405 : Masks := ⟨[], []⟩
def M406 : Masks := ⟨[], [(2, [0, 7, 8, 9])]⟩
def M407 : Masks := ⟨[], []⟩
def M415 : Masks := ⟨[], [(2, [0, 1, 2, 7])]⟩
def M416 : Masks := ⟨[], []⟩
def M417 : Masks := ⟨[(4, [0, 3]), (6, [0, 3])], [(3, [0, 3])]⟩
def M418 : Masks := ⟨[(3, [0, 3]), (5, [0, 3])], [(2, [0, 3])]⟩
def M421 : Masks := ⟨[], []⟩
def M422 : Masks := ⟨[(14, [0]), (100009, [0, 77])], []⟩
def M424 : Masks := ⟨[(9, [0, 3])], []⟩
def M425 : Masks := ⟨[], [(3, [0, 3])]⟩
def M426 : Masks := ⟨[], []⟩
def M427 : Masks := ⟨[], [(5, [0, 3])]⟩
def M428 : Masks := ⟨[(8, [0, 3])], [(4, [0, 3])]⟩
def M429 : Masks := ⟨[], [(4, [0, 3])]⟩
def M430 : Masks := ⟨[(13, [0]), (100009, [0, 5, 71])], []⟩
theorem hk0_app {R : Type} (i : Nat) (t : Tm) (h : AHeap) (x : Nx R) : hk0 i t h x = x t h := rfl
def Ms (k : Nat) : Masks :=
 (bif Nat.blt k 251 then (bif Nat.blt k 151 then (bif Nat.blt k 98 then (bif Nat.blt k 37 then (bif Nat.blt k 23 then (bif Nat.blt k 20 then (bif Nat.blt k 19 then (bif Nat.beq k 4 then M4 else ⟨[], []⟩) else (bif Nat.beq k 19 then M19 else ⟨[], []⟩)) else (bif Nat.blt k 21 then (bif Nat.beq k 20 then M20 else ⟨[], []⟩) else (bif Nat.blt k 22 then (bif Nat.beq k 21 then M21 else ⟨[], []⟩) else (bif Nat.beq k 22 then M22 else ⟨[], []⟩)))) else (bif Nat.blt k 33 then (bif Nat.blt k 24 then (bif Nat.beq k 23 then M23 else ⟨[], []⟩) else (bif Nat.beq k 24 then M24 else ⟨[], []⟩)) else (bif Nat.blt k 34 then (bif Nat.beq k 33 then M33 else ⟨[], []⟩) else (bif Nat.blt k 35 then (bif Nat.beq k 34 then M34 else ⟨[], []⟩) else (bif Nat.beq k 35 then M35 else ⟨[], []⟩))))) else (bif Nat.blt k 54 then (bif Nat.blt k 42 then (bif Nat.blt k 39 then (bif Nat.beq k 37 then M37 else ⟨[], []⟩) else (bif Nat.beq k 39 then M39 else ⟨[], []⟩)) else (bif Nat.blt k 52 then (bif Nat.beq k 42 then M42 else ⟨[], []⟩) else (bif Nat.blt k 53 then (bif Nat.beq k 52 then M52 else ⟨[], []⟩) else (bif Nat.beq k 53 then M53 else ⟨[], []⟩)))) else (bif Nat.blt k 61 then (bif Nat.blt k 60 then (bif Nat.beq k 54 then M54 else ⟨[], []⟩) else (bif Nat.beq k 60 then M60 else ⟨[], []⟩)) else (bif Nat.blt k 62 then (bif Nat.beq k 61 then M61 else ⟨[], []⟩) else (bif Nat.blt k 63 then (bif Nat.beq k 62 then M62 else ⟨[], []⟩) else (bif Nat.beq k 63 then M63 else ⟨[], []⟩)))))) else (bif Nat.blt k 123 then (bif Nat.blt k 103 then (bif Nat.blt k 100 then (bif Nat.blt k 99 then (bif Nat.beq k 98 then M98 else ⟨[], []⟩) else (bif Nat.beq k 99 then M99 else ⟨[], []⟩)) else (bif Nat.blt k 101 then (bif Nat.beq k 100 then M100 else ⟨[], []⟩) else (bif Nat.blt k 102 then (bif Nat.beq k 101 then M101 else ⟨[], []⟩) else (bif Nat.beq k 102 then M102 else ⟨[], []⟩)))) else (bif Nat.blt k 105 then (bif Nat.blt k 104 then (bif Nat.beq k 103 then M103 else ⟨[], []⟩) else (bif Nat.beq k 104 then M104 else ⟨[], []⟩)) else (bif Nat.blt k 106 then (bif Nat.beq k 105 then M105 else ⟨[], []⟩) else (bif Nat.blt k 107 then (bif Nat.beq k 106 then M106 else ⟨[], []⟩) else (bif Nat.beq k 107 then M107 else ⟨[], []⟩))))) else (bif Nat.blt k 130 then (bif Nat.blt k 125 then (bif Nat.blt k 124 then (bif Nat.beq k 123 then M123 else ⟨[], []⟩) else (bif Nat.beq k 124 then M124 else ⟨[], []⟩)) else (bif Nat.blt k 126 then (bif Nat.beq k 125 then M125 else ⟨[], []⟩) else (bif Nat.blt k 128 then (bif Nat.beq k 126 then M126 else ⟨[], []⟩) else (bif Nat.beq k 128 then M128 else ⟨[], []⟩)))) else (bif Nat.blt k 134 then (bif Nat.blt k 131 then (bif Nat.beq k 130 then M130 else ⟨[], []⟩) else (bif Nat.beq k 131 then M131 else ⟨[], []⟩)) else (bif Nat.blt k 136 then (bif Nat.beq k 134 then M134 else ⟨[], []⟩) else (bif Nat.blt k 144 then (bif Nat.beq k 136 then M136 else ⟨[], []⟩) else (bif Nat.beq k 144 then M144 else ⟨[], []⟩))))))) else (bif Nat.blt k 198 then (bif Nat.blt k 188 then (bif Nat.blt k 157 then (bif Nat.blt k 153 then (bif Nat.blt k 152 then (bif Nat.beq k 151 then M151 else ⟨[], []⟩) else (bif Nat.beq k 152 then M152 else ⟨[], []⟩)) else (bif Nat.blt k 154 then (bif Nat.beq k 153 then M153 else ⟨[], []⟩) else (bif Nat.blt k 155 then (bif Nat.beq k 154 then M154 else ⟨[], []⟩) else (bif Nat.beq k 155 then M155 else ⟨[], []⟩)))) else (bif Nat.blt k 159 then (bif Nat.blt k 158 then (bif Nat.beq k 157 then M157 else ⟨[], []⟩) else (bif Nat.beq k 158 then M158 else ⟨[], []⟩)) else (bif Nat.blt k 166 then (bif Nat.beq k 159 then M159 else ⟨[], []⟩) else (bif Nat.blt k 187 then (bif Nat.beq k 166 then M166 else ⟨[], []⟩) else (bif Nat.beq k 187 then M187 else ⟨[], []⟩))))) else (bif Nat.blt k 193 then (bif Nat.blt k 190 then (bif Nat.blt k 189 then (bif Nat.beq k 188 then M188 else ⟨[], []⟩) else (bif Nat.beq k 189 then M189 else ⟨[], []⟩)) else (bif Nat.blt k 191 then (bif Nat.beq k 190 then M190 else ⟨[], []⟩) else (bif Nat.blt k 192 then (bif Nat.beq k 191 then M191 else ⟨[], []⟩) else (bif Nat.beq k 192 then M192 else ⟨[], []⟩)))) else (bif Nat.blt k 195 then (bif Nat.blt k 194 then (bif Nat.beq k 193 then M193 else ⟨[], []⟩) else (bif Nat.beq k 194 then M194 else ⟨[], []⟩)) else (bif Nat.blt k 196 then (bif Nat.beq k 195 then M195 else ⟨[], []⟩) else (bif Nat.blt k 197 then (bif Nat.beq k 196 then M196 else ⟨[], []⟩) else (bif Nat.beq k 197 then M197 else ⟨[], []⟩)))))) else (bif Nat.blt k 208 then (bif Nat.blt k 203 then (bif Nat.blt k 200 then (bif Nat.blt k 199 then (bif Nat.beq k 198 then M198 else ⟨[], []⟩) else (bif Nat.beq k 199 then M199 else ⟨[], []⟩)) else (bif Nat.blt k 201 then (bif Nat.beq k 200 then M200 else ⟨[], []⟩) else (bif Nat.blt k 202 then (bif Nat.beq k 201 then M201 else ⟨[], []⟩) else (bif Nat.beq k 202 then M202 else ⟨[], []⟩)))) else (bif Nat.blt k 205 then (bif Nat.blt k 204 then (bif Nat.beq k 203 then M203 else ⟨[], []⟩) else (bif Nat.beq k 204 then M204 else ⟨[], []⟩)) else (bif Nat.blt k 206 then (bif Nat.beq k 205 then M205 else ⟨[], []⟩) else (bif Nat.blt k 207 then (bif Nat.beq k 206 then M206 else ⟨[], []⟩) else (bif Nat.beq k 207 then M207 else ⟨[], []⟩))))) else (bif Nat.blt k 228 then (bif Nat.blt k 221 then (bif Nat.blt k 220 then (bif Nat.beq k 208 then M208 else ⟨[], []⟩) else (bif Nat.beq k 220 then M220 else ⟨[], []⟩)) else (bif Nat.blt k 222 then (bif Nat.beq k 221 then M221 else ⟨[], []⟩) else (bif Nat.blt k 225 then (bif Nat.beq k 222 then M222 else ⟨[], []⟩) else (bif Nat.beq k 225 then M225 else ⟨[], []⟩)))) else (bif Nat.blt k 248 then (bif Nat.blt k 247 then (bif Nat.beq k 228 then M228 else ⟨[], []⟩) else (bif Nat.beq k 247 then M247 else ⟨[], []⟩)) else (bif Nat.blt k 249 then (bif Nat.beq k 248 then M248 else ⟨[], []⟩) else (bif Nat.blt k 250 then (bif Nat.beq k 249 then M249 else ⟨[], []⟩) else (bif Nat.beq k 250 then M250 else ⟨[], []⟩)))))))) else (bif Nat.blt k 328 then (bif Nat.blt k 287 then (bif Nat.blt k 277 then (bif Nat.blt k 272 then (bif Nat.blt k 253 then (bif Nat.blt k 252 then (bif Nat.beq k 251 then M251 else ⟨[], []⟩) else (bif Nat.beq k 252 then M252 else ⟨[], []⟩)) else (bif Nat.blt k 254 then (bif Nat.beq k 253 then M253 else ⟨[], []⟩) else (bif Nat.blt k 255 then (bif Nat.beq k 254 then M254 else ⟨[], []⟩) else (bif Nat.beq k 255 then M255 else ⟨[], []⟩)))) else (bif Nat.blt k 274 then (bif Nat.blt k 273 then (bif Nat.beq k 272 then M272 else ⟨[], []⟩) else (bif Nat.beq k 273 then M273 else ⟨[], []⟩)) else (bif Nat.blt k 275 then (bif Nat.beq k 274 then M274 else ⟨[], []⟩) else (bif Nat.blt k 276 then (bif Nat.beq k 275 then M275 else ⟨[], []⟩) else (bif Nat.beq k 276 then M276 else ⟨[], []⟩))))) else (bif Nat.blt k 282 then (bif Nat.blt k 279 then (bif Nat.blt k 278 then (bif Nat.beq k 277 then M277 else ⟨[], []⟩) else (bif Nat.beq k 278 then M278 else ⟨[], []⟩)) else (bif Nat.blt k 280 then (bif Nat.beq k 279 then M279 else ⟨[], []⟩) else (bif Nat.blt k 281 then (bif Nat.beq k 280 then M280 else ⟨[], []⟩) else (bif Nat.beq k 281 then M281 else ⟨[], []⟩)))) else (bif Nat.blt k 284 then (bif Nat.blt k 283 then (bif Nat.beq k 282 then M282 else ⟨[], []⟩) else (bif Nat.beq k 283 then M283 else ⟨[], []⟩)) else (bif Nat.blt k 285 then (bif Nat.beq k 284 then M284 else ⟨[], []⟩) else (bif Nat.blt k 286 then (bif Nat.beq k 285 then M285 else ⟨[], []⟩) else (bif Nat.beq k 286 then M286 else ⟨[], []⟩)))))) else (bif Nat.blt k 297 then (bif Nat.blt k 292 then (bif Nat.blt k 289 then (bif Nat.blt k 288 then (bif Nat.beq k 287 then M287 else ⟨[], []⟩) else (bif Nat.beq k 288 then M288 else ⟨[], []⟩)) else (bif Nat.blt k 290 then (bif Nat.beq k 289 then M289 else ⟨[], []⟩) else (bif Nat.blt k 291 then (bif Nat.beq k 290 then M290 else ⟨[], []⟩) else (bif Nat.beq k 291 then M291 else ⟨[], []⟩)))) else (bif Nat.blt k 294 then (bif Nat.blt k 293 then (bif Nat.beq k 292 then M292 else ⟨[], []⟩) else (bif Nat.beq k 293 then M293 else ⟨[], []⟩)) else (bif Nat.blt k 295 then (bif Nat.beq k 294 then M294 else ⟨[], []⟩) else (bif Nat.blt k 296 then (bif Nat.beq k 295 then M295 else ⟨[], []⟩) else (bif Nat.beq k 296 then M296 else ⟨[], []⟩))))) else (bif Nat.blt k 319 then (bif Nat.blt k 299 then (bif Nat.blt k 298 then (bif Nat.beq k 297 then M297 else ⟨[], []⟩) else (bif Nat.beq k 298 then M298 else ⟨[], []⟩)) else (bif Nat.blt k 300 then (bif Nat.beq k 299 then M299 else ⟨[], []⟩) else (bif Nat.blt k 318 then (bif Nat.beq k 300 then M300 else ⟨[], []⟩) else (bif Nat.beq k 318 then M318 else ⟨[], []⟩)))) else (bif Nat.blt k 325 then (bif Nat.blt k 320 then (bif Nat.beq k 319 then M319 else ⟨[], []⟩) else (bif Nat.beq k 320 then M320 else ⟨[], []⟩)) else (bif Nat.blt k 326 then (bif Nat.beq k 325 then M325 else ⟨[], []⟩) else (bif Nat.blt k 327 then (bif Nat.beq k 326 then M326 else ⟨[], []⟩) else (bif Nat.beq k 327 then M327 else ⟨[], []⟩))))))) else (bif Nat.blt k 382 then (bif Nat.blt k 355 then (bif Nat.blt k 350 then (bif Nat.blt k 342 then (bif Nat.blt k 341 then (bif Nat.beq k 328 then M328 else ⟨[], []⟩) else (bif Nat.beq k 341 then M341 else ⟨[], []⟩)) else (bif Nat.blt k 343 then (bif Nat.beq k 342 then M342 else ⟨[], []⟩) else (bif Nat.blt k 349 then (bif Nat.beq k 343 then M343 else ⟨[], []⟩) else (bif Nat.beq k 349 then M349 else ⟨[], []⟩)))) else (bif Nat.blt k 352 then (bif Nat.blt k 351 then (bif Nat.beq k 350 then M350 else ⟨[], []⟩) else (bif Nat.beq k 351 then M351 else ⟨[], []⟩)) else (bif Nat.blt k 353 then (bif Nat.beq k 352 then M352 else ⟨[], []⟩) else (bif Nat.blt k 354 then (bif Nat.beq k 353 then M353 else ⟨[], []⟩) else (bif Nat.beq k 354 then M354 else ⟨[], []⟩))))) else (bif Nat.blt k 360 then (bif Nat.blt k 357 then (bif Nat.blt k 356 then (bif Nat.beq k 355 then M355 else ⟨[], []⟩) else (bif Nat.beq k 356 then M356 else ⟨[], []⟩)) else (bif Nat.blt k 358 then (bif Nat.beq k 357 then M357 else ⟨[], []⟩) else (bif Nat.blt k 359 then (bif Nat.beq k 358 then M358 else ⟨[], []⟩) else (bif Nat.beq k 359 then M359 else ⟨[], []⟩)))) else (bif Nat.blt k 362 then (bif Nat.blt k 361 then (bif Nat.beq k 360 then M360 else ⟨[], []⟩) else (bif Nat.beq k 361 then M361 else ⟨[], []⟩)) else (bif Nat.blt k 376 then (bif Nat.beq k 362 then M362 else ⟨[], []⟩) else (bif Nat.blt k 378 then (bif Nat.beq k 376 then M376 else ⟨[], []⟩) else (bif Nat.beq k 378 then M378 else ⟨[], []⟩)))))) else (bif Nat.blt k 418 then (bif Nat.blt k 406 then (bif Nat.blt k 384 then (bif Nat.blt k 383 then (bif Nat.beq k 382 then M382 else ⟨[], []⟩) else (bif Nat.beq k 383 then M383 else ⟨[], []⟩)) else (bif Nat.blt k 385 then (bif Nat.beq k 384 then M384 else ⟨[], []⟩) else (bif Nat.blt k 405 then (bif Nat.beq k 385 then M385 else ⟨[], []⟩) else (bif Nat.beq k 405 then M405 else ⟨[], []⟩)))) else (bif Nat.blt k 415 then (bif Nat.blt k 407 then (bif Nat.beq k 406 then M406 else ⟨[], []⟩) else (bif Nat.beq k 407 then M407 else ⟨[], []⟩)) else (bif Nat.blt k 416 then (bif Nat.beq k 415 then M415 else ⟨[], []⟩) else (bif Nat.blt k 417 then (bif Nat.beq k 416 then M416 else ⟨[], []⟩) else (bif Nat.beq k 417 then M417 else ⟨[], []⟩))))) else (bif Nat.blt k 426 then (bif Nat.blt k 422 then (bif Nat.blt k 421 then (bif Nat.beq k 418 then M418 else ⟨[], []⟩) else (bif Nat.beq k 421 then M421 else ⟨[], []⟩)) else (bif Nat.blt k 424 then (bif Nat.beq k 422 then M422 else ⟨[], []⟩) else (bif Nat.blt k 425 then (bif Nat.beq k 424 then M424 else ⟨[], []⟩) else (bif Nat.beq k 425 then M425 else ⟨[], []⟩)))) else (bif Nat.blt k 428 then (bif Nat.blt k 427 then (bif Nat.beq k 426 then M426 else ⟨[], []⟩) else (bif Nat.beq k 427 then M427 else ⟨[], []⟩)) else (bif Nat.blt k 429 then (bif Nat.beq k 428 then M428 else ⟨[], []⟩) else (bif Nat.blt k 430 then (bif Nat.beq k 429 then M429 else ⟨[], []⟩) else (bif Nat.beq k 430 then M430 else ⟨[], []⟩)))))))))
noncomputable section
variable (hk : Hk (Value × AHeap)) (C : ACall) (N : Nat)
def F103_0 (n1 : Nat) : Nx (Value × AHeap) := evSt hk Tp C M103 N Tryz.f103 [1, 1, 1, 1, 0, 2, 6] [n1]
def s103_0 (n1 : Nat) (x0 : ByteArray) (x5 : Value) (x6 : Int) (h : AHeap) := F103_0 hk C N n1 (⟨79, [(0, .string x0), (5, x5), (6, .int .i64 x6)]⟩) h
def F103_1 (n1 : Nat) : Nx (Value × AHeap) := evSt hk Tp C M103 N Tryz.f103 [1, 1, 1, 1, 0, 2, 3, 1, 2, 1, 1] [n1]
def s103_1 (n1 : Nat) (x0 : ByteArray) (x5 : Value) (x6 x7 : Int) (h : AHeap) := hk 9 (⟨79, [(0, .string x0), (5, x5), (6, .int .i64 x6), (7, .int .u8 x7)]⟩) h (F103_1 hk C N n1)
def F103_2 (n1 : Nat) : Nx (Value × AHeap) := evSt hk Tp C M103 N Tryz.f103 [1, 1, 1, 1, 0, 2, 3, 1, 2, 1, 1, 0, 1, 4] [n1]
def s103_2 (n1 : Nat) (x0 : ByteArray) (x5 : Value) (x6 : Int) (h : AHeap) := hk 10 (⟨79, [(0, .string x0), (5, x5), (6, .int .i64 x6)]⟩) h (F103_2 hk C N n1)
def F103_4 (n1 : Nat) : Nx (Value × AHeap) := evSt hk Tp C M103 N Tryz.f103 [1, 1, 1, 1, 0, 2, 3, 1, 2, 1, 1, 1] [n1]
def s103_4 (n1 : Nat) (x0 : ByteArray) (x5 : Value) (x6 : Int) (h : AHeap) := hk 12 (⟨79, [(0, .string x0), (5, x5), (6, .int .i64 x6)]⟩) h (F103_4 hk C N n1)
def F103_3 (n1 n2 : Nat) : Nx (Value × AHeap) := evSt hk Tp C M103 N Tryz.f103 [1, 1, 1, 1, 0, 2, 3, 1, 2, 1, 1, 0, 1, 4, 0, 2, 6] [n1, n2]
def s103_3 (n1 n2 : Nat) (x0 : ByteArray) (x5 : Value) (x6 : Int) (h : AHeap) := F103_3 hk C N n1 n2 (⟨79, [(0, .string x0), (5, x5), (6, .int .i64 x6)]⟩) h
theorem e103 (x0 : ByteArray) (h : AHeap) : evFn hk Tp C M103 N Tryz.f103 [.string x0] h =
  bif decide ((ByteArray.size x0 : Int) > 3000) then some (.tuple (List.toArray [(.slice none 0 0), .int .i64 1, .int .i64 0]), h) else aNewS h 233 [] 0 fun p1 h2 => s103_0 hk C N N x0 p1 0 h2 := by kernel_rfl
theorem s103_0_eq (n1 : Nat) (x0 : ByteArray) (x5 : Value) (x6 : Int) (h : AHeap) : s103_0 hk C N (n1 + 1) x0 x5 x6 h =
  bif decide (x6 < (ByteArray.size x0 : Int)) then (aStrIx (.string x0) (.int .i64 x6)).bind fun v3 => (asI .u8 v3).bind fun n4 => bif n4 == 9 then s103_0 hk C N n1 x0 x5 (IntKind.i64.wrap (x6 + 1)) h else bif n4 == 10 then s103_0 hk C N n1 x0 x5 (IntKind.i64.wrap (x6 + 1)) h else bif n4 == 32 then s103_0 hk C N n1 x0 x5 (IntKind.i64.wrap (x6 + 1)) h else s103_1 hk C N n1 x0 x5 x6 n4 h else bif List.all [x5, .int .i64 0, .int .i64 0] isS2 then some (.tuple (List.toArray [x5, .int .i64 0, .int .i64 0]), h) else none := by kernel_rfl
theorem s103_1_j (n1 : Nat) (x0 : ByteArray) (x5 : Value) (x6 x7 : Int) (h : AHeap) : s103_1 hk0 C N n1 x0 x5 x6 x7 h = F103_1 hk0 C N n1 (⟨79, [(0, .string x0), (5, x5), (6, .int .i64 x6), (7, .int .u8 x7)]⟩) h := by delta s103_1; exact hk0_app _ _ _ _
theorem s103_1_eq (n1 : Nat) (x0 : ByteArray) (x5 : Value) (x6 x7 : Int) (h : AHeap) : F103_1 hk C N n1 (⟨79, [(0, .string x0), (5, x5), (6, .int .i64 x6), (7, .int .u8 x7)]⟩) h =
  bif x7 == 45 then bif decide ((IntKind.i64.wrap (x6 + 1)) < (ByteArray.size x0 : Int)) then (aStrIx (.string x0) (.int .i64 (IntKind.i64.wrap (x6 + 1)))).bind fun v5 => (asI .u8 v5).bind fun n6 => bif n6 == 45 then s103_2 hk C N n1 x0 x5 x6 h else s103_4 hk C N n1 x0 x5 x6 h else s103_4 hk C N n1 x0 x5 x6 h else s103_4 hk C N n1 x0 x5 x6 h := by kernel_rfl
theorem s103_2_j (n1 : Nat) (x0 : ByteArray) (x5 : Value) (x6 : Int) (h : AHeap) : s103_2 hk0 C N n1 x0 x5 x6 h = F103_2 hk0 C N n1 (⟨79, [(0, .string x0), (5, x5), (6, .int .i64 x6)]⟩) h := by delta s103_2; exact hk0_app _ _ _ _
theorem s103_2_eq (n1 : Nat) (x0 : ByteArray) (x5 : Value) (x6 : Int) (h : AHeap) : F103_2 hk C N n1 (⟨79, [(0, .string x0), (5, x5), (6, .int .i64 x6)]⟩) h =
  s103_3 hk C N n1 N x0 x5 x6 h := by kernel_rfl
theorem s103_4_j (n1 : Nat) (x0 : ByteArray) (x5 : Value) (x6 : Int) (h : AHeap) : s103_4 hk0 C N n1 x0 x5 x6 h = F103_4 hk0 C N n1 (⟨79, [(0, .string x0), (5, x5), (6, .int .i64 x6)]⟩) h := by delta s103_4; exact hk0_app _ _ _ _
theorem s103_4_eq (n1 : Nat) (x0 : ByteArray) (x5 : Value) (x6 : Int) (h : AHeap) : F103_4 hk C N n1 (⟨79, [(0, .string x0), (5, x5), (6, .int .i64 x6)]⟩) h =
  (C 200 [.string x0, .int .i64 x6] h).bind fun r7 => (aExt r7.1 0).bind fun v8 => (aExt r7.1 1).bind fun v9 => (asI .i64 v9).bind fun n10 => (aExt r7.1 2).bind fun v11 => (asI .i64 v11).bind fun n12 => aNew r7.2 233 [.int .i64 0, .int .i64 0, .string ⟨#[]⟩, .int .i64 0] fun p13 h14 => (aSt h14 p13 v8 4).bind fun h15 => bif n10 != 0 then some (.tuple (List.toArray [(.slice none 0 0), .int .i64 n10, .int .i64 x6]), h15) else (aLdN h15 p13 4).bind fun v16 => (aFill [.int .i64 0, .int .i64 0, .string ⟨#[]⟩, .int .i64 0] [(0, 4, v16)]).bind fun c17 => aNewS h15 233 c17 1 fun p18 h19 => (aApp h19 233 4 40 x5 p18).bind fun r20 => s103_0 hk C N n1 x0 r20.1 n12 r20.2 := by kernel_rfl
theorem s103_3_eq (n1 n2 : Nat) (x0 : ByteArray) (x5 : Value) (x6 : Int) (h : AHeap) : s103_3 hk C N n1 (n2 + 1) x0 x5 x6 h =
  bif decide (x6 < (ByteArray.size x0 : Int)) then (aStrIx (.string x0) (.int .i64 x6)).bind fun v21 => (asI .u8 v21).bind fun n22 => bif n22 != 10 then s103_3 hk C N n1 n2 x0 x5 (IntKind.i64.wrap (x6 + 1)) h else s103_0 hk C N n1 x0 x5 x6 h else s103_0 hk C N n1 x0 x5 x6 h := by kernel_rfl
theorem c103 (d : Nat) (args : List Value) (h : AHeap) : call Tp Ms (d + 1) 103 args h = evFn hk0 Tp (call Tp Ms d) M103 d Tryz.f103 args h := by kernel_rfl
def F100_0 (n1 : Nat) : Nx (Value × AHeap) := evSt hk Tp C M100 N Tryz.f100 [1, 1, 1, 0, 1, 2, 6] [n1]
def s100_0 (n1 : Nat) (x0 : ByteArray) (x5 : Value) (x6 : Int) (h : AHeap) := F100_0 hk C N n1 (⟨74, [(0, .string x0), (5, x5), (6, .int .i64 x6)]⟩) h
def F100_1 (n1 : Nat) : Nx (Value × AHeap) := evSt hk Tp C M100 N Tryz.f100 [1, 1, 1, 0, 1, 2, 3, 1, 2, 1, 2, 1, 5] [n1]
def s100_1 (n1 : Nat) (x0 : ByteArray) (x5 : Value) (x6 x7 : Int) (h : AHeap) := hk 14 (⟨74, [(0, .string x0), (5, x5), (6, .int .i64 x6), (7, .int .u8 x7)]⟩) h (F100_1 hk C N n1)
def F100_2 (n1 : Nat) : Nx (Value × AHeap) := evSt hk Tp C M100 N Tryz.f100 [1, 1, 1, 0, 1, 2, 3, 1, 2, 1, 2, 1, 5, 1, 5] [n1]
def s100_2 (n1 : Nat) (x0 : ByteArray) (x5 : Value) (x6 : Int) (h : AHeap) := hk 7 (⟨74, [(0, .string x0), (5, x5), (6, .int .i64 x6)]⟩) h (F100_2 hk C N n1)
theorem e100 (x0 : ByteArray) (h : AHeap) : evFn hk Tp C M100 N Tryz.f100 [.string x0] h =
  bif decide ((ByteArray.size x0 : Int) > 3000) then some (.tuple (List.toArray [(.slice none 0 0), .int .i64 1, .int .i64 0]), h) else aNewS h 233 [] 0 fun p1 h2 => s100_0 hk C N N x0 p1 0 h2 := by kernel_rfl
theorem s100_0_eq (n1 : Nat) (x0 : ByteArray) (x5 : Value) (x6 : Int) (h : AHeap) : s100_0 hk C N (n1 + 1) x0 x5 x6 h =
  bif decide (x6 < (ByteArray.size x0 : Int)) then (aStrIx (.string x0) (.int .i64 x6)).bind fun v3 => (asI .u8 v3).bind fun n4 => bif n4 == 9 then s100_0 hk C N n1 x0 x5 (IntKind.i64.wrap (x6 + 1)) h else bif n4 == 10 then s100_0 hk C N n1 x0 x5 (IntKind.i64.wrap (x6 + 1)) h else bif n4 == 32 then s100_0 hk C N n1 x0 x5 (IntKind.i64.wrap (x6 + 1)) h else s100_1 hk C N n1 x0 x5 x6 n4 h else bif List.all [x5, .int .i64 0, .int .i64 0] isS2 then some (.tuple (List.toArray [x5, .int .i64 0, .int .i64 0]), h) else none := by kernel_rfl
theorem s100_1_j (n1 : Nat) (x0 : ByteArray) (x5 : Value) (x6 x7 : Int) (h : AHeap) : s100_1 hk0 C N n1 x0 x5 x6 x7 h = F100_1 hk0 C N n1 (⟨74, [(0, .string x0), (5, x5), (6, .int .i64 x6), (7, .int .u8 x7)]⟩) h := by delta s100_1; exact hk0_app _ _ _ _
theorem s100_1_eq (n1 : Nat) (x0 : ByteArray) (x5 : Value) (x6 x7 : Int) (h : AHeap) : F100_1 hk C N n1 (⟨74, [(0, .string x0), (5, x5), (6, .int .i64 x6), (7, .int .u8 x7)]⟩) h =
  bif x7 == 45 then bif decide ((IntKind.i64.wrap (x6 + 1)) < (ByteArray.size x0 : Int)) then (aStrIx (.string x0) (.int .i64 (IntKind.i64.wrap (x6 + 1)))).bind fun v5 => (asI .u8 v5).bind fun n6 => bif n6 == 45 then (C 191 [.string x0, .int .i64 x6, (.func (.func 192) #[] #[])] h).bind fun r7 => (asI .i64 r7.1).bind fun n8 => s100_0 hk C N n1 x0 x5 n8 r7.2 else s100_2 hk C N n1 x0 x5 x6 h else s100_2 hk C N n1 x0 x5 x6 h else s100_2 hk C N n1 x0 x5 x6 h := by kernel_rfl
theorem s100_2_j (n1 : Nat) (x0 : ByteArray) (x5 : Value) (x6 : Int) (h : AHeap) : s100_2 hk0 C N n1 x0 x5 x6 h = F100_2 hk0 C N n1 (⟨74, [(0, .string x0), (5, x5), (6, .int .i64 x6)]⟩) h := by delta s100_2; exact hk0_app _ _ _ _
theorem s100_2_eq (n1 : Nat) (x0 : ByteArray) (x5 : Value) (x6 : Int) (h : AHeap) : F100_2 hk C N n1 (⟨74, [(0, .string x0), (5, x5), (6, .int .i64 x6)]⟩) h =
  (C 193 [.string x0, .int .i64 x6] h).bind fun r9 => (aExt r9.1 0).bind fun v10 => (aExt r9.1 1).bind fun v11 => (asI .i64 v11).bind fun n12 => (aExt r9.1 2).bind fun v13 => (asI .i64 v13).bind fun n14 => aNew r9.2 233 [.int .i64 0, .int .i64 0, .string ⟨#[]⟩, .int .i64 0] fun p15 h16 => (aSt h16 p15 v10 4).bind fun h17 => bif n14 != 0 then some (.tuple (List.toArray [(.slice none 0 0), .int .i64 n14, .int .i64 x6]), h17) else (aLdN h17 p15 4).bind fun v18 => (aFill [.int .i64 0, .int .i64 0, .string ⟨#[]⟩, .int .i64 0] [(0, 4, v18)]).bind fun c19 => aNewS h17 233 c19 1 fun p20 h21 => (aApp h21 233 4 40 x5 p20).bind fun r22 => s100_0 hk C N n1 x0 r22.1 (IntKind.i64.wrap (x6 + n12)) r22.2 := by kernel_rfl
theorem c100 (d : Nat) (args : List Value) (h : AHeap) : call Tp Ms (d + 1) 100 args h = evFn hk0 Tp (call Tp Ms d) M100 d Tryz.f100 args h := by kernel_rfl
def F200_0 (n1 : Nat) : Nx (Value × AHeap) := evSt hk Tp C M200 N Tryz.f200 [1, 1, 1, 0, 2, 1, 4, 0, 2, 6] [n1]
def s200_0 (n1 : Nat) (x0 : ByteArray) (x1 : Int) (x4 : Value) (x7 : Int) (x8 : Value) (h : AHeap) := F200_0 hk C N n1 (⟨213, [(0, .string x0), (1, .int .i64 x1), (4, x4), (7, .int .i64 x7), (8, x8)]⟩) h
def F200_2 (n1 : Nat) : Nx (Value × AHeap) := evSt hk Tp C M200 N Tryz.f200 [1, 1, 1, 0, 2, 1, 5, 1, 4, 0, 2, 6] [n1]
def s200_2 (n1 : Nat) (x0 : ByteArray) (x1 : Int) (x4 : Value) (x7 : Int) (x8 : Value) (h : AHeap) := F200_2 hk C N n1 (⟨213, [(0, .string x0), (1, .int .i64 x1), (4, x4), (7, .int .i64 x7), (8, x8)]⟩) h
def F200_5 (n1 : Nat) : Nx (Value × AHeap) := evSt hk Tp C M200 N Tryz.f200 [1, 1, 1, 0, 2, 1, 5, 1, 5, 1, 4, 1, 0, 2, 6] [n1]
def s200_5 (n1 : Nat) (x0 : ByteArray) (x1 : Int) (x4 : Value) (x7 : Int) (x8 : Value) (h : AHeap) := F200_5 hk C N n1 (⟨213, [(0, .string x0), (1, .int .i64 x1), (4, x4), (7, .int .i64 x7), (8, x8)]⟩) h
def F200_7 (n1 : Nat) : Nx (Value × AHeap) := evSt hk Tp C M200 N Tryz.f200 [1, 1, 1, 1, 1, 0, 1, 2, 6] [n1]
def s200_7 (n1 : Nat) (x0 : ByteArray) (x1 : Int) (x4 x8 x10 : Value) (x11 : Int) (h : AHeap) := F200_7 hk C N n1 (⟨213, [(0, .string x0), (1, .int .i64 x1), (4, x4), (8, x8), (10, x10), (11, .int .i64 x11)]⟩) h
def F200_1 : Nx (Value × AHeap) := evSt hk Tp C M200 N Tryz.f200 [1, 1, 1, 0, 2, 1, 4, 1, 1, 1, 1] []
def s200_1 (x4 : Value) (x7 : Int) (x8 : Value) (h : AHeap) := hk 12 (⟨213, [(4, x4), (7, .int .i64 x7), (8, x8)]⟩) h (F200_1 hk C N)
def F200_3 : Nx (Value × AHeap) := evSt hk Tp C M200 N Tryz.f200 [1, 1, 1, 0, 2, 1, 5, 1, 4, 1, 1] []
def s200_3 (x0 : ByteArray) (x1 : Int) (x4 : Value) (x7 : Int) (x8 : Value) (h : AHeap) := hk 18 (⟨213, [(0, .string x0), (1, .int .i64 x1), (4, x4), (7, .int .i64 x7), (8, x8)]⟩) h (F200_3 hk C N)
def F200_6 : Nx (Value × AHeap) := evSt hk Tp C M200 N Tryz.f200 [1, 1, 1, 0, 2, 1, 5, 1, 5, 1, 4, 1, 1, 1] []
def s200_6 (x0 : ByteArray) (x1 : Int) (x4 : Value) (x7 : Int) (x8 : Value) (h : AHeap) := hk 31 (⟨213, [(0, .string x0), (1, .int .i64 x1), (4, x4), (7, .int .i64 x7), (8, x8)]⟩) h (F200_6 hk C N)
def F200_8 (n1 : Nat) : Nx (Value × AHeap) := evSt hk Tp C M200 N Tryz.f200 [1, 1, 1, 1, 1, 0, 1, 2, 3, 1, 0, 2, 1, 1, 4] [n1]
def s200_8 (n1 : Nat) (x1 : Int) (x4 x8 x10 : Value) (x11 x12 : Int) (h : AHeap) := hk 40 (⟨213, [(1, .int .i64 x1), (4, x4), (8, x8), (10, x10), (11, .int .i64 x11), (12, .int .i64 x12)]⟩) h (F200_8 hk C N n1)
def F200_4 (n1 : Nat) : Nx (Value × AHeap) := evSt hk Tp C M200 N Tryz.f200 [1, 1, 1, 0, 2, 1, 5, 1, 4, 1, 1, 1, 1, 0, 1, 2, 6] [n1]
def s200_4 (n1 : Nat) (x0 : ByteArray) (x4 : Value) (x7 : Int) (x8 : Value) (x9 : Int) (h : AHeap) := F200_4 hk C N n1 (⟨213, [(0, .string x0), (4, x4), (7, .int .i64 x7), (8, x8), (9, .int .i64 x9)]⟩) h
theorem e200 (x0 : ByteArray) (x1 : Int) (h : AHeap) : evFn hk Tp C M200 N Tryz.f200 [.string x0, .int .i64 x1] h =
  aNew h 233 [.int .i64 0, .int .i64 0, .string ⟨#[]⟩, .int .i64 0] fun p1 h2 => aNew h2 233 [.int .i64 0, .int .i64 0, .string ⟨#[]⟩, .int .i64 0] fun p3 h4 => (aSt h4 p3 (.agg (List.toArray [.int .i64 0, .int .i64 x1, .string ⟨#[]⟩, .int .i64 0])) 4).bind fun h5 => (aStrIx (.string x0) (.int .i64 x1)).bind fun v6 => (asI .u8 v6).bind fun n7 => (C 285 [.int .u8 n7] h5).bind fun r8 => (asB r8.1).bind fun b9 => bif b9 then s200_0 hk C N N x0 x1 p1 x1 p3 r8.2 else (aStrIx (.string x0) (.int .i64 x1)).bind fun v10 => (asI .u8 v10).bind fun n11 => (C 287 [.int .u8 n11] r8.2).bind fun r12 => (asB r12.1).bind fun b13 => bif b13 then s200_2 hk C N N x0 x1 p1 x1 p3 r12.2 else (aStrIx (.string x0) (.int .i64 x1)).bind fun v14 => (asI .u8 v14).bind fun n15 => bif n15 == 34 then s200_5 hk C N N x0 x1 p1 (IntKind.i64.wrap (x1 + 1)) p3 r12.2 else (C 289 [] r12.2).bind fun r16 => s200_7 hk C N N x0 x1 p1 p3 r16.1 0 r16.2 := by kernel_rfl
theorem s200_0_eq (n1 : Nat) (x0 : ByteArray) (x1 : Int) (x4 : Value) (x7 : Int) (x8 : Value) (h : AHeap) : s200_0 hk C N (n1 + 1) x0 x1 x4 x7 x8 h =
  bif decide (x7 < (ByteArray.size x0 : Int)) then (aStrIx (.string x0) (.int .i64 x7)).bind fun v17 => (asI .u8 v17).bind fun n18 => (C 285 [.int .u8 n18] h).bind fun r19 => (asB r19.1).bind fun b20 => bif b20 then s200_0 hk C N n1 x0 x1 x4 (IntKind.i64.wrap (x7 + 1)) x8 r19.2 else (aOff x8 0).bind fun v21 => (aSt r19.2 v21 (.int .i64 1) 1).bind fun h22 => (aSubS (.string x0) (some (.int .i64 x1)) (some (.int .i64 x7))).bind fun v23 => (asS v23).bind fun t24 => (aOff x8 2).bind fun v25 => (aSt h22 v25 (.string t24) 1).bind fun h26 => (aOff x8 2).bind fun v27 => (aLd1 h26 v27).bind fun v28 => (asS v28).bind fun t29 => (C 286 [.string t29] h26).bind fun r30 => (asB r30.1).bind fun b31 => bif b31 then (aOff x8 0).bind fun v32 => (aSt r30.2 v32 (.int .i64 2) 1).bind fun h33 => s200_1 hk C N x4 x7 x8 h33 else bif decide ((IntKind.i64.wrap (x7 - x1)) > 12) then (aLdN r30.2 x8 4).bind fun v34 => (aSt r30.2 x4 v34 4).bind fun h35 => (aLdN h35 x4 4).bind fun v36 => bif List.all [v36, .int .i64 4, .int .i64 x7] isS2 then some (.tuple (List.toArray [v36, .int .i64 4, .int .i64 x7]), h35) else none else s200_1 hk C N x4 x7 x8 r30.2 else (aOff x8 0).bind fun v37 => (aSt h v37 (.int .i64 1) 1).bind fun h38 => (aSubS (.string x0) (some (.int .i64 x1)) (some (.int .i64 x7))).bind fun v39 => (asS v39).bind fun t40 => (aOff x8 2).bind fun v41 => (aSt h38 v41 (.string t40) 1).bind fun h42 => (aOff x8 2).bind fun v43 => (aLd1 h42 v43).bind fun v44 => (asS v44).bind fun t45 => (C 286 [.string t45] h42).bind fun r46 => (asB r46.1).bind fun b47 => bif b47 then (aOff x8 0).bind fun v48 => (aSt r46.2 v48 (.int .i64 2) 1).bind fun h49 => s200_1 hk C N x4 x7 x8 h49 else bif decide ((IntKind.i64.wrap (x7 - x1)) > 12) then (aLdN r46.2 x8 4).bind fun v50 => (aSt r46.2 x4 v50 4).bind fun h51 => (aLdN h51 x4 4).bind fun v52 => bif List.all [v52, .int .i64 4, .int .i64 x7] isS2 then some (.tuple (List.toArray [v52, .int .i64 4, .int .i64 x7]), h51) else none else s200_1 hk C N x4 x7 x8 r46.2 := by kernel_rfl
theorem s200_2_eq (n1 : Nat) (x0 : ByteArray) (x1 : Int) (x4 : Value) (x7 : Int) (x8 : Value) (h : AHeap) : s200_2 hk C N (n1 + 1) x0 x1 x4 x7 x8 h =
  bif decide (x7 < (ByteArray.size x0 : Int)) then (aStrIx (.string x0) (.int .i64 x7)).bind fun v53 => (asI .u8 v53).bind fun n54 => (C 287 [.int .u8 n54] h).bind fun r55 => (asB r55.1).bind fun b56 => bif b56 then s200_2 hk C N n1 x0 x1 x4 (IntKind.i64.wrap (x7 + 1)) x8 r55.2 else bif decide ((IntKind.i64.wrap (x7 - x1)) > 15) then (aLdN r55.2 x8 4).bind fun v57 => (aSt r55.2 x4 v57 4).bind fun h58 => (aLdN h58 x4 4).bind fun v59 => bif List.all [v59, .int .i64 3, .int .i64 x7] isS2 then some (.tuple (List.toArray [v59, .int .i64 3, .int .i64 x7]), h58) else none else bif decide ((IntKind.i64.wrap (x7 - x1)) > 1) then (aStrIx (.string x0) (.int .i64 x1)).bind fun v60 => (asI .u8 v60).bind fun n61 => bif n61 == 48 then (aLdN r55.2 x8 4).bind fun v62 => (aSt r55.2 x4 v62 4).bind fun h63 => (aLdN h63 x4 4).bind fun v64 => bif List.all [v64, .int .i64 3, .int .i64 x7] isS2 then some (.tuple (List.toArray [v64, .int .i64 3, .int .i64 x7]), h63) else none else bif decide (x7 < (ByteArray.size x0 : Int)) then (aStrIx (.string x0) (.int .i64 x7)).bind fun v65 => (asI .u8 v65).bind fun n66 => (C 285 [.int .u8 n66] r55.2).bind fun r67 => (asB r67.1).bind fun b68 => bif b68 then (aLdN r67.2 x8 4).bind fun v69 => (aSt r67.2 x4 v69 4).bind fun h70 => (aLdN h70 x4 4).bind fun v71 => bif List.all [v71, .int .i64 3, .int .i64 x7] isS2 then some (.tuple (List.toArray [v71, .int .i64 3, .int .i64 x7]), h70) else none else s200_3 hk C N x0 x1 x4 x7 x8 r67.2 else s200_3 hk C N x0 x1 x4 x7 x8 r55.2 else bif decide (x7 < (ByteArray.size x0 : Int)) then (aStrIx (.string x0) (.int .i64 x7)).bind fun v72 => (asI .u8 v72).bind fun n73 => (C 285 [.int .u8 n73] r55.2).bind fun r74 => (asB r74.1).bind fun b75 => bif b75 then (aLdN r74.2 x8 4).bind fun v76 => (aSt r74.2 x4 v76 4).bind fun h77 => (aLdN h77 x4 4).bind fun v78 => bif List.all [v78, .int .i64 3, .int .i64 x7] isS2 then some (.tuple (List.toArray [v78, .int .i64 3, .int .i64 x7]), h77) else none else s200_3 hk C N x0 x1 x4 x7 x8 r74.2 else s200_3 hk C N x0 x1 x4 x7 x8 r55.2 else bif decide ((IntKind.i64.wrap (x7 - x1)) > 15) then (aLdN h x8 4).bind fun v79 => (aSt h x4 v79 4).bind fun h80 => (aLdN h80 x4 4).bind fun v81 => bif List.all [v81, .int .i64 3, .int .i64 x7] isS2 then some (.tuple (List.toArray [v81, .int .i64 3, .int .i64 x7]), h80) else none else bif decide ((IntKind.i64.wrap (x7 - x1)) > 1) then (aStrIx (.string x0) (.int .i64 x1)).bind fun v82 => (asI .u8 v82).bind fun n83 => bif n83 == 48 then (aLdN h x8 4).bind fun v84 => (aSt h x4 v84 4).bind fun h85 => (aLdN h85 x4 4).bind fun v86 => bif List.all [v86, .int .i64 3, .int .i64 x7] isS2 then some (.tuple (List.toArray [v86, .int .i64 3, .int .i64 x7]), h85) else none else bif decide (x7 < (ByteArray.size x0 : Int)) then (aStrIx (.string x0) (.int .i64 x7)).bind fun v87 => (asI .u8 v87).bind fun n88 => (C 285 [.int .u8 n88] h).bind fun r89 => (asB r89.1).bind fun b90 => bif b90 then (aLdN r89.2 x8 4).bind fun v91 => (aSt r89.2 x4 v91 4).bind fun h92 => (aLdN h92 x4 4).bind fun v93 => bif List.all [v93, .int .i64 3, .int .i64 x7] isS2 then some (.tuple (List.toArray [v93, .int .i64 3, .int .i64 x7]), h92) else none else s200_3 hk C N x0 x1 x4 x7 x8 r89.2 else s200_3 hk C N x0 x1 x4 x7 x8 h else bif decide (x7 < (ByteArray.size x0 : Int)) then (aStrIx (.string x0) (.int .i64 x7)).bind fun v94 => (asI .u8 v94).bind fun n95 => (C 285 [.int .u8 n95] h).bind fun r96 => (asB r96.1).bind fun b97 => bif b97 then (aLdN r96.2 x8 4).bind fun v98 => (aSt r96.2 x4 v98 4).bind fun h99 => (aLdN h99 x4 4).bind fun v100 => bif List.all [v100, .int .i64 3, .int .i64 x7] isS2 then some (.tuple (List.toArray [v100, .int .i64 3, .int .i64 x7]), h99) else none else s200_3 hk C N x0 x1 x4 x7 x8 r96.2 else s200_3 hk C N x0 x1 x4 x7 x8 h := by kernel_rfl
theorem s200_5_eq (n1 : Nat) (x0 : ByteArray) (x1 : Int) (x4 : Value) (x7 : Int) (x8 : Value) (h : AHeap) : s200_5 hk C N (n1 + 1) x0 x1 x4 x7 x8 h =
  bif decide (x7 < (ByteArray.size x0 : Int)) then (aStrIx (.string x0) (.int .i64 x7)).bind fun v101 => (asI .u8 v101).bind fun n102 => (C 288 [.int .u8 n102] h).bind fun r103 => (asB r103.1).bind fun b104 => bif b104 then s200_5 hk C N n1 x0 x1 x4 (IntKind.i64.wrap (x7 + 1)) x8 r103.2 else bif decide (x7 ≥ (ByteArray.size x0 : Int)) then (aLdN r103.2 x8 4).bind fun v105 => (aSt r103.2 x4 v105 4).bind fun h106 => (aLdN h106 x4 4).bind fun v107 => bif List.all [v107, .int .i64 5, .int .i64 x7] isS2 then some (.tuple (List.toArray [v107, .int .i64 5, .int .i64 x7]), h106) else none else (aStrIx (.string x0) (.int .i64 x7)).bind fun v108 => (asI .u8 v108).bind fun n109 => bif n109 != 34 then (aLdN r103.2 x8 4).bind fun v110 => (aSt r103.2 x4 v110 4).bind fun h111 => (aLdN h111 x4 4).bind fun v112 => bif List.all [v112, .int .i64 5, .int .i64 x7] isS2 then some (.tuple (List.toArray [v112, .int .i64 5, .int .i64 x7]), h111) else none else bif decide ((IntKind.i64.wrap ((IntKind.i64.wrap (x7 - x1)) - 1)) > 160) then (aLdN r103.2 x8 4).bind fun v113 => (aSt r103.2 x4 v113 4).bind fun h114 => (aLdN h114 x4 4).bind fun v115 => bif List.all [v115, .int .i64 5, .int .i64 x7] isS2 then some (.tuple (List.toArray [v115, .int .i64 5, .int .i64 x7]), h114) else none else s200_6 hk C N x0 x1 x4 x7 x8 r103.2 else bif decide (x7 ≥ (ByteArray.size x0 : Int)) then (aLdN h x8 4).bind fun v116 => (aSt h x4 v116 4).bind fun h117 => (aLdN h117 x4 4).bind fun v118 => bif List.all [v118, .int .i64 5, .int .i64 x7] isS2 then some (.tuple (List.toArray [v118, .int .i64 5, .int .i64 x7]), h117) else none else (aStrIx (.string x0) (.int .i64 x7)).bind fun v119 => (asI .u8 v119).bind fun n120 => bif n120 != 34 then (aLdN h x8 4).bind fun v121 => (aSt h x4 v121 4).bind fun h122 => (aLdN h122 x4 4).bind fun v123 => bif List.all [v123, .int .i64 5, .int .i64 x7] isS2 then some (.tuple (List.toArray [v123, .int .i64 5, .int .i64 x7]), h122) else none else bif decide ((IntKind.i64.wrap ((IntKind.i64.wrap (x7 - x1)) - 1)) > 160) then (aLdN h x8 4).bind fun v124 => (aSt h x4 v124 4).bind fun h125 => (aLdN h125 x4 4).bind fun v126 => bif List.all [v126, .int .i64 5, .int .i64 x7] isS2 then some (.tuple (List.toArray [v126, .int .i64 5, .int .i64 x7]), h125) else none else s200_6 hk C N x0 x1 x4 x7 x8 h := by kernel_rfl
theorem s200_7_eq (n1 : Nat) (x0 : ByteArray) (x1 : Int) (x4 x8 x10 : Value) (x11 : Int) (h : AHeap) : s200_7 hk C N (n1 + 1) x0 x1 x4 x8 x10 x11 h =
  (aLen x10).bind fun v127 => (asI .i64 v127).bind fun n128 => bif decide (x11 < n128) then (aIdx x10 (.int .i64 x11) 1).bind fun v129 => (aLd1 h v129).bind fun v130 => (asS v130).bind fun t131 => bif decide ((IntKind.i64.wrap (x1 + (ByteArray.size t131 : Int))) ≤ (ByteArray.size x0 : Int)) then (aSubS (.string x0) (some (.int .i64 x1)) (some (.int .i64 (IntKind.i64.wrap (x1 + (ByteArray.size t131 : Int)))))).bind fun v132 => (asS v132).bind fun t133 => (aIdx x10 (.int .i64 x11) 1).bind fun v134 => (aLd1 h v134).bind fun v135 => (asS v135).bind fun t136 => bif t133.toList == t136.toList then s200_8 hk C N n1 x1 x4 x8 x10 x11 (ByteArray.size t131 : Int) h else s200_7 hk C N n1 x0 x1 x4 x8 x10 (IntKind.i64.wrap (x11 + 1)) h else s200_7 hk C N n1 x0 x1 x4 x8 x10 (IntKind.i64.wrap (x11 + 1)) h else (aLdN h x8 4).bind fun v137 => (aSt h x4 v137 4).bind fun h138 => (aLdN h138 x4 4).bind fun v139 => bif List.all [v139, .int .i64 2, .int .i64 x1] isS2 then some (.tuple (List.toArray [v139, .int .i64 2, .int .i64 x1]), h138) else none := by kernel_rfl
theorem s200_1_j (x4 : Value) (x7 : Int) (x8 : Value) (h : AHeap) : s200_1 hk0 C N x4 x7 x8 h = F200_1 hk0 C N (⟨213, [(4, x4), (7, .int .i64 x7), (8, x8)]⟩) h := by delta s200_1; exact hk0_app _ _ _ _
theorem s200_1_eq (x4 : Value) (x7 : Int) (x8 : Value) (h : AHeap) : F200_1 hk C N (⟨213, [(4, x4), (7, .int .i64 x7), (8, x8)]⟩) h =
  (aLdN h x8 4).bind fun v140 => (aSt h x4 v140 4).bind fun h141 => (aLdN h141 x4 4).bind fun v142 => bif List.all [v142, .int .i64 0, .int .i64 x7] isS2 then some (.tuple (List.toArray [v142, .int .i64 0, .int .i64 x7]), h141) else none := by kernel_rfl
theorem s200_3_j (x0 : ByteArray) (x1 : Int) (x4 : Value) (x7 : Int) (x8 : Value) (h : AHeap) : s200_3 hk0 C N x0 x1 x4 x7 x8 h = F200_3 hk0 C N (⟨213, [(0, .string x0), (1, .int .i64 x1), (4, x4), (7, .int .i64 x7), (8, x8)]⟩) h := by delta s200_3; exact hk0_app _ _ _ _
theorem s200_3_eq (x0 : ByteArray) (x1 : Int) (x4 : Value) (x7 : Int) (x8 : Value) (h : AHeap) : F200_3 hk C N (⟨213, [(0, .string x0), (1, .int .i64 x1), (4, x4), (7, .int .i64 x7), (8, x8)]⟩) h =
  (aOff x8 0).bind fun v143 => (aSt h v143 (.int .i64 3) 1).bind fun h144 => (aSubS (.string x0) (some (.int .i64 x1)) (some (.int .i64 x7))).bind fun v145 => (asS v145).bind fun t146 => (aOff x8 2).bind fun v147 => (aSt h144 v147 (.string t146) 1).bind fun h148 => s200_4 hk C N N x0 x4 x7 x8 x1 h148 := by kernel_rfl
theorem s200_6_j (x0 : ByteArray) (x1 : Int) (x4 : Value) (x7 : Int) (x8 : Value) (h : AHeap) : s200_6 hk0 C N x0 x1 x4 x7 x8 h = F200_6 hk0 C N (⟨213, [(0, .string x0), (1, .int .i64 x1), (4, x4), (7, .int .i64 x7), (8, x8)]⟩) h := by delta s200_6; exact hk0_app _ _ _ _
theorem s200_6_eq (x0 : ByteArray) (x1 : Int) (x4 : Value) (x7 : Int) (x8 : Value) (h : AHeap) : F200_6 hk C N (⟨213, [(0, .string x0), (1, .int .i64 x1), (4, x4), (7, .int .i64 x7), (8, x8)]⟩) h =
  (aOff x8 0).bind fun v149 => (aSt h v149 (.int .i64 4) 1).bind fun h150 => (aSubS (.string x0) (some (.int .i64 (IntKind.i64.wrap (x1 + 1)))) (some (.int .i64 x7))).bind fun v151 => (asS v151).bind fun t152 => (aOff x8 2).bind fun v153 => (aSt h150 v153 (.string t152) 1).bind fun h154 => (aLdN h154 x8 4).bind fun v155 => (aSt h154 x4 v155 4).bind fun h156 => (aLdN h156 x4 4).bind fun v157 => bif List.all [v157, .int .i64 0, .int .i64 (IntKind.i64.wrap (x7 + 1))] isS2 then some (.tuple (List.toArray [v157, .int .i64 0, .int .i64 (IntKind.i64.wrap (x7 + 1))]), h156) else none := by kernel_rfl
theorem s200_8_j (n1 : Nat) (x1 : Int) (x4 x8 x10 : Value) (x11 x12 : Int) (h : AHeap) : s200_8 hk0 C N n1 x1 x4 x8 x10 x11 x12 h = F200_8 hk0 C N n1 (⟨213, [(1, .int .i64 x1), (4, x4), (8, x8), (10, x10), (11, .int .i64 x11), (12, .int .i64 x12)]⟩) h := by delta s200_8; exact hk0_app _ _ _ _
theorem s200_8_eq (n1 : Nat) (x1 : Int) (x4 x8 x10 : Value) (x11 x12 : Int) (h : AHeap) : F200_8 hk C N n1 (⟨213, [(1, .int .i64 x1), (4, x4), (8, x8), (10, x10), (11, .int .i64 x11), (12, .int .i64 x12)]⟩) h =
  (aOff x8 0).bind fun v158 => (aSt h v158 (.int .i64 5) 1).bind fun h159 => (aIdx x10 (.int .i64 x11) 1).bind fun v160 => (aLd1 h159 v160).bind fun v161 => (asS v161).bind fun t162 => (aOff x8 2).bind fun v163 => (aSt h159 v163 (.string t162) 1).bind fun h164 => (aLdN h164 x8 4).bind fun v165 => (aSt h164 x4 v165 4).bind fun h166 => (aLdN h166 x4 4).bind fun v167 => bif List.all [v167, .int .i64 0, .int .i64 (IntKind.i64.wrap (x1 + x12))] isS2 then some (.tuple (List.toArray [v167, .int .i64 0, .int .i64 (IntKind.i64.wrap (x1 + x12))]), h166) else none := by kernel_rfl
theorem s200_4_eq (n1 : Nat) (x0 : ByteArray) (x4 : Value) (x7 : Int) (x8 : Value) (x9 : Int) (h : AHeap) : s200_4 hk C N (n1 + 1) x0 x4 x7 x8 x9 h =
  bif decide (x9 < x7) then (aOff x8 3).bind fun v168 => (aLd1 h v168).bind fun v169 => (asI .i64 v169).bind fun n170 => (aStrIx (.string x0) (.int .i64 x9)).bind fun v171 => (asI .u8 v171).bind fun n172 => (aOff x8 3).bind fun v173 => (aSt h v173 (.int .i64 (IntKind.i64.wrap ((IntKind.i64.wrap (n170 * 10)) + (IntKind.i64.wrap (IntKind.u8.wrap (n172 - 48)))))) 1).bind fun h174 => s200_4 hk C N n1 x0 x4 x7 x8 (IntKind.i64.wrap (x9 + 1)) h174 else (aLdN h x8 4).bind fun v175 => (aSt h x4 v175 4).bind fun h176 => (aLdN h176 x4 4).bind fun v177 => bif List.all [v177, .int .i64 0, .int .i64 x7] isS2 then some (.tuple (List.toArray [v177, .int .i64 0, .int .i64 x7]), h176) else none := by kernel_rfl
theorem c200 (d : Nat) (args : List Value) (h : AHeap) : call Tp Ms (d + 1) 200 args h = evFn hk0 Tp (call Tp Ms d) M200 d Tryz.f200 args h := by kernel_rfl
def F191_0 (n1 : Nat) : Nx (Value × AHeap) := evSt hk Tp C M191 N Tryz.f191 [1, 0, 2, 6] [n1]
def s191_0 (n1 : Nat) (x0 : ByteArray) (x1 : Int) (x2 : Value) (h : AHeap) := F191_0 hk C N n1 (⟨21, [(0, .string x0), (1, .int .i64 x1), (2, x2)]⟩) h
theorem e191 (x0 : ByteArray) (x1 : Int) (x2 : Value) (h : AHeap) : evFn hk Tp C M191 N Tryz.f191 [.string x0, .int .i64 x1, x2] h =
  s191_0 hk C N N x0 x1 x2 h := by kernel_rfl
theorem s191_0_eq (n1 : Nat) (x0 : ByteArray) (x1 : Int) (x2 : Value) (h : AHeap) : s191_0 hk C N (n1 + 1) x0 x1 x2 h =
  bif decide (x1 < (ByteArray.size x0 : Int)) then (aStrIx (.string x0) (.int .i64 x1)).bind fun v1 => (asI .u8 v1).bind fun n2 => (aCallV C x2 [.int .u8 n2] h).bind fun r3 => (asB r3.1).bind fun b4 => bif b4 then s191_0 hk C N n1 x0 (IntKind.i64.wrap (x1 + 1)) x2 r3.2 else some (.int .i64 x1, r3.2) else some (.int .i64 x1, h) := by kernel_rfl
theorem c191 (d : Nat) (args : List Value) (h : AHeap) : call Tp Ms (d + 1) 191 args h = evFn hk0 Tp (call Tp Ms d) M191 d Tryz.f191 args h := by kernel_rfl
theorem e192 (x0 : Int) (h : AHeap) : evFn hk Tp C M192 N Tryz.f192 [.int .u8 x0] h =
  some (.bool (x0 != 10), h) := by kernel_rfl
theorem c192 (d : Nat) (args : List Value) (h : AHeap) : call Tp Ms (d + 1) 192 args h = evFn hk0 Tp (call Tp Ms d) M192 d Tryz.f192 args h := by kernel_rfl
def F193_0 : Nx (Value × AHeap) := evSt hk Tp C M193 N Tryz.f193 [1, 1, 0, 2, 1, 4, 1, 1] []
def s193_0 (x4 x8 : Value) (h : AHeap) := hk 8 (⟨136, [(4, x4), (8, x8)]⟩) h (F193_0 hk C N)
def F193_1 : Nx (Value × AHeap) := evSt hk Tp C M193 N Tryz.f193 [1, 1, 0, 2, 1, 5, 1, 5, 1, 4, 1, 1] []
def s193_1 (x0 : ByteArray) (x1 : Int) (x4 : Value) (x11 : Int) (h : AHeap) := hk 16 (⟨136, [(0, .string x0), (1, .int .i64 x1), (4, x4), (11, .int .i64 x11)]⟩) h (F193_1 hk C N)
def F193_2 : Nx (Value × AHeap) := evSt hk Tp C M193 N Tryz.f193 [1, 1, 1, 1] []
def s193_2 (x0 : ByteArray) (x1 : Int) (x4 : Value) (x7 : Int) (h : AHeap) := hk 25 (⟨136, [(0, .string x0), (1, .int .i64 x1), (4, x4), (7, .int .u8 x7)]⟩) h (F193_2 hk C N)
def F193_3 : Nx (Value × AHeap) := evSt hk Tp C M193 N Tryz.f193 [1, 1, 1, 1, 1] []
def s193_3 (x4 : Value) (h : AHeap) := hk 44 (⟨136, [(4, x4)]⟩) h (F193_3 hk C N)
theorem e193 (x0 : ByteArray) (x1 : Int) (h : AHeap) : evFn hk Tp C M193 N Tryz.f193 [.string x0, .int .i64 x1] h =
  aNew h 233 [.int .i64 0, .int .i64 0, .string ⟨#[]⟩, .int .i64 0] fun p1 h2 => (aStrIx (.string x0) (.int .i64 x1)).bind fun v3 => (asI .u8 v3).bind fun n4 => (C 275 [.int .u8 n4] h2).bind fun r5 => (asB r5.1).bind fun b6 => bif b6 then (C 191 [.string x0, .int .i64 x1, (.func (.func 275) #[] #[])] r5.2).bind fun r7 => (asI .i64 r7.1).bind fun n8 => (aSubS (.string x0) (some (.int .i64 x1)) (some (.int .i64 n8))).bind fun v9 => (asS v9).bind fun t10 => aNew r7.2 233 [.int .i64 0, .int .i64 0, .string ⟨#[]⟩, .int .i64 0] fun p11 h12 => (aSt h12 p11 (.agg (List.toArray [.int .i64 1, .int .i64 x1, .string t10, .int .i64 0])) 4).bind fun h13 => (aOff p11 2).bind fun v14 => (aLd1 h13 v14).bind fun v15 => (asS v15).bind fun t16 => (C 276 [.string t16] h13).bind fun r17 => (asB r17.1).bind fun b18 => bif b18 then (aOff p11 0).bind fun v19 => (aSt r17.2 v19 (.int .i64 2) 1).bind fun h20 => s193_0 hk C N p1 p11 h20 else (aOff p11 2).bind fun v21 => (aLd1 r17.2 v21).bind fun v22 => (asS v22).bind fun t23 => bif decide ((ByteArray.size t23 : Int) > 12) then (aSt r17.2 p1 (.agg (List.toArray [.int .i64 0, .int .i64 0, .string ⟨#[]⟩, .int .i64 0])) 4).bind fun h24 => (aLdN h24 p1 4).bind fun v25 => bif List.all [v25, .int .i64 0, .int .i64 4] isS2 then some (.tuple (List.toArray [v25, .int .i64 0, .int .i64 4]), h24) else none else s193_0 hk C N p1 p11 r17.2 else (C 277 [.int .u8 n4] r5.2).bind fun r26 => (asB r26.1).bind fun b27 => bif b27 then (C 278 [.string x0, .int .i64 x1] r26.2).bind fun r28 => (aExt r28.1 0).bind fun v29 => (aExt r28.1 1).bind fun v30 => (asI .i64 v30).bind fun n31 => aNew r28.2 233 [.int .i64 0, .int .i64 0, .string ⟨#[]⟩, .int .i64 0] fun p32 h33 => (aSt h33 p32 v29 4).bind fun h34 => (aLdN h34 p32 4).bind fun v35 => (aOff p32 2).bind fun v36 => (aLd1 h34 v36).bind fun v37 => (asS v37).bind fun t38 => (aSt h34 p1 v35 4).bind fun h39 => ((aLd1 h39 v36).bind fun v40 => (asS v40).bind fun t41 => some (vbeq (.string t41) (.string t38))).bind fun b42 => bif b42 then (aLdN h39 p1 4).bind fun v43 => bif List.all [v43, .int .i64 (ByteArray.size t38 : Int), .int .i64 n31] isS2 then some (.tuple (List.toArray [v43, .int .i64 (ByteArray.size t38 : Int), .int .i64 n31]), h39) else none else none else bif n4 == 34 then (C 191 [.string x0, .int .i64 (IntKind.i64.wrap (x1 + 1)), (.func (.func 279) #[] #[])] r26.2).bind fun r44 => (asI .i64 r44.1).bind fun n45 => bif n45 == (ByteArray.size x0 : Int) then (aSt r44.2 p1 (.agg (List.toArray [.int .i64 0, .int .i64 0, .string ⟨#[]⟩, .int .i64 0])) 4).bind fun h46 => (aLdN h46 p1 4).bind fun v47 => bif List.all [v47, .int .i64 0, .int .i64 5] isS2 then some (.tuple (List.toArray [v47, .int .i64 0, .int .i64 5]), h46) else none else (aStrIx (.string x0) (.int .i64 n45)).bind fun v48 => (asI .u8 v48).bind fun n49 => bif n49 != 34 then (aSt r44.2 p1 (.agg (List.toArray [.int .i64 0, .int .i64 0, .string ⟨#[]⟩, .int .i64 0])) 4).bind fun h50 => (aLdN h50 p1 4).bind fun v51 => bif List.all [v51, .int .i64 0, .int .i64 5] isS2 then some (.tuple (List.toArray [v51, .int .i64 0, .int .i64 5]), h50) else none else bif decide ((IntKind.i64.wrap ((IntKind.i64.wrap (n45 - x1)) - 1)) > 160) then (aSt r44.2 p1 (.agg (List.toArray [.int .i64 0, .int .i64 0, .string ⟨#[]⟩, .int .i64 0])) 4).bind fun h52 => (aLdN h52 p1 4).bind fun v53 => bif List.all [v53, .int .i64 0, .int .i64 5] isS2 then some (.tuple (List.toArray [v53, .int .i64 0, .int .i64 5]), h52) else none else s193_1 hk C N x0 x1 p1 n45 r44.2 else bif decide ((IntKind.i64.wrap (x1 + 1)) < (ByteArray.size x0 : Int)) then (aSubS (.string x0) (some (.int .i64 x1)) (some (.int .i64 (IntKind.i64.wrap (x1 + 2))))).bind fun v54 => (asS v54).bind fun t55 => bif t55.toList == (⟨#[46, 46]⟩ : ByteArray).toList then bif t55.toList == (⟨#[46, 46]⟩ : ByteArray).toList then (aSt r26.2 p1 (.agg (List.toArray [.int .i64 5, .int .i64 x1, .string t55, .int .i64 0])) 4).bind fun h56 => (aLdN h56 p1 4).bind fun v57 => bif List.all [v57, .int .i64 2, .int .i64 0] isS2 then some (.tuple (List.toArray [v57, .int .i64 2, .int .i64 0]), h56) else none else s193_2 hk C N x0 x1 p1 n4 r26.2 else bif t55.toList == (⟨#[61, 61]⟩ : ByteArray).toList then bif t55.toList == (⟨#[61, 61]⟩ : ByteArray).toList then (aSt r26.2 p1 (.agg (List.toArray [.int .i64 5, .int .i64 x1, .string t55, .int .i64 0])) 4).bind fun h58 => (aLdN h58 p1 4).bind fun v59 => bif List.all [v59, .int .i64 2, .int .i64 0] isS2 then some (.tuple (List.toArray [v59, .int .i64 2, .int .i64 0]), h58) else none else s193_2 hk C N x0 x1 p1 n4 r26.2 else bif t55.toList == (⟨#[126, 61]⟩ : ByteArray).toList then bif t55.toList == (⟨#[126, 61]⟩ : ByteArray).toList then (aSt r26.2 p1 (.agg (List.toArray [.int .i64 5, .int .i64 x1, .string t55, .int .i64 0])) 4).bind fun h60 => (aLdN h60 p1 4).bind fun v61 => bif List.all [v61, .int .i64 2, .int .i64 0] isS2 then some (.tuple (List.toArray [v61, .int .i64 2, .int .i64 0]), h60) else none else s193_2 hk C N x0 x1 p1 n4 r26.2 else bif t55.toList == (⟨#[60, 61]⟩ : ByteArray).toList then (aSt r26.2 p1 (.agg (List.toArray [.int .i64 5, .int .i64 x1, .string t55, .int .i64 0])) 4).bind fun h62 => (aLdN h62 p1 4).bind fun v63 => bif List.all [v63, .int .i64 2, .int .i64 0] isS2 then some (.tuple (List.toArray [v63, .int .i64 2, .int .i64 0]), h62) else none else s193_2 hk C N x0 x1 p1 n4 r26.2 else s193_2 hk C N x0 x1 p1 n4 r26.2 := by kernel_rfl
theorem s193_0_j (x4 x8 : Value) (h : AHeap) : s193_0 hk0 C N x4 x8 h = F193_0 hk0 C N (⟨136, [(4, x4), (8, x8)]⟩) h := by delta s193_0; exact hk0_app _ _ _ _
theorem s193_0_eq (x4 x8 : Value) (h : AHeap) : F193_0 hk C N (⟨136, [(4, x4), (8, x8)]⟩) h =
  (aLdN h x8 4).bind fun v64 => (aOff x8 2).bind fun v65 => (aLd1 h v65).bind fun v66 => (asS v66).bind fun t67 => (aSt h x4 v64 4).bind fun h68 => ((aLd1 h68 v65).bind fun v69 => (asS v69).bind fun t70 => some (vbeq (.string t70) (.string t67))).bind fun b71 => bif b71 then (aLdN h68 x4 4).bind fun v72 => bif List.all [v72, .int .i64 (ByteArray.size t67 : Int), .int .i64 0] isS2 then some (.tuple (List.toArray [v72, .int .i64 (ByteArray.size t67 : Int), .int .i64 0]), h68) else none else none := by kernel_rfl
theorem s193_1_j (x0 : ByteArray) (x1 : Int) (x4 : Value) (x11 : Int) (h : AHeap) : s193_1 hk0 C N x0 x1 x4 x11 h = F193_1 hk0 C N (⟨136, [(0, .string x0), (1, .int .i64 x1), (4, x4), (11, .int .i64 x11)]⟩) h := by delta s193_1; exact hk0_app _ _ _ _
theorem s193_1_eq (x0 : ByteArray) (x1 : Int) (x4 : Value) (x11 : Int) (h : AHeap) : F193_1 hk C N (⟨136, [(0, .string x0), (1, .int .i64 x1), (4, x4), (11, .int .i64 x11)]⟩) h =
  (aSubS (.string x0) (some (.int .i64 (IntKind.i64.wrap (x1 + 1)))) (some (.int .i64 x11))).bind fun v73 => (asS v73).bind fun t74 => (aSt h x4 (.agg (List.toArray [.int .i64 4, .int .i64 x1, .string t74, .int .i64 0])) 4).bind fun h75 => (aLdN h75 x4 4).bind fun v76 => bif List.all [v76, .int .i64 (IntKind.i64.wrap ((IntKind.i64.wrap (x11 + 1)) - x1)), .int .i64 0] isS2 then some (.tuple (List.toArray [v76, .int .i64 (IntKind.i64.wrap ((IntKind.i64.wrap (x11 + 1)) - x1)), .int .i64 0]), h75) else none := by kernel_rfl
theorem s193_2_j (x0 : ByteArray) (x1 : Int) (x4 : Value) (x7 : Int) (h : AHeap) : s193_2 hk0 C N x0 x1 x4 x7 h = F193_2 hk0 C N (⟨136, [(0, .string x0), (1, .int .i64 x1), (4, x4), (7, .int .u8 x7)]⟩) h := by delta s193_2; exact hk0_app _ _ _ _
theorem s193_2_eq (x0 : ByteArray) (x1 : Int) (x4 : Value) (x7 : Int) (h : AHeap) : F193_2 hk C N (⟨136, [(0, .string x0), (1, .int .i64 x1), (4, x4), (7, .int .u8 x7)]⟩) h =
  bif x7 == 123 then bif x7 == 123 then (aSubS (.string x0) (some (.int .i64 x1)) (some (.int .i64 (IntKind.i64.wrap (x1 + 1))))).bind fun v77 => (asS v77).bind fun t78 => (aSt h x4 (.agg (List.toArray [.int .i64 5, .int .i64 x1, .string t78, .int .i64 0])) 4).bind fun h79 => (aLdN h79 x4 4).bind fun v80 => bif List.all [v80, .int .i64 1, .int .i64 0] isS2 then some (.tuple (List.toArray [v80, .int .i64 1, .int .i64 0]), h79) else none else s193_3 hk C N x4 h else bif x7 == 125 then bif x7 == 125 then (aSubS (.string x0) (some (.int .i64 x1)) (some (.int .i64 (IntKind.i64.wrap (x1 + 1))))).bind fun v81 => (asS v81).bind fun t82 => (aSt h x4 (.agg (List.toArray [.int .i64 5, .int .i64 x1, .string t82, .int .i64 0])) 4).bind fun h83 => (aLdN h83 x4 4).bind fun v84 => bif List.all [v84, .int .i64 1, .int .i64 0] isS2 then some (.tuple (List.toArray [v84, .int .i64 1, .int .i64 0]), h83) else none else s193_3 hk C N x4 h else bif x7 == 40 then bif x7 == 40 then (aSubS (.string x0) (some (.int .i64 x1)) (some (.int .i64 (IntKind.i64.wrap (x1 + 1))))).bind fun v85 => (asS v85).bind fun t86 => (aSt h x4 (.agg (List.toArray [.int .i64 5, .int .i64 x1, .string t86, .int .i64 0])) 4).bind fun h87 => (aLdN h87 x4 4).bind fun v88 => bif List.all [v88, .int .i64 1, .int .i64 0] isS2 then some (.tuple (List.toArray [v88, .int .i64 1, .int .i64 0]), h87) else none else s193_3 hk C N x4 h else bif x7 == 41 then bif x7 == 41 then (aSubS (.string x0) (some (.int .i64 x1)) (some (.int .i64 (IntKind.i64.wrap (x1 + 1))))).bind fun v89 => (asS v89).bind fun t90 => (aSt h x4 (.agg (List.toArray [.int .i64 5, .int .i64 x1, .string t90, .int .i64 0])) 4).bind fun h91 => (aLdN h91 x4 4).bind fun v92 => bif List.all [v92, .int .i64 1, .int .i64 0] isS2 then some (.tuple (List.toArray [v92, .int .i64 1, .int .i64 0]), h91) else none else s193_3 hk C N x4 h else bif x7 == 91 then bif x7 == 91 then (aSubS (.string x0) (some (.int .i64 x1)) (some (.int .i64 (IntKind.i64.wrap (x1 + 1))))).bind fun v93 => (asS v93).bind fun t94 => (aSt h x4 (.agg (List.toArray [.int .i64 5, .int .i64 x1, .string t94, .int .i64 0])) 4).bind fun h95 => (aLdN h95 x4 4).bind fun v96 => bif List.all [v96, .int .i64 1, .int .i64 0] isS2 then some (.tuple (List.toArray [v96, .int .i64 1, .int .i64 0]), h95) else none else s193_3 hk C N x4 h else bif x7 == 93 then bif x7 == 93 then (aSubS (.string x0) (some (.int .i64 x1)) (some (.int .i64 (IntKind.i64.wrap (x1 + 1))))).bind fun v97 => (asS v97).bind fun t98 => (aSt h x4 (.agg (List.toArray [.int .i64 5, .int .i64 x1, .string t98, .int .i64 0])) 4).bind fun h99 => (aLdN h99 x4 4).bind fun v100 => bif List.all [v100, .int .i64 1, .int .i64 0] isS2 then some (.tuple (List.toArray [v100, .int .i64 1, .int .i64 0]), h99) else none else s193_3 hk C N x4 h else bif x7 == 59 then bif x7 == 59 then (aSubS (.string x0) (some (.int .i64 x1)) (some (.int .i64 (IntKind.i64.wrap (x1 + 1))))).bind fun v101 => (asS v101).bind fun t102 => (aSt h x4 (.agg (List.toArray [.int .i64 5, .int .i64 x1, .string t102, .int .i64 0])) 4).bind fun h103 => (aLdN h103 x4 4).bind fun v104 => bif List.all [v104, .int .i64 1, .int .i64 0] isS2 then some (.tuple (List.toArray [v104, .int .i64 1, .int .i64 0]), h103) else none else s193_3 hk C N x4 h else bif x7 == 44 then bif x7 == 44 then (aSubS (.string x0) (some (.int .i64 x1)) (some (.int .i64 (IntKind.i64.wrap (x1 + 1))))).bind fun v105 => (asS v105).bind fun t106 => (aSt h x4 (.agg (List.toArray [.int .i64 5, .int .i64 x1, .string t106, .int .i64 0])) 4).bind fun h107 => (aLdN h107 x4 4).bind fun v108 => bif List.all [v108, .int .i64 1, .int .i64 0] isS2 then some (.tuple (List.toArray [v108, .int .i64 1, .int .i64 0]), h107) else none else s193_3 hk C N x4 h else bif x7 == 46 then bif x7 == 46 then (aSubS (.string x0) (some (.int .i64 x1)) (some (.int .i64 (IntKind.i64.wrap (x1 + 1))))).bind fun v109 => (asS v109).bind fun t110 => (aSt h x4 (.agg (List.toArray [.int .i64 5, .int .i64 x1, .string t110, .int .i64 0])) 4).bind fun h111 => (aLdN h111 x4 4).bind fun v112 => bif List.all [v112, .int .i64 1, .int .i64 0] isS2 then some (.tuple (List.toArray [v112, .int .i64 1, .int .i64 0]), h111) else none else s193_3 hk C N x4 h else bif x7 == 61 then bif x7 == 61 then (aSubS (.string x0) (some (.int .i64 x1)) (some (.int .i64 (IntKind.i64.wrap (x1 + 1))))).bind fun v113 => (asS v113).bind fun t114 => (aSt h x4 (.agg (List.toArray [.int .i64 5, .int .i64 x1, .string t114, .int .i64 0])) 4).bind fun h115 => (aLdN h115 x4 4).bind fun v116 => bif List.all [v116, .int .i64 1, .int .i64 0] isS2 then some (.tuple (List.toArray [v116, .int .i64 1, .int .i64 0]), h115) else none else s193_3 hk C N x4 h else bif x7 == 60 then bif x7 == 60 then (aSubS (.string x0) (some (.int .i64 x1)) (some (.int .i64 (IntKind.i64.wrap (x1 + 1))))).bind fun v117 => (asS v117).bind fun t118 => (aSt h x4 (.agg (List.toArray [.int .i64 5, .int .i64 x1, .string t118, .int .i64 0])) 4).bind fun h119 => (aLdN h119 x4 4).bind fun v120 => bif List.all [v120, .int .i64 1, .int .i64 0] isS2 then some (.tuple (List.toArray [v120, .int .i64 1, .int .i64 0]), h119) else none else s193_3 hk C N x4 h else bif x7 == 43 then bif x7 == 43 then (aSubS (.string x0) (some (.int .i64 x1)) (some (.int .i64 (IntKind.i64.wrap (x1 + 1))))).bind fun v121 => (asS v121).bind fun t122 => (aSt h x4 (.agg (List.toArray [.int .i64 5, .int .i64 x1, .string t122, .int .i64 0])) 4).bind fun h123 => (aLdN h123 x4 4).bind fun v124 => bif List.all [v124, .int .i64 1, .int .i64 0] isS2 then some (.tuple (List.toArray [v124, .int .i64 1, .int .i64 0]), h123) else none else s193_3 hk C N x4 h else bif x7 == 45 then bif x7 == 45 then (aSubS (.string x0) (some (.int .i64 x1)) (some (.int .i64 (IntKind.i64.wrap (x1 + 1))))).bind fun v125 => (asS v125).bind fun t126 => (aSt h x4 (.agg (List.toArray [.int .i64 5, .int .i64 x1, .string t126, .int .i64 0])) 4).bind fun h127 => (aLdN h127 x4 4).bind fun v128 => bif List.all [v128, .int .i64 1, .int .i64 0] isS2 then some (.tuple (List.toArray [v128, .int .i64 1, .int .i64 0]), h127) else none else s193_3 hk C N x4 h else bif x7 == 42 then bif x7 == 42 then (aSubS (.string x0) (some (.int .i64 x1)) (some (.int .i64 (IntKind.i64.wrap (x1 + 1))))).bind fun v129 => (asS v129).bind fun t130 => (aSt h x4 (.agg (List.toArray [.int .i64 5, .int .i64 x1, .string t130, .int .i64 0])) 4).bind fun h131 => (aLdN h131 x4 4).bind fun v132 => bif List.all [v132, .int .i64 1, .int .i64 0] isS2 then some (.tuple (List.toArray [v132, .int .i64 1, .int .i64 0]), h131) else none else s193_3 hk C N x4 h else bif x7 == 47 then bif x7 == 47 then (aSubS (.string x0) (some (.int .i64 x1)) (some (.int .i64 (IntKind.i64.wrap (x1 + 1))))).bind fun v133 => (asS v133).bind fun t134 => (aSt h x4 (.agg (List.toArray [.int .i64 5, .int .i64 x1, .string t134, .int .i64 0])) 4).bind fun h135 => (aLdN h135 x4 4).bind fun v136 => bif List.all [v136, .int .i64 1, .int .i64 0] isS2 then some (.tuple (List.toArray [v136, .int .i64 1, .int .i64 0]), h135) else none else s193_3 hk C N x4 h else bif x7 == 37 then bif x7 == 37 then (aSubS (.string x0) (some (.int .i64 x1)) (some (.int .i64 (IntKind.i64.wrap (x1 + 1))))).bind fun v137 => (asS v137).bind fun t138 => (aSt h x4 (.agg (List.toArray [.int .i64 5, .int .i64 x1, .string t138, .int .i64 0])) 4).bind fun h139 => (aLdN h139 x4 4).bind fun v140 => bif List.all [v140, .int .i64 1, .int .i64 0] isS2 then some (.tuple (List.toArray [v140, .int .i64 1, .int .i64 0]), h139) else none else s193_3 hk C N x4 h else bif x7 == 35 then (aSubS (.string x0) (some (.int .i64 x1)) (some (.int .i64 (IntKind.i64.wrap (x1 + 1))))).bind fun v141 => (asS v141).bind fun t142 => (aSt h x4 (.agg (List.toArray [.int .i64 5, .int .i64 x1, .string t142, .int .i64 0])) 4).bind fun h143 => (aLdN h143 x4 4).bind fun v144 => bif List.all [v144, .int .i64 1, .int .i64 0] isS2 then some (.tuple (List.toArray [v144, .int .i64 1, .int .i64 0]), h143) else none else s193_3 hk C N x4 h := by kernel_rfl
theorem s193_3_j (x4 : Value) (h : AHeap) : s193_3 hk0 C N x4 h = F193_3 hk0 C N (⟨136, [(4, x4)]⟩) h := by delta s193_3; exact hk0_app _ _ _ _
theorem s193_3_eq (x4 : Value) (h : AHeap) : F193_3 hk C N (⟨136, [(4, x4)]⟩) h =
  (aSt h x4 (.agg (List.toArray [.int .i64 0, .int .i64 0, .string ⟨#[]⟩, .int .i64 0])) 4).bind fun h145 => (aLdN h145 x4 4).bind fun v146 => bif List.all [v146, .int .i64 0, .int .i64 2] isS2 then some (.tuple (List.toArray [v146, .int .i64 0, .int .i64 2]), h145) else none := by kernel_rfl
theorem c193 (d : Nat) (args : List Value) (h : AHeap) : call Tp Ms (d + 1) 193 args h = evFn hk0 Tp (call Tp Ms d) M193 d Tryz.f193 args h := by kernel_rfl
end
noncomputable section
variable (hk : Hk (Value × AHeap)) (C : ACall) (N : Nat)
theorem e285 (x0 : Int) (h : AHeap) : evFn hk Tp C M285 N Tryz.f285 [.int .u8 x0] h =
  bif decide (x0 ≥ 97) then bif decide (x0 ≤ 122) then some (.bool true, h) else bif decide (x0 ≥ 65) then some (.bool (decide (x0 ≤ 90)), h) else some (.bool false, h) else bif decide (x0 ≥ 65) then some (.bool (decide (x0 ≤ 90)), h) else some (.bool false, h) := by kernel_rfl
theorem c285 (d : Nat) (args : List Value) (h : AHeap) : call Tp Ms (d + 1) 285 args h = evFn hk0 Tp (call Tp Ms d) M285 d Tryz.f285 args h := by kernel_rfl
theorem e286 (x0 : ByteArray) (h : AHeap) : evFn hk Tp C M286 N Tryz.f286 [.string x0] h =
  (C 357 [] h).bind fun r1 => (C 222 [r1.1, .string x0] r1.2).bind fun r2 => (asB r2.1).bind fun b3 => some (.bool b3, r2.2) := by kernel_rfl
theorem c286 (d : Nat) (args : List Value) (h : AHeap) : call Tp Ms (d + 1) 286 args h = evFn hk0 Tp (call Tp Ms d) M286 d Tryz.f286 args h := by kernel_rfl
theorem e287 (x0 : Int) (h : AHeap) : evFn hk Tp C M287 N Tryz.f287 [.int .u8 x0] h =
  bif decide (x0 ≥ 48) then some (.bool (decide (x0 ≤ 57)), h) else some (.bool false, h) := by kernel_rfl
theorem c287 (d : Nat) (args : List Value) (h : AHeap) : call Tp Ms (d + 1) 287 args h = evFn hk0 Tp (call Tp Ms d) M287 d Tryz.f287 args h := by kernel_rfl
theorem e288 (x0 : Int) (h : AHeap) : evFn hk Tp C M288 N Tryz.f288 [.int .u8 x0] h =
  bif decide (x0 ≥ 32) then bif decide (x0 ≤ 126) then some (.bool (x0 != 34), h) else some (.bool false, h) else some (.bool false, h) := by kernel_rfl
theorem c288 (d : Nat) (args : List Value) (h : AHeap) : call Tp Ms (d + 1) 288 args h = evFn hk0 Tp (call Tp Ms d) M288 d Tryz.f288 args h := by kernel_rfl
theorem e289 (h : AHeap) : evFn hk Tp C M289 N Tryz.f289 [] h =
  aNewS h 9 [.string (⟨#[123]⟩), .string (⟨#[125]⟩), .string (⟨#[40]⟩), .string (⟨#[41]⟩), .string (⟨#[91]⟩), .string (⟨#[93]⟩), .string (⟨#[59]⟩), .string (⟨#[44]⟩), .string (⟨#[46, 46]⟩), .string (⟨#[46]⟩), .string (⟨#[61, 61]⟩), .string (⟨#[61]⟩), .string (⟨#[126, 61]⟩), .string (⟨#[60, 61]⟩), .string (⟨#[60]⟩), .string (⟨#[43]⟩), .string (⟨#[45]⟩), .string (⟨#[42]⟩), .string (⟨#[47]⟩), .string (⟨#[37]⟩), .string (⟨#[35]⟩)] 21 fun p1 h2 => some (p1, h2) := by kernel_rfl
theorem c289 (d : Nat) (args : List Value) (h : AHeap) : call Tp Ms (d + 1) 289 args h = evFn hk0 Tp (call Tp Ms d) M289 d Tryz.f289 args h := by kernel_rfl
theorem e275 (x0 : Int) (h : AHeap) : evFn hk Tp C M275 N Tryz.f275 [.int .u8 x0] h =
  bif decide (x0 ≥ 97) then bif decide (x0 ≤ 122) then some (.bool true, h) else bif decide (x0 ≥ 65) then some (.bool (decide (x0 ≤ 90)), h) else some (.bool false, h) else bif decide (x0 ≥ 65) then some (.bool (decide (x0 ≤ 90)), h) else some (.bool false, h) := by kernel_rfl
theorem c275 (d : Nat) (args : List Value) (h : AHeap) : call Tp Ms (d + 1) 275 args h = evFn hk0 Tp (call Tp Ms d) M275 d Tryz.f275 args h := by kernel_rfl
theorem e276 (x0 : ByteArray) (h : AHeap) : evFn hk Tp C M276 N Tryz.f276 [.string x0] h =
  bif x0.toList == (⟨#[108, 111, 99, 97, 108]⟩ : ByteArray).toList then bif x0.toList == (⟨#[108, 111, 99, 97, 108]⟩ : ByteArray).toList then some (.bool true, h) else some (.bool false, h) else bif x0.toList == (⟨#[102, 110]⟩ : ByteArray).toList then bif x0.toList == (⟨#[102, 110]⟩ : ByteArray).toList then some (.bool true, h) else some (.bool false, h) else bif x0.toList == (⟨#[105, 102]⟩ : ByteArray).toList then bif x0.toList == (⟨#[105, 102]⟩ : ByteArray).toList then some (.bool true, h) else some (.bool false, h) else bif x0.toList == (⟨#[101, 108, 115, 101]⟩ : ByteArray).toList then bif x0.toList == (⟨#[101, 108, 115, 101]⟩ : ByteArray).toList then some (.bool true, h) else some (.bool false, h) else bif x0.toList == (⟨#[119, 104, 105, 108, 101]⟩ : ByteArray).toList then bif x0.toList == (⟨#[119, 104, 105, 108, 101]⟩ : ByteArray).toList then some (.bool true, h) else some (.bool false, h) else bif x0.toList == (⟨#[114, 101, 116, 117, 114, 110]⟩ : ByteArray).toList then bif x0.toList == (⟨#[114, 101, 116, 117, 114, 110]⟩ : ByteArray).toList then some (.bool true, h) else some (.bool false, h) else bif x0.toList == (⟨#[116, 114, 117, 101]⟩ : ByteArray).toList then bif x0.toList == (⟨#[116, 114, 117, 101]⟩ : ByteArray).toList then some (.bool true, h) else some (.bool false, h) else bif x0.toList == (⟨#[102, 97, 108, 115, 101]⟩ : ByteArray).toList then bif x0.toList == (⟨#[102, 97, 108, 115, 101]⟩ : ByteArray).toList then some (.bool true, h) else some (.bool false, h) else bif x0.toList == (⟨#[110, 105, 108]⟩ : ByteArray).toList then bif x0.toList == (⟨#[110, 105, 108]⟩ : ByteArray).toList then some (.bool true, h) else some (.bool false, h) else bif x0.toList == (⟨#[97, 110, 100]⟩ : ByteArray).toList then bif x0.toList == (⟨#[97, 110, 100]⟩ : ByteArray).toList then some (.bool true, h) else some (.bool false, h) else bif x0.toList == (⟨#[111, 114]⟩ : ByteArray).toList then bif x0.toList == (⟨#[111, 114]⟩ : ByteArray).toList then some (.bool true, h) else some (.bool false, h) else bif x0.toList == (⟨#[110, 111, 116]⟩ : ByteArray).toList then some (.bool true, h) else some (.bool false, h) := by kernel_rfl
theorem c276 (d : Nat) (args : List Value) (h : AHeap) : call Tp Ms (d + 1) 276 args h = evFn hk0 Tp (call Tp Ms d) M276 d Tryz.f276 args h := by kernel_rfl
theorem e277 (x0 : Int) (h : AHeap) : evFn hk Tp C M277 N Tryz.f277 [.int .u8 x0] h =
  bif decide (x0 ≥ 48) then some (.bool (decide (x0 ≤ 57)), h) else some (.bool false, h) := by kernel_rfl
theorem c277 (d : Nat) (args : List Value) (h : AHeap) : call Tp Ms (d + 1) 277 args h = evFn hk0 Tp (call Tp Ms d) M277 d Tryz.f277 args h := by kernel_rfl
def F278_0 : Nx (Value × AHeap) := evSt hk Tp C M278 N Tryz.f278 [1, 1, 1, 1] []
def s278_0 (x0 : ByteArray) (x1 : Int) (x4 : Value) (x6 : Int) (x7 : Value) (h : AHeap) := hk 5 (⟨64, [(0, .string x0), (1, .int .i64 x1), (4, x4), (6, .int .i64 x6), (7, x7)]⟩) h (F278_0 hk C N)
def F278_1 (n1 : Nat) : Nx (Value × AHeap) := evSt hk Tp C M278 N Tryz.f278 [1, 1, 1, 1, 0, 1, 2, 6] [n1]
def s278_1 (n1 : Nat) (x0 : ByteArray) (x4 : Value) (x6 : Int) (x7 : Value) (x8 : Int) (h : AHeap) := F278_1 hk C N n1 (⟨64, [(0, .string x0), (4, x4), (6, .int .i64 x6), (7, x7), (8, .int .i64 x8)]⟩) h
theorem e278 (x0 : ByteArray) (x1 : Int) (h : AHeap) : evFn hk Tp C M278 N Tryz.f278 [.string x0, .int .i64 x1] h =
  aNew h 233 [.int .i64 0, .int .i64 0, .string ⟨#[]⟩, .int .i64 0] fun p1 h2 => (C 191 [.string x0, .int .i64 x1, (.func (.func 277) #[] #[])] h2).bind fun r3 => (asI .i64 r3.1).bind fun n4 => (aSubS (.string x0) (some (.int .i64 x1)) (some (.int .i64 n4))).bind fun v5 => (asS v5).bind fun t6 => aNew r3.2 233 [.int .i64 0, .int .i64 0, .string ⟨#[]⟩, .int .i64 0] fun p7 h8 => (aSt h8 p7 (.agg (List.toArray [.int .i64 3, .int .i64 x1, .string t6, .int .i64 0])) 4).bind fun h9 => bif decide ((IntKind.i64.wrap (n4 - x1)) > 15) then (aSt h9 p1 (.agg (List.toArray [.int .i64 0, .int .i64 0, .string ⟨#[]⟩, .int .i64 0])) 4).bind fun h10 => (aLdN h10 p1 4).bind fun v11 => bif List.all [v11, .int .i64 3] isS2 then some (.tuple (List.toArray [v11, .int .i64 3]), h10) else none else bif decide ((IntKind.i64.wrap (n4 - x1)) > 1) then (aStrIx (.string x0) (.int .i64 x1)).bind fun v12 => (asI .u8 v12).bind fun n13 => bif n13 == 48 then (aSt h9 p1 (.agg (List.toArray [.int .i64 0, .int .i64 0, .string ⟨#[]⟩, .int .i64 0])) 4).bind fun h14 => (aLdN h14 p1 4).bind fun v15 => bif List.all [v15, .int .i64 3] isS2 then some (.tuple (List.toArray [v15, .int .i64 3]), h14) else none else bif decide (n4 < (ByteArray.size x0 : Int)) then (aStrIx (.string x0) (.int .i64 n4)).bind fun v16 => (asI .u8 v16).bind fun n17 => (C 275 [.int .u8 n17] h9).bind fun r18 => (asB r18.1).bind fun b19 => bif b19 then (aSt r18.2 p1 (.agg (List.toArray [.int .i64 0, .int .i64 0, .string ⟨#[]⟩, .int .i64 0])) 4).bind fun h20 => (aLdN h20 p1 4).bind fun v21 => bif List.all [v21, .int .i64 3] isS2 then some (.tuple (List.toArray [v21, .int .i64 3]), h20) else none else s278_0 hk C N x0 x1 p1 n4 p7 r18.2 else s278_0 hk C N x0 x1 p1 n4 p7 h9 else bif decide (n4 < (ByteArray.size x0 : Int)) then (aStrIx (.string x0) (.int .i64 n4)).bind fun v22 => (asI .u8 v22).bind fun n23 => (C 275 [.int .u8 n23] h9).bind fun r24 => (asB r24.1).bind fun b25 => bif b25 then (aSt r24.2 p1 (.agg (List.toArray [.int .i64 0, .int .i64 0, .string ⟨#[]⟩, .int .i64 0])) 4).bind fun h26 => (aLdN h26 p1 4).bind fun v27 => bif List.all [v27, .int .i64 3] isS2 then some (.tuple (List.toArray [v27, .int .i64 3]), h26) else none else s278_0 hk C N x0 x1 p1 n4 p7 r24.2 else s278_0 hk C N x0 x1 p1 n4 p7 h9 := by kernel_rfl
theorem s278_0_j (x0 : ByteArray) (x1 : Int) (x4 : Value) (x6 : Int) (x7 : Value) (h : AHeap) : s278_0 hk0 C N x0 x1 x4 x6 x7 h = F278_0 hk0 C N (⟨64, [(0, .string x0), (1, .int .i64 x1), (4, x4), (6, .int .i64 x6), (7, x7)]⟩) h := by delta s278_0; exact hk0_app _ _ _ _
theorem s278_0_eq (x0 : ByteArray) (x1 : Int) (x4 : Value) (x6 : Int) (x7 : Value) (h : AHeap) : F278_0 hk C N (⟨64, [(0, .string x0), (1, .int .i64 x1), (4, x4), (6, .int .i64 x6), (7, x7)]⟩) h =
  s278_1 hk C N N x0 x4 x6 x7 x1 h := by kernel_rfl
theorem s278_1_eq (n1 : Nat) (x0 : ByteArray) (x4 : Value) (x6 : Int) (x7 : Value) (x8 : Int) (h : AHeap) : s278_1 hk C N (n1 + 1) x0 x4 x6 x7 x8 h =
  bif decide (x8 < x6) then (aOff x7 3).bind fun v28 => (aLd1 h v28).bind fun v29 => (asI .i64 v29).bind fun n30 => (aStrIx (.string x0) (.int .i64 x8)).bind fun v31 => (asI .u8 v31).bind fun n32 => (aOff x7 3).bind fun v33 => (aSt h v33 (.int .i64 (IntKind.i64.wrap ((IntKind.i64.wrap (10 * n30)) + (IntKind.i64.wrap (IntKind.u8.wrap (n32 - 48)))))) 1).bind fun h34 => s278_1 hk C N n1 x0 x4 x6 x7 (IntKind.i64.wrap (x8 + 1)) h34 else (aLdN h x7 4).bind fun v35 => (aSt h x4 v35 4).bind fun h36 => (aLdN h36 x4 4).bind fun v37 => bif List.all [v37, .int .i64 0] isS2 then some (.tuple (List.toArray [v37, .int .i64 0]), h36) else none := by kernel_rfl
theorem c278 (d : Nat) (args : List Value) (h : AHeap) : call Tp Ms (d + 1) 278 args h = evFn hk0 Tp (call Tp Ms d) M278 d Tryz.f278 args h := by kernel_rfl
theorem e279 (x0 : Int) (h : AHeap) : evFn hk Tp C M279 N Tryz.f279 [.int .u8 x0] h =
  bif decide (x0 ≥ 32) then bif decide (x0 ≤ 126) then some (.bool (x0 != 34), h) else some (.bool false, h) else some (.bool false, h) := by kernel_rfl
theorem c279 (d : Nat) (args : List Value) (h : AHeap) : call Tp Ms (d + 1) 279 args h = evFn hk0 Tp (call Tp Ms d) M279 d Tryz.f279 args h := by kernel_rfl
def F222_0 (n1 : Nat) : Nx (Value × AHeap) := evSt hk Tp C M222 N Tryz.f222 [1, 0, 1, 2, 6] [n1]
def s222_0 (n1 : Nat) (x0 : Value) (x1 : ByteArray) (x5 : Int) (h : AHeap) := F222_0 hk C N n1 (⟨18, [(0, x0), (1, .string x1), (5, .int .i64 x5)]⟩) h
theorem e222 (x0 : Value) (x1 : ByteArray) (h : AHeap) : evFn hk Tp C M222 N Tryz.f222 [x0, .string x1] h =
  s222_0 hk C N N x0 x1 0 h := by kernel_rfl
theorem s222_0_eq (n1 : Nat) (x0 : Value) (x1 : ByteArray) (x5 : Int) (h : AHeap) : s222_0 hk C N (n1 + 1) x0 x1 x5 h =
  (aLen x0).bind fun v1 => (asI .i64 v1).bind fun n2 => bif decide (x5 < n2) then (aIdx x0 (.int .i64 x5) 1).bind fun v3 => (aLd1 h v3).bind fun v4 => (asS v4).bind fun t5 => bif t5.toList == x1.toList then some (.bool true, h) else s222_0 hk C N n1 x0 x1 (IntKind.i64.wrap (x5 + 1)) h else some (.bool false, h) := by kernel_rfl
theorem c222 (d : Nat) (args : List Value) (h : AHeap) : call Tp Ms (d + 1) 222 args h = evFn hk0 Tp (call Tp Ms d) M222 d Tryz.f222 args h := by kernel_rfl
theorem e357 (h : AHeap) : evFn hk Tp C M357 N Tryz.f357 [] h =
  aNewS h 9 [.string (⟨#[108, 111, 99, 97, 108]⟩), .string (⟨#[102, 110]⟩), .string (⟨#[105, 102]⟩), .string (⟨#[101, 108, 115, 101]⟩), .string (⟨#[119, 104, 105, 108, 101]⟩), .string (⟨#[114, 101, 116, 117, 114, 110]⟩), .string (⟨#[116, 114, 117, 101]⟩), .string (⟨#[102, 97, 108, 115, 101]⟩), .string (⟨#[110, 105, 108]⟩), .string (⟨#[97, 110, 100]⟩), .string (⟨#[111, 114]⟩), .string (⟨#[110, 111, 116]⟩)] 12 fun p1 h2 => some (p1, h2) := by kernel_rfl
theorem c357 (d : Nat) (args : List Value) (h : AHeap) : call Tp Ms (d + 1) 357 args h = evFn hk0 Tp (call Tp Ms d) M357 d Tryz.f357 args h := by kernel_rfl
end
end Go.Proofs.YtajpnemfppaafaaGreat
