import Derived.Test.YtnjnggejbpkgoaaGreatXAB
import Derived.Laws.BytesArg
import Derived.Orders
set_option linter.unusedSimpArgs false
set_option linter.unusedVariables false
/- Each operation of the small evaluator is an operation of the machine. -/
namespace Go.AH
open Go.RowKit Go.Lib
section
variable {P : Program} {w0 : W0} {w : World} {ι : Inj} {h : AHeap}
structure CallOk (P : Program) (w0 : W0) (C : ACall) : Prop where
 body : ∀ f args h r, C f args h = some r → ∃ fn, P.funcs[f]? = some fn ∧ fn.body.isNone = false ∧ (fn.name == "runtime.NumGoroutine") = false
 calls : ∀ fz f args h v h', C f args h = some (v, h') → ∀ (ι : Inj) (w : World) (args' : Array Value), All2 (VR ι) args args'.toList → HRel P ⟨w0.w, fz⟩ ι h w →
  Calls P f args' w fun e w' => ∃ v' ι', e = .returned v' ∧ Nxt ι w ι' w' ∧ HRel P ⟨w0.w, fz⟩ ι' h' w' ∧ VR ι' v v'
theorem CallOk.at {C : ACall} (hC : CallOk P w0 C) (fz : Nat → Option Fz) : CallOk P ⟨w0.w, fz⟩ C := ⟨hC.body, hC.calls⟩
theorem bytesOf_sound {cs cs' : List Value} {l : List UInt8} (ha : All2 (S1 ι) cs cs') : bytesOf cs = some l → ∃ xs : List Int, cs' = xs.map (Value.int .u8) ∧ l = xs.map fun n => UInt8.ofNat n.toNat := by
 induction ha generalizing l with
 | nil => intro he; simp [bytesOf] at he; subst he; exact ⟨[], rfl, rfl⟩
 | cons r _ ih =>
  intro he
  unfold bytesOf at he
  split at he
  ·rename_i heq; cases heq
  ·rename_i n l' heq
   simp at heq; obtain ⟨rfl, rfl⟩ := heq
   simp only [Option.map_eq_some_iff] at he
   obtain ⟨l2, he2, rfl⟩ := he
   obtain ⟨xs, rfl, rfl⟩ := ih he2
   have := (VR.s1 r).int_inv
   subst this
   exact ⟨n :: xs, rfl, rfl⟩
  ·simp at he
theorem cvStr_sound (H : HRel P w0 ι h w) {src dst e : TypeId} (hs : P.underlying src = some (.slice e)) (he8 : P.underlying e = some (.int .u8)) (hd : P.underlying dst = some .string) {x x' v : Value} (he : aCvStr h x = some v) (hx : VR ι x x') : SemOk P w0 ι h w (convert src dst x') v := by
 unfold aCvStr at he
 split at he
 ·simp at he; subst he
  obtain ⟨_, rfl⟩ := hx.slcNil_inv
  exact SemOk.same H (run_convert_bytes_nil w src e hs he8 0 0 dst hd) (.s0 (.string _))
 ·rename_i i off n c
  simp only [Option.bind_eq_some_iff, Option.map_eq_some_iff] at he
  obtain ⟨cs, hr, l, hl, rfl⟩ := he
  rcases hx.slc_inv with ⟨q, c', hq, _, _, rfl⟩ | ⟨rfl, _, a', rfl⟩
  ·obtain ⟨cs', ha, hlen, hc⟩ := rd_sound H hq hr
   obtain ⟨xs, rfl, rfl⟩ := bytesOf_sound ha hl
   have hxl : xs.length = n := by have := ha.length; simp at this; omega
   refine SemOk.same H (v' := .string (strOfNums xs)) ?_ (.s0 (.string _))
   refine run_convert_bytes_arg w src e hs he8 _ _ _ _ xs hxl (fun i hi => ?_) dst hd
   have := hc i (.int .u8 (xs.getD i 0)) (by simp [List.getElem?_eq_getElem (show i < xs.length by omega), List.getD_eq_getElem?_getD])
   rwa [add_mk] at this
  ·have : cs = [] := List.eq_nil_of_length_eq_zero (rd_len hr)
   subst this
   simp [bytesOf] at hl
   subst hl
   obtain ⟨ab, ao, asp⟩ := a'
   refine SemOk.same H (v' := .string ⟨#[]⟩) ?_ (.s0 (.string _))
   rw [run_convert_bytes_string w src dst e _ 0 0 hs he8 hd]
   simp [Conv.bytesToString, loadCells, loadCellsFrom]
   rfl
 ·simp at he
theorem part_sound (H : HRel P w0 ι h w) {s : TypeId} {f n : Nat} {fd : Field} {fs : Array Field} {g : Bool} (hf : fieldsOf P s = some fs) (hfd : fs[f]? = some fd) (hg : tAgg P fd.type = some g) (hn : tSize P fd.type = some n) {x x' v : Value}
  (he : aPart x fd.offset n g = some v) (hx : VR ι x x') : SemOk P w0 ι h w (Instr.field s x' f) v := by
 have hu : P.underlying s = some (.struct fs) := by
  unfold fieldsOf at hf
  split at hf
  ·rename_i hu; simp at hf; subst hf; exact hu
  ·simp at hf
 unfold aPart at he
 split at he
 ·rename_i cs
  obtain ⟨cs', rfl, ha⟩ := hx.agg_inv
  cases g
  ·simp at he
   obtain ⟨b, g1, g2⟩ := ha.get fd.offset v (by simpa using he)
   refine SemOk.same H (v' := b) ?_ (.s1 g2)
   simp at g1
   simp [Instr.field, run_underlying hu, hfd, asAgg, part, run_isAgg hg, g1]
  ·simp at he
   obtain ⟨h1, rfl⟩ := he
   refine SemOk.same H (v' := .agg (cs'.extract fd.offset (fd.offset + n))) ?_ (.s2 (.agg ?_))
   ·simp [Instr.field, run_underlying hu, hfd, asAgg, part, run_isAgg hg, run_sizeOf' hn]
   ·simpa using (ha.drop fd.offset).take n
 ·simp at he
theorem val_step {h' : AHeap} {s : Sem Value} {v : Value} (hs : SemOk P w0 ι h' w s v) {o : Oper} {a : Act} {next : Act → World → Prop} {Q : Exit → Act → World → Prop}
  (hk : ∀ v' w' ι', Nxt ι w ι' w' → HRel P w0 ι' h' w' → VR ι' v v' → next (a.put o.dst v') w') : o.upon P a next Q ((do pure (.value (← s)) : Sem Next).run P w) := by
 obtain ⟨v', w', ι', hr, n, H, hv⟩ := hs
 simp only [Sem.run_bind, hr, Result.andThen_ok, Sem.run_pure]
 exact hk v' w' ι' n H hv
theorem unit_step {h' : AHeap} {s : Sem Unit} (hs : SemOkU P w0 ι h' w s) {o : Oper} {a : Act} {next : Act → World → Prop} {Q : Exit → Act → World → Prop}
  (hk : ∀ w' ι', Nxt ι w ι' w' → HRel P w0 ι' h' w' → next (a.put o.dst undef) w') : o.upon P a next Q ((do s; pure .skip : Sem Next).run P w) := by
 obtain ⟨w', ι', hr, n, H⟩ := hs
 simp only [Sem.run_bind, hr, Result.andThen_ok, Sem.run_pure]
 exact hk w' ι' n H
theorem fields_under {s : TypeId} {fs : Array Field} (hf : fieldsOf P s = some fs) : P.underlying s = some (.struct fs) := by
 unfold fieldsOf at hf
 split at hf
 ·rename_i hu; simp at hf; subst hf; exact hu
 ·simp at hf
theorem elem_under {s e : TypeId} (hf : elemOf? P s = some e) : P.underlying s = some (.slice e) := by
 unfold elemOf? at hf
 split at hf
 ·rename_i hu; simp at hf; subst hf; exact hu
 ·simp at hf
theorem args_sound {t : Tm} {a : Act} (ht : TR ι t a.tmps) (l : List Operand) : All2 (VR ι) (l.map (AH.evX t)) (l.map a.eval) := by
 induction l with
 | nil => exact .nil
 | cons x l ih => exact .cons (ht.evX x) ih
theorem list_two {x y : Operand} {args : Array Operand} (h : args.toList = [x, y]) : args = #[x, y] := by cases args; simp at h; subst h; rfl
theorem list_one {x : Operand} {args : Array Operand} (h : args.toList = [x]) : args = #[x] := by cases args; simp at h; subst h; rfl
theorem list_two' {x y : TypeId} {args : Array TypeId} (h : args.toList = [x, y]) : args = #[x, y] := by cases args; simp at h; subst h; rfl
theorem list_one' {x : TypeId} {args : Array TypeId} (h : args.toList = [x]) : args = #[x] := by cases args; simp at h; subst h; rfl
theorem VR.isS0 {v v' : Value} (hv : VR ι v v') (h : isS0 v = true) : S0 ι v v' := by
 cases hv with
 | junk => simp [AH.isS0, AH.junk] at h
 | tuple => simp [AH.isS0] at h
 | s2 hv => cases hv with
  | agg => simp [AH.isS0] at h
  | s1 hv => cases hv with
   | func => simp [AH.isS0] at h
   | s0 hv => exact hv
theorem S0_all {l l' : List Value} (h : l.all isS0 = true) (ha : All2 (VR ι) l l') : All2 (S0 ι) l l' := by
 induction ha with
 | nil => exact .nil
 | cons r _ ih =>
  simp only [List.all_cons, Bool.and_eq_true] at h
  exact .cons (r.isS0 h.1) (ih h.2)
theorem op_sound {R : Type} {C : ACall} (hC : CallOk P w0 C) {o : Oper} {t : Tm} {k : Value → AHeap → Option R} {r : R} (hev : evOp P C o t h k = some r) {a : Act} (ht : TR ι t a.tmps) (H : HRel P w0 ι h w)
  {next : Act → World → Prop} {Q : Exit → Act → World → Prop}
  (hk : ∀ v h' v' w' ι', Nxt ι w ι' w' → HRel P w0 ι' h' w' → VR ι' v v' → k v h' = some r → next (a.put o.dst v') w') : o.upon P a next Q ((execOp a.eval o).run P w) := by
 obtain ⟨dst, op, type, pos, after, guard⟩ := o
 have V : ∀ {h' : AHeap} {s : Sem Value} {v : Value}, SemOk P w0 ι h' w s v → k v h' = some r → Oper.upon P ⟨dst, op, type, pos, after, guard⟩ a next Q ((do pure (.value (← s)) : Sem Next).run P w) :=
  fun hs he => val_step hs fun v' w' ι' n H hv => hk _ _ _ _ _ n H hv he
 cases op with
 | move x =>
  simp only [evOp, oAlloc, oBox, oBuild, oBuildSlice, oLoad, oStore, oBinOp, oConvert, oMakeSlice, oSlice, oFieldAddr, oField, oIndexAddr, oIndex, oLen, oAppend, oMax, oMin] at hev
  exact hk _ _ _ _ _ (Nxt.refl _ _) H (ht.evX x) hev
 | assign x =>
  simp only [evOp, oAlloc, oBox, oBuild, oBuildSlice, oLoad, oStore, oBinOp, oConvert, oMakeSlice, oSlice, oFieldAddr, oField, oIndexAddr, oIndex, oLen, oAppend, oMax, oMin] at hev
  exact hk _ _ _ _ _ (Nxt.refl _ _) H (ht.evX x) hev
 | pick c x y =>
  simp only [evOp, oAlloc, oBox, oBuild, oBuildSlice, oLoad, oStore, oBinOp, oConvert, oMakeSlice, oSlice, oFieldAddr, oField, oIndexAddr, oIndex, oLen, oAppend, oMax, oMin, Option.bind_eq_some_iff] at hev
  obtain ⟨b, hb, hev⟩ := hev
  have hc := ht.evX c
  have hcv : AH.evX t c = .bool b := by
   unfold asB at hb
   split at hb
   ·rename_i heq; simp at hb; subst hb; exact heq
   ·simp at hb
  rw [hcv] at hc
  have hcb := hc.bool_inv
  show Oper.upon P _ a next Q ((do pure (.value (if ← asBool (a.eval c) then a.eval x else a.eval y)) : Sem Next).run P w)
  rw [hcb]
  cases b
  ·exact hk _ _ _ _ _ (Nxt.refl _ _) H (ht.evX y) hev
  ·exact hk _ _ _ _ _ (Nxt.refl _ _) H (ht.evX x) hev
 | alloc e =>
  simp only [evOp, oAlloc, oBox, oBuild, oBuildSlice, oLoad, oStore, oBinOp, oConvert, oMakeSlice, oSlice, oFieldAddr, oField, oIndexAddr, oIndex, oLen, oAppend, oMax, oMin] at hev
  split at hev
  ·rename_i z n hz hn
   exact V (alloc_sound H hz hn) hev
  ·simp at hev
 | box e x =>
  simp only [evOp, oAlloc, oBox, oBuild, oBuildSlice, oLoad, oStore, oBinOp, oConvert, oMakeSlice, oSlice, oFieldAddr, oField, oIndexAddr, oIndex, oLen, oAppend, oMax, oMin] at hev
  split at hev
  ·rename_i n hn
   simp only [Option.bind_eq_some_iff] at hev
   obtain ⟨cs, hcs, hev⟩ := hev
   exact V (box_sound H hn hcs (ht.evX x)) hev
  ·simp at hev
 | build ty parts =>
  simp only [evOp, oAlloc, oBox, oBuild, oBuildSlice, oLoad, oStore, oBinOp, oConvert, oMakeSlice, oSlice, oFieldAddr, oField, oIndexAddr, oIndex, oLen, oAppend, oMax, oMin] at hev
  split at hev
  ·rename_i fs hf
   split at hev
   ·rename_i z ps hz hps
    simp only [Option.bind_eq_some_iff] at hps hev
    obtain ⟨pl, hpl, hps⟩ := hps
    obtain ⟨cs, hcs, hev⟩ := hev
    exact V (build_sound H hf hz hpl ht parts hps hcs) hev
   ·simp at hev
  ·simp at hev
 | buildSlice ty len parts =>
  simp only [evOp, oAlloc, oBox, oBuild, oBuildSlice, oLoad, oStore, oBinOp, oConvert, oMakeSlice, oSlice, oFieldAddr, oField, oIndexAddr, oIndex, oLen, oAppend, oMax, oMin] at hev
  split at hev
  ·rename_i e he
   split at hev
   ·rename_i z n hz hn
    split at hev
    ·rename_i hcd
     simp only [Option.bind_eq_some_iff] at hev
     obtain ⟨cs, hcs, hev⟩ := hev
     exact V (buildSlice_sound H (elem_under he) hz hn hcd.1 hcd.2.1 hcd.2.2 ht parts hcs) hev
    ·simp at hev
   ·simp at hev
  ·simp at hev
 | load ty x =>
  simp only [evOp, oAlloc, oBox, oBuild, oBuildSlice, oLoad, oStore, oBinOp, oConvert, oMakeSlice, oSlice, oFieldAddr, oField, oIndexAddr, oIndex, oLen, oAppend, oMax, oMin] at hev
  split at hev
  ·rename_i n hg hn
   simp only [Option.bind_eq_some_iff] at hev
   obtain ⟨v, hv, hev⟩ := hev
   exact V (ldN_sound H hg hn hv (ht.evX x)) hev
  ·rename_i hg
   simp only [Option.bind_eq_some_iff] at hev
   obtain ⟨v, hv, hev⟩ := hev
   exact V (ld1_sound H hg hv (ht.evX x)) hev
  ·simp at hev
 | store ty x y =>
  simp only [evOp, oAlloc, oBox, oBuild, oBuildSlice, oLoad, oStore, oBinOp, oConvert, oMakeSlice, oSlice, oFieldAddr, oField, oIndexAddr, oIndex, oLen, oAppend, oMax, oMin] at hev
  split at hev
  ·rename_i n hn
   simp only [Option.bind_eq_some_iff] at hev
   obtain ⟨h', hh', hev⟩ := hev
   exact unit_step (st_sound H hn hh' (ht.evX x) (ht.evX y)) fun w' ι' n H => hk _ _ _ _ _ n H (VR.undef _) hev
  ·simp at hev
 | nilCheck x =>
  simp only [evOp, oAlloc, oBox, oBuild, oBuildSlice, oLoad, oStore, oBinOp, oConvert, oMakeSlice, oSlice, oFieldAddr, oField, oIndexAddr, oIndex, oLen, oAppend, oMax, oMin, Option.bind_eq_some_iff] at hev
  obtain ⟨v, hv, hev⟩ := hev
  obtain ⟨h1, h2⟩ := nil_sound hv (ht.evX x)
  have : (execOp a.eval ⟨dst, .nilCheck x, type, pos, after, guard⟩).run P w = .ok (.value (a.eval x)) w := by
   rcases h2 with ⟨b, hb⟩ | ⟨f, b, c, hb⟩ <;> simp [execOp, hb]
  rw [this]
  exact hk _ _ _ _ _ (Nxt.refl _ _) H h1 hev
 | binOp op ty x y yt =>
  simp only [evOp, oAlloc, oBox, oBuild, oBuildSlice, oLoad, oStore, oBinOp, oConvert, oMakeSlice, oSlice, oFieldAddr, oField, oIndexAddr, oIndex, oLen, oAppend, oMax, oMin] at hev
  split at hev
  ·rename_i hu
   simp only [Option.bind_eq_some_iff] at hev
   obtain ⟨v, hv, hev⟩ := hev
   exact V (binB_sound H hu x y hv (ht.evX x) (ht.evX y)) hev
  ·rename_i hu
   simp only [Option.bind_eq_some_iff] at hev
   obtain ⟨v, hv, hev⟩ := hev
   exact V (binP_sound H hu x y hv (ht.evX x) (ht.evX y)) hev
  ·simp only [Option.bind_eq_some_iff] at hev
   obtain ⟨v, hv, hev⟩ := hev
   exact V (binA_sound H x y hv (ht.evX x) (ht.evX y)) hev
  ·simp only [Option.bind_eq_some_iff] at hev
   obtain ⟨v, hv, hev⟩ := hev
   exact V (bin_sound H x y hv (ht.evX x) (ht.evX y)) hev
 | unOp op ty x =>
  simp only [evOp, oAlloc, oBox, oBuild, oBuildSlice, oLoad, oStore, oBinOp, oConvert, oMakeSlice, oSlice, oFieldAddr, oField, oIndexAddr, oIndex, oLen, oAppend, oMax, oMin, Option.bind_eq_some_iff] at hev
  obtain ⟨v, hv, hev⟩ := hev
  exact V (un_sound H hv (ht.evX x)) hev
 | convert src dt x =>
  simp only [evOp, oAlloc, oBox, oBuild, oBuildSlice, oLoad, oStore, oBinOp, oConvert, oMakeSlice, oSlice, oFieldAddr, oField, oIndexAddr, oIndex, oLen, oAppend, oMax, oMin] at hev
  split at hev
  ·rename_i hs hd
   simp only [Option.bind_eq_some_iff] at hev
   obtain ⟨v, hv, hev⟩ := hev
   exact V (cvInt_sound H hs hd hv (ht.evX x)) hev
  ·rename_i hs hd
   split at hev
   ·rename_i he8
    simp only [Option.bind_eq_some_iff] at hev
    obtain ⟨v, hv, hev⟩ := hev
    exact V (cvStr_sound H hs he8 hd hv (ht.evX x)) hev
   ·simp at hev
  ·simp at hev
 | makeFunc fn first captured =>
  cases fn with
  | func f =>
   simp only [evOp, oAlloc, oBox, oBuild, oBuildSlice, oLoad, oStore, oBinOp, oConvert, oMakeSlice, oSlice, oFieldAddr, oField, oIndexAddr, oIndex, oLen, oAppend, oMax, oMin, Option.bind_eq_some_iff] at hev
   obtain ⟨v, hv, hev⟩ := hev
   unfold aFn at hv
   split at hv
   ·rename_i hcd
    simp only [Bool.and_eq_true] at hcd
    simp at hv; subst hv
    refine V (SemOk.same H (v' := .func (.func f) (first.map a.eval) (captured.map a.eval)) rfl (.s1 (.func f ?_ ?_))) hev
    ·simpa using S0_all hcd.1 (args_sound ht first.toList)
    ·simpa using S0_all hcd.2 (args_sound ht captured.toList)
   ·simp at hv
  | _ => simp [evOp, oAlloc, oBox, oBuild, oBuildSlice, oLoad, oStore, oBinOp, oConvert, oMakeSlice, oSlice, oFieldAddr, oField, oIndexAddr, oIndex, oLen, oAppend, oMax, oMin] at hev
 | makeMap ty rs =>
  cases rs with
  | some m => simp [evOp] at hev
  | none =>
   simp only [evOp, aNewM] at hev
   obtain ⟨k1, k2⟩ := H.newMap
   exact V (s := Instr.makeMap ty none) ⟨_, _, _, run_makeMap ty w, k2, k1, .s0 (.map _ _ (if_pos rfl))⟩ hev
 | lookup ty x i ok =>
  simp only [evOp, oLookup] at hev
  split at hev
  ·rename_i kt e hu
   split at hev
   ·rename_i z hf hz
    simp only [Option.bind_eq_some_iff] at hev
    obtain ⟨v, hv, hev⟩ := hev
    exact V (get_sound H hu hf hz hv (ht.evX x) (ht.evX i)) hev
   ·simp at hev
  ·simp at hev
 | mapUpdate ty m key x =>
  simp only [evOp, oMapUpdate] at hev
  split at hev
  ·rename_i kt e hu
   split at hev
   ·rename_i hf
    simp only [Option.bind_eq_some_iff] at hev
    obtain ⟨h', hh', hev⟩ := hev
    exact unit_step (mapSet_sound H hu hf hh' (ht.evX m) (ht.evX key) (ht.evX x)) fun w' ι' n H => hk _ _ _ _ _ n H (VR.undef _) hev
   ·simp at hev
  ·simp at hev
 | makeSlice ty l c =>
  simp only [evOp, oAlloc, oBox, oBuild, oBuildSlice, oLoad, oStore, oBinOp, oConvert, oMakeSlice, oSlice, oFieldAddr, oField, oIndexAddr, oIndex, oLen, oAppend, oMax, oMin] at hev
  split at hev
  ·rename_i e he
   split at hev
   ·rename_i z b n hz hb hn
    split at hev
    ·rename_i hcd
     simp only [Option.bind_eq_some_iff] at hev
     obtain ⟨v, hv, hev⟩ := hev
     exact V (mk_sound H (elem_under he) hn hcd.1 hz hcd.2 hb hv (ht.evX l) (ht.evX c)) hev
    ·simp at hev
   ·simp at hev
  ·simp at hev
 | slice ty x lo hi mx =>
  cases mx with
  | some m => simp [evOp, oAlloc, oBox, oBuild, oBuildSlice, oLoad, oStore, oBinOp, oConvert, oMakeSlice, oSlice, oFieldAddr, oField, oIndexAddr, oIndex, oLen, oAppend, oMax, oMin] at hev
  | none =>
   simp only [evOp, oAlloc, oBox, oBuild, oBuildSlice, oLoad, oStore, oBinOp, oConvert, oMakeSlice, oSlice, oFieldAddr, oField, oIndexAddr, oIndex, oLen, oAppend, oMax, oMin] at hev
   split at hev
   ·rename_i hu
    simp only [Option.bind_eq_some_iff] at hev
    obtain ⟨v, hv, hev⟩ := hev
    exact V (subS_sound H hu ht (ht.evX x) hv) hev
   ·rename_i e hu
    split at hev
    ·rename_i n hn
     simp only [Option.bind_eq_some_iff] at hev
     obtain ⟨v, hv, hev⟩ := hev
     exact V (sub_sound H hu hn ht (ht.evX x) hv) hev
    ·simp at hev
   ·simp at hev
 | fieldAddr s x f =>
  simp only [evOp, oAlloc, oBox, oBuild, oBuildSlice, oLoad, oStore, oBinOp, oConvert, oMakeSlice, oSlice, oFieldAddr, oField, oIndexAddr, oIndex, oLen, oAppend, oMax, oMin] at hev
  split at hev
  ·rename_i fd hfd
   simp only [Option.bind_eq_some_iff] at hfd
   obtain ⟨fs, hf, hfd⟩ := hfd
   split at hev
   ·rename_i n hn
    simp only [Option.bind_eq_some_iff] at hev
    obtain ⟨v, hv, hev⟩ := hev
    exact V (off_sound H hf hfd hn hv (ht.evX x)) hev
   ·simp at hev
  ·simp at hev
 | field s x f =>
  simp only [evOp, oAlloc, oBox, oBuild, oBuildSlice, oLoad, oStore, oBinOp, oConvert, oMakeSlice, oSlice, oFieldAddr, oField, oIndexAddr, oIndex, oLen, oAppend, oMax, oMin] at hev
  split at hev
  ·rename_i fd hfd
   simp only [Option.bind_eq_some_iff] at hfd
   obtain ⟨fs, hf, hfd⟩ := hfd
   split at hev
   ·rename_i g n hg hn
    simp only [Option.bind_eq_some_iff] at hev
    obtain ⟨v, hv, hev⟩ := hev
    exact V (part_sound H hf hfd hg hn hv (ht.evX x)) hev
   ·simp at hev
  ·simp at hev
 | indexAddr ty x i =>
  simp only [evOp, oAlloc, oBox, oBuild, oBuildSlice, oLoad, oStore, oBinOp, oConvert, oMakeSlice, oSlice, oFieldAddr, oField, oIndexAddr, oIndex, oLen, oAppend, oMax, oMin] at hev
  split at hev
  ·rename_i e he
   split at hev
   ·rename_i n hn
    simp only [Option.bind_eq_some_iff] at hev
    obtain ⟨v, hv, hev⟩ := hev
    exact V (idx_sound H (elem_under he) hn hv (ht.evX x) (ht.evX i)) hev
   ·simp at hev
  ·simp at hev
 | index ty x i =>
  simp only [evOp, oAlloc, oBox, oBuild, oBuildSlice, oLoad, oStore, oBinOp, oConvert, oMakeSlice, oSlice, oFieldAddr, oField, oIndexAddr, oIndex, oLen, oAppend, oMax, oMin] at hev
  split at hev
  ·rename_i hu
   simp only [Option.bind_eq_some_iff] at hev
   obtain ⟨v, hv, hev⟩ := hev
   exact V (strIx_sound H hu hv (ht.evX x) (ht.evX i)) hev
  ·simp at hev
 | extract x i =>
  simp only [evOp, oAlloc, oBox, oBuild, oBuildSlice, oLoad, oStore, oBinOp, oConvert, oMakeSlice, oSlice, oFieldAddr, oField, oIndexAddr, oIndex, oLen, oAppend, oMax, oMin, Option.bind_eq_some_iff] at hev
  obtain ⟨v, hv, hev⟩ := hev
  exact V (ext_sound H hv (ht.evX x)) hev
 | call c =>
  obtain ⟨callee, args, argTypes⟩ := c
  cases callee with
  | invoke r m => simp [evOp, oAlloc, oBox, oBuild, oBuildSlice, oLoad, oStore, oBinOp, oConvert, oMakeSlice, oSlice, oFieldAddr, oField, oIndexAddr, oIndex, oLen, oAppend, oMax, oMin] at hev
  | builtin b =>
   have B : ∀ {h' : AHeap} {v : Value} (s : Sem Value), (builtin b argTypes type (args.map fun | .const _ => true | _ => false) (args.map a.eval)) = (do pure (.value (← s))) → SemOk P w0 ι h' w s v → k v h' = some r →
     Oper.upon P ⟨dst, .call ⟨.builtin b, args, argTypes⟩, type, pos, after, guard⟩ a next Q ((execOp a.eval ⟨dst, .call ⟨.builtin b, args, argTypes⟩, type, pos, after, guard⟩).run P w) := by
    intro h' v s hb hs he
    have : execOp a.eval ⟨dst, .call ⟨.builtin b, args, argTypes⟩, type, pos, after, guard⟩ = (do pure (.value (← s))) := hb
    rw [this]
    exact V hs he
   cases b with
   | len =>
    simp only [evOp, oAlloc, oBox, oBuild, oBuildSlice, oLoad, oStore, oBinOp, oConvert, oMakeSlice, oSlice, oFieldAddr, oField, oIndexAddr, oIndex, oLen, oAppend, oMax, oMin] at hev
    split at hev
    ·rename_i x ty hx hty
     obtain rfl := list_one hx
     obtain rfl := list_one' hty
     split at hev
     ·rename_i hu
      simp only [Option.bind_eq_some_iff] at hev
      obtain ⟨s, hs, hev⟩ := hev
      have hxs : AH.evX t x = .string s := by
       unfold asS at hs
       split at hs
       ·rename_i heq; simp at hs; subst hs; exact heq
       ·simp at hs
      have hv := ht.evX x
      rw [hxs] at hv
      refine B (Builtin.len_ #[ty] type #[a.eval x]) (by simp [builtin]) (SemOk.same H (v' := .int .i64 s.size) ?_ (.s0 (.int _ _))) hev
      rw [hv.string_inv]
      simp [Builtin.len_, run_underlying hu, goInt]
     ·rename_i e hu
      simp only [Option.bind_eq_some_iff] at hev
      obtain ⟨v, hv, hev⟩ := hev
      exact B (Builtin.len_ #[ty] type #[a.eval x]) (by simp [builtin]) (len_sound H hu hv (ht.evX x)) hev
     ·simp at hev
    ·simp at hev
   | append =>
    simp only [evOp, oAlloc, oBox, oBuild, oBuildSlice, oLoad, oStore, oBinOp, oConvert, oMakeSlice, oSlice, oFieldAddr, oField, oIndexAddr, oIndex, oLen, oAppend, oMax, oMin] at hev
    split at hev
    ·rename_i s x ts tx hx hty
     obtain rfl := list_two hx
     obtain rfl := list_two' hty
     split at hev
     ·rename_i e e2 he hu
      split at hev
      ·rename_i hts
       subst hts
       split at hev
       ·rename_i n b z hn hb hz
        split at hev
        ·rename_i hcd
         simp only [Option.bind_eq_some_iff] at hev
         obtain ⟨v, hv, hev⟩ := hev
         exact B (Builtin.append_ #[ts, ts] type #[a.eval s, a.eval x]) (by simp [builtin]) (appG_sound H (elem_under he) hn hcd.1 hb hz hcd.2 hv (ht.evX s) fun m cs hsr => src_sound H hsr (ht.evX x)) hev
        ·simp at hev
       ·simp at hev
      ·simp at hev
     ·rename_i e he hu
      split at hev
      ·rename_i b z hn hb hz
       simp only [Option.bind_eq_some_iff] at hev
       obtain ⟨v, hv, hev⟩ := hev
       exact B (Builtin.append_ #[ts, tx] type #[a.eval s, a.eval x]) (by simp [builtin]) (appG_sound H (elem_under he) hn Nat.one_pos hb hz rfl hv (ht.evX s) fun m cs hsr => srcS_sound rfl hu hsr (ht.evX x)) hev
      ·simp at hev
     ·simp at hev
    ·simp at hev
   | copy =>
    simp only [evOp, oCopy] at hev
    split at hev
    ·rename_i d s td ts hx hty
     obtain rfl := list_two hx
     obtain rfl := list_two' hty
     split at hev
     ·rename_i e he
      split at hev
      ·rename_i n hn
       simp only [Option.bind_eq_some_iff] at hev
       obtain ⟨v, hv, hev⟩ := hev
       exact B (Builtin.copy_ #[td, ts] type #[a.eval d, a.eval s]) (by simp [builtin]) (copy_sound H (elem_under he) hn hv (ht.evX d) (ht.evX s)) hev
      ·simp at hev
     ·simp at hev
    ·simp at hev
   | clear =>
    simp only [evOp, oClear] at hev
    split at hev
    ·rename_i d td hx hty
     obtain rfl := list_one hx
     obtain rfl := list_one' hty
     split at hev
     ·rename_i e he
      split at hev
      ·rename_i n z hn hz
       split at hev
       ·rename_i hcd
        simp only [Option.bind_eq_some_iff] at hev
        obtain ⟨h', hh', hev⟩ := hev
        exact B (Builtin.clear_ #[td] type #[a.eval d]) (by simp [builtin]) (clear_sound (ty := type) H (elem_under he) hn hcd.1 hz hcd.2 hh' (ht.evX d)) hev
       ·simp at hev
      ·simp at hev
     ·simp at hev
    ·simp at hev
   | max =>
    simp only [evOp, oAlloc, oBox, oBuild, oBuildSlice, oLoad, oStore, oBinOp, oConvert, oMakeSlice, oSlice, oFieldAddr, oField, oIndexAddr, oIndex, oLen, oAppend, oMax, oMin] at hev
    split at hev
    ·rename_i x y hx
     obtain rfl := list_two hx
     simp only [Option.bind_eq_some_iff] at hev
     obtain ⟨v, hv, hev⟩ := hev
     exact B (Builtin.max_ argTypes type #[a.eval x, a.eval y]) (by simp [builtin]) (mm_sound (t := type) (ats := argTypes) H true hv (ht.evX x) (ht.evX y)) hev
    ·simp at hev
   | min =>
    simp only [evOp, oAlloc, oBox, oBuild, oBuildSlice, oLoad, oStore, oBinOp, oConvert, oMakeSlice, oSlice, oFieldAddr, oField, oIndexAddr, oIndex, oLen, oAppend, oMax, oMin] at hev
    split at hev
    ·rename_i x y hx
     obtain rfl := list_two hx
     simp only [Option.bind_eq_some_iff] at hev
     obtain ⟨v, hv, hev⟩ := hev
     exact B (Builtin.min_ argTypes type #[a.eval x, a.eval y]) (by simp [builtin]) (mm_sound (t := type) (ats := argTypes) H false hv (ht.evX x) (ht.evX y)) hev
    ·simp at hev
   | _ => simp [evOp, oAlloc, oBox, oBuild, oBuildSlice, oLoad, oStore, oBinOp, oConvert, oMakeSlice, oSlice, oFieldAddr, oField, oIndexAddr, oIndex, oLen, oAppend, oMax, oMin] at hev
  | value f =>
   simp only [evOp, oAlloc, oBox, oBuild, oBuildSlice, oLoad, oStore, oBinOp, oConvert, oMakeSlice, oSlice, oFieldAddr, oField, oIndexAddr, oIndex, oLen, oAppend, oMax, oMin, Option.bind_eq_some_iff] at hev
   obtain ⟨⟨v, h'⟩, hv, hev⟩ := hev
   unfold aCallV at hv
   split at hv
   ·rename_i g first captured hf
    have hfr := ht.evX f
    rw [hf] at hfr
    obtain ⟨first', captured', hfe, hfa, hca⟩ := hfr.func_inv
    obtain ⟨fn, hfn, hbody, hname⟩ := hC.body _ _ _ _ hv
    have hrun : (execOp a.eval ⟨dst, .call ⟨.value f, args, argTypes⟩, type, pos, after, guard⟩).run P w = .ok (.enter g (first' ++ args.map a.eval ++ captured')) w := by
     have hne : fn.name ≠ "runtime.NumGoroutine" := by simpa using hname
     have hb2 : fn.body ≠ none := by intro e; rw [e] at hbody; simp at hbody
     simp [execOp, resolve, hfe, Deferred.ofValue, invoke, callFunc, hfn, hne, hb2]
    rw [hrun]
    have hall : All2 (VR ι) (first.toList ++ args.toList.map (AH.evX t) ++ captured.toList) (first' ++ args.map a.eval ++ captured').toList := by
     have := ((hfa.mono fun _ _ => VR.s0).append (args_sound ht args.toList)).append (hca.mono fun _ _ => VR.s0)
     simpa using this
    refine (hC.calls w0.fz _ _ _ _ _ hv ι w _ hall H).mono fun e w' ⟨v', ι', he, n, H', hv'⟩ => ?_
    subst he
    exact hk _ _ _ _ _ n H' hv' hev
   ·simp at hv
 | _ => simp [evOp, oAlloc, oBox, oBuild, oBuildSlice, oLoad, oStore, oBinOp, oConvert, oMakeSlice, oSlice, oFieldAddr, oField, oIndexAddr, oIndex, oLen, oAppend, oMax, oMin] at hev
end
open Go.RowKit Go.Lib
variable {P : Program} {w0 : W0} {w : World} {ι : Inj} {h : AHeap}
theorem asB_inv {v : Value} {b : Bool} (h : asB v = some b) : v = .bool b := by
 unfold asB at h
 split at h
 ·simp at h; subst h; rfl
 ·simp at h
theorem asI_inv {k : IntKind} {v : Value} {n : Int} (h : asI k v = some n) : v = .int k n := by
 unfold asI at h
 split at h
 ·split at h
  ·rename_i hk; simp at h; subst h; subst hk; rfl
  ·simp at h
 ·simp at h
theorem asS_inv {v : Value} {s : ByteArray} (h : asS v = some s) : v = .string s := by
 unfold asS at h
 split at h
 ·simp at h; subst h; rfl
 ·simp at h
theorem nrm_inv {R : Type} {ty : TypeId} {v : Value} {k : Value → Option R} {r : R} (h : nrm P ty v k = some r) : k v = some r := by
 unfold nrm at h
 split at h
 ·simp only [Option.bind_eq_some_iff] at h
  obtain ⟨b, hb, h⟩ := h
  rw [asB_inv hb]; exact h
 ·simp only [Option.bind_eq_some_iff] at h
  obtain ⟨b, hb, h⟩ := h
  rw [asI_inv hb]; exact h
 ·simp only [Option.bind_eq_some_iff] at h
  obtain ⟨b, hb, h⟩ := h
  rw [asS_inv hb]; exact h
 ·exact h
theorem nrm_bind {R : Type} (ty : TypeId) (v : Value) (k : Value → Option R) : nrm P ty v k = (nrm P ty v some).bind k := by
 unfold nrm
 split <;> simp [Option.bind_assoc]
def gW (ops : Array Oper) (o : Oper) (t : Tm) : Option Bool :=
 match o.guard with
 | none => some true
 | some (j, want) =>
  match (ops[j]?).bind (·.dst) with
  | some d =>
   match t.getD d junk with
   | .bool b => some (b == want)
   | .tuple ⟨[]⟩ => some false
   | _ => none
  | none => none
structure Same (t t' : Tm) : Prop where
 n : t'.n = t.n
 at' : ∀ i, t'.getD i junk = t.getD i junk
theorem Same.refl (t : Tm) : Same t t := ⟨rfl, fun _ => rfl⟩
theorem set_Same {t : Tm} {d : Nat} {v : Value} (h : t.getD d junk = v) : Same t (t.set d v) := by
 refine ⟨set_n, fun i => ?_⟩
 by_cases hd : d = i
 ·subst hd
  by_cases hl : d < t.n
  ·rw [set_same hl, h]
  ·rw [set_out hl]
 ·rw [set_ne hd]
theorem TR.same {t t' : Tm} {tm : Array Value} (r : TR ι t tm) (s : Same t t') : TR ι t' tm := ⟨s.n.trans r.len, fun i => by rw [s.at']; exact r.slot i⟩
theorem evG_inv {R : Type} {ops : Array Oper} {o : Oper} {t : Tm} {run skip : Tm → Option R} {r : R} (h : evG ops o t run skip = some r) :
  (gW ops o t = some true ∧ ∃ t', Same t t' ∧ run t' = some r) ∨ (gW ops o t = some false ∧ ∃ t', Same t t' ∧ skip t' = some r) := by
 unfold evG at h
 unfold gW
 cases hg : o.guard with
 | none => rw [hg] at h; exact .inl ⟨rfl, t, Same.refl t, h⟩
 | some jw =>
  obtain ⟨j, want⟩ := jw
  rw [hg] at h
  simp only [] at h ⊢
  cases hd : (ops[j]?).bind (·.dst) with
  | none => rw [hd] at h; simp at h
  | some d =>
   rw [hd] at h
   simp only [] at h ⊢
   split at h
   ·rename_i b hb
    have e := set_Same hb
    rw [hb]
    cases b <;> cases want <;> simp only [cond_true, cond_false] at h <;> first | exact .inl ⟨rfl, _, e, h⟩ | exact .inr ⟨rfl, _, e, h⟩
   ·rename_i hb
    rw [hb]; exact .inr ⟨rfl, t, Same.refl t, h⟩
   ·simp at h
theorem VR.bool_inv' {b : Bool} {v' : Value} (h : VR ι (.bool b) v') : v' = .bool b := by
 cases h with
 | s2 r => cases r with | s1 r => cases r with | s0 r => cases r; rfl
theorem VR.tup0_inv {v' : Value} (h : VR ι (.tuple ⟨[]⟩) v') : v' = .tuple #[] := by
 cases h with
 | tuple ha =>
  rename_i a'
  have : a'.toList = [] := by generalize a'.toList = l at ha; cases ha; rfl
  rw [show a' = #[] from Array.ext' this]
 | s2 r => cases r with | s1 r => cases r with | s0 r => cases r
theorem gW_sound {ops : Array Oper} {o : Oper} {t : Tm} {a : Act} {b : Bool} (h : gW ops o t = some b)
  (ht : ∀ g want d, o.guard = some (g, want) → (ops[g]?).bind (·.dst) = some d → VR ι (t.getD d junk) (a.tmps.getD d undef)) : Region.wanted o (yielded ops a.tmps) = b := by
 unfold gW at h
 unfold Region.wanted
 cases hg : o.guard with
 | none => rw [hg] at h; simp at h; subst h; rfl
 | some jw =>
  obtain ⟨j, want⟩ := jw
  rw [hg] at h
  simp only [] at h ⊢
  cases hd : (ops[j]?).bind (·.dst) with
  | none => rw [hd] at h; simp at h
  | some d =>
   rw [hd] at h
   have hv := ht j want d hg hd
   simp only [yielded, hd, oBs] at h ⊢
   split at h
   ·rename_i b' hb
    rw [hb] at hv
    have := VR.bool_inv' hv
    rw [Array.getD_eq_getD_getElem?] at this
    cases hx : a.tmps[d]? with
    | none => rw [hx] at this; simp [undef] at this
    | some x =>
     rw [hx] at this; simp at this; subst this
     simp at h ⊢
     subst h; cases b' <;> cases want <;> rfl
   ·rename_i hb
    rw [hb] at hv
    have := VR.tup0_inv hv
    rw [Array.getD_eq_getD_getElem?] at this
    cases hx : a.tmps[d]? with
    | none => simp at h ⊢; exact h
    | some x => rw [hx] at this; simp at this; subst this; simp at h ⊢; exact h
   ·simp at h
theorem evOps_sound {C : ACall} (hC : CallOk P w0 C) {R : Type} {ops : Array Oper} {k : Tm → AHeap → Option R} {r : R} {Q : Exit → Act → World → Prop} {D : List Deferred} :
  ∀ (l : List Oper) {t : Tm} {h : AHeap} {w : World} {ι : Inj} {a : Act}, evOps P C ops l t h k = some r → TR ι t a.tmps → HRel P w0 ι h w → a.defers = D →
  (∀ t' h' a' w' ι', Nxt ι w ι' w' → HRel P w0 ι' h' w' → TR ι' t' a'.tmps → a'.defers = D → k t' h' = some r → Q .normal a' w') → wpList P ops Q l a w := by
 intro l
 induction l with
 | nil =>
  intro t h w ι a he ht H hd hk
  exact hk _ _ _ _ _ (Nxt.refl _ _) H ht hd he
 | cons o os ih =>
  intro t h w ι a he ht H hd hk
  simp only [evOps] at he
  unfold wpList
  rcases evG_inv he with ⟨hg, t', hs, he⟩ | ⟨hg, t', hs, he⟩
  ·rw [gW_sound hg fun g want d _ _ => ht.getD d undef]
   simp only [if_true]
   left
   refine op_sound hC he (ht.same hs) H fun v h' v' w' ι' n H' hv he => ?_
   have he := nrm_inv he
   exact ih he (((ht.same hs).mono n.le).put o.dst hv) H' (by rw [Act.put_defers]; exact hd) fun t' h' a' w' ι' n' => hk t' h' a' w' ι' (n.trans n')
  ·rw [gW_sound hg fun g want d _ _ => ht.getD d undef]
   simp only [Bool.false_eq_true, if_false]
   exact ih he ((ht.same hs).put o.dst (VR.undef _)) H (by rw [Act.put_defers]; exact hd) hk
open Go.RowKit Go.Lib
variable {P : Program} {w0 : W0} {w : World} {ι : Inj} {h : AHeap}
theorem partsOf_congr {t t2 : Tm} (pl : List (Nat × Nat)) : ∀ (l : List (Nat × Operand)), (∀ p ∈ l, evX t p.2 = evX t2 p.2) → partsOf pl t l = partsOf pl t2 l
 | [], _ => rfl
 | (i, x) :: l, h => by
  unfold partsOf
  rw [partsOf_congr pl l fun p hp => h p (List.mem_cons_of_mem _ hp), h (i, x) (List.mem_cons_self ..)]
theorem evOp_congr {R : Type} {C : ACall} {o : Oper} {t t2 : Tm} {k : Value → AHeap → Option R} (he : ∀ x ∈ o.op.operands, evX t x = evX t2 x) :
  evOp P C o t h k = evOp P C o t2 h k := by
 obtain ⟨dst, op, type, pos, after, guard⟩ := o
 cases op with
 | build ty parts =>
  simp only [Op.operands] at he
  simp only [evOp, oAlloc, oBox, oBuild, oBuildSlice, oLoad, oStore, oBinOp, oConvert, oMakeSlice, oSlice, oFieldAddr, oField, oIndexAddr, oIndex, oLen, oAppend, oMax, oMin, oLookup, oMapUpdate, oCopy, oClear, aNewM]
  have : ∀ pl, partsOf pl t parts.toList = partsOf pl t2 parts.toList := fun pl => partsOf_congr pl _ fun p hp => he p.2 (by simp; exact ⟨p.1, by simpa using hp⟩)
  simp only [this]
 | buildSlice ty len parts =>
  simp only [Op.operands] at he
  simp only [evOp, oAlloc, oBox, oBuild, oBuildSlice, oLoad, oStore, oBinOp, oConvert, oMakeSlice, oSlice, oFieldAddr, oField, oIndexAddr, oIndex, oLen, oAppend, oMax, oMin, oLookup, oMapUpdate, oCopy, oClear, aNewM]
  have : ∀ n : Nat, (parts.toList.map fun p => (p.1 * n, n, evX t p.2)) = (parts.toList.map fun p => (p.1 * n, n, evX t2 p.2)) := fun n => List.map_congr_left fun p hp => by rw [he p.2 (by simp; exact ⟨p.1, by simpa using hp⟩)]
  simp only [this]
 | makeFunc fn first captured =>
  simp only [Op.operands] at he
  cases fn with
  | func f =>
   simp only [evOp, oAlloc, oBox, oBuild, oBuildSlice, oLoad, oStore, oBinOp, oConvert, oMakeSlice, oSlice, oFieldAddr, oField, oIndexAddr, oIndex, oLen, oAppend, oMax, oMin, oLookup, oMapUpdate, oCopy, oClear, aNewM]
   rw [List.map_congr_left fun x hx => he x (by simp at hx; simp [hx]), List.map_congr_left (l := captured.toList) fun x hx => he x (by simp at hx; simp [hx])]
  | _ => rfl
 | call c =>
  obtain ⟨callee, args, argTypes⟩ := c
  have ha : args.toList.map (evX t) = args.toList.map (evX t2) := List.map_congr_left fun x hx => he x (by simp at hx; simp [Op.operands, Call.operands, hx])
  cases callee with
  | value f =>
   have hf : evX t f = evX t2 f := he f (by simp [Op.operands, Call.operands])
   simp only [evOp, oAlloc, oBox, oBuild, oBuildSlice, oLoad, oStore, oBinOp, oConvert, oMakeSlice, oSlice, oFieldAddr, oField, oIndexAddr, oIndex, oLen, oAppend, oMax, oMin, oLookup, oMapUpdate, oCopy, oClear, aNewM, ha, hf]
  | invoke => rfl
  | builtin b =>
   have h1 : ∀ x, args.toList = [x] → evX t x = evX t2 x := fun x hx => by simpa [hx] using ha
   have h2 : ∀ x y, args.toList = [x, y] → evX t x = evX t2 x ∧ evX t y = evX t2 y := fun x y hx => by simpa [hx] using ha
   cases b with
   | len => simp only [evOp, oAlloc, oBox, oBuild, oBuildSlice, oLoad, oStore, oBinOp, oConvert, oMakeSlice, oSlice, oFieldAddr, oField, oIndexAddr, oIndex, oLen, oAppend, oMax, oMin, oLookup, oMapUpdate, oCopy, oClear, aNewM]; split <;> first | rfl | (rename_i hx _; rw [h1 _ hx])
   | append => simp only [evOp, oAlloc, oBox, oBuild, oBuildSlice, oLoad, oStore, oBinOp, oConvert, oMakeSlice, oSlice, oFieldAddr, oField, oIndexAddr, oIndex, oLen, oAppend, oMax, oMin, oLookup, oMapUpdate, oCopy, oClear, aNewM]; split <;> first | rfl | (rename_i hx _; rw [(h2 _ _ hx).1, (h2 _ _ hx).2])
   | copy => simp only [evOp, oCopy]; split <;> first | rfl | (rename_i hx _; rw [(h2 _ _ hx).1, (h2 _ _ hx).2])
   | clear => simp only [evOp, oClear]; split <;> first | rfl | (rename_i hx _; rw [h1 _ hx])
   | max => simp only [evOp, oAlloc, oBox, oBuild, oBuildSlice, oLoad, oStore, oBinOp, oConvert, oMakeSlice, oSlice, oFieldAddr, oField, oIndexAddr, oIndex, oLen, oAppend, oMax, oMin, oLookup, oMapUpdate, oCopy, oClear, aNewM]; split <;> first | rfl | (rename_i hx; rw [(h2 _ _ hx).1, (h2 _ _ hx).2])
   | min => simp only [evOp, oAlloc, oBox, oBuild, oBuildSlice, oLoad, oStore, oBinOp, oConvert, oMakeSlice, oSlice, oFieldAddr, oField, oIndexAddr, oIndex, oLen, oAppend, oMax, oMin, oLookup, oMapUpdate, oCopy, oClear, aNewM]; split <;> first | rfl | (rename_i hx; rw [(h2 _ _ hx).1, (h2 _ _ hx).2])
   | _ => rfl
 | makeMap t rs => cases rs <;> rfl
 | slice t x lo hi mx =>
  cases mx with
  | some m => rfl
  | none => cases lo <;> cases hi <;> simp_all [evOp, oAlloc, oBox, oBuild, oBuildSlice, oLoad, oStore, oBinOp, oConvert, oMakeSlice, oSlice, oFieldAddr, oField, oIndexAddr, oIndex, oLen, oAppend, oMax, oMin, oLookup, oMapUpdate, oCopy, oClear, aNewM, Op.operands]
 | _ => first | (simp only [Op.operands] at he; simp_all [evOp, oAlloc, oBox, oBuild, oBuildSlice, oLoad, oStore, oBinOp, oConvert, oMakeSlice, oSlice, oFieldAddr, oField, oIndexAddr, oIndex, oLen, oAppend, oMax, oMin, oLookup, oMapUpdate, oCopy, oClear, aNewM]; done) | rfl
theorem evOp_bind {R : Type} {C : ACall} {o : Oper} {t : Tm} {k : Value → AHeap → Option R} (he : isEff o.op = false) :
  evOp P C o t h k = (evOp P C o t h fun v _ => some v).bind fun v => k v h := by
 obtain ⟨dst, op, type, pos, after, guard⟩ := o
 cases op with
 | call c =>
  obtain ⟨callee, args, argTypes⟩ := c
  cases callee with
  | value f => simp [isEff] at he
  | invoke => rfl
  | builtin b =>
   cases b with
   | append => simp [isEff] at he
   | copy => simp [isEff] at he
   | clear => simp [isEff] at he
   | len => simp only [evOp, oAlloc, oBox, oBuild, oBuildSlice, oLoad, oStore, oBinOp, oConvert, oMakeSlice, oSlice, oFieldAddr, oField, oIndexAddr, oIndex, oLen, oAppend, oMax, oMin, oLookup, oMapUpdate, oCopy, oClear, aNewM]; (repeat' split) <;> simp [Option.bind_assoc]
   | max => simp only [evOp, oAlloc, oBox, oBuild, oBuildSlice, oLoad, oStore, oBinOp, oConvert, oMakeSlice, oSlice, oFieldAddr, oField, oIndexAddr, oIndex, oLen, oAppend, oMax, oMin, oLookup, oMapUpdate, oCopy, oClear, aNewM]; split <;> simp [Option.bind_assoc]
   | min => simp only [evOp, oAlloc, oBox, oBuild, oBuildSlice, oLoad, oStore, oBinOp, oConvert, oMakeSlice, oSlice, oFieldAddr, oField, oIndexAddr, oIndex, oLen, oAppend, oMax, oMin, oLookup, oMapUpdate, oCopy, oClear, aNewM]; split <;> simp [Option.bind_assoc]
   | _ => rfl
 | pick c x y => simp only [evOp, oAlloc, oBox, oBuild, oBuildSlice, oLoad, oStore, oBinOp, oConvert, oMakeSlice, oSlice, oFieldAddr, oField, oIndexAddr, oIndex, oLen, oAppend, oMax, oMin, oLookup, oMapUpdate, oCopy, oClear, aNewM, Option.bind_assoc]; congr 1; funext b; cases b <;> rfl
 | makeFunc fn first captured => cases fn <;> simp [evOp, oAlloc, oBox, oBuild, oBuildSlice, oLoad, oStore, oBinOp, oConvert, oMakeSlice, oSlice, oFieldAddr, oField, oIndexAddr, oIndex, oLen, oAppend, oMax, oMin, oLookup, oMapUpdate, oCopy, oClear, aNewM, Option.bind_assoc]
 | slice t x lo hi mx =>
  cases mx with
  | some m => rfl
  | none => simp only [evOp, oAlloc, oBox, oBuild, oBuildSlice, oLoad, oStore, oBinOp, oConvert, oMakeSlice, oSlice, oFieldAddr, oField, oIndexAddr, oIndex, oLen, oAppend, oMax, oMin, oLookup, oMapUpdate, oCopy, oClear, aNewM]; (repeat' split) <;> simp [Option.bind_assoc]
 | _ =>
  first
   | (simp [isEff] at he; done)
   | (simp only [evOp, oAlloc, oBox, oBuild, oBuildSlice, oLoad, oStore, oBinOp, oConvert, oMakeSlice, oSlice, oFieldAddr, oField, oIndexAddr, oIndex, oLen, oAppend, oMax, oMin, oLookup, oMapUpdate, oCopy, oClear, aNewM, Option.bind_assoc, oBs]; done)
   | (simp only [evOp, oAlloc, oBox, oBuild, oBuildSlice, oLoad, oStore, oBinOp, oConvert, oMakeSlice, oSlice, oFieldAddr, oField, oIndexAddr, oIndex, oLen, oAppend, oMax, oMin, oLookup, oMapUpdate, oCopy, oClear, aNewM]; (repeat' split) <;> simp [Option.bind_assoc]; done)
   | rfl
theorem evOp_still {C : ACall} {o : Oper} {t : Tm} {h h2 : AHeap} (he : isEff o.op = false) (hr : isRd o.op = false) :
  evOp P C o t h (fun v _ => some v) = evOp P C o t h2 (fun v _ => some v) := by
 obtain ⟨dst, op, type, pos, after, guard⟩ := o
 cases op with
 | call c =>
  obtain ⟨callee, args, argTypes⟩ := c
  cases callee with
  | value f => simp [isEff] at he
  | invoke => rfl
  | builtin b =>
   cases b with
   | append => simp [isEff] at he
   | copy => simp [isEff] at he
   | clear => simp [isEff] at he
   | _ => rfl
 | makeFunc fn first captured => cases fn <;> rfl
 | _ => first | (simp [isEff] at he; done) | (simp [isRd] at hr; done) | rfl
section
variable {L : Bool} {ops : Array Oper}
theorem preOf_spec {o : Oper} {acc : List Nat} {i : Nat} (h : (preOf o acc).testBit i = true) :
  ∃ e ∈ o.after, Region.binds .any e = true ∧ (e.on = i ∨ (acc.getD e.on 0).testBit i = true) := by
 have key : ∀ (l : List Edge) (s : Nat), (l.foldl (fun s e => bif Region.binds .any e then s ||| (2 ^ e.on ||| acc.getD e.on 0) else s) s).testBit i = true →
   s.testBit i = true ∨ ∃ e ∈ l, Region.binds .any e = true ∧ (e.on = i ∨ (acc.getD e.on 0).testBit i = true) := by
  intro l
  induction l with
  | nil => intro s h; exact .inl h
  | cons e l ih =>
   intro s h
   rw [List.foldl_cons] at h
   rcases ih _ h with h | ⟨e', he', h⟩
   ·cases hb : Region.binds .any e with
    | false => rw [hb] at h; exact .inl h
    | true =>
     rw [hb] at h
     simp only [cond_true, Nat.testBit_or, Bool.or_eq_true, Nat.testBit_two_pow, decide_eq_true_eq] at h
     rcases h with h | h | h
     ·exact .inl h
     ·exact .inr ⟨e, List.mem_cons_self .., hb, .inl h⟩
     ·exact .inr ⟨e, List.mem_cons_self .., hb, .inr h⟩
   ·exact .inr ⟨e', List.mem_cons_of_mem _ he', h⟩
 rcases key _ _ h with h | ⟨e, he, h⟩
 ·simp at h
 ·exact ⟨e, by simpa using he, h⟩
theorem presGo_spec (L : List Oper) : ∀ (l done : List Oper) (acc : List Nat), L = done ++ l → acc.length = done.length →
  (∀ j i, (acc.getD j 0).testBit i = true → ∃ o, L[j]? = some o ∧ ∃ e ∈ o.after, Region.binds .any e = true ∧ (e.on = i ∨ (acc.getD e.on 0).testBit i = true)) →
  ∀ j i, ((presGo l acc).getD j 0).testBit i = true → ∃ o, L[j]? = some o ∧ ∃ e ∈ o.after, Region.binds .any e = true ∧ (e.on = i ∨ ((presGo l acc).getD e.on 0).testBit i = true) := by
 intro l
 induction l with
 | nil => intro done acc _ _ h; exact h
 | cons o os ih =>
  intro done acc hL hlen h
  have up : ∀ m i, (acc.getD m 0).testBit i = true → ((acc ++ [preOf o acc]).getD m 0).testBit i = true := by
   intro m i hb
   by_cases hm : m < acc.length
   ·simpa [List.getD_eq_getElem?_getD, List.getElem?_append_left hm] using hb
   ·simp [List.getD_eq_getElem?_getD, List.getElem?_eq_none (Nat.le_of_not_lt hm)] at hb
  refine ih (done ++ [o]) (acc ++ [preOf o acc]) (by simp [hL]) (by simp [hlen]) fun j i hb => ?_
  rcases Nat.lt_trichotomy j acc.length with hj | hj | hj
  ·have hb' : (acc.getD j 0).testBit i = true := by simpa [List.getD_eq_getElem?_getD, List.getElem?_append_left hj] using hb
   obtain ⟨o', ho', e, he, hbi, hh⟩ := h j i hb'
   exact ⟨o', ho', e, he, hbi, hh.imp id (up _ _)⟩
  ·subst hj
   have hb' : (preOf o acc).testBit i = true := by simpa [List.getD_eq_getElem?_getD] using hb
   obtain ⟨e, he, hbi, hh⟩ := preOf_spec hb'
   exact ⟨o, by rw [hL, hlen]; simp, e, he, hbi, hh.imp id (up _ _)⟩
  ·have : (acc ++ [preOf o acc])[j]? = none := List.getElem?_eq_none (by simp; omega)
   simp [List.getD_eq_getElem?_getD, this] at hb
theorem pres_spec {j i : Nat} (h : ((pres ops).getD j 0).testBit i = true) :
  ∃ o, ops[j]? = some o ∧ ∃ e ∈ o.after, Region.binds .any e = true ∧ (e.on = i ∨ ((pres ops).getD e.on 0).testBit i = true) := by
 obtain ⟨o, ho, hh⟩ := presGo_spec ops.toList ops.toList [] [] rfl rfl (by simp) j i h
 exact ⟨o, by simpa using ho, hh⟩
structure DrawOk (L : Bool) (ops : Array Oper) (l : List Nat) : Prop where
 lt : ∀ j ∈ l, j < ops.size
 mem : ∀ j, j < ops.size → j ∈ l
 row : drawRow L ops (pres ops) l = true
 top : ∀ (j : Nat) (o : Oper), ops[j]? = some o → ∀ e ∈ o.after, Region.binds .any e = true → e.on < j
 ssa : ∀ i ∈ l, eff L ops i = false → ∀ d, dstOf ops i = some d → ∀ j ∈ l, d ∈ looks ops j → ((pres ops).getD j 0).testBit i = true
theorem drawOk_spec {l : List Nat} (h : drawOk L ops (pres ops) l = true) : DrawOk L ops l := by
 simp only [drawOk, Bool.and_eq_true, List.all_eq_true] at h
 obtain ⟨⟨⟨⟨⟨h1, h2⟩, h3⟩, h4⟩, h5⟩, h6⟩ := h
 refine ⟨fun j hj => by simpa using h2 j hj, fun j hj => by simpa using h3 j (by simpa using hj), h4, fun j o ho e he hbi => ?_, fun i hi hef d hd j hj hl => ?_⟩
 ·have := h5 (o, j) (by
   rw [Array.mem_toList_iff, Array.mem_zipIdx_iff_getElem?]; exact ho)
  simp only [Array.all_eq_true_iff_forall_mem, Bool.or_eq_true, Bool.not_eq_true', decide_eq_true_eq] at this
  exact (this e he).resolve_left (by rw [hbi]; simp)
 ·have := h6 i hi
  rw [hef, hd] at this
  simp only [Bool.false_or, List.all_eq_true] at this
  have := this j hj
  simpa [hl] using this
theorem pre_lt {l : List Nat} (K : DrawOk L ops l) : ∀ (j : Nat) {i : Nat}, ((pres ops).getD j 0).testBit i = true → i < j := by
 intro j
 induction j using Nat.strongRecOn with
 | _ j ih =>
  intro i h
  obtain ⟨o, ho, e, he, hbi, hh⟩ := pres_spec h
  have := K.top j o ho e he hbi
  rcases hh with hh | hh
  ·omega
  ·have := ih e.on this hh; omega
theorem drawRow_pair {pre : List Nat} : ∀ {X : List Nat} {j : Nat} {r : List Nat}, drawRow L ops pre (X ++ j :: r) = true → ∀ i ∈ X,
  (∀ d, dstOf ops j = some d → (d ∈ looks ops i → eff L ops j = true ∧ (pre.getD j 0).testBit i = true) ∧ dstOf ops i ≠ some d) ∧ (eff L ops i = true → (pre.getD j 0).testBit i = true) ∧ i ≠ j
 | x :: X, j, r, h, i, hi => by
  simp only [List.cons_append, drawRow, Bool.and_eq_true, List.all_eq_true] at h
  rcases List.mem_cons.1 hi with rfl | hi
  ·obtain ⟨⟨h0, h1⟩, _⟩ := h
   have h1 := h1 j (by simp)
   refine ⟨fun d hd => ?_, fun he => ?_, ?_⟩
   ·rw [hd] at h1
    simp only [Bool.and_eq_true, Bool.not_eq_true', Bool.or_eq_true, beq_eq_false_iff_ne] at h1
    exact ⟨fun hl => h1.1.1.resolve_left (by simpa using hl), h1.1.2⟩
   ·simpa [he] using h1.2
   ·rintro rfl; simp at h0
  ·exact drawRow_pair h.2 i hi
end
theorem All2.of {α β : Type} {R : α → β → Prop} : ∀ {l : List α} {l' : List β}, l.length = l'.length → (∀ (i : Nat) a b, l[i]? = some a → l'[i]? = some b → R a b) → All2 R l l'
 | [], [], _, _ => .nil
 | a :: l, b :: l', hl, h => .cons (h 0 a b rfl rfl) (All2.of (by simpa using hl) fun i a b ha hb => h (i + 1) a b (by simpa using ha) (by simpa using hb))
 | [], _ :: _, hl, _ => by simp at hl
 | _ :: _, [], hl, _ => by simp at hl
theorem All2.len {α β : Type} {R : α → β → Prop} {l : List α} {l' : List β} (h : All2 R l l') : l.length = l'.length := by
 induction h with
 | nil => rfl
 | cons _ _ ih => simp [ih]
theorem put_getD {t : Tm} {dst : Option Tmp} {v : Value} {s : Nat} (h : dst ≠ some s) : (put t dst v).getD s junk = t.getD s junk := by
 cases dst with
 | none => rfl
 | some d => exact set_ne fun e => h (by rw [e])
theorem put_len {t : Tm} {dst : Option Tmp} {v : Value} : (put t dst v).n = t.n := by
 cases dst with
 | none => rfl
 | some d => exact set_n
theorem put_same {t : Tm} {d : Tmp} {v : Value} (h : d < t.n) : (put t (some d) v).getD d junk = v := set_same h
theorem aput_ne {a : Act} {dst : Option Tmp} {v : Value} {s : Nat} (h : dst ≠ some s) : (a.put dst v).tmps.getD s undef = a.tmps.getD s undef := by
 cases dst with
 | none => rfl
 | some d =>
  have : d ≠ s := fun e => h (by rw [e])
  simp [Act.put, Array.getD_eq_getD_getElem?, Array.getElem?_setIfInBounds_ne this]
theorem aput_same {a : Act} {d : Tmp} {v : Value} (h : d < a.tmps.size) : (a.put (some d) v).tmps.getD d undef = v := by simp [Act.put, Array.getD_eq_getD_getElem?, h]
theorem aput_size {a : Act} {dst : Option Tmp} {v : Value} : (a.put dst v).tmps.size = a.tmps.size := by cases dst <;> simp [Act.put]
section
variable {L : Bool} {ops : Array Oper} {C : ACall} {R : Type} {D : List Deferred} {k : Tm → AHeap → Option R} {r : R}
def Unl (listed : Array Bool) (j : Nat) : Prop := listed.getD j false = false
def Waits (L : Bool) (ops : Array Oper) (X : List Nat) (listed : Array Bool) (s : Nat) : Prop := ∃ i ∈ X, Unl listed i ∧ eff L ops i = false ∧ dstOf ops i = some s
structure TRm (L : Bool) (ops : Array Oper) (X : List Nat) (listed : Array Bool) (ι : Inj) (t : Tm) (a : Act) : Prop where
 len : t.n = a.tmps.size
 slot : ∀ s, Waits L ops X listed s ∨ VR ι (t.getD s junk) (a.tmps.getD s undef)
structure Fact (P : Program) (C : ACall) (ops : Array Oper) (t : Tm) (h : AHeap) (j : Nat) (o : Oper) : Prop where
 at' : ops[j]? = some o
 still : isEff o.op = false
 says : (gW ops o t = some true ∧ ∃ v, evOp P C o t h (fun v _ => some v) = some v ∧ ∀ d, o.dst = some d → d < t.n → t.getD d junk = v) ∨
  (gW ops o t = some false ∧ ∀ d, o.dst = some d → d < t.n → t.getD d junk = undef)
def waiting (L : Bool) (ops : Array Oper) (X : List Nat) (listed : Array Bool) : List Nat := X.filterMap fun i => if listed.getD i false = false ∧ eff L ops i = false then dstOf ops i else none
theorem mem_waiting {X : List Nat} {listed : Array Bool} {s : Nat} : s ∈ waiting L ops X listed ↔ Waits L ops X listed s := by
 unfold waiting Waits Unl
 rw [List.mem_filterMap]
 constructor
 ·rintro ⟨i, hi, h⟩
  split at h
  ·rename_i hc; exact ⟨i, hi, hc.1, hc.2, h⟩
  ·cases h
 ·rintro ⟨i, hi, h1, h2, h3⟩
  exact ⟨i, hi, by rw [if_pos ⟨h1, h2⟩]; exact h3⟩
def veil (L : Bool) (ops : Array Oper) (X : List Nat) (listed : Array Bool) (t : Tm) : Tm := ⟨t.n, (waiting L ops X listed).map (fun s => (s, junk)) ++ t.l⟩
theorem lk_veil {i : Nat} {l : List (Nat × Value)} : ∀ keys : List Nat, (i ∈ keys → lk junk i (keys.map (fun s => (s, junk)) ++ l) = junk) ∧ (i ∉ keys → lk junk i (keys.map (fun s => (s, junk)) ++ l) = lk junk i l)
 | [] => ⟨fun h => by simp at h, fun _ => rfl⟩
 | j :: keys => by
  have ih := lk_veil (i := i) (l := l) keys
  rw [List.map_cons, List.cons_append]
  by_cases h : j = i
  ·subst h; exact ⟨fun _ => lk_cons_same, fun h => by simp at h⟩
  ·rw [lk_cons_ne h]
   exact ⟨fun hm => ih.1 ((List.mem_cons.1 hm).resolve_left fun e => h e.symm), fun hm => ih.2 fun h2 => hm (List.mem_cons_of_mem _ h2)⟩
theorem veil_getD {X : List Nat} {listed : Array Bool} {t : Tm} {s : Nat} (h : ¬ Waits L ops X listed s) : (veil L ops X listed t).getD s junk = t.getD s junk := by
 by_cases hs : s < t.n
 ·rw [getD_in hs, getD_in (show s < (veil L ops X listed t).n from hs)]
  exact (lk_veil _).2 fun hm => h (mem_waiting.1 hm)
 ·rw [getD_out hs, getD_out (show ¬ s < (veil L ops X listed t).n from hs)]
theorem TRm.veil {X : List Nat} {listed : Array Bool} {t : Tm} {a : Act} (h : TRm L ops X listed ι t a) : TR ι (veil L ops X listed t) a.tmps := by
 refine ⟨h.len, fun i => ?_⟩
 by_cases hw : Waits L ops X listed i
 ·have : (AH.veil L ops X listed t).getD i junk = junk := by
   by_cases hs : i < t.n
   ·rw [getD_in (show i < (AH.veil L ops X listed t).n from hs)]; exact (lk_veil _).1 (mem_waiting.2 hw)
   ·exact getD_out hs
  rw [this]; exact .junk _
 ·rw [veil_getD hw]; exact (h.slot i).resolve_left hw
theorem mem_looks_op {j : Nat} {o : Oper} (ho : ops[j]? = some o) {d : Tmp} (hd : Operand.tmp d ∈ o.op.operands) : d ∈ looks ops j := by
 simp only [looks, ho, List.mem_append, List.mem_filterMap]
 exact .inl ⟨.tmp d, by simpa using hd, rfl⟩
theorem mem_looks_guard {j : Nat} {o : Oper} (ho : ops[j]? = some o) {g : Nat} {want : Bool} {d : Tmp} (hg : o.guard = some (g, want)) (hd : (ops[g]?).bind (·.dst) = some d) : d ∈ looks ops j := by
 simp only [looks, ho, hg, hd, List.mem_append]
 exact .inr (by simp)
theorem evX_congr {j : Nat} {o : Oper} (ho : ops[j]? = some o) {t t2 : Tm} (he : ∀ d ∈ looks ops j, t.getD d junk = t2.getD d junk) : ∀ x ∈ o.op.operands, evX t x = evX t2 x := by
 intro x hx
 cases x with
 | tmp d => exact he d (mem_looks_op ho hx)
 | _ => rfl
theorem gW_congr {j : Nat} {o : Oper} (ho : ops[j]? = some o) {t t2 : Tm} (he : ∀ d ∈ looks ops j, t.getD d junk = t2.getD d junk) : gW ops o t = gW ops o t2 := by
 unfold gW
 cases hg : o.guard with
 | none => rfl
 | some jw =>
  obtain ⟨g, want⟩ := jw
  simp only []
  cases hd : (ops[g]?).bind (·.dst) with
  | none => rfl
  | some d => simp only [he d (mem_looks_guard ho hg hd)]
theorem Fact.put {t : Tm} {j : Nat} {o : Oper} (f : Fact P C ops t h j o) {dst : Option Tmp} {v : Value} (hd : ∀ d, dst = some d → d ∉ looks ops j ∧ dstOf ops j ≠ some d) :
  Fact P C ops (put t dst v) h j o := by
 have e : ∀ d ∈ looks ops j, (AH.put t dst v).getD d junk = t.getD d junk := fun d hl => put_getD fun e => (hd d e).1 hl
 have e2 : ∀ d, o.dst = some d → (AH.put t dst v).getD d junk = t.getD d junk := fun d ho => put_getD fun e => (hd d e).2 (by simp [dstOf, f.at', ho])
 refine ⟨f.at', f.still, ?_⟩
 rw [gW_congr f.at' e, evOp_congr (evX_congr f.at' e)]
 refine f.says.imp (fun ⟨h1, v, h2, h3⟩ => ⟨h1, v, h2, fun d h4 h5 => ?_⟩) fun ⟨h1, h3⟩ => ⟨h1, fun d h4 h5 => ?_⟩ <;>
 ·rw [e2 d h4]; exact h3 d h4 (by rwa [put_len] at h5)
theorem Fact.same {t t' : Tm} (hs : Same t t') {j : Nat} {o : Oper} (f : Fact P C ops t h j o) : Fact P C ops t' h j o := by
 have e : ∀ d ∈ looks ops j, t'.getD d junk = t.getD d junk := fun d _ => hs.at' d
 refine ⟨f.at', f.still, ?_⟩
 rw [gW_congr f.at' e, evOp_congr (evX_congr f.at' e)]
 refine f.says.imp (fun ⟨h1, v, h2, h3⟩ => ⟨h1, v, h2, fun d h4 h5 => ?_⟩) fun ⟨h1, h3⟩ => ⟨h1, fun d h4 h5 => ?_⟩ <;>
 ·rw [hs.at']; exact h3 d h4 (by rwa [hs.n] at h5)
theorem TRm.same {t t' : Tm} (hs : Same t t') {X : List Nat} {listed : Array Bool} {a : Act} (T : TRm L ops X listed ι t a) : TRm L ops X listed ι t' a :=
 ⟨hs.n.trans T.len, fun s => by rw [hs.at']; exact T.slot s⟩
theorem Fact.heap {t : Tm} {j : Nat} {o : Oper} (f : Fact P C ops t h j o) (hr : isRd o.op = false) (h2 : AHeap) : Fact P C ops t h2 j o :=
 ⟨f.at', f.still, by rw [evOp_still f.still hr (h2 := h)]; exact f.says⟩
end
open Go.RowKit Go.Lib
variable {P : Program} {w0 : W0} {w : World} {ι : Inj} {h : AHeap}
inductive LV where
 | ptr
 | slc (n : Nat)
 | map
def lval : LV → Nat → Value
 | .ptr, i => AH.ptr i 0
 | .slc n, i => AH.slc i 0 n
 | .map, i => .map (some i)
def lateV (P : Program) (o : Op) (t : Tm) : Option (Fz × LV) :=
 match o with
 | .alloc e =>
  match tZero P e, tSize P e with
  | some z, some _ => some (.row e z, .ptr)
  | _, _ => none
 | .box e x =>
  match tSize P e with
  | some _ => (aCells (evX t x)).map fun cs => (.row e cs, .ptr)
  | none => none
 | .buildSlice ty len parts =>
  match elemOf? P ty with
  | some e =>
   match tZero P e, tSize P e with
   | some z, some n => if len * n ≤ 16777216 ∧ 0 < n ∧ z.length = n then (aFill (List.replicate len z).flatten (parts.toList.map fun p => (p.1 * n, n, AH.evX t p.2))).map fun cs => (.row e cs, .slc len) else none
   | _, _ => none
  | none => none
 | .makeSlice ty l c =>
  match elemOf? P ty with
  | some e =>
   match tZero P e, tBytes P e, tSize P e with
   | some z, some b, some n =>
    if 0 < n ∧ z.length = n then
     match evX t l, evX t c with
     | .int .i64 l, .int .i64 c => if 0 ≤ l ∧ l ≤ c ∧ c ≤ most ∧ c.toNat * b ≤ most then some (.row e (List.replicate l.toNat z).flatten, .slc l.toNat) else none
     | _, _ => none
    else none
   | _, _, _ => none
  | none => none
 | .makeMap _ none => some (.map, .map)
 | _ => none
theorem lateV_congr {o : Oper} {t t2 : Tm} (he : ∀ x ∈ o.op.operands, evX t x = evX t2 x) : lateV P o.op t = lateV P o.op t2 := by
 obtain ⟨dst, op, type, pos, after, guard⟩ := o
 cases op with
 | buildSlice ty len parts =>
  simp only [Op.operands] at he
  have : ∀ n : Nat, (parts.toList.map fun p => (p.1 * n, n, evX t p.2)) = (parts.toList.map fun p => (p.1 * n, n, evX t2 p.2)) := fun n => List.map_congr_left fun p hp => by rw [he p.2 (by simp; exact ⟨p.1, by simpa using hp⟩)]
  simp only [lateV, this]
 | box e x => simp only [lateV, he x (by simp [Op.operands])]
 | makeSlice ty l c => simp only [lateV, he l (by simp [Op.operands]), he c (by simp [Op.operands])]
 | makeMap ty rs => cases rs <;> rfl
 | _ => rfl
theorem late_ev {R : Type} {C : ACall} {o : Oper} {t : Tm} {k : Value → AHeap → Option R} {r : R} (hl : isLate o.op = true) (he : evOp P C o t h k = some r) :
  ∃ f v, lateV P o.op t = some (f, v) ∧ k (lval v h.size) (hAdd h f) = some r := by
 obtain ⟨dst, op, type, pos, after, guard⟩ := o
 cases op with
 | alloc e =>
  simp only [evOp, oAlloc, aNew] at he
  split at he
  ·rename_i z n hz hn
   exact ⟨.row e z, .ptr, by simp only [lateV, hz, hn], he⟩
  ·simp at he
 | box e x =>
  simp only [evOp, oBox, aNew] at he
  split at he
  ·rename_i n hn
   simp only [Option.bind_eq_some_iff] at he
   obtain ⟨cs, hc, he⟩ := he
   exact ⟨.row e cs, .ptr, by simp only [lateV, hn, hc, Option.map_some], he⟩
  ·simp at he
 | buildSlice ty len parts =>
  simp only [evOp, oBuildSlice, aNewS] at he
  split at he
  ·rename_i e hel
   split at he
   ·rename_i z n hz hn
    split at he
    ·rename_i hcd
     simp only [Option.bind_eq_some_iff] at he
     obtain ⟨cs, hc, he⟩ := he
     exact ⟨.row e cs, .slc len, by simp only [lateV, hel, hz, hn]; rw [if_pos hcd, hc]; rfl, he⟩
    ·simp at he
   ·simp at he
  ·simp at he
 | makeSlice ty l c =>
  simp only [evOp, oMakeSlice] at he
  split at he
  ·rename_i e hel
   split at he
   ·rename_i z b n hz hb hn
    split at he
    ·rename_i hcd
     simp only [Option.bind_eq_some_iff] at he
     obtain ⟨v, hc, he⟩ := he
     unfold aMk at hc
     split at hc
     ·rename_i l' c' e1 e2
      split at hc
      ·rename_i hcd2
       simp at hc; subst hc
       exact ⟨.row e (List.replicate l'.toNat z).flatten, .slc l'.toNat, by simp only [lateV, hel, hz, hb, hn]; rw [if_pos hcd]; simp only [e1, e2]; rw [if_pos hcd2], he⟩
      ·simp at hc
     ·simp at hc
    ·simp at he
   ·simp at he
  ·simp at he
 | makeMap ty rs =>
  cases rs with
  | none => exact ⟨_, _, rfl, he⟩
  | some m => simp [isLate] at hl
 | _ => simp [isLate] at hl
theorem late_step {o : Oper} {t : Tm} {f : Fz} {v : LV} (hv : lateV P o.op t = some (f, v)) {a : Act} (ht : TR ι t a.tmps) (H : HRel P w0 ι h w) {i : Nat} (hi : w0.fz i = some f)
  {next : Act → World → Prop} {Q : Exit → Act → World → Prop}
  (hk : ∀ v' w' ι', Nxt ι w ι' w' → HRel P (w0.set i none) ι' h w' → VR ι' (lval v i) v' → next (a.put o.dst v') w') : o.upon P a next Q ((execOp a.eval o).run P w) := by
 obtain ⟨dst, op, type, pos, after, guard⟩ := o
 have M : ∀ {s : Sem Value} {e : TypeId} {cs : List Value}, Makes P ι w s e cs (lval v) → f = .row e cs → Oper.upon P ⟨dst, op, type, pos, after, guard⟩ a next Q ((do pure (.value (← s)) : Sem Next).run P w) := by
  intro s e cs m hf
  subst hf
  obtain ⟨v', n, cap, arr, hr, hn, h1, h2, h3, h4⟩ := m
  obtain ⟨k1, k2⟩ := H.thaw hi n cap arr hn h1 h2 h3
  simp only [Sem.run_bind, hr, Result.andThen_ok, Sem.run_pure]
  exact hk v' _ _ k2 k1 (h4 _ _ (if_pos rfl))
 cases op with
 | alloc e =>
  simp only [lateV] at hv
  split at hv
  ·rename_i z n hz hn
   simp at hv; obtain ⟨rfl, rfl⟩ := hv
   exact M (alloc_makes hz hn) rfl
  ·simp at hv
 | box e x =>
  simp only [lateV] at hv
  split at hv
  ·rename_i n hn
   simp only [Option.map_eq_some_iff] at hv
   obtain ⟨cs, hc, hv⟩ := hv
   simp at hv; obtain ⟨rfl, rfl⟩ := hv
   exact M (box_makes hn hc (ht.evX x)) rfl
  ·simp at hv
 | buildSlice ty len parts =>
  simp only [lateV] at hv
  split at hv
  ·rename_i e hel
   split at hv
   ·rename_i z n hz hn
    split at hv
    ·rename_i hcd
     simp only [Option.map_eq_some_iff] at hv
     obtain ⟨cs, hc, hv⟩ := hv
     simp at hv; obtain ⟨rfl, rfl⟩ := hv
     exact M (buildSlice_makes (elem_under hel) hz hn hcd.1 hcd.2.1 hcd.2.2 ht parts hc) rfl
    ·simp at hv
   ·simp at hv
  ·simp at hv
 | makeSlice ty l c =>
  simp only [lateV] at hv
  split at hv
  ·rename_i e hel
   split at hv
   ·rename_i z b n hz hb hn
    split at hv
    ·rename_i hcd
     split at hv
     ·rename_i l' c' e1 e2
      split at hv
      ·rename_i hcd2
       simp at hv; obtain ⟨rfl, rfl⟩ := hv
       have he : aMk h e z b (AH.evX t l) (AH.evX t c) = some (slc h.size 0 l'.toNat, h.new e (List.replicate l'.toNat z).flatten) := by rw [e1, e2]; simp [aMk, hcd2]
       obtain ⟨cs, m, h1, h2⟩ := mk_makes (w := w) (elem_under hel) hn hcd.1 hz hcd.2 hb he (ht.evX l) (ht.evX c)
       have hh := h2 h
       rw [he] at hh
       simp only [Option.some.injEq, Prod.mk.injEq, slc, Value.slice.injEq] at hh
       obtain ⟨⟨_, rfl, _⟩, h3⟩ := hh
       have hcs : cs = (List.replicate l'.toNat z).flatten := by
        have := congrArg (fun x : AHeap => x.obj h.size) h3
        simp [AHeap.new] at this
        exact this.symm
       subst hcs
       exact M h1 rfl
      ·simp at hv
     ·simp at hv
    ·simp at hv
   ·simp at hv
  ·simp at hv
 | makeMap ty rs =>
  cases rs with
  | none =>
   simp [lateV] at hv; obtain ⟨rfl, rfl⟩ := hv
   obtain ⟨k1, k2⟩ := H.thawMap hi
   have hr : (execOp a.eval ⟨dst, .makeMap ty none, type, pos, after, guard⟩).run P w = .ok (.value (.map (some w.heap.size))) (w.alloc (.map #[] 0)) := by
    have := run_makeMap (P := P) ty w
    simp [execOp, this]
   rw [hr]
   exact hk _ _ _ k2 k1 (.s0 (.map _ _ (if_pos rfl)))
  | some m => simp [lateV] at hv
 | _ => simp [lateV] at hv
theorem rd_hAdd {f : Fz} {i off n : Nat} {cs : List Value} (hr : h.rd i off n = some cs) : (hAdd h f).rd i off n = some cs := by
 unfold AHeap.rd at hr ⊢
 split at hr
 ·rename_i o ho
  rw [at?_hAdd ho]; exact hr
 ·simp at hr
theorem map_hAdd (H : HRel P w0 ι h w) {f : Fz} {i : Nat} {l : List (Value × Value)} (hl : h.map i = some l) : (hAdd h f).map i = some l := by
 have := H.mapd i l hl
 cases f with
 | row e cs => exact hl
 | map => simp only [hAdd, AHeap.newMap]; rw [if_neg (by omega)]; exact hl
theorem evOp_hAdd (H : HRel P w0 ι h w) {C : ACall} {o : Oper} {t : Tm} {f : Fz} {v : Value} (hr : isRd o.op = true) (he : evOp P C o t h (fun v _ => some v) = some v) : evOp P C o t (hAdd h f) (fun v _ => some v) = some v := by
 obtain ⟨dst, op, type, pos, after, guard⟩ := o
 cases op with
 | load ty x =>
  simp only [evOp, oLoad] at he ⊢
  split at he
  ·simp only [Option.bind_eq_some_iff, Option.some.injEq] at he ⊢
   obtain ⟨u, hu, rfl⟩ := he
   refine ⟨u, ?_, rfl⟩
   unfold aLdN at hu ⊢
   split at hu
   ·simp only [Option.map_eq_some_iff] at hu ⊢
    obtain ⟨cs, hc, rfl⟩ := hu
    exact ⟨cs, rd_hAdd hc, rfl⟩
   ·simp at hu
  ·simp only [Option.bind_eq_some_iff, Option.some.injEq] at he ⊢
   obtain ⟨u, hu, rfl⟩ := he
   refine ⟨u, ?_, rfl⟩
   unfold aLd1 at hu ⊢
   split at hu
   ·simp only [Option.bind_eq_some_iff] at hu ⊢
    obtain ⟨cs, hc, hu⟩ := hu
    exact ⟨cs, rd_hAdd hc, hu⟩
   ·simp at hu
  ·simp at he
 | convert src dt x =>
  simp only [evOp, oConvert] at he ⊢
  split at he
  ·exact he
  ·split at he
   ·simp only [Option.bind_eq_some_iff, Option.some.injEq] at he ⊢
    obtain ⟨u, hu, rfl⟩ := he
    refine ⟨u, ?_, rfl⟩
    unfold aCvStr at hu ⊢
    split at hu
    ·exact hu
    ·simp only [Option.bind_eq_some_iff] at hu ⊢
     obtain ⟨cs, hc, hu⟩ := hu
     exact ⟨cs, rd_hAdd hc, hu⟩
    ·simp at hu
   ·simp at he
  ·simp at he
 | slice ty x lo hi mx =>
  cases mx with
  | some m => simp [evOp] at he
  | none =>
   simp only [evOp, oSlice] at he ⊢
   split at he
   ·exact he
   ·split at he
    ·simp only [Option.bind_eq_some_iff, Option.some.injEq] at he ⊢
     obtain ⟨u, hu, rfl⟩ := he
     refine ⟨u, ?_, rfl⟩
     unfold aSub at hu ⊢
     split at hu
     ·split at hu
      ·rename_i hel
       simp only [Option.map_eq_some_iff] at hel
       obtain ⟨o, ho, hel⟩ := hel
       rw [at?_hAdd ho]
       simp only [Option.map_some]
       rw [if_pos (by rw [hel])]; exact hu
      ·simp at hu
     ·exact hu
     ·simp at hu
    ·simp at he
   ·simp at he
 | lookup ty x i ok =>
  simp only [evOp, oLookup] at he ⊢
  split at he
  ·split at he
   ·simp only [Option.bind_eq_some_iff, Option.some.injEq] at he ⊢
    obtain ⟨u, hu, rfl⟩ := he
    refine ⟨u, ?_, rfl⟩
    unfold aMget at hu ⊢
    split at hu
    ·exact hu
    ·simp only [Option.bind_eq_some_iff] at hu ⊢
     obtain ⟨l, hl, hu⟩ := hu
     exact ⟨l, map_hAdd H hl, hu⟩
    ·simp at hu
   ·simp at he
  ·simp at he
 | _ => simp [isRd] at hr
end Go.AH
