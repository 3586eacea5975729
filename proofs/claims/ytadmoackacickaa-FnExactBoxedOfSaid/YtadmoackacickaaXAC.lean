import Derived.Test.YtadmoackacickaaXAB
import Derived.Laws.BytesArg
import Derived.Orders
set_option linter.unusedSimpArgs false
set_option linter.unusedVariables false
/- Each operation of the small evaluator is an operation of the machine. -/
namespace Go.AH
open Go.RowKit Go.Lib
section
variable {P : Program} {w0 : W0} {w : World} {ι : Inj} {h : AHeap}
structure CallOk (P : Program) (w0 : W0) (C : ACall) : Prop where
 body : ∀ f args h r, C f args h = some r → ∃ fn, P.funcs[f]? = some fn ∧ fn.body.isNone = false ∧ (fn.name == "runtime.NumGoroutine") = false
 calls : ∀ fz f args h v h', C f args h = some (v, h') → ∀ (ι : Inj) (w : World) (args' : Array Value), All2 (VR ι) args args'.toList → HRel P ⟨w0.w, fz⟩ ι h w →
  Calls P f args' w fun e w' => ∃ v' ι', e = .returned v' ∧ Nxt ι w ι' w' ∧ HRel P ⟨w0.w, fz⟩ ι' h' w' ∧ VR ι' v v'
theorem CallOk.at {C : ACall} (hC : CallOk P w0 C) (fz : Nat → Option Fz) : CallOk P ⟨w0.w, fz⟩ C := ⟨hC.body, hC.calls⟩
theorem bytesOf_sound {cs cs' : List Value} {l : List UInt8} (ha : All2 (S1 ι) cs cs') : bytesOf cs = some l → ∃ xs : List Int, cs' = xs.map (Value.int .u8) ∧ l = xs.map fun n => UInt8.ofNat n.toNat := by
 induction ha generalizing l with
 | nil => intro he; simp [bytesOf] at he; subst he; exact ⟨[], rfl, rfl⟩
 | cons r _ ih =>
  intro he
  unfold bytesOf at he
  split at he
  ·rename_i heq; cases heq
  ·rename_i n l' heq
   simp at heq; obtain ⟨rfl, rfl⟩ := heq
   simp only [Option.map_eq_some_iff] at he
   obtain ⟨l2, he2, rfl⟩ := he
   obtain ⟨xs, rfl, rfl⟩ := ih he2
   have := (VR.s1 r).int_inv
   subst this
   exact ⟨n :: xs, rfl, rfl⟩
  ·simp at he
theorem cvStr_sound (H : HRel P w0 ι h w) {src dst e : TypeId} (hs : P.underlying src = some (.slice e)) (he8 : P.underlying e = some (.int .u8)) (hd : P.underlying dst = some .string) {x x' v : Value} (he : aCvStr h x = some v) (hx : VR ι x x') : SemOk P w0 ι h w (convert src dst x') v := by
 unfold aCvStr at he
 split at he
 ·simp at he; subst he
  obtain ⟨_, rfl⟩ := hx.slcNil_inv
  exact SemOk.same H (run_convert_bytes_nil w src e hs he8 0 0 dst hd) (.s0 (.string _))
 ·rename_i i off n c
  simp only [Option.bind_eq_some_iff, Option.map_eq_some_iff] at he
  obtain ⟨cs, hr, l, hl, rfl⟩ := he
  rcases hx.slc_inv with ⟨q, c', hq, _, _, rfl⟩ | ⟨rfl, _, a', rfl⟩
  ·obtain ⟨cs', ha, hlen, hc⟩ := rd_sound H hq hr
   obtain ⟨xs, rfl, rfl⟩ := bytesOf_sound ha hl
   have hxl : xs.length = n := by have := ha.length; simp at this; omega
   refine SemOk.same H (v' := .string (strOfNums xs)) ?_ (.s0 (.string _))
   refine run_convert_bytes_arg w src e hs he8 _ _ _ _ xs hxl (fun i hi => ?_) dst hd
   have := hc i (.int .u8 (xs.getD i 0)) (by simp [List.getElem?_eq_getElem (show i < xs.length by omega), List.getD_eq_getElem?_getD])
   rwa [add_mk] at this
  ·have : cs = [] := List.eq_nil_of_length_eq_zero (rd_len hr)
   subst this
   simp [bytesOf] at hl
   subst hl
   obtain ⟨ab, ao, asp⟩ := a'
   refine SemOk.same H (v' := .string ⟨#[]⟩) ?_ (.s0 (.string _))
   rw [run_convert_bytes_string w src dst e _ 0 0 hs he8 hd]
   simp [Conv.bytesToString, loadCells, loadCellsFrom]
   rfl
 ·simp at he
theorem part_sound (H : HRel P w0 ι h w) {s : TypeId} {f n : Nat} {fd : Field} {fs : Array Field} {g : Bool} (hf : fieldsOf P s = some fs) (hfd : fs[f]? = some fd) (hg : tAgg P fd.type = some g) (hn : tSize P fd.type = some n) {x x' v : Value}
  (he : aPart x fd.offset n g = some v) (hx : VR ι x x') : SemOk P w0 ι h w (Instr.field s x' f) v := by
 have hu : P.underlying s = some (.struct fs) := by
  unfold fieldsOf at hf
  split at hf
  ·rename_i hu; simp at hf; subst hf; exact hu
  ·simp at hf
 unfold aPart at he
 split at he
 ·rename_i cs
  obtain ⟨cs', rfl, ha⟩ := hx.agg_inv
  cases g
  ·simp at he
   obtain ⟨b, g1, g2⟩ := ha.get fd.offset v (by simpa using he)
   refine SemOk.same H (v' := b) ?_ (.s1 g2)
   simp at g1
   simp [Instr.field, run_underlying hu, hfd, asAgg, part, run_isAgg hg, g1]
  ·simp at he
   obtain ⟨h1, rfl⟩ := he
   refine SemOk.same H (v' := .agg (cs'.extract fd.offset (fd.offset + n))) ?_ (.s2 (.agg ?_))
   ·simp [Instr.field, run_underlying hu, hfd, asAgg, part, run_isAgg hg, run_sizeOf' hn]
   ·simpa using (ha.drop fd.offset).take n
 ·simp at he
theorem val_step {h' : AHeap} {s : Sem Value} {v : Value} (hs : SemOk P w0 ι h' w s v) {o : Oper} {a : Act} {next : Act → World → Prop} {Q : Exit → Act → World → Prop}
  (hk : ∀ v' w' ι', Nxt ι w ι' w' → HRel P w0 ι' h' w' → VR ι' v v' → next (a.put o.dst v') w') : o.upon P a next Q ((do pure (.value (← s)) : Sem Next).run P w) := by
 obtain ⟨v', w', ι', hr, n, H, hv⟩ := hs
 simp only [Sem.run_bind, hr, Result.andThen_ok, Sem.run_pure]
 exact hk v' w' ι' n H hv
theorem unit_step {h' : AHeap} {s : Sem Unit} (hs : SemOkU P w0 ι h' w s) {o : Oper} {a : Act} {next : Act → World → Prop} {Q : Exit → Act → World → Prop}
  (hk : ∀ w' ι', Nxt ι w ι' w' → HRel P w0 ι' h' w' → next (a.put o.dst undef) w') : o.upon P a next Q ((do s; pure .skip : Sem Next).run P w) := by
 obtain ⟨w', ι', hr, n, H⟩ := hs
 simp only [Sem.run_bind, hr, Result.andThen_ok, Sem.run_pure]
 exact hk w' ι' n H
theorem elem_under {s e : TypeId} (hf : elemOf? P s = some e) : P.underlying s = some (.slice e) := by
 unfold elemOf? at hf
 split at hf
 ·rename_i hu; simp at hf; subst hf; exact hu
 ·simp at hf
theorem args_sound {t : Tm} {a : Act} (ht : TR ι t a.tmps) (l : List Operand) : All2 (VR ι) (l.map (AH.evX t)) (l.map a.eval) := by
 induction l with
 | nil => exact .nil
 | cons x l ih => exact .cons (ht.evX x) ih
theorem list_two {x y : Operand} {args : Array Operand} (h : args.toList = [x, y]) : args = #[x, y] := by cases args; simp at h; subst h; rfl
theorem list_one {x : Operand} {args : Array Operand} (h : args.toList = [x]) : args = #[x] := by cases args; simp at h; subst h; rfl
theorem list_two' {x y : TypeId} {args : Array TypeId} (h : args.toList = [x, y]) : args = #[x, y] := by cases args; simp at h; subst h; rfl
theorem list_one' {x : TypeId} {args : Array TypeId} (h : args.toList = [x]) : args = #[x] := by cases args; simp at h; subst h; rfl
theorem VR.isS0 {v v' : Value} (hv : VR ι v v') (h : isS0 v = true) : S0 ι v v' := by
 cases hv with
 | junk => simp [AH.isS0, AH.junk] at h
 | tuple => simp [AH.isS0] at h
 | s2 hv => cases hv with
  | agg => simp [AH.isS0] at h
  | s1 hv => cases hv with
   | func => simp [AH.isS0] at h
   | s0 hv => exact hv
theorem S0_all {l l' : List Value} (h : l.all isS0 = true) (ha : All2 (VR ι) l l') : All2 (S0 ι) l l' := by
 induction ha with
 | nil => exact .nil
 | cons r _ ih =>
  simp only [List.all_cons, Bool.and_eq_true] at h
  exact .cons (r.isS0 h.1) (ih h.2)
theorem op_sound {R : Type} {C : ACall} (hC : CallOk P w0 C) {o : Oper} {t : Tm} {k : Value → AHeap → Option R} {r : R} (hev : evOp P C o t h k = some r) {a : Act} (ht : TR ι t a.tmps) (H : HRel P w0 ι h w)
  {next : Act → World → Prop} {Q : Exit → Act → World → Prop}
  (hk : ∀ v h' v' w' ι', Nxt ι w ι' w' → HRel P w0 ι' h' w' → VR ι' v v' → k v h' = some r → next (a.put o.dst v') w') : o.upon P a next Q ((execOp a.eval o).run P w) := by
 obtain ⟨dst, op, type, pos, after, guard⟩ := o
 have V : ∀ {h' : AHeap} {s : Sem Value} {v : Value}, SemOk P w0 ι h' w s v → k v h' = some r → Oper.upon P ⟨dst, op, type, pos, after, guard⟩ a next Q ((do pure (.value (← s)) : Sem Next).run P w) :=
  fun hs he => val_step hs fun v' w' ι' n H hv => hk _ _ _ _ _ n H hv he
 cases op with
 | move x =>
  simp only [evOp, oAlloc, oBox, oBuild, oBuildSlice, oLoad, oStore, oBinOp, oConvert, oMakeSlice, oSlice, oFieldAddr, oField, oIndexAddr, oIndex, oLen, oAppend, oMax, oMin] at hev
  exact hk _ _ _ _ _ (Nxt.refl _ _) H (ht.evX x) hev
 | assign x =>
  simp only [evOp, oAlloc, oBox, oBuild, oBuildSlice, oLoad, oStore, oBinOp, oConvert, oMakeSlice, oSlice, oFieldAddr, oField, oIndexAddr, oIndex, oLen, oAppend, oMax, oMin] at hev
  exact hk _ _ _ _ _ (Nxt.refl _ _) H (ht.evX x) hev
 | pick c x y =>
  simp only [evOp, oAlloc, oBox, oBuild, oBuildSlice, oLoad, oStore, oBinOp, oConvert, oMakeSlice, oSlice, oFieldAddr, oField, oIndexAddr, oIndex, oLen, oAppend, oMax, oMin, Option.bind_eq_some_iff] at hev
  obtain ⟨b, hb, hev⟩ := hev
  have hc := ht.evX c
  have hcv : AH.evX t c = .bool b := by
   unfold asB at hb
   split at hb
   ·rename_i heq; simp at hb; subst hb; exact heq
   ·simp at hb
  rw [hcv] at hc
  have hcb := hc.bool_inv
  show Oper.upon P _ a next Q ((do pure (.value (if ← asBool (a.eval c) then a.eval x else a.eval y)) : Sem Next).run P w)
  rw [hcb]
  cases b
  ·exact hk _ _ _ _ _ (Nxt.refl _ _) H (ht.evX y) hev
  ·exact hk _ _ _ _ _ (Nxt.refl _ _) H (ht.evX x) hev
 | alloc e =>
  simp only [evOp, oAlloc, oBox, oBuild, oBuildSlice, oLoad, oStore, oBinOp, oConvert, oMakeSlice, oSlice, oFieldAddr, oField, oIndexAddr, oIndex, oLen, oAppend, oMax, oMin] at hev
  split at hev
  ·rename_i z n hz hn
   exact V (alloc_sound H hz hn) hev
  ·simp at hev
 | box e x =>
  simp only [evOp, oAlloc, oBox, oBuild, oBuildSlice, oLoad, oStore, oBinOp, oConvert, oMakeSlice, oSlice, oFieldAddr, oField, oIndexAddr, oIndex, oLen, oAppend, oMax, oMin] at hev
  split at hev
  ·rename_i n hn
   simp only [Option.bind_eq_some_iff] at hev
   obtain ⟨cs, hcs, hev⟩ := hev
   exact V (box_sound H hn hcs (ht.evX x)) hev
  ·simp at hev
 | build ty parts =>
  simp only [evOp, oAlloc, oBox, oBuild, oBuildSlice, oLoad, oStore, oBinOp, oConvert, oMakeSlice, oSlice, oFieldAddr, oField, oIndexAddr, oIndex, oLen, oAppend, oMax, oMin] at hev
  split at hev
  ·rename_i fs hf
   split at hev
   ·rename_i z ps hz hps
    simp only [Option.bind_eq_some_iff] at hps hev
    obtain ⟨pl, hpl, hps⟩ := hps
    obtain ⟨cs, hcs, hev⟩ := hev
    exact V (build_sound H hf hz hpl ht parts hps hcs) hev
   ·simp at hev
  ·simp at hev
 | buildSlice ty len parts =>
  simp only [evOp, oAlloc, oBox, oBuild, oBuildSlice, oLoad, oStore, oBinOp, oConvert, oMakeSlice, oSlice, oFieldAddr, oField, oIndexAddr, oIndex, oLen, oAppend, oMax, oMin] at hev
  split at hev
  ·rename_i e he
   split at hev
   ·rename_i z n hz hn
    split at hev
    ·rename_i hcd
     simp only [Option.bind_eq_some_iff] at hev
     obtain ⟨cs, hcs, hev⟩ := hev
     exact V (buildSlice_sound H (elem_under he) hz hn hcd.1 hcd.2.1 hcd.2.2 ht parts hcs) hev
    ·simp at hev
   ·simp at hev
  ·simp at hev
 | load ty x =>
  simp only [evOp, oAlloc, oBox, oBuild, oBuildSlice, oLoad, oStore, oBinOp, oConvert, oMakeSlice, oSlice, oFieldAddr, oField, oIndexAddr, oIndex, oLen, oAppend, oMax, oMin] at hev
  split at hev
  ·rename_i n hg hn
   simp only [Option.bind_eq_some_iff] at hev
   obtain ⟨v, hv, hev⟩ := hev
   exact V (ldN_sound H hg hn hv (ht.evX x)) hev
  ·rename_i hg
   simp only [Option.bind_eq_some_iff] at hev
   obtain ⟨v, hv, hev⟩ := hev
   exact V (ld1_sound H hg hv (ht.evX x)) hev
  ·simp at hev
 | store ty x y =>
  simp only [evOp, oAlloc, oBox, oBuild, oBuildSlice, oLoad, oStore, oBinOp, oConvert, oMakeSlice, oSlice, oFieldAddr, oField, oIndexAddr, oIndex, oLen, oAppend, oMax, oMin] at hev
  split at hev
  ·rename_i n hn
   simp only [Option.bind_eq_some_iff] at hev
   obtain ⟨h', hh', hev⟩ := hev
   exact unit_step (st_sound H hn hh' (ht.evX x) (ht.evX y)) fun w' ι' n H => hk _ _ _ _ _ n H (VR.undef _) hev
  ·simp at hev
 | nilCheck x =>
  simp only [evOp, oAlloc, oBox, oBuild, oBuildSlice, oLoad, oStore, oBinOp, oConvert, oMakeSlice, oSlice, oFieldAddr, oField, oIndexAddr, oIndex, oLen, oAppend, oMax, oMin, Option.bind_eq_some_iff] at hev
  obtain ⟨v, hv, hev⟩ := hev
  obtain ⟨h1, h2⟩ := nil_sound hv (ht.evX x)
  have : (execOp a.eval ⟨dst, .nilCheck x, type, pos, after, guard⟩).run P w = .ok (.value (a.eval x)) w := by
   rcases h2 with ⟨b, hb⟩ | ⟨f, b, c, hb⟩ <;> simp [execOp, hb]
  rw [this]
  exact hk _ _ _ _ _ (Nxt.refl _ _) H h1 hev
 | binOp op ty x y yt =>
  simp only [evOp, oAlloc, oBox, oBuild, oBuildSlice, oLoad, oStore, oBinOp, oConvert, oMakeSlice, oSlice, oFieldAddr, oField, oIndexAddr, oIndex, oLen, oAppend, oMax, oMin] at hev
  split at hev
  ·rename_i hu
   simp only [Option.bind_eq_some_iff] at hev
   obtain ⟨v, hv, hev⟩ := hev
   exact V (binB_sound H hu x y hv (ht.evX x) (ht.evX y)) hev
  ·rename_i hu
   simp only [Option.bind_eq_some_iff] at hev
   obtain ⟨v, hv, hev⟩ := hev
   exact V (binP_sound H hu x y hv (ht.evX x) (ht.evX y)) hev
  ·simp only [Option.bind_eq_some_iff] at hev
   obtain ⟨v, hv, hev⟩ := hev
   exact V (binA_sound H x y hv (ht.evX x) (ht.evX y)) hev
  ·simp only [Option.bind_eq_some_iff] at hev
   obtain ⟨v, hv, hev⟩ := hev
   exact V (bin_sound H x y hv (ht.evX x) (ht.evX y)) hev
 | unOp op ty x =>
  simp only [evOp, oAlloc, oBox, oBuild, oBuildSlice, oLoad, oStore, oBinOp, oConvert, oMakeSlice, oSlice, oFieldAddr, oField, oIndexAddr, oIndex, oLen, oAppend, oMax, oMin, Option.bind_eq_some_iff] at hev
  obtain ⟨v, hv, hev⟩ := hev
  exact V (un_sound H hv (ht.evX x)) hev
 | convert src dt x =>
  simp only [evOp, oAlloc, oBox, oBuild, oBuildSlice, oLoad, oStore, oBinOp, oConvert, oMakeSlice, oSlice, oFieldAddr, oField, oIndexAddr, oIndex, oLen, oAppend, oMax, oMin] at hev
  split at hev
  ·rename_i hs hd
   simp only [Option.bind_eq_some_iff] at hev
   obtain ⟨v, hv, hev⟩ := hev
   exact V (cvInt_sound H hs hd hv (ht.evX x)) hev
  ·rename_i hs hd
   split at hev
   ·rename_i he8
    simp only [Option.bind_eq_some_iff] at hev
    obtain ⟨v, hv, hev⟩ := hev
    exact V (cvStr_sound H hs he8 hd hv (ht.evX x)) hev
   ·simp at hev
  ·simp at hev
 | makeFunc fn first captured =>
  cases fn with
  | func f =>
   simp only [evOp, oAlloc, oBox, oBuild, oBuildSlice, oLoad, oStore, oBinOp, oConvert, oMakeSlice, oSlice, oFieldAddr, oField, oIndexAddr, oIndex, oLen, oAppend, oMax, oMin, Option.bind_eq_some_iff] at hev
   obtain ⟨v, hv, hev⟩ := hev
   unfold aFn at hv
   split at hv
   ·rename_i hcd
    simp only [Bool.and_eq_true] at hcd
    simp at hv; subst hv
    refine V (SemOk.same H (v' := .func (.func f) (first.map a.eval) (captured.map a.eval)) rfl (.s1 (.func f ?_ ?_))) hev
    ·simpa using S0_all hcd.1 (args_sound ht first.toList)
    ·simpa using S0_all hcd.2 (args_sound ht captured.toList)
   ·simp at hv
  | _ => simp [evOp, oAlloc, oBox, oBuild, oBuildSlice, oLoad, oStore, oBinOp, oConvert, oMakeSlice, oSlice, oFieldAddr, oField, oIndexAddr, oIndex, oLen, oAppend, oMax, oMin] at hev
 | makeMap ty rs =>
  cases rs with
  | some m => simp [evOp] at hev
  | none =>
   simp only [evOp, aNewM] at hev
   obtain ⟨k1, k2⟩ := H.newMap
   exact V (s := Instr.makeMap ty none) ⟨_, _, _, run_makeMap ty w, k2, k1, .s0 (.map _ _ (if_pos rfl))⟩ hev
 | lookup ty x i ok =>
  simp only [evOp, oLookup] at hev
  split at hev
  ·rename_i kt e hu
   split at hev
   ·rename_i z hf hz
    simp only [Option.bind_eq_some_iff] at hev
    obtain ⟨v, hv, hev⟩ := hev
    exact V (get_sound H hu hf hz hv (ht.evX x) (ht.evX i)) hev
   ·simp at hev
  ·simp at hev
 | mapUpdate ty m key x =>
  simp only [evOp, oMapUpdate] at hev
  split at hev
  ·rename_i kt e hu
   split at hev
   ·rename_i hf
    simp only [Option.bind_eq_some_iff] at hev
    obtain ⟨h', hh', hev⟩ := hev
    exact unit_step (mapSet_sound H hu hf hh' (ht.evX m) (ht.evX key) (ht.evX x)) fun w' ι' n H => hk _ _ _ _ _ n H (VR.undef _) hev
   ·simp at hev
  ·simp at hev
 | makeSlice ty l c =>
  simp only [evOp, oAlloc, oBox, oBuild, oBuildSlice, oLoad, oStore, oBinOp, oConvert, oMakeSlice, oSlice, oFieldAddr, oField, oIndexAddr, oIndex, oLen, oAppend, oMax, oMin] at hev
  split at hev
  ·rename_i e he
   split at hev
   ·rename_i z b n hz hb hn
    split at hev
    ·rename_i hcd
     simp only [Option.bind_eq_some_iff] at hev
     obtain ⟨v, hv, hev⟩ := hev
     exact V (mk_sound H (elem_under he) hn hcd.1 hz hcd.2 hb hv (ht.evX l) (ht.evX c)) hev
    ·simp at hev
   ·simp at hev
  ·simp at hev
 | slice ty x lo hi mx =>
  cases mx with
  | some m => simp [evOp, oAlloc, oBox, oBuild, oBuildSlice, oLoad, oStore, oBinOp, oConvert, oMakeSlice, oSlice, oFieldAddr, oField, oIndexAddr, oIndex, oLen, oAppend, oMax, oMin] at hev
  | none =>
   simp only [evOp, oAlloc, oBox, oBuild, oBuildSlice, oLoad, oStore, oBinOp, oConvert, oMakeSlice, oSlice, oFieldAddr, oField, oIndexAddr, oIndex, oLen, oAppend, oMax, oMin] at hev
   split at hev
   ·rename_i hu
    simp only [Option.bind_eq_some_iff] at hev
    obtain ⟨v, hv, hev⟩ := hev
    exact V (subS_sound H hu ht (ht.evX x) hv) hev
   ·rename_i e hu
    split at hev
    ·rename_i n hn
     simp only [Option.bind_eq_some_iff] at hev
     obtain ⟨v, hv, hev⟩ := hev
     exact V (sub_sound H hu hn ht (ht.evX x) hv) hev
    ·simp at hev
   ·simp at hev
 | fieldAddr s x f =>
  simp only [evOp, oAlloc, oBox, oBuild, oBuildSlice, oLoad, oStore, oBinOp, oConvert, oMakeSlice, oSlice, oFieldAddr, oField, oIndexAddr, oIndex, oLen, oAppend, oMax, oMin] at hev
  split at hev
  ·rename_i fd hfd
   simp only [Option.bind_eq_some_iff] at hfd
   obtain ⟨fs, hf, hfd⟩ := hfd
   split at hev
   ·rename_i n hn
    simp only [Option.bind_eq_some_iff] at hev
    obtain ⟨v, hv, hev⟩ := hev
    exact V (off_sound H hf hfd hn hv (ht.evX x)) hev
   ·simp at hev
  ·simp at hev
 | field s x f =>
  simp only [evOp, oAlloc, oBox, oBuild, oBuildSlice, oLoad, oStore, oBinOp, oConvert, oMakeSlice, oSlice, oFieldAddr, oField, oIndexAddr, oIndex, oLen, oAppend, oMax, oMin] at hev
  split at hev
  ·rename_i fd hfd
   simp only [Option.bind_eq_some_iff] at hfd
   obtain ⟨fs, hf, hfd⟩ := hfd
   split at hev
   ·rename_i g n hg hn
    simp only [Option.bind_eq_some_iff] at hev
    obtain ⟨v, hv, hev⟩ := hev
    exact V (part_sound H hf hfd hg hn hv (ht.evX x)) hev
   ·simp at hev
  ·simp at hev
 | indexAddr ty x i =>
  simp only [evOp, oAlloc, oBox, oBuild, oBuildSlice, oLoad, oStore, oBinOp, oConvert, oMakeSlice, oSlice, oFieldAddr, oField, oIndexAddr, oIndex, oLen, oAppend, oMax, oMin] at hev
  split at hev
  ·rename_i e he
   split at hev
   ·rename_i n hn
    simp only [Option.bind_eq_some_iff] at hev
    obtain ⟨v, hv, hev⟩ := hev
    exact V (idx_sound H (elem_under he) hn hv (ht.evX x) (ht.evX i)) hev
   ·simp at hev
  ·simp at hev
 | index ty x i =>
  simp only [evOp, oAlloc, oBox, oBuild, oBuildSlice, oLoad, oStore, oBinOp, oConvert, oMakeSlice, oSlice, oFieldAddr, oField, oIndexAddr, oIndex, oLen, oAppend, oMax, oMin] at hev
  split at hev
  ·rename_i hu
   simp only [Option.bind_eq_some_iff] at hev
   obtain ⟨v, hv, hev⟩ := hev
   exact V (strIx_sound H hu hv (ht.evX x) (ht.evX i)) hev
  ·simp at hev
 | extract x i =>
  simp only [evOp, oAlloc, oBox, oBuild, oBuildSlice, oLoad, oStore, oBinOp, oConvert, oMakeSlice, oSlice, oFieldAddr, oField, oIndexAddr, oIndex, oLen, oAppend, oMax, oMin, Option.bind_eq_some_iff] at hev
  obtain ⟨v, hv, hev⟩ := hev
  exact V (ext_sound H hv (ht.evX x)) hev
 | call c =>
  obtain ⟨callee, args, argTypes⟩ := c
  cases callee with
  | invoke r m => simp [evOp, oAlloc, oBox, oBuild, oBuildSlice, oLoad, oStore, oBinOp, oConvert, oMakeSlice, oSlice, oFieldAddr, oField, oIndexAddr, oIndex, oLen, oAppend, oMax, oMin] at hev
  | builtin b =>
   have B : ∀ {h' : AHeap} {v : Value} (s : Sem Value), (builtin b argTypes type (args.map fun | .const _ => true | _ => false) (args.map a.eval)) = (do pure (.value (← s))) → SemOk P w0 ι h' w s v → k v h' = some r →
     Oper.upon P ⟨dst, .call ⟨.builtin b, args, argTypes⟩, type, pos, after, guard⟩ a next Q ((execOp a.eval ⟨dst, .call ⟨.builtin b, args, argTypes⟩, type, pos, after, guard⟩).run P w) := by
    intro h' v s hb hs he
    have : execOp a.eval ⟨dst, .call ⟨.builtin b, args, argTypes⟩, type, pos, after, guard⟩ = (do pure (.value (← s))) := hb
    rw [this]
    exact V hs he
   cases b with
   | len =>
    simp only [evOp, oAlloc, oBox, oBuild, oBuildSlice, oLoad, oStore, oBinOp, oConvert, oMakeSlice, oSlice, oFieldAddr, oField, oIndexAddr, oIndex, oLen, oAppend, oMax, oMin] at hev
    split at hev
    ·rename_i x ty hx hty
     obtain rfl := list_one hx
     obtain rfl := list_one' hty
     split at hev
     ·rename_i hu
      simp only [Option.bind_eq_some_iff] at hev
      obtain ⟨s, hs, hev⟩ := hev
      have hxs : AH.evX t x = .string s := by
       unfold asS at hs
       split at hs
       ·rename_i heq; simp at hs; subst hs; exact heq
       ·simp at hs
      have hv := ht.evX x
      rw [hxs] at hv
      refine B (Builtin.len_ #[ty] type #[a.eval x]) (by simp [builtin]) (SemOk.same H (v' := .int .i64 s.size) ?_ (.s0 (.int _ _))) hev
      rw [hv.string_inv]
      simp [Builtin.len_, run_underlying hu, goInt]
     ·rename_i e hu
      simp only [Option.bind_eq_some_iff] at hev
      obtain ⟨v, hv, hev⟩ := hev
      exact B (Builtin.len_ #[ty] type #[a.eval x]) (by simp [builtin]) (len_sound H hu hv (ht.evX x)) hev
     ·simp at hev
    ·simp at hev
   | append =>
    simp only [evOp, oAlloc, oBox, oBuild, oBuildSlice, oLoad, oStore, oBinOp, oConvert, oMakeSlice, oSlice, oFieldAddr, oField, oIndexAddr, oIndex, oLen, oAppend, oMax, oMin] at hev
    split at hev
    ·rename_i s x ts tx hx hty
     obtain rfl := list_two hx
     obtain rfl := list_two' hty
     split at hev
     ·rename_i e e2 he hu
      split at hev
      ·rename_i hts
       subst hts
       split at hev
       ·rename_i n b z hn hb hz
        split at hev
        ·rename_i hcd
         simp only [Option.bind_eq_some_iff] at hev
         obtain ⟨v, hv, hev⟩ := hev
         exact B (Builtin.append_ #[ts, ts] type #[a.eval s, a.eval x]) (by simp [builtin]) (appG_sound H (elem_under he) hn hcd.1 hb hz hcd.2 hv (ht.evX s) fun m cs hsr => src_sound H hsr (ht.evX x)) hev
        ·simp at hev
       ·simp at hev
      ·simp at hev
     ·rename_i e he hu
      split at hev
      ·rename_i b z hn hb hz
       simp only [Option.bind_eq_some_iff] at hev
       obtain ⟨v, hv, hev⟩ := hev
       exact B (Builtin.append_ #[ts, tx] type #[a.eval s, a.eval x]) (by simp [builtin]) (appG_sound H (elem_under he) hn Nat.one_pos hb hz rfl hv (ht.evX s) fun m cs hsr => srcS_sound rfl hu hsr (ht.evX x)) hev
      ·simp at hev
     ·simp at hev
    ·simp at hev
   | copy =>
    simp only [evOp, oCopy] at hev
    split at hev
    ·rename_i d s td ts hx hty
     obtain rfl := list_two hx
     obtain rfl := list_two' hty
     split at hev
     ·rename_i e he
      split at hev
      ·rename_i n hn
       simp only [Option.bind_eq_some_iff] at hev
       obtain ⟨v, hv, hev⟩ := hev
       exact B (Builtin.copy_ #[td, ts] type #[a.eval d, a.eval s]) (by simp [builtin]) (copy_sound H (elem_under he) hn hv (ht.evX d) (ht.evX s)) hev
      ·simp at hev
     ·simp at hev
    ·simp at hev
   | clear =>
    simp only [evOp, oClear] at hev
    split at hev
    ·rename_i d td hx hty
     obtain rfl := list_one hx
     obtain rfl := list_one' hty
     split at hev
     ·rename_i e he
      split at hev
      ·rename_i n z hn hz
       split at hev
       ·rename_i hcd
        simp only [Option.bind_eq_some_iff] at hev
        obtain ⟨h', hh', hev⟩ := hev
        exact B (Builtin.clear_ #[td] type #[a.eval d]) (by simp [builtin]) (clear_sound (ty := type) H (elem_under he) hn hcd.1 hz hcd.2 hh' (ht.evX d)) hev
       ·simp at hev
      ·simp at hev
     ·simp at hev
    ·simp at hev
   | max =>
    simp only [evOp, oAlloc, oBox, oBuild, oBuildSlice, oLoad, oStore, oBinOp, oConvert, oMakeSlice, oSlice, oFieldAddr, oField, oIndexAddr, oIndex, oLen, oAppend, oMax, oMin] at hev
    split at hev
    ·rename_i x y hx
     obtain rfl := list_two hx
     simp only [Option.bind_eq_some_iff] at hev
     obtain ⟨v, hv, hev⟩ := hev
     exact B (Builtin.max_ argTypes type #[a.eval x, a.eval y]) (by simp [builtin]) (mm_sound (t := type) (ats := argTypes) H true hv (ht.evX x) (ht.evX y)) hev
    ·simp at hev
   | min =>
    simp only [evOp, oAlloc, oBox, oBuild, oBuildSlice, oLoad, oStore, oBinOp, oConvert, oMakeSlice, oSlice, oFieldAddr, oField, oIndexAddr, oIndex, oLen, oAppend, oMax, oMin] at hev
    split at hev
    ·rename_i x y hx
     obtain rfl := list_two hx
     simp only [Option.bind_eq_some_iff] at hev
     obtain ⟨v, hv, hev⟩ := hev
     exact B (Builtin.min_ argTypes type #[a.eval x, a.eval y]) (by simp [builtin]) (mm_sound (t := type) (ats := argTypes) H false hv (ht.evX x) (ht.evX y)) hev
    ·simp at hev
   | _ => simp [evOp, oAlloc, oBox, oBuild, oBuildSlice, oLoad, oStore, oBinOp, oConvert, oMakeSlice, oSlice, oFieldAddr, oField, oIndexAddr, oIndex, oLen, oAppend, oMax, oMin] at hev
  | value f =>
   simp only [evOp, oAlloc, oBox, oBuild, oBuildSlice, oLoad, oStore, oBinOp, oConvert, oMakeSlice, oSlice, oFieldAddr, oField, oIndexAddr, oIndex, oLen, oAppend, oMax, oMin, Option.bind_eq_some_iff] at hev
   obtain ⟨⟨v, h'⟩, hv, hev⟩ := hev
   unfold aCallV at hv
   split at hv
   ·rename_i g first captured hf
    have hfr := ht.evX f
    rw [hf] at hfr
    obtain ⟨first', captured', hfe, hfa, hca⟩ := hfr.func_inv
    obtain ⟨fn, hfn, hbody, hname⟩ := hC.body _ _ _ _ hv
    have hrun : (execOp a.eval ⟨dst, .call ⟨.value f, args, argTypes⟩, type, pos, after, guard⟩).run P w = .ok (.enter g (first' ++ args.map a.eval ++ captured')) w := by
     have hne : fn.name ≠ "runtime.NumGoroutine" := by simpa using hname
     have hb2 : fn.body ≠ none := by intro e; rw [e] at hbody; simp at hbody
     simp [execOp, resolve, hfe, Deferred.ofValue, invoke, callFunc, hfn, hne, hb2]
    rw [hrun]
    have hall : All2 (VR ι) (first.toList ++ args.toList.map (AH.evX t) ++ captured.toList) (first' ++ args.map a.eval ++ captured').toList := by
     have := ((hfa.mono fun _ _ => VR.s0).append (args_sound ht args.toList)).append (hca.mono fun _ _ => VR.s0)
     simpa using this
    refine (hC.calls w0.fz _ _ _ _ _ hv ι w _ hall H).mono fun e w' ⟨v', ι', he, n, H', hv'⟩ => ?_
    subst he
    exact hk _ _ _ _ _ n H' hv' hev
   ·simp at hv
 | _ => simp [evOp, oAlloc, oBox, oBuild, oBuildSlice, oLoad, oStore, oBinOp, oConvert, oMakeSlice, oSlice, oFieldAddr, oField, oIndexAddr, oIndex, oLen, oAppend, oMax, oMin] at hev
end
open Go.RowKit Go.Lib
variable {P : Program} {w0 : W0} {w : World} {ι : Inj} {h : AHeap}
theorem asB_inv {v : Value} {b : Bool} (h : asB v = some b) : v = .bool b := by
 unfold asB at h
 split at h
 ·simp at h; subst h; rfl
 ·simp at h
theorem asI_inv {k : IntKind} {v : Value} {n : Int} (h : asI k v = some n) : v = .int k n := by
 unfold asI at h
 split at h
 ·split at h
  ·rename_i hk; simp at h; subst h; subst hk; rfl
  ·simp at h
 ·simp at h
theorem asS_inv {v : Value} {s : ByteArray} (h : asS v = some s) : v = .string s := by
 unfold asS at h
 split at h
 ·simp at h; subst h; rfl
 ·simp at h
theorem nrm_inv {R : Type} {ty : TypeId} {v : Value} {k : Value → Option R} {r : R} (h : nrm P ty v k = some r) : k v = some r := by
 unfold nrm at h
 split at h
 ·simp only [Option.bind_eq_some_iff] at h
  obtain ⟨b, hb, h⟩ := h
  rw [asB_inv hb]; exact h
 ·simp only [Option.bind_eq_some_iff] at h
  obtain ⟨b, hb, h⟩ := h
  rw [asI_inv hb]; exact h
 ·simp only [Option.bind_eq_some_iff] at h
  obtain ⟨b, hb, h⟩ := h
  rw [asS_inv hb]; exact h
 ·exact h
def gW (ops : Array Oper) (o : Oper) (t : Tm) : Option Bool :=
 match o.guard with
 | none => some true
 | some (j, want) =>
  match (ops[j]?).bind (·.dst) with
  | some d =>
   match t.getD d junk with
   | .bool b => some (b == want)
   | .tuple ⟨[]⟩ => some false
   | _ => none
  | none => none
structure Same (t t' : Tm) : Prop where
 n : t'.n = t.n
 at' : ∀ i, t'.getD i junk = t.getD i junk
theorem Same.refl (t : Tm) : Same t t := ⟨rfl, fun _ => rfl⟩
theorem set_Same {t : Tm} {d : Nat} {v : Value} (h : t.getD d junk = v) : Same t (t.set d v) := by
 refine ⟨set_n, fun i => ?_⟩
 by_cases hd : d = i
 ·subst hd
  by_cases hl : d < t.n
  ·rw [set_same hl, h]
  ·rw [set_out hl]
 ·rw [set_ne hd]
theorem TR.same {t t' : Tm} {tm : Array Value} (r : TR ι t tm) (s : Same t t') : TR ι t' tm := ⟨s.n.trans r.len, fun i => by rw [s.at']; exact r.slot i⟩
theorem evG_inv {R : Type} {ops : Array Oper} {o : Oper} {t : Tm} {run skip : Tm → Option R} {r : R} (h : evG ops o t run skip = some r) :
  (gW ops o t = some true ∧ ∃ t', Same t t' ∧ run t' = some r) ∨ (gW ops o t = some false ∧ ∃ t', Same t t' ∧ skip t' = some r) := by
 unfold evG at h
 unfold gW
 cases hg : o.guard with
 | none => rw [hg] at h; exact .inl ⟨rfl, t, Same.refl t, h⟩
 | some jw =>
  obtain ⟨j, want⟩ := jw
  rw [hg] at h
  simp only [] at h ⊢
  cases hd : (ops[j]?).bind (·.dst) with
  | none => rw [hd] at h; simp at h
  | some d =>
   rw [hd] at h
   simp only [] at h ⊢
   split at h
   ·rename_i b hb
    have e := set_Same hb
    rw [hb]
    cases b <;> cases want <;> simp only [cond_true, cond_false] at h <;> first | exact .inl ⟨rfl, _, e, h⟩ | exact .inr ⟨rfl, _, e, h⟩
   ·rename_i hb
    rw [hb]; exact .inr ⟨rfl, t, Same.refl t, h⟩
   ·simp at h
theorem VR.bool_inv' {b : Bool} {v' : Value} (h : VR ι (.bool b) v') : v' = .bool b := by
 cases h with
 | s2 r => cases r with | s1 r => cases r with | s0 r => cases r; rfl
theorem VR.tup0_inv {v' : Value} (h : VR ι (.tuple ⟨[]⟩) v') : v' = .tuple #[] := by
 cases h with
 | tuple ha =>
  rename_i a'
  have : a'.toList = [] := by generalize a'.toList = l at ha; cases ha; rfl
  rw [show a' = #[] from Array.ext' this]
 | s2 r => cases r with | s1 r => cases r with | s0 r => cases r
theorem gW_sound {ops : Array Oper} {o : Oper} {t : Tm} {a : Act} {b : Bool} (h : gW ops o t = some b)
  (ht : ∀ g want d, o.guard = some (g, want) → (ops[g]?).bind (·.dst) = some d → VR ι (t.getD d junk) (a.tmps.getD d undef)) : Region.wanted o (yielded ops a.tmps) = b := by
 unfold gW at h
 unfold Region.wanted
 cases hg : o.guard with
 | none => rw [hg] at h; simp at h; subst h; rfl
 | some jw =>
  obtain ⟨j, want⟩ := jw
  rw [hg] at h
  simp only [] at h ⊢
  cases hd : (ops[j]?).bind (·.dst) with
  | none => rw [hd] at h; simp at h
  | some d =>
   rw [hd] at h
   have hv := ht j want d hg hd
   simp only [yielded, hd, oBs] at h ⊢
   split at h
   ·rename_i b' hb
    rw [hb] at hv
    have := VR.bool_inv' hv
    rw [Array.getD_eq_getD_getElem?] at this
    cases hx : a.tmps[d]? with
    | none => rw [hx] at this; simp [undef] at this
    | some x =>
     rw [hx] at this; simp at this; subst this
     simp at h ⊢
     subst h; cases b' <;> cases want <;> rfl
   ·rename_i hb
    rw [hb] at hv
    have := VR.tup0_inv hv
    rw [Array.getD_eq_getD_getElem?] at this
    cases hx : a.tmps[d]? with
    | none => simp at h ⊢; exact h
    | some x => rw [hx] at this; simp at this; subst this; simp at h ⊢; exact h
   ·simp at h
theorem evOps_sound {C : ACall} (hC : CallOk P w0 C) {R : Type} {ops : Array Oper} {k : Tm → AHeap → Option R} {r : R} {Q : Exit → Act → World → Prop} {D : List Deferred} :
  ∀ (l : List Oper) {t : Tm} {h : AHeap} {w : World} {ι : Inj} {a : Act}, evOps P C ops l t h k = some r → TR ι t a.tmps → HRel P w0 ι h w → a.defers = D →
  (∀ t' h' a' w' ι', Nxt ι w ι' w' → HRel P w0 ι' h' w' → TR ι' t' a'.tmps → a'.defers = D → k t' h' = some r → Q .normal a' w') → wpList P ops Q l a w := by
 intro l
 induction l with
 | nil =>
  intro t h w ι a he ht H hd hk
  exact hk _ _ _ _ _ (Nxt.refl _ _) H ht hd he
 | cons o os ih =>
  intro t h w ι a he ht H hd hk
  simp only [evOps] at he
  unfold wpList
  rcases evG_inv he with ⟨hg, t', hs, he⟩ | ⟨hg, t', hs, he⟩
  ·rw [gW_sound hg fun g want d _ _ => ht.getD d undef]
   simp only [if_true]
   left
   refine op_sound hC he (ht.same hs) H fun v h' v' w' ι' n H' hv he => ?_
   have he := nrm_inv he
   exact ih he (((ht.same hs).mono n.le).put o.dst hv) H' (by rw [Act.put_defers]; exact hd) fun t' h' a' w' ι' n' => hk t' h' a' w' ι' (n.trans n')
  ·rw [gW_sound hg fun g want d _ _ => ht.getD d undef]
   simp only [Bool.false_eq_true, if_false]
   exact ih he ((ht.same hs).put o.dst (VR.undef _)) H (by rw [Act.put_defers]; exact hd) hk
open Go.RowKit Go.Lib
variable {P : Program} {w0 : W0} {w : World} {ι : Inj} {h : AHeap}
theorem partsOf_congr {t t2 : Tm} (pl : List (Nat × Nat)) : ∀ (l : List (Nat × Operand)), (∀ p ∈ l, evX t p.2 = evX t2 p.2) → partsOf pl t l = partsOf pl t2 l
 | [], _ => rfl
 | (i, x) :: l, h => by
  unfold partsOf
  rw [partsOf_congr pl l fun p hp => h p (List.mem_cons_of_mem _ hp), h (i, x) (List.mem_cons_self ..)]
theorem evOp_congr {R : Type} {C : ACall} {o : Oper} {t t2 : Tm} {k : Value → AHeap → Option R} (he : ∀ x ∈ o.op.operands, evX t x = evX t2 x) :
  evOp P C o t h k = evOp P C o t2 h k := by
 obtain ⟨dst, op, type, pos, after, guard⟩ := o
 cases op with
 | build ty parts =>
  simp only [Op.operands] at he
  simp only [evOp, oAlloc, oBox, oBuild, oBuildSlice, oLoad, oStore, oBinOp, oConvert, oMakeSlice, oSlice, oFieldAddr, oField, oIndexAddr, oIndex, oLen, oAppend, oMax, oMin, oLookup, oMapUpdate, oCopy, oClear, aNewM]
  have : ∀ pl, partsOf pl t parts.toList = partsOf pl t2 parts.toList := fun pl => partsOf_congr pl _ fun p hp => he p.2 (by simp; exact ⟨p.1, by simpa using hp⟩)
  simp only [this]
 | buildSlice ty len parts =>
  simp only [Op.operands] at he
  simp only [evOp, oAlloc, oBox, oBuild, oBuildSlice, oLoad, oStore, oBinOp, oConvert, oMakeSlice, oSlice, oFieldAddr, oField, oIndexAddr, oIndex, oLen, oAppend, oMax, oMin, oLookup, oMapUpdate, oCopy, oClear, aNewM]
  have : ∀ n : Nat, (parts.toList.map fun p => (p.1 * n, n, evX t p.2)) = (parts.toList.map fun p => (p.1 * n, n, evX t2 p.2)) := fun n => List.map_congr_left fun p hp => by rw [he p.2 (by simp; exact ⟨p.1, by simpa using hp⟩)]
  simp only [this]
 | makeFunc fn first captured =>
  simp only [Op.operands] at he
  cases fn with
  | func f =>
   simp only [evOp, oAlloc, oBox, oBuild, oBuildSlice, oLoad, oStore, oBinOp, oConvert, oMakeSlice, oSlice, oFieldAddr, oField, oIndexAddr, oIndex, oLen, oAppend, oMax, oMin, oLookup, oMapUpdate, oCopy, oClear, aNewM]
   rw [List.map_congr_left fun x hx => he x (by simp at hx; simp [hx]), List.map_congr_left (l := captured.toList) fun x hx => he x (by simp at hx; simp [hx])]
  | _ => rfl
 | call c =>
  obtain ⟨callee, args, argTypes⟩ := c
  have ha : args.toList.map (evX t) = args.toList.map (evX t2) := List.map_congr_left fun x hx => he x (by simp at hx; simp [Op.operands, Call.operands, hx])
  cases callee with
  | value f =>
   have hf : evX t f = evX t2 f := he f (by simp [Op.operands, Call.operands])
   simp only [evOp, oAlloc, oBox, oBuild, oBuildSlice, oLoad, oStore, oBinOp, oConvert, oMakeSlice, oSlice, oFieldAddr, oField, oIndexAddr, oIndex, oLen, oAppend, oMax, oMin, oLookup, oMapUpdate, oCopy, oClear, aNewM, ha, hf]
  | invoke => rfl
  | builtin b =>
   have h1 : ∀ x, args.toList = [x] → evX t x = evX t2 x := fun x hx => by simpa [hx] using ha
   have h2 : ∀ x y, args.toList = [x, y] → evX t x = evX t2 x ∧ evX t y = evX t2 y := fun x y hx => by simpa [hx] using ha
   cases b with
   | len => simp only [evOp, oAlloc, oBox, oBuild, oBuildSlice, oLoad, oStore, oBinOp, oConvert, oMakeSlice, oSlice, oFieldAddr, oField, oIndexAddr, oIndex, oLen, oAppend, oMax, oMin, oLookup, oMapUpdate, oCopy, oClear, aNewM]; split <;> first | rfl | (rename_i hx _; rw [h1 _ hx])
   | append => simp only [evOp, oAlloc, oBox, oBuild, oBuildSlice, oLoad, oStore, oBinOp, oConvert, oMakeSlice, oSlice, oFieldAddr, oField, oIndexAddr, oIndex, oLen, oAppend, oMax, oMin, oLookup, oMapUpdate, oCopy, oClear, aNewM]; split <;> first | rfl | (rename_i hx _; rw [(h2 _ _ hx).1, (h2 _ _ hx).2])
   | copy => simp only [evOp, oCopy]; split <;> first | rfl | (rename_i hx _; rw [(h2 _ _ hx).1, (h2 _ _ hx).2])
   | clear => simp only [evOp, oClear]; split <;> first | rfl | (rename_i hx _; rw [h1 _ hx])
   | max => simp only [evOp, oAlloc, oBox, oBuild, oBuildSlice, oLoad, oStore, oBinOp, oConvert, oMakeSlice, oSlice, oFieldAddr, oField, oIndexAddr, oIndex, oLen, oAppend, oMax, oMin, oLookup, oMapUpdate, oCopy, oClear, aNewM]; split <;> first | rfl | (rename_i hx; rw [(h2 _ _ hx).1, (h2 _ _ hx).2])
   | min => simp only [evOp, oAlloc, oBox, oBuild, oBuildSlice, oLoad, oStore, oBinOp, oConvert, oMakeSlice, oSlice, oFieldAddr, oField, oIndexAddr, oIndex, oLen, oAppend, oMax, oMin, oLookup, oMapUpdate, oCopy, oClear, aNewM]; split <;> first | rfl | (rename_i hx; rw [(h2 _ _ hx).1, (h2 _ _ hx).2])
   | _ => rfl
 | makeMap t rs => cases rs <;> rfl
 | slice t x lo hi mx =>
  cases mx with
  | some m => rfl
  | none => cases lo <;> cases hi <;> simp_all [evOp, oAlloc, oBox, oBuild, oBuildSlice, oLoad, oStore, oBinOp, oConvert, oMakeSlice, oSlice, oFieldAddr, oField, oIndexAddr, oIndex, oLen, oAppend, oMax, oMin, oLookup, oMapUpdate, oCopy, oClear, aNewM, Op.operands]
 | _ => first | (simp only [Op.operands] at he; simp_all [evOp, oAlloc, oBox, oBuild, oBuildSlice, oLoad, oStore, oBinOp, oConvert, oMakeSlice, oSlice, oFieldAddr, oField, oIndexAddr, oIndex, oLen, oAppend, oMax, oMin, oLookup, oMapUpdate, oCopy, oClear, aNewM]; done) | rfl
theorem evOp_bind {R : Type} {C : ACall} {o : Oper} {t : Tm} {k : Value → AHeap → Option R} (he : isEff o.op = false) :
  evOp P C o t h k = (evOp P C o t h fun v _ => some v).bind fun v => k v h := by
 obtain ⟨dst, op, type, pos, after, guard⟩ := o
 cases op with
 | call c =>
  obtain ⟨callee, args, argTypes⟩ := c
  cases callee with
  | value f => simp [isEff] at he
  | invoke => rfl
  | builtin b =>
   cases b with
   | append => simp [isEff] at he
   | copy => simp [isEff] at he
   | clear => simp [isEff] at he
   | len => simp only [evOp, oAlloc, oBox, oBuild, oBuildSlice, oLoad, oStore, oBinOp, oConvert, oMakeSlice, oSlice, oFieldAddr, oField, oIndexAddr, oIndex, oLen, oAppend, oMax, oMin, oLookup, oMapUpdate, oCopy, oClear, aNewM]; (repeat' split) <;> simp [Option.bind_assoc]
   | max => simp only [evOp, oAlloc, oBox, oBuild, oBuildSlice, oLoad, oStore, oBinOp, oConvert, oMakeSlice, oSlice, oFieldAddr, oField, oIndexAddr, oIndex, oLen, oAppend, oMax, oMin, oLookup, oMapUpdate, oCopy, oClear, aNewM]; split <;> simp [Option.bind_assoc]
   | min => simp only [evOp, oAlloc, oBox, oBuild, oBuildSlice, oLoad, oStore, oBinOp, oConvert, oMakeSlice, oSlice, oFieldAddr, oField, oIndexAddr, oIndex, oLen, oAppend, oMax, oMin, oLookup, oMapUpdate, oCopy, oClear, aNewM]; split <;> simp [Option.bind_assoc]
   | _ => rfl
 | pick c x y => simp only [evOp, oAlloc, oBox, oBuild, oBuildSlice, oLoad, oStore, oBinOp, oConvert, oMakeSlice, oSlice, oFieldAddr, oField, oIndexAddr, oIndex, oLen, oAppend, oMax, oMin, oLookup, oMapUpdate, oCopy, oClear, aNewM, Option.bind_assoc]; congr 1; funext b; cases b <;> rfl
 | makeFunc fn first captured => cases fn <;> simp [evOp, oAlloc, oBox, oBuild, oBuildSlice, oLoad, oStore, oBinOp, oConvert, oMakeSlice, oSlice, oFieldAddr, oField, oIndexAddr, oIndex, oLen, oAppend, oMax, oMin, oLookup, oMapUpdate, oCopy, oClear, aNewM, Option.bind_assoc]
 | slice t x lo hi mx =>
  cases mx with
  | some m => rfl
  | none => simp only [evOp, oAlloc, oBox, oBuild, oBuildSlice, oLoad, oStore, oBinOp, oConvert, oMakeSlice, oSlice, oFieldAddr, oField, oIndexAddr, oIndex, oLen, oAppend, oMax, oMin, oLookup, oMapUpdate, oCopy, oClear, aNewM]; (repeat' split) <;> simp [Option.bind_assoc]
 | _ =>
  first
   | (simp [isEff] at he; done)
   | (simp only [evOp, oAlloc, oBox, oBuild, oBuildSlice, oLoad, oStore, oBinOp, oConvert, oMakeSlice, oSlice, oFieldAddr, oField, oIndexAddr, oIndex, oLen, oAppend, oMax, oMin, oLookup, oMapUpdate, oCopy, oClear, aNewM, Option.bind_assoc, oBs]; done)
   | (simp only [evOp, oAlloc, oBox, oBuild, oBuildSlice, oLoad, oStore, oBinOp, oConvert, oMakeSlice, oSlice, oFieldAddr, oField, oIndexAddr, oIndex, oLen, oAppend, oMax, oMin, oLookup, oMapUpdate, oCopy, oClear, aNewM]; (repeat' split) <;> simp [Option.bind_assoc]; done)
   | rfl
theorem evOp_still {C : ACall} {o : Oper} {t : Tm} {h h2 : AHeap} (he : isEff o.op = false) (hr : isRd o.op = false) :
  evOp P C o t h (fun v _ => some v) = evOp P C o t h2 (fun v _ => some v) := by
 obtain ⟨dst, op, type, pos, after, guard⟩ := o
 cases op with
 | call c =>
  obtain ⟨callee, args, argTypes⟩ := c
  cases callee with
  | value f => simp [isEff] at he
  | invoke => rfl
  | builtin b =>
   cases b with
   | append => simp [isEff] at he
   | copy => simp [isEff] at he
   | clear => simp [isEff] at he
   | _ => rfl
 | makeFunc fn first captured => cases fn <;> rfl
 | _ => first | (simp [isEff] at he; done) | (simp [isRd] at hr; done) | rfl
section
variable {L : Bool} {ops : Array Oper}
theorem preOf_spec {o : Oper} {acc : List Nat} {i : Nat} (h : (preOf o acc).testBit i = true) :
  ∃ e ∈ o.after, Region.binds .any e = true ∧ (e.on = i ∨ (acc.getD e.on 0).testBit i = true) := by
 have key : ∀ (l : List Edge) (s : Nat), (l.foldl (fun s e => bif Region.binds .any e then s ||| (2 ^ e.on ||| acc.getD e.on 0) else s) s).testBit i = true →
   s.testBit i = true ∨ ∃ e ∈ l, Region.binds .any e = true ∧ (e.on = i ∨ (acc.getD e.on 0).testBit i = true) := by
  intro l
  induction l with
  | nil => intro s h; exact .inl h
  | cons e l ih =>
   intro s h
   rw [List.foldl_cons] at h
   rcases ih _ h with h | ⟨e', he', h⟩
   ·cases hb : Region.binds .any e with
    | false => rw [hb] at h; exact .inl h
    | true =>
     rw [hb] at h
     simp only [cond_true, Nat.testBit_or, Bool.or_eq_true, Nat.testBit_two_pow, decide_eq_true_eq] at h
     rcases h with h | h | h
     ·exact .inl h
     ·exact .inr ⟨e, List.mem_cons_self .., hb, .inl h⟩
     ·exact .inr ⟨e, List.mem_cons_self .., hb, .inr h⟩
   ·exact .inr ⟨e', List.mem_cons_of_mem _ he', h⟩
 rcases key _ _ h with h | ⟨e, he, h⟩
 ·simp at h
 ·exact ⟨e, by simpa using he, h⟩
theorem presGo_spec (L : List Oper) : ∀ (l done : List Oper) (acc : List Nat), L = done ++ l → acc.length = done.length →
  (∀ j i, (acc.getD j 0).testBit i = true → ∃ o, L[j]? = some o ∧ ∃ e ∈ o.after, Region.binds .any e = true ∧ (e.on = i ∨ (acc.getD e.on 0).testBit i = true)) →
  ∀ j i, ((presGo l acc).getD j 0).testBit i = true → ∃ o, L[j]? = some o ∧ ∃ e ∈ o.after, Region.binds .any e = true ∧ (e.on = i ∨ ((presGo l acc).getD e.on 0).testBit i = true) := by
 intro l
 induction l with
 | nil => intro done acc _ _ h; exact h
 | cons o os ih =>
  intro done acc hL hlen h
  have up : ∀ m i, (acc.getD m 0).testBit i = true → ((acc ++ [preOf o acc]).getD m 0).testBit i = true := by
   intro m i hb
   by_cases hm : m < acc.length
   ·simpa [List.getD_eq_getElem?_getD, List.getElem?_append_left hm] using hb
   ·simp [List.getD_eq_getElem?_getD, List.getElem?_eq_none (Nat.le_of_not_lt hm)] at hb
  refine ih (done ++ [o]) (acc ++ [preOf o acc]) (by simp [hL]) (by simp [hlen]) fun j i hb => ?_
  rcases Nat.lt_trichotomy j acc.length with hj | hj | hj
  ·have hb' : (acc.getD j 0).testBit i = true := by simpa [List.getD_eq_getElem?_getD, List.getElem?_append_left hj] using hb
   obtain ⟨o', ho', e, he, hbi, hh⟩ := h j i hb'
   exact ⟨o', ho', e, he, hbi, hh.imp id (up _ _)⟩
  ·subst hj
   have hb' : (preOf o acc).testBit i = true := by simpa [List.getD_eq_getElem?_getD] using hb
   obtain ⟨e, he, hbi, hh⟩ := preOf_spec hb'
   exact ⟨o, by rw [hL, hlen]; simp, e, he, hbi, hh.imp id (up _ _)⟩
  ·have : (acc ++ [preOf o acc])[j]? = none := List.getElem?_eq_none (by simp; omega)
   simp [List.getD_eq_getElem?_getD, this] at hb
theorem pres_spec {j i : Nat} (h : ((pres ops).getD j 0).testBit i = true) :
  ∃ o, ops[j]? = some o ∧ ∃ e ∈ o.after, Region.binds .any e = true ∧ (e.on = i ∨ ((pres ops).getD e.on 0).testBit i = true) := by
 obtain ⟨o, ho, hh⟩ := presGo_spec ops.toList ops.toList [] [] rfl rfl (by simp) j i h
 exact ⟨o, by simpa using ho, hh⟩
structure DrawOk (L : Bool) (ops : Array Oper) (l : List Nat) : Prop where
 lt : ∀ j ∈ l, j < ops.size
 mem : ∀ j, j < ops.size → j ∈ l
 row : drawRow L ops (pres ops) l = true
 top : ∀ (j : Nat) (o : Oper), ops[j]? = some o → ∀ e ∈ o.after, Region.binds .any e = true → e.on < j
 ssa : ∀ i ∈ l, eff L ops i = false → ∀ d, dstOf ops i = some d → ∀ j ∈ l, d ∈ looks ops j → ((pres ops).getD j 0).testBit i = true
theorem drawOk_spec {l : List Nat} (h : drawOk L ops (pres ops) l = true) : DrawOk L ops l := by
 simp only [drawOk, Bool.and_eq_true, List.all_eq_true] at h
 obtain ⟨⟨⟨⟨⟨h1, h2⟩, h3⟩, h4⟩, h5⟩, h6⟩ := h
 refine ⟨fun j hj => by simpa using h2 j hj, fun j hj => by simpa using h3 j (by simpa using hj), h4, fun j o ho e he hbi => ?_, fun i hi hef d hd j hj hl => ?_⟩
 ·have := h5 (o, j) (by
   rw [Array.mem_toList_iff, Array.mem_zipIdx_iff_getElem?]; exact ho)
  simp only [Array.all_eq_true_iff_forall_mem, Bool.or_eq_true, Bool.not_eq_true', decide_eq_true_eq] at this
  exact (this e he).resolve_left (by rw [hbi]; simp)
 ·have := h6 i hi
  rw [hef, hd] at this
  simp only [Bool.false_or, List.all_eq_true] at this
  have := this j hj
  simpa [hl] using this
theorem pre_lt {l : List Nat} (K : DrawOk L ops l) : ∀ (j : Nat) {i : Nat}, ((pres ops).getD j 0).testBit i = true → i < j := by
 intro j
 induction j using Nat.strongRecOn with
 | _ j ih =>
  intro i h
  obtain ⟨o, ho, e, he, hbi, hh⟩ := pres_spec h
  have := K.top j o ho e he hbi
  rcases hh with hh | hh
  ·omega
  ·have := ih e.on this hh; omega
theorem drawRow_pair {pre : List Nat} : ∀ {X : List Nat} {j : Nat} {r : List Nat}, drawRow L ops pre (X ++ j :: r) = true → ∀ i ∈ X,
  (∀ d, dstOf ops j = some d → (d ∈ looks ops i → eff L ops j = true ∧ (pre.getD j 0).testBit i = true) ∧ dstOf ops i ≠ some d) ∧ (eff L ops i = true → (pre.getD j 0).testBit i = true) ∧ i ≠ j
 | x :: X, j, r, h, i, hi => by
  simp only [List.cons_append, drawRow, Bool.and_eq_true, List.all_eq_true] at h
  rcases List.mem_cons.1 hi with rfl | hi
  ·obtain ⟨⟨h0, h1⟩, _⟩ := h
   have h1 := h1 j (by simp)
   refine ⟨fun d hd => ?_, fun he => ?_, ?_⟩
   ·rw [hd] at h1
    simp only [Bool.and_eq_true, Bool.not_eq_true', Bool.or_eq_true, beq_eq_false_iff_ne] at h1
    exact ⟨fun hl => h1.1.1.resolve_left (by simpa using hl), h1.1.2⟩
   ·simpa [he] using h1.2
   ·rintro rfl; simp at h0
  ·exact drawRow_pair h.2 i hi
end
theorem put_getD {t : Tm} {dst : Option Tmp} {v : Value} {s : Nat} (h : dst ≠ some s) : (put t dst v).getD s junk = t.getD s junk := by
 cases dst with
 | none => rfl
 | some d => exact set_ne fun e => h (by rw [e])
theorem put_len {t : Tm} {dst : Option Tmp} {v : Value} : (put t dst v).n = t.n := by
 cases dst with
 | none => rfl
 | some d => exact set_n
theorem put_same {t : Tm} {d : Tmp} {v : Value} (h : d < t.n) : (put t (some d) v).getD d junk = v := set_same h
theorem aput_ne {a : Act} {dst : Option Tmp} {v : Value} {s : Nat} (h : dst ≠ some s) : (a.put dst v).tmps.getD s undef = a.tmps.getD s undef := by
 cases dst with
 | none => rfl
 | some d =>
  have : d ≠ s := fun e => h (by rw [e])
  simp [Act.put, Array.getD_eq_getD_getElem?, Array.getElem?_setIfInBounds_ne this]
theorem aput_same {a : Act} {d : Tmp} {v : Value} (h : d < a.tmps.size) : (a.put (some d) v).tmps.getD d undef = v := by simp [Act.put, Array.getD_eq_getD_getElem?, h]
theorem aput_size {a : Act} {dst : Option Tmp} {v : Value} : (a.put dst v).tmps.size = a.tmps.size := by cases dst <;> simp [Act.put]
section
variable {L : Bool} {ops : Array Oper} {C : ACall} {R : Type} {D : List Deferred} {k : Tm → AHeap → Option R} {r : R}
def Unl (listed : Array Bool) (j : Nat) : Prop := listed.getD j false = false
def Waits (L : Bool) (ops : Array Oper) (X : List Nat) (listed : Array Bool) (s : Nat) : Prop := ∃ i ∈ X, Unl listed i ∧ eff L ops i = false ∧ dstOf ops i = some s
structure TRm (L : Bool) (ops : Array Oper) (X : List Nat) (listed : Array Bool) (ι : Inj) (t : Tm) (a : Act) : Prop where
 len : t.n = a.tmps.size
 slot : ∀ s, Waits L ops X listed s ∨ VR ι (t.getD s junk) (a.tmps.getD s undef)
structure Fact (P : Program) (C : ACall) (ops : Array Oper) (t : Tm) (h : AHeap) (j : Nat) (o : Oper) : Prop where
 at' : ops[j]? = some o
 still : isEff o.op = false
 says : (gW ops o t = some true ∧ ∃ v, evOp P C o t h (fun v _ => some v) = some v ∧ ∀ d, o.dst = some d → d < t.n → t.getD d junk = v) ∨
  (gW ops o t = some false ∧ ∀ d, o.dst = some d → d < t.n → t.getD d junk = undef)
def waiting (L : Bool) (ops : Array Oper) (X : List Nat) (listed : Array Bool) : List Nat := X.filterMap fun i => if listed.getD i false = false ∧ eff L ops i = false then dstOf ops i else none
theorem mem_waiting {X : List Nat} {listed : Array Bool} {s : Nat} : s ∈ waiting L ops X listed ↔ Waits L ops X listed s := by
 unfold waiting Waits Unl
 rw [List.mem_filterMap]
 constructor
 ·rintro ⟨i, hi, h⟩
  split at h
  ·rename_i hc; exact ⟨i, hi, hc.1, hc.2, h⟩
  ·cases h
 ·rintro ⟨i, hi, h1, h2, h3⟩
  exact ⟨i, hi, by rw [if_pos ⟨h1, h2⟩]; exact h3⟩
def veil (L : Bool) (ops : Array Oper) (X : List Nat) (listed : Array Bool) (t : Tm) : Tm := ⟨t.n, (waiting L ops X listed).map (fun s => (s, junk)) ++ t.l⟩
theorem lk_veil {i : Nat} {l : List (Nat × Value)} : ∀ keys : List Nat, (i ∈ keys → lk junk i (keys.map (fun s => (s, junk)) ++ l) = junk) ∧ (i ∉ keys → lk junk i (keys.map (fun s => (s, junk)) ++ l) = lk junk i l)
 | [] => ⟨fun h => by simp at h, fun _ => rfl⟩
 | j :: keys => by
  have ih := lk_veil (i := i) (l := l) keys
  rw [List.map_cons, List.cons_append]
  by_cases h : j = i
  ·subst h; exact ⟨fun _ => lk_cons_same, fun h => by simp at h⟩
  ·rw [lk_cons_ne h]
   exact ⟨fun hm => ih.1 ((List.mem_cons.1 hm).resolve_left fun e => h e.symm), fun hm => ih.2 fun h2 => hm (List.mem_cons_of_mem _ h2)⟩
theorem veil_getD {X : List Nat} {listed : Array Bool} {t : Tm} {s : Nat} (h : ¬ Waits L ops X listed s) : (veil L ops X listed t).getD s junk = t.getD s junk := by
 by_cases hs : s < t.n
 ·rw [getD_in hs, getD_in (show s < (veil L ops X listed t).n from hs)]
  exact (lk_veil _).2 fun hm => h (mem_waiting.1 hm)
 ·rw [getD_out hs, getD_out (show ¬ s < (veil L ops X listed t).n from hs)]
theorem TRm.veil {X : List Nat} {listed : Array Bool} {t : Tm} {a : Act} (h : TRm L ops X listed ι t a) : TR ι (veil L ops X listed t) a.tmps := by
 refine ⟨h.len, fun i => ?_⟩
 by_cases hw : Waits L ops X listed i
 ·have : (AH.veil L ops X listed t).getD i junk = junk := by
   by_cases hs : i < t.n
   ·rw [getD_in (show i < (AH.veil L ops X listed t).n from hs)]; exact (lk_veil _).1 (mem_waiting.2 hw)
   ·exact getD_out hs
  rw [this]; exact .junk _
 ·rw [veil_getD hw]; exact (h.slot i).resolve_left hw
theorem mem_looks_op {j : Nat} {o : Oper} (ho : ops[j]? = some o) {d : Tmp} (hd : Operand.tmp d ∈ o.op.operands) : d ∈ looks ops j := by
 simp only [looks, ho, List.mem_append, List.mem_filterMap]
 exact .inl ⟨.tmp d, by simpa using hd, rfl⟩
theorem mem_looks_guard {j : Nat} {o : Oper} (ho : ops[j]? = some o) {g : Nat} {want : Bool} {d : Tmp} (hg : o.guard = some (g, want)) (hd : (ops[g]?).bind (·.dst) = some d) : d ∈ looks ops j := by
 simp only [looks, ho, hg, hd, List.mem_append]
 exact .inr (by simp)
theorem evX_congr {j : Nat} {o : Oper} (ho : ops[j]? = some o) {t t2 : Tm} (he : ∀ d ∈ looks ops j, t.getD d junk = t2.getD d junk) : ∀ x ∈ o.op.operands, evX t x = evX t2 x := by
 intro x hx
 cases x with
 | tmp d => exact he d (mem_looks_op ho hx)
 | _ => rfl
theorem gW_congr {j : Nat} {o : Oper} (ho : ops[j]? = some o) {t t2 : Tm} (he : ∀ d ∈ looks ops j, t.getD d junk = t2.getD d junk) : gW ops o t = gW ops o t2 := by
 unfold gW
 cases hg : o.guard with
 | none => rfl
 | some jw =>
  obtain ⟨g, want⟩ := jw
  simp only []
  cases hd : (ops[g]?).bind (·.dst) with
  | none => rfl
  | some d => simp only [he d (mem_looks_guard ho hg hd)]
theorem Fact.put {t : Tm} {j : Nat} {o : Oper} (f : Fact P C ops t h j o) {dst : Option Tmp} {v : Value} (hd : ∀ d, dst = some d → d ∉ looks ops j ∧ dstOf ops j ≠ some d) :
  Fact P C ops (put t dst v) h j o := by
 have e : ∀ d ∈ looks ops j, (AH.put t dst v).getD d junk = t.getD d junk := fun d hl => put_getD fun e => (hd d e).1 hl
 have e2 : ∀ d, o.dst = some d → (AH.put t dst v).getD d junk = t.getD d junk := fun d ho => put_getD fun e => (hd d e).2 (by simp [dstOf, f.at', ho])
 refine ⟨f.at', f.still, ?_⟩
 rw [gW_congr f.at' e, evOp_congr (evX_congr f.at' e)]
 refine f.says.imp (fun ⟨h1, v, h2, h3⟩ => ⟨h1, v, h2, fun d h4 h5 => ?_⟩) fun ⟨h1, h3⟩ => ⟨h1, fun d h4 h5 => ?_⟩ <;>
 ·rw [e2 d h4]; exact h3 d h4 (by rwa [put_len] at h5)
theorem Fact.same {t t' : Tm} (hs : Same t t') {j : Nat} {o : Oper} (f : Fact P C ops t h j o) : Fact P C ops t' h j o := by
 have e : ∀ d ∈ looks ops j, t'.getD d junk = t.getD d junk := fun d _ => hs.at' d
 refine ⟨f.at', f.still, ?_⟩
 rw [gW_congr f.at' e, evOp_congr (evX_congr f.at' e)]
 refine f.says.imp (fun ⟨h1, v, h2, h3⟩ => ⟨h1, v, h2, fun d h4 h5 => ?_⟩) fun ⟨h1, h3⟩ => ⟨h1, fun d h4 h5 => ?_⟩ <;>
 ·rw [hs.at']; exact h3 d h4 (by rwa [hs.n] at h5)
theorem TRm.same {t t' : Tm} (hs : Same t t') {X : List Nat} {listed : Array Bool} {a : Act} (T : TRm L ops X listed ι t a) : TRm L ops X listed ι t' a :=
 ⟨hs.n.trans T.len, fun s => by rw [hs.at']; exact T.slot s⟩
theorem Fact.heap {t : Tm} {j : Nat} {o : Oper} (f : Fact P C ops t h j o) (hr : isRd o.op = false) (h2 : AHeap) : Fact P C ops t h2 j o :=
 ⟨f.at', f.still, by rw [evOp_still f.still hr (h2 := h)]; exact f.says⟩
end
open Go.RowKit Go.Lib
variable {P : Program} {w0 : W0} {w : World} {ι : Inj} {h : AHeap}
inductive LV where
 | ptr
 | slc (n : Nat)
 | map
def lval : LV → Nat → Value
 | .ptr, i => AH.ptr i 0
 | .slc n, i => AH.slc i 0 n
 | .map, i => .map (some i)
def lateV (P : Program) (o : Op) (t : Tm) : Option (Fz × LV) :=
 match o with
 | .alloc e =>
  match tZero P e, tSize P e with
  | some z, some _ => some (.row e z, .ptr)
  | _, _ => none
 | .box e x =>
  match tSize P e with
  | some _ => (aCells (evX t x)).map fun cs => (.row e cs, .ptr)
  | none => none
 | .buildSlice ty len parts =>
  match elemOf? P ty with
  | some e =>
   match tZero P e, tSize P e with
   | some z, some n => if len * n ≤ 16777216 ∧ 0 < n ∧ z.length = n then (aFill (List.replicate len z).flatten (parts.toList.map fun p => (p.1 * n, n, AH.evX t p.2))).map fun cs => (.row e cs, .slc len) else none
   | _, _ => none
  | none => none
 | .makeSlice ty l c =>
  match elemOf? P ty with
  | some e =>
   match tZero P e, tBytes P e, tSize P e with
   | some z, some b, some n =>
    if 0 < n ∧ z.length = n then
     match evX t l, evX t c with
     | .int .i64 l, .int .i64 c => if 0 ≤ l ∧ l ≤ c ∧ c ≤ most ∧ c.toNat * b ≤ most then some (.row e (List.replicate l.toNat z).flatten, .slc l.toNat) else none
     | _, _ => none
    else none
   | _, _, _ => none
  | none => none
 | .makeMap _ none => some (.map, .map)
 | _ => none
theorem lateV_congr {o : Oper} {t t2 : Tm} (he : ∀ x ∈ o.op.operands, evX t x = evX t2 x) : lateV P o.op t = lateV P o.op t2 := by
 obtain ⟨dst, op, type, pos, after, guard⟩ := o
 cases op with
 | buildSlice ty len parts =>
  simp only [Op.operands] at he
  have : ∀ n : Nat, (parts.toList.map fun p => (p.1 * n, n, evX t p.2)) = (parts.toList.map fun p => (p.1 * n, n, evX t2 p.2)) := fun n => List.map_congr_left fun p hp => by rw [he p.2 (by simp; exact ⟨p.1, by simpa using hp⟩)]
  simp only [lateV, this]
 | box e x => simp only [lateV, he x (by simp [Op.operands])]
 | makeSlice ty l c => simp only [lateV, he l (by simp [Op.operands]), he c (by simp [Op.operands])]
 | makeMap ty rs => cases rs <;> rfl
 | _ => rfl
theorem late_ev {R : Type} {C : ACall} {o : Oper} {t : Tm} {k : Value → AHeap → Option R} {r : R} (hl : isLate o.op = true) (he : evOp P C o t h k = some r) :
  ∃ f v, lateV P o.op t = some (f, v) ∧ k (lval v h.size) (hAdd h f) = some r := by
 obtain ⟨dst, op, type, pos, after, guard⟩ := o
 cases op with
 | alloc e =>
  simp only [evOp, oAlloc, aNew] at he
  split at he
  ·rename_i z n hz hn
   exact ⟨.row e z, .ptr, by simp only [lateV, hz, hn], he⟩
  ·simp at he
 | box e x =>
  simp only [evOp, oBox, aNew] at he
  split at he
  ·rename_i n hn
   simp only [Option.bind_eq_some_iff] at he
   obtain ⟨cs, hc, he⟩ := he
   exact ⟨.row e cs, .ptr, by simp only [lateV, hn, hc, Option.map_some], he⟩
  ·simp at he
 | buildSlice ty len parts =>
  simp only [evOp, oBuildSlice, aNewS] at he
  split at he
  ·rename_i e hel
   split at he
   ·rename_i z n hz hn
    split at he
    ·rename_i hcd
     simp only [Option.bind_eq_some_iff] at he
     obtain ⟨cs, hc, he⟩ := he
     exact ⟨.row e cs, .slc len, by simp only [lateV, hel, hz, hn]; rw [if_pos hcd, hc]; rfl, he⟩
    ·simp at he
   ·simp at he
  ·simp at he
 | makeSlice ty l c =>
  simp only [evOp, oMakeSlice] at he
  split at he
  ·rename_i e hel
   split at he
   ·rename_i z b n hz hb hn
    split at he
    ·rename_i hcd
     simp only [Option.bind_eq_some_iff] at he
     obtain ⟨v, hc, he⟩ := he
     unfold aMk at hc
     split at hc
     ·rename_i l' c' e1 e2
      split at hc
      ·rename_i hcd2
       simp at hc; subst hc
       exact ⟨.row e (List.replicate l'.toNat z).flatten, .slc l'.toNat, by simp only [lateV, hel, hz, hb, hn]; rw [if_pos hcd]; simp only [e1, e2]; rw [if_pos hcd2], he⟩
      ·simp at hc
     ·simp at hc
    ·simp at he
   ·simp at he
  ·simp at he
 | makeMap ty rs =>
  cases rs with
  | none => exact ⟨_, _, rfl, he⟩
  | some m => simp [isLate] at hl
 | _ => simp [isLate] at hl
theorem late_step {o : Oper} {t : Tm} {f : Fz} {v : LV} (hv : lateV P o.op t = some (f, v)) {a : Act} (ht : TR ι t a.tmps) (H : HRel P w0 ι h w) {i : Nat} (hi : w0.fz i = some f)
  {next : Act → World → Prop} {Q : Exit → Act → World → Prop}
  (hk : ∀ v' w' ι', Nxt ι w ι' w' → HRel P (w0.set i none) ι' h w' → VR ι' (lval v i) v' → next (a.put o.dst v') w') : o.upon P a next Q ((execOp a.eval o).run P w) := by
 obtain ⟨dst, op, type, pos, after, guard⟩ := o
 have M : ∀ {s : Sem Value} {e : TypeId} {cs : List Value}, Makes P ι w s e cs (lval v) → f = .row e cs → Oper.upon P ⟨dst, op, type, pos, after, guard⟩ a next Q ((do pure (.value (← s)) : Sem Next).run P w) := by
  intro s e cs m hf
  subst hf
  obtain ⟨v', n, cap, arr, hr, hn, h1, h2, h3, h4⟩ := m
  obtain ⟨k1, k2⟩ := H.thaw hi n cap arr hn h1 h2 h3
  simp only [Sem.run_bind, hr, Result.andThen_ok, Sem.run_pure]
  exact hk v' _ _ k2 k1 (h4 _ _ (if_pos rfl))
 cases op with
 | alloc e =>
  simp only [lateV] at hv
  split at hv
  ·rename_i z n hz hn
   simp at hv; obtain ⟨rfl, rfl⟩ := hv
   exact M (alloc_makes hz hn) rfl
  ·simp at hv
 | box e x =>
  simp only [lateV] at hv
  split at hv
  ·rename_i n hn
   simp only [Option.map_eq_some_iff] at hv
   obtain ⟨cs, hc, hv⟩ := hv
   simp at hv; obtain ⟨rfl, rfl⟩ := hv
   exact M (box_makes hn hc (ht.evX x)) rfl
  ·simp at hv
 | buildSlice ty len parts =>
  simp only [lateV] at hv
  split at hv
  ·rename_i e hel
   split at hv
   ·rename_i z n hz hn
    split at hv
    ·rename_i hcd
     simp only [Option.map_eq_some_iff] at hv
     obtain ⟨cs, hc, hv⟩ := hv
     simp at hv; obtain ⟨rfl, rfl⟩ := hv
     exact M (buildSlice_makes (elem_under hel) hz hn hcd.1 hcd.2.1 hcd.2.2 ht parts hc) rfl
    ·simp at hv
   ·simp at hv
  ·simp at hv
 | makeSlice ty l c =>
  simp only [lateV] at hv
  split at hv
  ·rename_i e hel
   split at hv
   ·rename_i z b n hz hb hn
    split at hv
    ·rename_i hcd
     split at hv
     ·rename_i l' c' e1 e2
      split at hv
      ·rename_i hcd2
       simp at hv; obtain ⟨rfl, rfl⟩ := hv
       have he : aMk h e z b (AH.evX t l) (AH.evX t c) = some (slc h.size 0 l'.toNat, h.new e (List.replicate l'.toNat z).flatten) := by rw [e1, e2]; simp [aMk, hcd2]
       obtain ⟨cs, m, h1, h2⟩ := mk_makes (w := w) (elem_under hel) hn hcd.1 hz hcd.2 hb he (ht.evX l) (ht.evX c)
       have hh := h2 h
       rw [he] at hh
       simp only [Option.some.injEq, Prod.mk.injEq, slc, Value.slice.injEq] at hh
       obtain ⟨⟨_, rfl, _⟩, h3⟩ := hh
       have hcs : cs = (List.replicate l'.toNat z).flatten := by
        have := congrArg (fun x : AHeap => x.obj h.size) h3
        simp [AHeap.new] at this
        exact this.symm
       subst hcs
       exact M h1 rfl
      ·simp at hv
     ·simp at hv
    ·simp at hv
   ·simp at hv
  ·simp at hv
 | makeMap ty rs =>
  cases rs with
  | none =>
   simp [lateV] at hv; obtain ⟨rfl, rfl⟩ := hv
   obtain ⟨k1, k2⟩ := H.thawMap hi
   have hr : (execOp a.eval ⟨dst, .makeMap ty none, type, pos, after, guard⟩).run P w = .ok (.value (.map (some w.heap.size))) (w.alloc (.map #[] 0)) := by
    have := run_makeMap (P := P) ty w
    simp [execOp, this]
   rw [hr]
   exact hk _ _ _ k2 k1 (.s0 (.map _ _ (if_pos rfl)))
  | some m => simp [lateV] at hv
 | _ => simp [lateV] at hv
theorem rd_hAdd {f : Fz} {i off n : Nat} {cs : List Value} (hr : h.rd i off n = some cs) : (hAdd h f).rd i off n = some cs := by
 unfold AHeap.rd at hr ⊢
 split at hr
 ·rename_i o ho
  rw [at?_hAdd ho]; exact hr
 ·simp at hr
theorem map_hAdd (H : HRel P w0 ι h w) {f : Fz} {i : Nat} {l : List (Value × Value)} (hl : h.map i = some l) : (hAdd h f).map i = some l := by
 have := H.mapd i l hl
 cases f with
 | row e cs => exact hl
 | map => simp only [hAdd, AHeap.newMap]; rw [if_neg (by omega)]; exact hl
theorem evOp_hAdd (H : HRel P w0 ι h w) {C : ACall} {o : Oper} {t : Tm} {f : Fz} {v : Value} (hr : isRd o.op = true) (he : evOp P C o t h (fun v _ => some v) = some v) : evOp P C o t (hAdd h f) (fun v _ => some v) = some v := by
 obtain ⟨dst, op, type, pos, after, guard⟩ := o
 cases op with
 | load ty x =>
  simp only [evOp, oLoad] at he ⊢
  split at he
  ·simp only [Option.bind_eq_some_iff, Option.some.injEq] at he ⊢
   obtain ⟨u, hu, rfl⟩ := he
   refine ⟨u, ?_, rfl⟩
   unfold aLdN at hu ⊢
   split at hu
   ·simp only [Option.map_eq_some_iff] at hu ⊢
    obtain ⟨cs, hc, rfl⟩ := hu
    exact ⟨cs, rd_hAdd hc, rfl⟩
   ·simp at hu
  ·simp only [Option.bind_eq_some_iff, Option.some.injEq] at he ⊢
   obtain ⟨u, hu, rfl⟩ := he
   refine ⟨u, ?_, rfl⟩
   unfold aLd1 at hu ⊢
   split at hu
   ·simp only [Option.bind_eq_some_iff] at hu ⊢
    obtain ⟨cs, hc, hu⟩ := hu
    exact ⟨cs, rd_hAdd hc, hu⟩
   ·simp at hu
  ·simp at he
 | convert src dt x =>
  simp only [evOp, oConvert] at he ⊢
  split at he
  ·exact he
  ·split at he
   ·simp only [Option.bind_eq_some_iff, Option.some.injEq] at he ⊢
    obtain ⟨u, hu, rfl⟩ := he
    refine ⟨u, ?_, rfl⟩
    unfold aCvStr at hu ⊢
    split at hu
    ·exact hu
    ·simp only [Option.bind_eq_some_iff] at hu ⊢
     obtain ⟨cs, hc, hu⟩ := hu
     exact ⟨cs, rd_hAdd hc, hu⟩
    ·simp at hu
   ·simp at he
  ·simp at he
 | slice ty x lo hi mx =>
  cases mx with
  | some m => simp [evOp] at he
  | none =>
   simp only [evOp, oSlice] at he ⊢
   split at he
   ·exact he
   ·split at he
    ·simp only [Option.bind_eq_some_iff, Option.some.injEq] at he ⊢
     obtain ⟨u, hu, rfl⟩ := he
     refine ⟨u, ?_, rfl⟩
     unfold aSub at hu ⊢
     split at hu
     ·split at hu
      ·rename_i hel
       simp only [Option.map_eq_some_iff] at hel
       obtain ⟨o, ho, hel⟩ := hel
       rw [at?_hAdd ho]
       simp only [Option.map_some]
       rw [if_pos (by rw [hel])]; exact hu
      ·simp at hu
     ·exact hu
     ·simp at hu
    ·simp at he
   ·simp at he
 | lookup ty x i ok =>
  simp only [evOp, oLookup] at he ⊢
  split at he
  ·split at he
   ·simp only [Option.bind_eq_some_iff, Option.some.injEq] at he ⊢
    obtain ⟨u, hu, rfl⟩ := he
    refine ⟨u, ?_, rfl⟩
    unfold aMget at hu ⊢
    split at hu
    ·exact hu
    ·simp only [Option.bind_eq_some_iff] at hu ⊢
     obtain ⟨l, hl, hu⟩ := hu
     exact ⟨l, map_hAdd H hl, hu⟩
    ·simp at hu
   ·simp at he
  ·simp at he
 | _ => simp [isRd] at hr
open Go.RowKit Go.Lib
variable {P : Program} {w0 : W0} {w : World} {ι : Inj} {h : AHeap}
section
variable {L : Bool} {ops : Array Oper} {C : ACall} {R : Type} {D : List Deferred} {k : Tm → AHeap → Option R} {r : R}
structure LFact (P : Program) (ops : Array Oper) (fz : Nat → Option Fz) (Λ : List (Nat × Nat)) (t : Tm) (j : Nat) (o : Oper) : Prop where
 at' : ops[j]? = some o
 late : isLate o.op = true
 says : (gW ops o t = some true ∧ ∃ i f v, (j, i) ∈ Λ ∧ fz i = some f ∧ lateV P o.op t = some (f, v) ∧ ∀ d, o.dst = some d → d < t.n → t.getD d junk = lval v i) ∨
  (gW ops o t = some false ∧ (∀ i, (j, i) ∉ Λ) ∧ ∀ d, o.dst = some d → d < t.n → t.getD d junk = undef)
theorem LFact.put {fz fz' : Nat → Option Fz} {Λ Λ' : List (Nat × Nat)} {t : Tm} {j : Nat} {o : Oper} (f : LFact P ops fz Λ t j o) {dst : Option Tmp} {v : Value} (hd : ∀ d, dst = some d → d ∉ looks ops j ∧ dstOf ops j ≠ some d)
  (hz : ∀ i g, (j, i) ∈ Λ → fz i = some g → (j, i) ∈ Λ' ∧ fz' i = some g) (hz2 : ∀ i, (j, i) ∈ Λ' → (j, i) ∈ Λ) : LFact P ops fz' Λ' (put t dst v) j o := by
 have e : ∀ d ∈ looks ops j, (AH.put t dst v).getD d junk = t.getD d junk := fun d hl => put_getD fun e => (hd d e).1 hl
 have e2 : ∀ d, o.dst = some d → (AH.put t dst v).getD d junk = t.getD d junk := fun d ho => put_getD fun e => (hd d e).2 (by simp [dstOf, f.at', ho])
 refine ⟨f.at', f.late, ?_⟩
 rw [gW_congr f.at' e, lateV_congr (evX_congr f.at' e)]
 refine f.says.imp (fun ⟨h1, i, g, v, h2, h3, h4, h5⟩ => ⟨h1, i, g, v, (hz i g h2 h3).1, (hz i g h2 h3).2, h4, fun d h6 h7 => ?_⟩) fun ⟨h1, h2, h3⟩ => ⟨h1, fun i hi => h2 i (hz2 i hi), fun d h4 h5 => ?_⟩
 ·rw [e2 d h6]; exact h5 d h6 (by rwa [put_len] at h7)
 ·rw [e2 d h4]; exact h3 d h4 (by rwa [put_len] at h5)
theorem LFact.same {fz : Nat → Option Fz} {Λ : List (Nat × Nat)} {t t' : Tm} (hs : Same t t') {j : Nat} {o : Oper} (f : LFact P ops fz Λ t j o) : LFact P ops fz Λ t' j o := by
 have e : ∀ d ∈ looks ops j, t'.getD d junk = t.getD d junk := fun d _ => hs.at' d
 refine ⟨f.at', f.late, ?_⟩
 rw [gW_congr f.at' e, lateV_congr (evX_congr f.at' e)]
 refine f.says.imp (fun ⟨h1, i, g, v, h2, h3, h4, h5⟩ => ⟨h1, i, g, v, h2, h3, h4, fun d h6 h7 => ?_⟩) fun ⟨h1, h2, h3⟩ => ⟨h1, h2, fun d h4 h5 => ?_⟩
 ·rw [hs.at']; exact h5 d h6 (by rwa [hs.n] at h7)
 ·rw [hs.at']; exact h3 d h4 (by rwa [hs.n] at h5)
def Facts (P : Program) (C : ACall) (ops : Array Oper) (fz : Nat → Option Fz) (Λ : List (Nat × Nat)) (rs : List Nat) (t : Tm) (h : AHeap) (j : Nat) : Prop :=
 ∃ o, (Fact P C ops t h j o ∧ (isRd o.op = true → j ∈ rs ∨ gW ops o t = some false)) ∨ LFact P ops fz Λ t j o
structure Lam (w0 : W0) (ops : Array Oper) (fz : Nat → Option Fz) (X : List Nat) (listed : Array Bool) (Λ : List (Nat × Nat)) : Prop where
 mem : ∀ x ∈ Λ, x.1 ∈ X ∧ Unl listed x.1 ∧ w0.fz x.2 = none ∧ ∃ f, fz x.2 = some f
 late : ∀ x ∈ Λ, ∃ o, ops[x.1]? = some o ∧ isLate o.op = true
 pw : Λ.Pairwise fun a b => a.1 ≠ b.1 ∧ a.2 ≠ b.2
 fz1 : ∀ i f, w0.fz i = some f → fz i = some f
 fz2 : ∀ i f, fz i = some f → w0.fz i = some f ∨ ∃ j, (j, i) ∈ Λ
structure Inv (P : Program) (w0 : W0) (C : ACall) (L : Bool) (ops : Array Oper) (D : List Deferred) (k : Tm → AHeap → Option R) (r : R)
  (ι : Inj) (fz : Nat → Option Fz) (Λ : List (Nat × Nat)) (X ρ rs : List Nat) (listed : Array Bool) (t : Tm) (h : AHeap) (a : Act) (w : World) : Prop where
 ok : DrawOk L ops (X ++ ρ)
 size : listed.size = ops.size
 closed : ∀ j o, ops[j]? = some o → listed.getD j false = true → ∀ e ∈ o.after, Region.binds .any e = true → listed.getD e.on false = true
 un : ∀ j ∈ ρ, Unl listed j
 effs : ∀ j ∈ X, eff L ops j = true → listed.getD j false = true
 run : evDraw P C L ops (pres ops) ρ rs t h k = some r
 H : HRel P ⟨w0.w, fz⟩ ι h w
 tr : TRm L ops X listed ι t a
 facts : ∀ j ∈ X, Unl listed j → Facts P C ops fz Λ rs t h j
 lam : Lam w0 ops fz X listed Λ
 defers : a.defers = D
variable {X ρ rs : List Nat} {listed : Array Bool} {t : Tm} {a : Act} {fz : Nat → Option Fz} {Λ : List (Nat × Nat)}
theorem Inv.same {X ρ rs : List Nat} {listed : Array Bool} {t t' : Tm} {a : Act} (I : Inv P w0 C L ops D k r ι fz Λ X ρ rs listed t h a w) (hs : Same t t') :
  TRm L ops X listed ι t' a ∧ (∀ j ∈ X, Unl listed j → Facts P C ops fz Λ rs t' h j) :=
 ⟨I.tr.same hs, fun j hj hu => let ⟨o, f⟩ := I.facts j hj hu; ⟨o, f.imp (fun ⟨f, hr⟩ => ⟨f.same hs, fun h => (hr h).imp id fun e => by rw [gW_congr f.at' fun d _ => hs.at' d]; exact e⟩) fun f => f.same hs⟩⟩
theorem op_of_eff {j : Nat} {o : Oper} (ho : ops[j]? = some o) : eff L ops j = effL L o.op := by simp [eff, ho]
theorem set_fz (w0 : W0) (fz : Nat → Option Fz) (i : Nat) (f : Option Fz) : (W0.set ⟨w0.w, fz⟩ i f) = ⟨w0.w, fun j => if j = i then f else fz j⟩ := rfl
theorem Inv.advance {j : Nat} (I : Inv P w0 C L ops D k r ι fz Λ X (j :: ρ) rs listed t h a w) (hj : eff L ops j = false) :
  ∃ rs' t' h' fz' Λ', Inv P w0 C L ops D k r ι fz' Λ' (X ++ [j]) ρ rs' listed t' h' a w := by
 have K := I.ok
 have hlt : j < ops.size := K.lt j (by simp)
 have ho : ops[j]? = some ops[j] := Array.getElem?_eq_getElem hlt
 generalize hoe : ops[j] = o at ho
 have hie : effL L o.op = false := by rw [← op_of_eff ho]; exact hj
 have hnot : ∀ d, o.dst = some d → d ∉ looks ops j := fun d hd hl => by
  have := K.ssa j (by simp) hj d (by simp [dstOf, ho, hd]) j (by simp) hl
  exact absurd (pre_lt K j this) (Nat.lt_irrefl _)
 have hpair := fun i (hi : i ∈ X) => drawRow_pair K.row i hi
 have hp : ∀ i ∈ X, ∀ d, o.dst = some d → d ∉ looks ops i ∧ dstOf ops i ≠ some d := fun i hi d hd => ⟨fun hl => by have := ((hpair i hi).1 d (by simp [dstOf, ho, hd])).1 hl; rw [hj] at this; exact absurd this.1 (by simp), ((hpair i hi).1 d (by simp [dstOf, ho, hd])).2⟩
 have step : ∀ (v : Value) (t : Tm) (h' : AHeap) (fz' : Nat → Option Fz) (Λ' : List (Nat × Nat)) (rs' : List Nat), TRm L ops X listed ι t a → HRel P ⟨w0.w, fz'⟩ ι h' w → Lam w0 ops fz' (X ++ [j]) listed Λ' →
   (∀ i ∈ X, Unl listed i → Facts P C ops fz' Λ' rs' (put t o.dst v) h' i) → Facts P C ops fz' Λ' rs' (put t o.dst v) h' j → evDraw P C L ops (pres ops) ρ rs' (put t o.dst v) h' k = some r →
   ∃ rs' t' h' fz' Λ', Inv P w0 C L ops D k r ι fz' Λ' (X ++ [j]) ρ rs' listed t' h' a w := by
  intro v t h' fz' Λ' rs' htr H' hl' hfacts hf hrun
  refine ⟨rs', put t o.dst v, h', fz', Λ', ⟨by simpa using K, I.size, I.closed, fun i hi => I.un i (List.mem_cons_of_mem _ hi), fun i hi he => ?_, hrun, H', ⟨by rw [put_len]; exact htr.len, fun s => ?_⟩, fun i hi hu => ?_, hl', I.defers⟩⟩
  ·rcases List.mem_append.1 hi with hi | hi
   ·exact I.effs i hi he
   ·simp at hi; subst hi; rw [hj] at he; cases he
  ·by_cases hs : o.dst = some s
   ·exact .inl ⟨j, by simp, I.un j (List.mem_cons_self ..), hj, by simp [dstOf, ho, hs]⟩
   ·rw [put_getD hs]
    exact (htr.slot s).imp (fun ⟨i, hi, x⟩ => ⟨i, List.mem_append_left _ hi, x⟩) id
  ·rcases List.mem_append.1 hi with hi | hi
   ·exact hfacts i hi hu
   ·simp at hi; subst hi; exact hf
 have e : ∀ (t : Tm) (v : Value), ∀ d ∈ looks ops j, (put t o.dst v).getD d junk = t.getD d junk := fun t v d hl => put_getD fun e => hnot d e hl
 have lam0 : Lam w0 ops fz (X ++ [j]) listed Λ := ⟨fun x hx => let ⟨h1, h2⟩ := I.lam.mem x hx; ⟨List.mem_append_left _ h1, h2⟩, I.lam.late, I.lam.pw, I.lam.fz1, I.lam.fz2⟩
 -- the others, where the heap stays
 have oth : ∀ (t : Tm) (v : Value) (rs' : List Nat), (∀ i ∈ rs, i ∈ rs') → (∀ i ∈ X, Unl listed i → Facts P C ops fz Λ rs t h i) → ∀ i ∈ X, Unl listed i → Facts P C ops fz Λ rs' (put t o.dst v) h i := by
  intro t v rs' hrs hfacts i hi hu
  obtain ⟨o', hf⟩ := hfacts i hi hu
  refine ⟨o', hf.imp (fun ⟨hf, hr⟩ => ⟨hf.put (hp i hi), fun h => (hr h).imp (hrs i) fun hg => ?_⟩) fun hf => hf.put (hp i hi) (fun _ _ a b => ⟨a, b⟩) fun _ a => a⟩
  rw [gW_congr hf.at' fun d hl => put_getD fun e => (hp i hi d e).1 hl]; exact hg
 have hrun := I.run
 simp only [evDraw, ho, hie, cond_false] at hrun
 cases hee : isEff o.op with
 | false =>
  rcases evG_inv hrun with ⟨hg, t', hs, he⟩ | ⟨hg, t', hs, he⟩
  ·rw [evOp_bind hee, Option.bind_eq_some_iff] at he
   obtain ⟨v, hv, he⟩ := he
   have he := nrm_inv he
   refine step v t' h fz Λ _ (I.same hs).1 I.H lam0 (oth t' v _ (fun i hi => ?_) (I.same hs).2) ⟨o, .inl ⟨⟨ho, hee, .inl ⟨by rw [gW_congr ho (e t' v), gW_congr ho fun d _ => hs.at' d]; exact hg, v, by rw [evOp_congr (evX_congr ho (e t' v))]; exact hv, fun d hd hl => by rw [hd, put_len] at *; exact put_same hl⟩⟩, fun hr => .inl ?_⟩⟩ he
   ·split
    ·exact List.mem_append_left _ hi
    ·exact hi
   ·rw [if_pos hr]; simp
  ·have hg' : gW ops o (put t' o.dst undef) = some false := by rw [gW_congr ho (e t' _), gW_congr ho fun d _ => hs.at' d]; exact hg
   exact step undef t' h fz Λ _ (I.same hs).1 I.H lam0 (oth t' undef _ (fun i hi => hi) (I.same hs).2) ⟨o, .inl ⟨⟨ho, hee, .inr ⟨hg', fun d hd hl => by rw [hd, put_len] at *; exact put_same hl⟩⟩, fun _ => .inr hg'⟩⟩ he
 | true =>
  have hla : isLate o.op = true := by
   unfold effL at hie
   rw [hee] at hie
   cases L <;> simp at hie; exact hie
  rcases evG_inv hrun with ⟨hg, t', hs, he⟩ | ⟨hg, t', hs, he⟩
  ·obtain ⟨f, v, hv, he⟩ := late_ev hla he
   have he := nrm_inv he
   have H' := I.H.freeze f
   rw [set_fz] at H'
   have hold : ∀ i g, fz i = some g → i ≠ h.size := fun i g hi => by have := (I.H.fz i g hi).1; omega
   have hfn : fz h.size = none := by
    cases e : fz h.size with
    | none => rfl
    | some g => exact absurd rfl (hold _ g e)
   refine step (lval v h.size) t' (hAdd h f) _ ((j, h.size) :: Λ) _ (I.same hs).1 H' ?_ (fun i hi hu => ?_) ⟨o, .inr ⟨ho, hla, .inl ⟨by rw [gW_congr ho (e t' _), gW_congr ho fun d _ => hs.at' d]; exact hg, h.size, f, v, List.mem_cons_self .., if_pos rfl,
    by rw [lateV_congr (evX_congr ho (e t' _))]; exact hv, fun d hd hl => by rw [hd, put_len] at *; exact put_same hl⟩⟩⟩ he
   ·refine ⟨fun x hx => ?_, fun x hx => ?_, List.pairwise_cons.2 ⟨fun x hx => ?_, I.lam.pw⟩, fun i g hi => ?_, fun i g hi => ?_⟩
    ·rcases List.mem_cons.1 hx with rfl | hx
     ·refine ⟨by simp, I.un j (List.mem_cons_self ..), ?_, f, if_pos rfl⟩
      cases e : w0.fz h.size with
      | none => rfl
      | some g => exact absurd rfl (hold _ g (I.lam.fz1 _ g e))
     ·obtain ⟨h1, h2, h3, g, h4⟩ := lam0.mem x hx
      exact ⟨h1, h2, h3, g, by show (if x.2 = h.size then _ else _) = _; rw [if_neg (hold _ g h4)]; exact h4⟩
    ·rcases List.mem_cons.1 hx with rfl | hx
     ·exact ⟨o, ho, hla⟩
     ·exact I.lam.late x hx
    ·obtain ⟨h1, h2, h3, g, h4⟩ := I.lam.mem x hx
     exact ⟨fun e => by have := (hpair x.1 h1).2.2; exact this e.symm, (hold _ g h4).symm⟩
    ·have := I.lam.fz1 i g hi
     show (if i = h.size then _ else _) = _
     rw [if_neg (hold _ g this)]; exact this
    ·by_cases hi2 : i = h.size
     ·exact .inr ⟨j, by rw [hi2]; exact List.mem_cons_self ..⟩
     ·have hi' : (if i = h.size then some f else fz i) = some g := hi
      rw [if_neg hi2] at hi'
      exact (I.lam.fz2 i g hi').imp id fun ⟨q, hq⟩ => ⟨q, List.mem_cons_of_mem _ hq⟩
   ·obtain ⟨o', hf⟩ := (I.same hs).2 i hi hu
    refine ⟨o', hf.imp (fun ⟨hf, hr⟩ => ?_) fun hf => hf.put (hp i hi) (fun x g a b => ⟨List.mem_cons_of_mem _ a, by show (if x = h.size then _ else _) = _; rw [if_neg (hold _ g b)]; exact b⟩) fun x hx => (List.mem_cons.1 hx).elim (fun e => absurd (congrArg Prod.fst e) (hpair i hi).2.2) id⟩
    have hf' := hf.put (v := lval v h.size) (hp i hi)
    have eg : gW ops o' (put t' o.dst (lval v h.size)) = gW ops o' t' := gW_congr hf.at' fun d hl => put_getD fun e => (hp i hi d e).1 hl
    refine ⟨?_, fun h => (hr h).imp (fun hx => by split; exact List.mem_append_left _ hx; exact hx) fun hg => by rw [eg]; exact hg⟩
    cases hrd : isRd o'.op with
    | false => exact hf'.heap hrd _
    | true => exact ⟨hf'.at', hf'.still, hf'.says.imp (fun ⟨h1, u, h2, h3⟩ => ⟨h1, u, evOp_hAdd I.H hrd h2, h3⟩) id⟩
  ·have hg' : gW ops o (put t' o.dst undef) = some false := by rw [gW_congr ho (e t' _), gW_congr ho fun d _ => hs.at' d]; exact hg
   exact step undef t' h fz Λ _ (I.same hs).1 I.H lam0 (oth t' undef _ (fun i hi => hi) (I.same hs).2) ⟨o, .inr ⟨ho, hla, .inr ⟨hg', fun i hi => by have := (hpair j (I.lam.mem _ hi).1).2.2; exact this rfl, fun d hd hl => by rw [hd, put_len] at *; exact put_same hl⟩⟩⟩ he
theorem Inv.advAll : ∀ (ρ : List Nat) {X rs : List Nat} {t : Tm} {h : AHeap} {fz : Nat → Option Fz} {Λ : List (Nat × Nat)}, Inv P w0 C L ops D k r ι fz Λ X ρ rs listed t h a w →
  ∃ X' ρ' rs' t' h' fz' Λ', Inv P w0 C L ops D k r ι fz' Λ' X' ρ' rs' listed t' h' a w ∧ ∀ j js, ρ' = j :: js → eff L ops j = true := by
 intro ρ
 induction ρ with
 | nil => intro X rs t h fz Λ I; exact ⟨X, [], rs, t, h, fz, Λ, I, by simp⟩
 | cons j js ih =>
  intro X rs t h fz Λ I
  cases hj : eff L ops j with
  | true => exact ⟨X, _, rs, t, h, fz, Λ, I, fun j' js' e => by cases e; exact hj⟩
  | false =>
   obtain ⟨rs', t', h', fz', Λ', I'⟩ := I.advance hj
   exact ih I'
theorem Inv.pre (I : Inv P w0 C L ops D k r ι fz Λ X ρ rs listed t h a w) : ∀ (j : Nat) {i : Nat},
  (∀ o, ops[j]? = some o → ∀ e ∈ o.after, Region.binds .any e = true → listed.getD e.on false = true) → ((pres ops).getD j 0).testBit i = true → listed.getD i false = true := by
 intro j
 induction j using Nat.strongRecOn with
 | _ j ih =>
  intro i hl hb
  obtain ⟨o, ho, e, he, hbi, hh⟩ := pres_spec hb
  have hon := hl o ho e he hbi
  rcases hh with hh | hh
  ·exact hh ▸ hon
  ·exact ih e.on (I.ok.top j o ho e he hbi) (fun o' ho' => I.closed e.on o' ho' hon) hh
theorem TRm.gW_sound {j : Nat} {o : Oper} (T : TRm L ops X listed ι t a) (ho : ops[j]? = some o) (hno : ∀ d ∈ looks ops j, ¬ Waits L ops X listed d) {b : Bool} (h : gW ops o t = some b) :
  Region.wanted o (yielded ops a.tmps) = b :=
 AH.gW_sound h fun g want d hg hd => (T.slot d).resolve_left (hno d (mem_looks_guard ho hg hd))
theorem set_unl {listed : Array Bool} {i j : Nat} (h : Unl (listed.setIfInBounds j true) i) : Unl listed i := by
 unfold Unl at *
 by_cases hij : j = i
 ·subst hij
  by_cases hl : j < listed.size
  ·simp [hl] at h
  ·simp [Array.getElem?_eq_none (Nat.le_of_not_lt hl)]
 ·rwa [Array.getD_eq_getD_getElem?, Array.getElem?_setIfInBounds_ne hij, ← Array.getD_eq_getD_getElem?] at h
theorem set_unl_ne {listed : Array Bool} {i j : Nat} (hl : j < listed.size) (h : Unl (listed.setIfInBounds j true) i) : i ≠ j := by
 rintro rfl; simp [Unl, hl] at h
theorem Inv.closed_set (I : Inv P w0 C L ops D k r ι fz Λ X ρ rs listed t h a w) {j : Nat} (hl : ∀ o, ops[j]? = some o → ∀ e ∈ o.after, Region.binds .any e = true → listed.getD e.on false = true) :
  ∀ i o, ops[i]? = some o → (listed.setIfInBounds j true).getD i false = true → ∀ e ∈ o.after, Region.binds .any e = true → (listed.setIfInBounds j true).getD e.on false = true := by
 intro i o ho hi e he hb
 refine getD_set_true ?_
 by_cases hij : j = i
 ·subst hij; exact hl o ho e he hb
 ·exact I.closed i o ho (by rwa [getD_set_ne false hij] at hi) e he hb
theorem pw_ne : ∀ {Λ : List (Nat × Nat)}, (Λ.Pairwise fun a b => a.1 ≠ b.1 ∧ a.2 ≠ b.2) → ∀ x ∈ Λ, ∀ y ∈ Λ, x = y ∨ (x.1 ≠ y.1 ∧ x.2 ≠ y.2)
 | [], _, x, hx, _, _ => by simp at hx
 | z :: Λ, h, x, hx, y, hy => by
  obtain ⟨h1, h2⟩ := List.pairwise_cons.1 h
  rcases List.mem_cons.1 hx with ex | hx' <;> rcases List.mem_cons.1 hy with ey | hy'
  ·exact .inl (ex.trans ey.symm)
  ·subst ex; exact .inr (h1 y hy')
  ·subst ey; exact .inr ⟨(h1 x hx').1.symm, (h1 x hx').2.symm⟩
  ·exact pw_ne h2 x hx' y hy'
theorem Inv.catch (hC : CallOk P w0 C) {Q : Exit → Act → World → Prop} (I : Inv P w0 C L ops D k r ι fz Λ X ρ rs listed t h a w) {j : Nat} (hj : j ∈ X) (hu : Unl listed j)
  (hl : ∀ o, ops[j]? = some o → ∀ e ∈ o.after, Region.binds .any e = true → listed.getD e.on false = true) :
  wpOp P ops Q j (fun a' w' => ∃ ι' fz' Λ', Nxt ι w ι' w' ∧ Inv P w0 C L ops D k r ι' fz' Λ' X ρ rs (listed.setIfInBounds j true) t h a' w') a w := by
 have K := I.ok
 obtain ⟨o, hfo⟩ := I.facts j hj hu
 have ho : ops[j]? = some o := hfo.elim (fun f => f.1.at') fun f => f.at'
 have hjs : j < listed.size := by rw [I.size]; exact (Array.getElem?_eq_some_iff.1 ho).1
 have hno : ∀ d ∈ looks ops j, ¬ Waits L ops X listed d := fun d hd ⟨i, hi, hui, hei, hdi⟩ => by
  have := I.pre j hl (K.ssa i (by simp [hi]) hei d hdi j (by simp [hj]) hd)
  rw [hui] at this; cases this
 have fin : ∀ (v v' : Value) (w' : World) (ι' : Inj) (fz' : Nat → Option Fz) (Λ' : List (Nat × Nat)), (∀ d, o.dst = some d → d < t.n → t.getD d junk = v) → Nxt ι w ι' w' → HRel P ⟨w0.w, fz'⟩ ι' h w' → VR ι' v v' →
   (∀ x ∈ Λ', x ∈ Λ ∧ x.1 ≠ j ∧ fz' x.2 = fz x.2) → (∀ x ∈ Λ, x.1 ≠ j → x ∈ Λ') → Λ'.Pairwise (fun a b => a.1 ≠ b.1 ∧ a.2 ≠ b.2) → (∀ i f, w0.fz i = some f → fz' i = some f) → (∀ i f, fz' i = some f → w0.fz i = some f ∨ ∃ j, (j, i) ∈ Λ') →
   ∃ ι' fz' Λ', Nxt ι w ι' w' ∧ Inv P w0 C L ops D k r ι' fz' Λ' X ρ rs (listed.setIfInBounds j true) t h (a.put o.dst v') w' := by
  intro v v' w' ι' fz' Λ' hd n H' hv hL1 hL2 hL3 hL4 hL5
  refine ⟨ι', fz', Λ', n, ⟨K, by simpa using I.size, I.closed_set hl, fun i hi => ?_, fun i hi he => ?_, I.run, H', ⟨by rw [aput_size]; exact I.tr.len, fun s => ?_⟩, fun i hi hui => ?_, ⟨fun x hx => ?_, fun x hx => I.lam.late x (hL1 x hx).1, hL3, hL4, hL5⟩, by rw [Act.put_defers]; exact I.defers⟩⟩
  ·have hne : j ≠ i := by
    rintro rfl
    obtain ⟨X1, X2, rfl⟩ := List.append_of_mem hi
    exact (drawRow_pair (X := X ++ X1) (r := X2) (by simpa using K.row) j (by simp [hj])).2.2 rfl
   show _ = _
   rw [getD_set_ne false hne]; exact I.un i hi
  ·exact getD_set_true (I.effs i hi he)
  ·by_cases hs : o.dst = some s
   ·by_cases hlt : s < t.n
    ·right
     rw [hd s hs hlt, hs, aput_same (by rw [← I.tr.len]; exact hlt)]; exact hv
    ·right
     rw [getD_out hlt]; exact .junk _
   ·rw [aput_ne hs]
    refine (I.tr.slot s).imp (fun ⟨i, hi, hui, hei, hdi⟩ => ⟨i, hi, ?_, hei, hdi⟩) fun hv => hv.mono n.le
    have hne : j ≠ i := by
     rintro rfl
     simp [dstOf, ho] at hdi
     exact hs hdi
    show _ = _
    rw [getD_set_ne false hne]; exact hui
  ·have hij := set_unl_ne hjs hui
   obtain ⟨o', hf⟩ := I.facts i hi (set_unl hui)
   refine ⟨o', hf.imp id fun hf => ⟨hf.at', hf.late, hf.says.imp (fun ⟨h1, x, g, u, h2, h3, h4⟩ => ?_) fun ⟨h1, h2, h3⟩ => ⟨h1, fun x hx => h2 x (hL1 _ hx).1, h3⟩⟩⟩
   have hm := hL2 _ h2 hij
   exact ⟨h1, x, g, u, hm, by rw [(hL1 _ hm).2.2]; exact h3, h4⟩
  ·obtain ⟨h1, h2, h3⟩ := hL1 x hx
   obtain ⟨g1, g2, g3, f, g4⟩ := I.lam.mem x h1
   exact ⟨g1, by show _ = _; rw [getD_set_ne false (Ne.symm h2)]; exact g2, g3, f, by rw [h3]; exact g4⟩
 have stay : (∀ i, (j, i) ∉ Λ) → ∀ (v v' : Value) (w' : World) (ι' : Inj), (∀ d, o.dst = some d → d < t.n → t.getD d junk = v) → Nxt ι w ι' w' → HRel P ⟨w0.w, fz⟩ ι' h w' → VR ι' v v' →
   ∃ ι' fz' Λ', Nxt ι w ι' w' ∧ Inv P w0 C L ops D k r ι' fz' Λ' X ρ rs (listed.setIfInBounds j true) t h (a.put o.dst v') w' :=
  fun hΛ v v' w' ι' hd n H' hv => fin v v' w' ι' fz Λ hd n H' hv (fun x hx => ⟨hx, fun e => hΛ x.2 (by rw [← e]; exact hx), rfl⟩) (fun x hx _ => hx) I.lam.pw I.lam.fz1 I.lam.fz2
 unfold wpOp
 simp only [ho]
 rcases hfo with ⟨f, hrd⟩ | f
 ·have hΛ : ∀ i, (j, i) ∉ Λ := fun i hi => by
   obtain ⟨o', h1, h2⟩ := I.lam.late _ hi
   rw [ho] at h1; cases h1
   have h3 := f.still
   cases hop : o.op <;> rw [hop] at h2 h3 <;> simp [isLate] at h2 <;> simp [isEff] at h3
  rcases f.says with ⟨hg, v, hv, hd⟩ | ⟨hg, hd⟩
  ·rw [I.tr.gW_sound ho hno hg]
   simp only [if_true]
   left
   have hv2 : evOp P C o (veil L ops X listed t) h (fun v h' => some (v, h')) = some (v, h) := by
    rw [evOp_congr (evX_congr ho fun d hl => veil_getD (hno d hl)), evOp_bind f.still, hv]; rfl
   refine op_sound (w0 := ⟨w0.w, fz⟩) (hC.at fz) hv2 I.tr.veil I.H fun v2 h2 v' w' ι' n H' hv' he => ?_
   simp at he
   obtain ⟨rfl, rfl⟩ := he
   exact stay hΛ _ _ _ _ hd n H' hv'
  ·rw [I.tr.gW_sound ho hno hg]
   simp only [Bool.false_eq_true, if_false]
   exact stay hΛ _ _ _ _ hd (Nxt.refl _ _) I.H (VR.undef _)
 ·rcases f.says with ⟨hg, i, g, v, hm, hfz, hv, hd⟩ | ⟨hg, hΛ, hd⟩
  ·rw [I.tr.gW_sound ho hno hg]
   simp only [if_true]
   left
   have hv2 : lateV P o.op (veil L ops X listed t) = some (g, v) := by
    rw [lateV_congr (evX_congr ho fun d hl => veil_getD (hno d hl))]; exact hv
   refine late_step (w0 := ⟨w0.w, fz⟩) hv2 I.tr.veil I.H hfz fun v' w' ι' n H' hv' => ?_
   rw [set_fz] at H'
   have hi0 := (I.lam.mem _ hm).2.2.1
   have hne : ∀ x ∈ Λ, x.1 ≠ j → x.2 ≠ i := fun x hx hxj => by
    rcases pw_ne I.lam.pw x hx _ hm with e | ⟨_, e⟩
    ·exact absurd (congrArg Prod.fst e) hxj
    ·exact e
   refine fin _ _ _ _ _ (Λ.filter fun x => x.1 != j) hd n H' hv' (fun x hx => ?_) (fun x hx hxj => List.mem_filter.2 ⟨hx, by simpa using hxj⟩) (I.lam.pw.filter _) (fun x f' hx => ?_) fun x f' hx => ?_
   ·obtain ⟨h1, h2⟩ := List.mem_filter.1 hx
    have h2 : x.1 ≠ j := by simpa using h2
    exact ⟨h1, h2, if_neg (hne x h1 h2)⟩
   ·show (if x = i then none else fz x) = _
    rw [if_neg (fun e => by rw [e, hi0] at hx; cases hx)]; exact I.lam.fz1 x f' hx
   ·have hx' : (if x = i then none else fz x) = some f' := hx
    split at hx'
    ·cases hx'
    ·rename_i hxi
     refine (I.lam.fz2 x f' hx').imp id fun ⟨q, hq⟩ => ⟨q, List.mem_filter.2 ⟨hq, ?_⟩⟩
     by_cases hqj : q = j
     ·subst hqj
      rcases pw_ne I.lam.pw _ hq _ hm with e | ⟨e, _⟩
      ·exact absurd (congrArg Prod.snd e) hxi
      ·exact absurd rfl e
     ·simpa using hqj
  ·rw [I.tr.gW_sound ho hno hg]
   simp only [Bool.false_eq_true, if_false]
   exact stay hΛ _ _ _ _ hd (Nxt.refl _ _) I.H (VR.undef _)
theorem again_inv {t : Tm} {h : AHeap} {x : Option R} : ∀ {js : List Nat}, again P C ops t h x js = some r → x = some r ∧ ∀ j ∈ js, reOk P C ops t h j = some true
 | [], he => ⟨he, by simp⟩
 | j :: js, he => by
  simp only [again, Option.bind_eq_some_iff] at he
  obtain ⟨b, hb, he⟩ := he
  cases b with
  | false => simp at he
  | true =>
   obtain ⟨h1, h2⟩ := again_inv he
   exact ⟨h1, fun i hi => (List.mem_cons.1 hi).elim (fun e => e ▸ hb) (h2 i)⟩
theorem vbeq1_eq {x y : Value} (h : vbeq1 x y = true) : x = y := by
 unfold vbeq1 at h
 split at h
 case h_3 a b =>
  obtain ⟨a⟩ := a
  obtain ⟨b⟩ := b
  simp [BEq.beq, ByteArray.beq] at h
  rw [Array.eq_of_isEqv _ _ h]
 all_goals simp_all
theorem vbeqL_eq : ∀ {l m : List Value}, vbeqL l m = true → l = m
 | [], [], _ => rfl
 | x :: l, y :: m, h => by
  simp only [vbeqL, Bool.and_eq_true] at h
  rw [vbeq1_eq h.1, vbeqL_eq h.2]
 | [], _ :: _, h => by simp [vbeqL] at h
 | _ :: _, [], h => by simp [vbeqL] at h
theorem vbeq_eq {x y : Value} (h : vbeq x y = true) : x = y := by
 unfold vbeq at h
 split at h
 ·rw [Array.ext' (vbeqL_eq h)]
 ·exact vbeq1_eq h
theorem reOk_fact {t : Tm} {h : AHeap} {j : Nat} {o : Oper} (ho : ops[j]? = some o) (hs : isEff o.op = false) (hg : gW ops o t = some true) (he : reOk P C ops t h j = some true) :
  ∃ v, evOp P C o t h (fun v _ => some v) = some v ∧ ∀ d, o.dst = some d → d < t.n → t.getD d junk = v := by
 simp only [reOk, ho] at he
 rcases evG_inv he with ⟨_, t', hsm, he⟩ | ⟨hg', _⟩
 ·rw [evOp_bind hs, Option.bind_eq_some_iff] at he
  obtain ⟨v, hv, he⟩ := he
  have he := nrm_inv he
  refine ⟨v, by rw [evOp_congr (evX_congr ho fun d _ => (hsm.at' d).symm)]; exact hv, fun d hd _ => ?_⟩
  simp only [Option.some.injEq] at he
  rw [hd] at he
  rw [← hsm.at']
  exact (vbeq_eq he).symm
 ·rw [hg] at hg'; cases hg'
theorem Inv.effect (hC : CallOk P w0 C) {Q : Exit → Act → World → Prop} {j : Nat} (I : Inv P w0 C L ops D k r ι fz Λ X (j :: ρ) rs listed t h a w) (hj : eff L ops j = true)
  (hl : ∀ o, ops[j]? = some o → ∀ e ∈ o.after, Region.binds .any e = true → listed.getD e.on false = true) :
  wpOp P ops Q j (fun a' w' => ∃ ι' rs' t' h', Nxt ι w ι' w' ∧ Inv P w0 C L ops D k r ι' fz Λ (X ++ [j]) ρ rs' (listed.setIfInBounds j true) t' h' a' w') a w := by
 have K := I.ok
 have hlt : j < ops.size := K.lt j (by simp)
 have ho : ops[j]? = some ops[j] := Array.getElem?_eq_getElem hlt
 generalize hoe : ops[j] = o at ho
 have hie : effL L o.op = true := by rw [← op_of_eff ho]; exact hj
 have hjs : j < listed.size := by rw [I.size]; exact hlt
 have hpair := fun i (hi : i ∈ X) => drawRow_pair K.row i hi
 have hno : ∀ d ∈ looks ops j, ¬ Waits L ops X listed d := fun d hd ⟨i, hi, hui, hei, hdi⟩ => by
  have := I.pre j hl (K.ssa i (by simp [hi]) hei d hdi j (by simp) hd)
  rw [hui] at this; cases this
 have fin : ∀ (t : Tm) (v v' : Value) (h' : AHeap) (w' : World) (ι' : Inj) (rs' : List Nat), TRm L ops X listed ι t a → evDraw P C L ops (pres ops) ρ rs' (put t o.dst v) h' k = some r → Nxt ι w ι' w' → HRel P ⟨w0.w, fz⟩ ι' h' w' → VR ι' v v' →
   (∀ i ∈ X, Unl listed i → Facts P C ops fz Λ rs' (put t o.dst v) h' i) →
   ∃ ι' rs' t' h', Nxt ι w ι' w' ∧ Inv P w0 C L ops D k r ι' fz Λ (X ++ [j]) ρ rs' (listed.setIfInBounds j true) t' h' (a.put o.dst v') w' := by
  intro t v v' h' w' ι' rs' htr hrun n H' hv hf
  refine ⟨ι', rs', put t o.dst v, h', n, ⟨by simpa using K, by simpa using I.size, I.closed_set hl, fun i hi => ?_, fun i hi he => ?_, hrun, H', ⟨by rw [aput_size, put_len]; exact htr.len, fun s => ?_⟩, fun i hi hui => ?_, ⟨fun x hx => ?_, I.lam.late, I.lam.pw, I.lam.fz1, I.lam.fz2⟩, by rw [Act.put_defers]; exact I.defers⟩⟩
  ·have hne : j ≠ i := by
    rintro rfl
    obtain ⟨X1, X2, rfl⟩ := List.append_of_mem hi
    exact (drawRow_pair (X := X ++ j :: X1) (r := X2) (by simpa using K.row) j (by simp)).2.2 rfl
   show _ = _
   rw [getD_set_ne false hne]; exact I.un i (List.mem_cons_of_mem _ hi)
  ·rcases List.mem_append.1 hi with hi | hi
   ·exact getD_set_true (I.effs i hi he)
   ·simp at hi; subst hi; simp [hjs]
  ·by_cases hs : o.dst = some s
   ·right
    by_cases hlt : s < t.n
    ·rw [hs, put_same hlt, aput_same (by rw [← htr.len]; exact hlt)]; exact hv
    ·rw [getD_out (by rw [put_len]; exact hlt)]; exact .junk _
   ·rw [aput_ne hs, put_getD hs]
    refine (htr.slot s).imp (fun ⟨i, hi, hui, hei, hdi⟩ => ⟨i, List.mem_append_left _ hi, ?_, hei, hdi⟩) fun hv => hv.mono n.le
    have hne : j ≠ i := (hpair i hi).2.2.symm
    show _ = _
    rw [getD_set_ne false hne]; exact hui
  ·rcases List.mem_append.1 hi with hi | hi
   ·exact hf i hi (set_unl hui)
   ·simp at hi; exact absurd hi (set_unl_ne hjs hui)
  ·obtain ⟨g1, g2, g3⟩ := I.lam.mem x hx
   have hne : j ≠ x.1 := (hpair x.1 g1).2.2.symm
   exact ⟨List.mem_append_left _ g1, by show _ = _; rw [getD_set_ne false hne]; exact g2, g3⟩
 have hp : ∀ i ∈ X, Unl listed i → ∀ d, o.dst = some d → d ∉ looks ops i ∧ dstOf ops i ≠ some d := fun i hi hui d hd => ⟨fun hl => by
  have hle := I.pre j ‹_› (((hpair i hi).1 d (by simp [dstOf, ho, hd])).1 hl).2
  exact absurd (hui.symm.trans hle) (by simp), ((hpair i hi).1 d (by simp [dstOf, ho, hd])).2⟩
 unfold wpOp
 simp only [ho]
 have hrun := I.run
 simp only [evDraw, ho, hie, cond_true] at hrun
 rcases evG_inv hrun with ⟨hg, t', hs, he⟩ | ⟨hg, t', hs, he⟩
 ·rw [I.tr.gW_sound ho hno hg]
  simp only [if_true]
  left
  rw [evOp_congr (evX_congr ho fun d hl => (veil_getD (hno d hl)).symm)] at he
  obtain ⟨htr, hfacts⟩ := I.same hs
  refine op_sound (w0 := ⟨w0.w, fz⟩) (hC.at fz) he htr.veil I.H fun v h' v' w' ι' n H' hv' he => ?_
  obtain ⟨he, hre⟩ := again_inv (nrm_inv he)
  refine fin t' v v' h' w' ι' _ htr he n H' hv' fun i hi hui => ?_
  obtain ⟨o', ⟨hf, hr⟩ | hf⟩ := hfacts i hi hui
  case inr => exact ⟨o', .inr (hf.put (hp i hi hui) (fun _ _ a b => ⟨a, b⟩) fun _ a => a)⟩
  have hf' := hf.put (v := v) (hp i hi hui)
  have eg : gW ops o' (put t' o.dst v) = gW ops o' t' := gW_congr hf.at' fun d hl => put_getD fun e => (hp i hi hui d e).1 hl
  cases hrd : isRd o'.op with
  | false => exact ⟨o', .inl ⟨hf'.heap hrd h', fun h => absurd (hrd ▸ h) (by simp)⟩⟩
  | true =>
   rcases hf'.says with ⟨hg2, _⟩ | ⟨hg2, hd⟩
   ·have hin : i ∈ rs.filter fun i => !((pres ops).getD j 0).testBit i := by
     rw [List.mem_filter]
     refine ⟨(hr hrd).resolve_right (fun e => by rw [← eg, hg2] at e; cases e), ?_⟩
     cases hb : ((pres ops).getD j 0).testBit i with
     | false => rfl
     | true => have := I.pre j hl hb; rw [hui] at this; cases this
    exact ⟨o', .inl ⟨⟨hf.at', hf.still, .inl ⟨hg2, reOk_fact hf.at' hf.still hg2 (hre i hin)⟩⟩, fun _ => .inl hin⟩⟩
   ·exact ⟨o', .inl ⟨⟨hf.at', hf.still, .inr ⟨hg2, hd⟩⟩, fun _ => .inr hg2⟩⟩
 ·rw [I.tr.gW_sound ho hno hg]
  simp only [Bool.false_eq_true, if_false]
  obtain ⟨htr, hfacts⟩ := I.same hs
  refine fin t' undef undef h w ι rs htr he (Nxt.refl _ _) I.H (VR.undef _) fun i hi hui => ?_
  obtain ⟨o', ⟨hf, hr⟩ | hf⟩ := hfacts i hi hui
  case inr => exact ⟨o', .inr (hf.put (hp i hi hui) (fun _ _ a b => ⟨a, b⟩) fun _ a => a)⟩
  have eg : gW ops o' (put t' o.dst undef) = gW ops o' t' := gW_congr hf.at' fun d hl => put_getD fun e => (hp i hi hui d e).1 hl
  exact ⟨o', .inl ⟨hf.put (hp i hi hui), fun h => (hr h).imp id fun e => by rw [eg]; exact e⟩⟩
theorem filter_lt {p p' : Nat → Bool} : ∀ {l : List Nat}, (∀ x ∈ l, p' x = true → p x = true) → ∀ j ∈ l, p j = true → p' j = false → (l.filter p').length < (l.filter p).length
 | [], _, j, hj, _, _ => by simp at hj
 | x :: l, h, j, hj, h1, h2 => by
  have hle : (l.filter p').length ≤ (l.filter p).length := by
   have : ∀ m : List Nat, (∀ x ∈ m, p' x = true → p x = true) → (m.filter p').length ≤ (m.filter p).length := by
    intro m
    induction m with
    | nil => intro _; simp
    | cons y m ih =>
     intro hm
     have ih := ih fun x hx => hm x (List.mem_cons_of_mem _ hx)
     have hy := hm y (List.mem_cons_self ..)
     simp only [List.filter_cons]
     split
     ·rename_i e; rw [if_pos (hy e)]; simpa using ih
     ·split <;> simp <;> omega
   exact this l fun x hx => h x (List.mem_cons_of_mem _ hx)
  rcases List.mem_cons.1 hj with rfl | hj
  ·simp only [List.filter_cons, h1, h2]
   simp; omega
  ·have ih := filter_lt (fun x hx => h x (List.mem_cons_of_mem _ hx)) j hj h1 h2
   have hy := h x (List.mem_cons_self ..)
   simp only [List.filter_cons]
   split
   ·rename_i e; rw [if_pos (hy e)]; simpa using ih
   ·split <;> simp <;> omega
def todo (n : Nat) (listed : Array Bool) : Nat := ((List.range n).filter fun i => !listed.getD i false).length
theorem todo_set {listed : Array Bool} {n j : Nat} (hn : n = listed.size) (hj : j < n) (hu : Unl listed j) : todo n (listed.setIfInBounds j true) < todo n listed := by
 refine filter_lt (fun x _ hx => ?_) j (by simpa using hj) (by rw [show listed.getD j false = false from hu]; rfl) (by subst hn; simp [hj])
 simp only [Bool.not_eq_true'] at hx ⊢
 exact set_unl hx
theorem unl_ready {j : Nat} (hl : j < listed.size) : listed.getD j true = listed.getD j false := by simp [Array.getD_eq_getD_getElem?, hl]
theorem Inv.ready (I : Inv P w0 C L ops D k r ι fz Λ X ρ rs listed t h a w) {j : Nat} (hr : j ∈ Region.ready .any ops listed) :
  j < ops.size ∧ Unl listed j ∧ ∀ o, ops[j]? = some o → ∀ e ∈ o.after, Region.binds .any e = true → listed.getD e.on false = true := by
 obtain ⟨h0, o, ho, hall⟩ := mem_ready.1 hr
 have hlt := (Array.getElem?_eq_some_iff.1 ho).1
 refine ⟨hlt, by rw [unl_ready (by rw [I.size]; exact hlt)] at h0; exact h0, fun o' ho' => ?_⟩
 rw [ho] at ho'; cases ho'; exact hall
theorem Inv.all (I : Inv P w0 C L ops D k r ι fz Λ X ρ rs listed t h a w) (hr : Region.ready .any ops listed = []) : ∀ j, j < ops.size → listed.getD j false = true := by
 intro j
 induction j using Nat.strongRecOn with
 | _ j ih =>
  intro hj
  cases hl : listed.getD j false with
  | true => rfl
  | false =>
   have : j ∈ Region.ready .any ops listed := mem_ready.2 ⟨by rw [unl_ready (by rw [I.size]; exact hj)]; exact hl, ops[j], Array.getElem?_eq_getElem hj, fun e he hbi => by
    have := I.ok.top j _ (Array.getElem?_eq_getElem hj) e he hbi
    exact ih _ this (by omega)⟩
   rw [hr] at this; cases this
theorem Inv.done (I : Inv P w0 C L ops D k r ι fz Λ X ρ rs listed t h a w) (hall : ∀ j, j < ops.size → listed.getD j false = true) {Q : Exit → Act → World → Prop}
  (hk : ∀ t' h' a' w' ι', Nxt ι w ι' w' → HRel P w0 ι' h' w' → TR ι' t' a'.tmps → a'.defers = D → k t' h' = some r → Q .normal a' w') : Q .normal a w := by
 have hρ : ρ = [] := by
  cases hρ : ρ with
  | nil => rfl
  | cons e ρ' =>
   have := I.un e (by rw [hρ]; exact List.mem_cons_self ..)
   have h2 := hall e (I.ok.lt e (by rw [hρ]; simp))
   rw [this] at h2; cases h2
 subst hρ
 have hfz : fz = w0.fz := by
  funext i
  cases e : fz i with
  | none =>
   cases e' : w0.fz i with
   | none => rfl
   | some f => rw [I.lam.fz1 i f e'] at e; cases e
  | some f =>
   rcases I.lam.fz2 i f e with h1 | ⟨j, hj⟩
   ·exact h1.symm
   ·obtain ⟨h1, h2, _⟩ := I.lam.mem _ hj
    have h3 := hall j (I.ok.lt j (by simp [h1]))
    rw [h2] at h3; cases h3
 have HH := I.H
 rw [hfz] at HH
 refine hk t h a w ι (Nxt.refl _ _) HH ?_ I.defers I.run
 exact ⟨I.tr.len, fun i => (I.tr.slot i).resolve_left fun ⟨j, hj, hu, _⟩ => by
  have h2 := hall j (I.ok.lt j (by simp [hj]))
  rw [hu] at h2; cases h2⟩
theorem Inv.any (hC : CallOk P w0 C) {Q : Exit → Act → World → Prop} : ∀ (fuel : Nat) {X ρ rs : List Nat} {listed : Array Bool} {t : Tm} {h : AHeap} {a : Act} {w : World} {ι : Inj} {fz : Nat → Option Fz} {Λ : List (Nat × Nat)},
  todo ops.size listed ≤ fuel → Inv P w0 C L ops D k r ι fz Λ X ρ rs listed t h a w →
  (∀ t' h' a' w' ι', Nxt ι w ι' w' → HRel P w0 ι' h' w' → TR ι' t' a'.tmps → a'.defers = D → k t' h' = some r → Q .normal a' w') → wpAny P .any ops Q fuel listed a w := by
 intro fuel
 induction fuel with
 | zero =>
  intro X ρ rs listed t h a w ι fz Λ hf I hk
  have hr : Region.ready .any ops listed = [] := by
   cases hr : Region.ready .any ops listed with
   | nil => rfl
   | cons j l =>
    obtain ⟨h1, h2, _⟩ := I.ready (j := j) (by rw [hr]; exact List.mem_cons_self ..)
    have := todo_set (n := ops.size) I.size.symm h1 h2
    omega
  exact ⟨hr, I.done (I.all hr) hk⟩
 | succ fuel ih =>
  intro X ρ rs listed t h a w ι fz Λ hf I hk
  refine ⟨fun hr => I.done (I.all hr) hk, fun j hr => ?_⟩
  obtain ⟨X, ρ, rs, t, h, fz, Λ, I, hhead⟩ := I.advAll
  obtain ⟨h1, h2, h3⟩ := I.ready hr
  have hlt := todo_set (n := ops.size) I.size.symm h1 h2
  have hmem := I.ok.mem j h1
  rcases List.mem_append.1 hmem with hj | hj
  ·refine wpOp_mono (fun a' w' ⟨ι', fz', Λ', n, I'⟩ => ?_) (I.catch hC hj h2 h3)
   exact ih (by omega) I' fun t' h' a'' w'' ι'' n' => hk t' h' a'' w'' ι'' (n.trans n')
  ·cases hρ : ρ with
   | nil => rw [hρ] at hj; cases hj
   | cons e ρ' =>
    subst hρ
    have he := hhead e ρ' rfl
    have hje : j = e := by
     rcases List.mem_cons.1 hj with hj | hj
     ·exact hj
     ·obtain ⟨ρ1, ρ2, rfl⟩ := List.append_of_mem hj
      have hrow := I.ok.row
      have := (drawRow_pair (X := X ++ e :: ρ1) (r := ρ2) (by simpa using hrow) e (by simp)).2.1 he
      have hle := I.pre j h3 this
      have hun := I.un e (List.mem_cons_self ..)
      rw [hun] at hle; cases hle
    subst hje
    refine wpOp_mono (fun a' w' ⟨ι', rs', t', h', n, I'⟩ => ?_) (I.effect hC he h3)
    exact ih (by omega) I' fun t' h' a'' w'' ι'' n' => hk t' h' a'' w'' ι'' (n.trans n')
theorem evDraw_one (hC : CallOk P w0 C) (hm : P.follows .mixedOrders = true) {id : Nat} {Q : Exit → Act → World → Prop} {t : Tm} {h : AHeap} {w : World} {ι : Inj} {a : Act}
  (hok : drawOk L ops (pres ops) (sched L ops (pres ops)) = true) (he : evDraw P C L ops (pres ops) (sched L ops (pres ops)) [] t h k = some r)
  (ht : TR ι t a.tmps) (H : HRel P w0 ι h w) (hd : a.defers = D)
  (hk : ∀ t' h' a' w' ι', Nxt ι w ι' w' → HRel P w0 ι' h' w' → TR ι' t' a'.tmps → a'.defers = D → k t' h' = some r → Q .normal a' w') : (Code.region id ops true).wp P Q a w := by
 refine wp_region_any hm (Inv.any (L := L) hC ops.size (X := []) (ρ := sched L ops (pres ops)) (rs := []) (t := t) (h := h) (ι := ι) (D := D) (k := k) (r := r) (fz := w0.fz) (Λ := []) ?_ ?_ ?_)
 ·unfold todo
  exact Nat.le_trans (List.length_filter_le ..) (by simp)
 ·refine ⟨drawOk_spec hok, by simp, fun j o _ hl => ?_, fun j _ => ?_, by simp, he, H.drew, ⟨ht.len, fun s => .inr (ht.getD s undef)⟩, by simp, ⟨by simp, by simp, .nil, fun _ _ h => h, fun _ _ h => .inl h⟩, hd⟩
  ·simp [Array.getD_eq_getD_getElem?, Array.getElem?_replicate] at hl
   split at hl <;> simp at hl
  ·simp [Unl, Array.getD_eq_getD_getElem?, Array.getElem?_replicate]
   split <;> rfl
 ·exact fun t' h' a' w' ι' n => hk t' h' a' w' ι' ((Nxt.drew _ _).trans n)
theorem evDraw_sound (hC : CallOk P w0 C) (hm : P.follows .mixedOrders = true) {id : Nat} {Q : Exit → Act → World → Prop} {t : Tm} {h : AHeap} {w : World} {ι : Inj} {a : Act}
  (he : (bif drawOk false ops (pres ops) (sched false ops (pres ops)) then evDraw P C false ops (pres ops) (sched false ops (pres ops)) [] t h k else
   bif drawOk true ops (pres ops) (sched true ops (pres ops)) then evDraw P C true ops (pres ops) (sched true ops (pres ops)) [] t h k else none) = some r)
  (ht : TR ι t a.tmps) (H : HRel P w0 ι h w) (hd : a.defers = D)
  (hk : ∀ t' h' a' w' ι', Nxt ι w ι' w' → HRel P w0 ι' h' w' → TR ι' t' a'.tmps → a'.defers = D → k t' h' = some r → Q .normal a' w') : (Code.region id ops true).wp P Q a w := by
 cases hok : drawOk false ops (pres ops) (sched false ops (pres ops)) with
 | true => rw [hok] at he; exact evDraw_one hC hm hok he ht H hd hk
 | false =>
  rw [hok] at he
  cases hok2 : drawOk true ops (pres ops) (sched true ops (pres ops)) with
  | true => rw [hok2] at he; exact evDraw_one hC hm hok2 he ht H hd hk
  | false => rw [hok2] at he; cases he
end
end Go.AH
