import Derived.Test.YtadmoackacickaaXOps4
import Derived.Laws.BytesArg
/- Each operation of the small evaluator is an operation of the machine. -/
set_option linter.unusedSimpArgs false
set_option linter.unusedVariables false
namespace Go.AH
open Go.RowKit Go.Lib
section
variable {P : Program} {w0 w : World} {ι : Inj} {h : AHeap}

/-- What is known of the callees. -/
structure CallOk (P : Program) (w0 : World) (C : ACall) : Prop where
  body : ∀ f args h r, C f args h = some r → ∃ fn, P.funcs[f]? = some fn ∧ fn.body.isNone = false ∧ (fn.name == "runtime.NumGoroutine") = false
  calls : ∀ f args h v h', C f args h = some (v, h') → ∀ (ι : Inj) (w : World) (args' : Array Value), All2 (VR ι) args args'.toList → HRel P w0 ι h w →
    Calls P f args' w fun e w' => ∃ v' ι', e = .returned v' ∧ Nxt ι w ι' w' ∧ HRel P w0 ι' h' w' ∧ VR ι' v v'

theorem bytesOf_sound {cs cs' : List Value} {l : List UInt8} (ha : All2 (S1 ι) cs cs') : bytesOf cs = some l → ∃ xs : List Int, cs' = xs.map (Value.int .u8) ∧ l = xs.map fun n => UInt8.ofNat n.toNat := by
  induction ha generalizing l with
  | nil => intro he; simp [bytesOf] at he; subst he; exact ⟨[], rfl, rfl⟩
  | cons r _ ih =>
    intro he
    unfold bytesOf at he
    split at he
    · rename_i heq; cases heq
    · rename_i n l' heq
      simp at heq; obtain ⟨rfl, rfl⟩ := heq
      simp only [Option.map_eq_some_iff] at he
      obtain ⟨l2, he2, rfl⟩ := he
      obtain ⟨xs, rfl, rfl⟩ := ih he2
      have := (VR.s1 r).int_inv
      subst this
      exact ⟨n :: xs, rfl, rfl⟩
    · simp at he
theorem cvStr_sound (H : HRel P w0 ι h w) {src dst e : TypeId} (hs : P.underlying src = some (.slice e)) (he8 : P.underlying e = some (.int .u8)) (hd : P.underlying dst = some .string) {x x' v : Value} (he : aCvStr h x = some v) (hx : VR ι x x') : SemOk P w0 ι h w (convert src dst x') v := by
  unfold aCvStr at he
  split at he
  · simp at he; subst he
    obtain ⟨_, rfl⟩ := hx.slcNil_inv
    exact SemOk.same H (run_convert_bytes_nil w src e hs he8 0 0 dst hd) (.s0 (.string _))
  · rename_i i off n c
    simp only [Option.bind_eq_some_iff, Option.map_eq_some_iff] at he
    obtain ⟨cs, hr, l, hl, rfl⟩ := he
    obtain ⟨p, cs', hp, ha, hlen, hc⟩ := rd_sound H hr
    obtain ⟨xs, rfl, rfl⟩ := bytesOf_sound ha hl
    have hxl : xs.length = n := by have := ha.length; simp at this; omega
    rcases hx.slc_inv with ⟨q, c', hq, _, _, rfl⟩ | ⟨rfl, _, a', rfl⟩
    · rw [hp] at hq; cases hq
      refine SemOk.same H (v' := .string (strOfNums xs)) ?_ (.s0 (.string _))
      refine run_convert_bytes_arg w src e hs he8 _ _ _ _ xs hxl (fun i hi => ?_) dst hd
      have := hc i (.int .u8 (xs.getD i 0)) (by simp [List.getElem?_eq_getElem (show i < xs.length by omega), List.getD_eq_getElem?_getD])
      rwa [add_mk] at this
    · have : xs = [] := List.eq_nil_of_length_eq_zero hxl
      subst this
      obtain ⟨ab, ao, asp⟩ := a'
      refine SemOk.same H (v' := .string ⟨#[]⟩) ?_ (.s0 (.string _))
      rw [run_convert_bytes_string w src dst e _ 0 0 hs he8 hd]
      simp [Conv.bytesToString, loadCells, loadCellsFrom]
      rfl
  · simp at he
theorem part_sound (H : HRel P w0 ι h w) {s : TypeId} {f n : Nat} {fd : Field} {fs : Array Field} {g : Bool} (hf : fieldsOf P s = some fs) (hfd : fs[f]? = some fd) (hg : tAgg P fd.type = some g) (hn : tSize P fd.type = some n) {x x' v : Value}
    (he : aPart x fd.offset n g = some v) (hx : VR ι x x') : SemOk P w0 ι h w (Instr.field s x' f) v := by
  have hu : P.underlying s = some (.struct fs) := by
    unfold fieldsOf at hf
    split at hf
    · rename_i hu; simp at hf; subst hf; exact hu
    · simp at hf
  unfold aPart at he
  split at he
  · rename_i cs
    obtain ⟨cs', rfl, ha⟩ := hx.agg_inv
    cases g
    · simp at he
      obtain ⟨b, g1, g2⟩ := ha.get fd.offset v (by simpa using he)
      refine SemOk.same H (v' := b) ?_ (.s1 g2)
      simp at g1
      simp [Instr.field, run_underlying hu, hfd, asAgg, part, run_isAgg hg, g1]
    · simp at he
      obtain ⟨h1, rfl⟩ := he
      refine SemOk.same H (v' := .agg (cs'.extract fd.offset (fd.offset + n))) ?_ (.s2 (.agg ?_))
      · simp [Instr.field, run_underlying hu, hfd, asAgg, part, run_isAgg hg, run_sizeOf' hn]
      · simpa using (ha.drop fd.offset).take n
  · simp at he

theorem val_step {h' : AHeap} {s : Sem Value} {v : Value} (hs : SemOk P w0 ι h' w s v) {o : Oper} {a : Act} {next : Act → World → Prop} {Q : Exit → Act → World → Prop}
    (hk : ∀ v' w' ι', Nxt ι w ι' w' → HRel P w0 ι' h' w' → VR ι' v v' → next (a.put o.dst v') w') : o.upon P a next Q ((do pure (.value (← s)) : Sem Next).run P w) := by
  obtain ⟨v', w', ι', hr, n, H, hv⟩ := hs
  simp only [Sem.run_bind, hr, Result.andThen_ok, Sem.run_pure]
  exact hk v' w' ι' n H hv
theorem unit_step {h' : AHeap} {s : Sem Unit} (hs : SemOkU P w0 ι h' w s) {o : Oper} {a : Act} {next : Act → World → Prop} {Q : Exit → Act → World → Prop}
    (hk : ∀ w' ι', Nxt ι w ι' w' → HRel P w0 ι' h' w' → next (a.put o.dst undef) w') : o.upon P a next Q ((do s; pure .skip : Sem Next).run P w) := by
  obtain ⟨w', ι', hr, n, H⟩ := hs
  simp only [Sem.run_bind, hr, Result.andThen_ok, Sem.run_pure]
  exact hk w' ι' n H
theorem fields_under {s : TypeId} {fs : Array Field} (hf : fieldsOf P s = some fs) : P.underlying s = some (.struct fs) := by
  unfold fieldsOf at hf
  split at hf
  · rename_i hu; simp at hf; subst hf; exact hu
  · simp at hf
theorem elem_under {s e : TypeId} (hf : elemOf? P s = some e) : P.underlying s = some (.slice e) := by
  unfold elemOf? at hf
  split at hf
  · rename_i hu; simp at hf; subst hf; exact hu
  · simp at hf
theorem args_sound {t : Tm} {a : Act} (ht : TR ι t a.tmps) (l : List Operand) : All2 (VR ι) (l.map (AH.evX t)) (l.map a.eval) := by
  induction l with
  | nil => exact .nil
  | cons x l ih => exact .cons (ht.evX x) ih
theorem list_two {x y : Operand} {args : Array Operand} (h : args.toList = [x, y]) : args = #[x, y] := by cases args; simp at h; subst h; rfl
theorem list_one {x : Operand} {args : Array Operand} (h : args.toList = [x]) : args = #[x] := by cases args; simp at h; subst h; rfl
theorem list_two' {x y : TypeId} {args : Array TypeId} (h : args.toList = [x, y]) : args = #[x, y] := by cases args; simp at h; subst h; rfl
theorem list_one' {x : TypeId} {args : Array TypeId} (h : args.toList = [x]) : args = #[x] := by cases args; simp at h; subst h; rfl
theorem VR.isS0 {v v' : Value} (hv : VR ι v v') (h : isS0 v = true) : S0 ι v v' := by
  cases hv with
  | junk => simp [AH.isS0, AH.junk] at h
  | tuple => simp [AH.isS0] at h
  | s2 hv => cases hv with
    | agg => simp [AH.isS0] at h
    | s1 hv => cases hv with
      | func => simp [AH.isS0] at h
      | s0 hv => exact hv
theorem S0_all {l l' : List Value} (h : l.all isS0 = true) (ha : All2 (VR ι) l l') : All2 (S0 ι) l l' := by
  induction ha with
  | nil => exact .nil
  | cons r _ ih =>
    simp only [List.all_cons, Bool.and_eq_true] at h
    exact .cons (r.isS0 h.1) (ih h.2)
theorem op_sound {R : Type} {C : ACall} (hC : CallOk P w0 C) {o : Oper} {t : Tm} {k : Value → AHeap → Option R} {r : R} (hev : evOp P C o t h k = some r) {a : Act} (ht : TR ι t a.tmps) (H : HRel P w0 ι h w)
    {next : Act → World → Prop} {Q : Exit → Act → World → Prop}
    (hk : ∀ v h' v' w' ι', Nxt ι w ι' w' → HRel P w0 ι' h' w' → VR ι' v v' → k v h' = some r → next (a.put o.dst v') w') : o.upon P a next Q ((execOp a.eval o).run P w) := by
  obtain ⟨dst, op, type, pos, after, guard⟩ := o
  have V : ∀ {h' : AHeap} {s : Sem Value} {v : Value}, SemOk P w0 ι h' w s v → k v h' = some r → Oper.upon P ⟨dst, op, type, pos, after, guard⟩ a next Q ((do pure (.value (← s)) : Sem Next).run P w) :=
    fun hs he => val_step hs fun v' w' ι' n H hv => hk _ _ _ _ _ n H hv he
  cases op with
  | move x =>
    simp only [evOp, oAlloc, oBox, oBuild, oBuildSlice, oLoad, oStore, oBinOp, oConvert, oMakeSlice, oSlice, oFieldAddr, oField, oIndexAddr, oIndex, oLen, oAppend, oMax, oMin] at hev
    exact hk _ _ _ _ _ (Nxt.refl _ _) H (ht.evX x) hev
  | assign x =>
    simp only [evOp, oAlloc, oBox, oBuild, oBuildSlice, oLoad, oStore, oBinOp, oConvert, oMakeSlice, oSlice, oFieldAddr, oField, oIndexAddr, oIndex, oLen, oAppend, oMax, oMin] at hev
    exact hk _ _ _ _ _ (Nxt.refl _ _) H (ht.evX x) hev
  | pick c x y =>
    simp only [evOp, oAlloc, oBox, oBuild, oBuildSlice, oLoad, oStore, oBinOp, oConvert, oMakeSlice, oSlice, oFieldAddr, oField, oIndexAddr, oIndex, oLen, oAppend, oMax, oMin, Option.bind_eq_some_iff] at hev
    obtain ⟨b, hb, hev⟩ := hev
    have hc := ht.evX c
    have hcv : AH.evX t c = .bool b := by
      unfold asB at hb
      split at hb
      · rename_i heq; simp at hb; subst hb; exact heq
      · simp at hb
    rw [hcv] at hc
    have hcb := hc.bool_inv
    show Oper.upon P _ a next Q ((do pure (.value (if ← asBool (a.eval c) then a.eval x else a.eval y)) : Sem Next).run P w)
    rw [hcb]
    cases b
    · exact hk _ _ _ _ _ (Nxt.refl _ _) H (ht.evX y) hev
    · exact hk _ _ _ _ _ (Nxt.refl _ _) H (ht.evX x) hev
  | alloc e =>
    simp only [evOp, oAlloc, oBox, oBuild, oBuildSlice, oLoad, oStore, oBinOp, oConvert, oMakeSlice, oSlice, oFieldAddr, oField, oIndexAddr, oIndex, oLen, oAppend, oMax, oMin] at hev
    split at hev
    · rename_i z n hz hn
      exact V (alloc_sound H hz hn) hev
    · simp at hev
  | box e x =>
    simp only [evOp, oAlloc, oBox, oBuild, oBuildSlice, oLoad, oStore, oBinOp, oConvert, oMakeSlice, oSlice, oFieldAddr, oField, oIndexAddr, oIndex, oLen, oAppend, oMax, oMin] at hev
    split at hev
    · rename_i n hn
      simp only [Option.bind_eq_some_iff] at hev
      obtain ⟨cs, hcs, hev⟩ := hev
      exact V (box_sound H hn hcs (ht.evX x)) hev
    · simp at hev
  | build ty parts =>
    simp only [evOp, oAlloc, oBox, oBuild, oBuildSlice, oLoad, oStore, oBinOp, oConvert, oMakeSlice, oSlice, oFieldAddr, oField, oIndexAddr, oIndex, oLen, oAppend, oMax, oMin] at hev
    split at hev
    · rename_i fs hf
      split at hev
      · rename_i z ps hz hps
        simp only [Option.bind_eq_some_iff] at hps hev
        obtain ⟨pl, hpl, hps⟩ := hps
        obtain ⟨cs, hcs, hev⟩ := hev
        exact V (build_sound H hf hz hpl ht parts hps hcs) hev
      · simp at hev
    · simp at hev
  | buildSlice ty len parts =>
    simp only [evOp, oAlloc, oBox, oBuild, oBuildSlice, oLoad, oStore, oBinOp, oConvert, oMakeSlice, oSlice, oFieldAddr, oField, oIndexAddr, oIndex, oLen, oAppend, oMax, oMin] at hev
    split at hev
    · rename_i e he
      split at hev
      · rename_i z n hz hn
        split at hev
        · rename_i hcd
          simp only [Option.bind_eq_some_iff] at hev
          obtain ⟨cs, hcs, hev⟩ := hev
          exact V (buildSlice_sound H (elem_under he) hz hn hcd.1 hcd.2.1 hcd.2.2 ht parts hcs) hev
        · simp at hev
      · simp at hev
    · simp at hev
  | load ty x =>
    simp only [evOp, oAlloc, oBox, oBuild, oBuildSlice, oLoad, oStore, oBinOp, oConvert, oMakeSlice, oSlice, oFieldAddr, oField, oIndexAddr, oIndex, oLen, oAppend, oMax, oMin] at hev
    split at hev
    · rename_i n hg hn
      simp only [Option.bind_eq_some_iff] at hev
      obtain ⟨v, hv, hev⟩ := hev
      exact V (ldN_sound H hg hn hv (ht.evX x)) hev
    · rename_i hg
      simp only [Option.bind_eq_some_iff] at hev
      obtain ⟨v, hv, hev⟩ := hev
      exact V (ld1_sound H hg hv (ht.evX x)) hev
    · simp at hev
  | store ty x y =>
    simp only [evOp, oAlloc, oBox, oBuild, oBuildSlice, oLoad, oStore, oBinOp, oConvert, oMakeSlice, oSlice, oFieldAddr, oField, oIndexAddr, oIndex, oLen, oAppend, oMax, oMin] at hev
    split at hev
    · rename_i n hn
      simp only [Option.bind_eq_some_iff] at hev
      obtain ⟨h', hh', hev⟩ := hev
      exact unit_step (st_sound H hn hh' (ht.evX x) (ht.evX y)) fun w' ι' n H => hk _ _ _ _ _ n H (VR.undef _) hev
    · simp at hev
  | nilCheck x =>
    simp only [evOp, oAlloc, oBox, oBuild, oBuildSlice, oLoad, oStore, oBinOp, oConvert, oMakeSlice, oSlice, oFieldAddr, oField, oIndexAddr, oIndex, oLen, oAppend, oMax, oMin, Option.bind_eq_some_iff] at hev
    obtain ⟨v, hv, hev⟩ := hev
    obtain ⟨h1, h2⟩ := nil_sound hv (ht.evX x)
    have : (execOp a.eval ⟨dst, .nilCheck x, type, pos, after, guard⟩).run P w = .ok (.value (a.eval x)) w := by
      rcases h2 with ⟨b, hb⟩ | ⟨f, b, c, hb⟩ <;> simp [execOp, hb]
    rw [this]
    exact hk _ _ _ _ _ (Nxt.refl _ _) H h1 hev
  | binOp op ty x y yt =>
    simp only [evOp, oAlloc, oBox, oBuild, oBuildSlice, oLoad, oStore, oBinOp, oConvert, oMakeSlice, oSlice, oFieldAddr, oField, oIndexAddr, oIndex, oLen, oAppend, oMax, oMin] at hev
    split at hev
    · rename_i hu
      simp only [Option.bind_eq_some_iff] at hev
      obtain ⟨v, hv, hev⟩ := hev
      exact V (binB_sound H hu x y hv (ht.evX x) (ht.evX y)) hev
    · rename_i hu
      simp only [Option.bind_eq_some_iff] at hev
      obtain ⟨v, hv, hev⟩ := hev
      exact V (binP_sound H hu x y hv (ht.evX x) (ht.evX y)) hev
    · simp only [Option.bind_eq_some_iff] at hev
      obtain ⟨v, hv, hev⟩ := hev
      exact V (bin_sound H x y hv (ht.evX x) (ht.evX y)) hev
  | unOp op ty x =>
    simp only [evOp, oAlloc, oBox, oBuild, oBuildSlice, oLoad, oStore, oBinOp, oConvert, oMakeSlice, oSlice, oFieldAddr, oField, oIndexAddr, oIndex, oLen, oAppend, oMax, oMin, Option.bind_eq_some_iff] at hev
    obtain ⟨v, hv, hev⟩ := hev
    exact V (un_sound H hv (ht.evX x)) hev
  | convert src dt x =>
    simp only [evOp, oAlloc, oBox, oBuild, oBuildSlice, oLoad, oStore, oBinOp, oConvert, oMakeSlice, oSlice, oFieldAddr, oField, oIndexAddr, oIndex, oLen, oAppend, oMax, oMin] at hev
    split at hev
    · rename_i hs hd
      simp only [Option.bind_eq_some_iff] at hev
      obtain ⟨v, hv, hev⟩ := hev
      exact V (cvInt_sound H hs hd hv (ht.evX x)) hev
    · rename_i hs hd
      split at hev
      · rename_i he8
        simp only [Option.bind_eq_some_iff] at hev
        obtain ⟨v, hv, hev⟩ := hev
        exact V (cvStr_sound H hs he8 hd hv (ht.evX x)) hev
      · simp at hev
    · simp at hev
  | makeFunc fn first captured =>
    cases fn with
    | func f =>
      simp only [evOp, oAlloc, oBox, oBuild, oBuildSlice, oLoad, oStore, oBinOp, oConvert, oMakeSlice, oSlice, oFieldAddr, oField, oIndexAddr, oIndex, oLen, oAppend, oMax, oMin, Option.bind_eq_some_iff] at hev
      obtain ⟨v, hv, hev⟩ := hev
      unfold aFn at hv
      split at hv
      · rename_i hcd
        simp only [Bool.and_eq_true] at hcd
        simp at hv; subst hv
        refine V (SemOk.same H (v' := .func (.func f) (first.map a.eval) (captured.map a.eval)) rfl (.s1 (.func f ?_ ?_))) hev
        · simpa using S0_all hcd.1 (args_sound ht first.toList)
        · simpa using S0_all hcd.2 (args_sound ht captured.toList)
      · simp at hv
    | _ => simp [evOp, oAlloc, oBox, oBuild, oBuildSlice, oLoad, oStore, oBinOp, oConvert, oMakeSlice, oSlice, oFieldAddr, oField, oIndexAddr, oIndex, oLen, oAppend, oMax, oMin] at hev
  | makeSlice ty l c =>
    simp only [evOp, oAlloc, oBox, oBuild, oBuildSlice, oLoad, oStore, oBinOp, oConvert, oMakeSlice, oSlice, oFieldAddr, oField, oIndexAddr, oIndex, oLen, oAppend, oMax, oMin] at hev
    split at hev
    · rename_i e he
      split at hev
      · rename_i z b n hz hb hn
        split at hev
        · rename_i hcd
          simp only [Option.bind_eq_some_iff] at hev
          obtain ⟨v, hv, hev⟩ := hev
          exact V (mk_sound H (elem_under he) hn hcd.1 hz hcd.2 hb hv (ht.evX l) (ht.evX c)) hev
        · simp at hev
      · simp at hev
    · simp at hev
  | slice ty x lo hi mx =>
    cases mx with
    | some m => simp [evOp, oAlloc, oBox, oBuild, oBuildSlice, oLoad, oStore, oBinOp, oConvert, oMakeSlice, oSlice, oFieldAddr, oField, oIndexAddr, oIndex, oLen, oAppend, oMax, oMin] at hev
    | none =>
      simp only [evOp, oAlloc, oBox, oBuild, oBuildSlice, oLoad, oStore, oBinOp, oConvert, oMakeSlice, oSlice, oFieldAddr, oField, oIndexAddr, oIndex, oLen, oAppend, oMax, oMin] at hev
      split at hev
      · rename_i hu
        simp only [Option.bind_eq_some_iff] at hev
        obtain ⟨v, hv, hev⟩ := hev
        exact V (subS_sound H hu ht (ht.evX x) hv) hev
      · rename_i e hu
        split at hev
        · rename_i n hn
          simp only [Option.bind_eq_some_iff] at hev
          obtain ⟨v, hv, hev⟩ := hev
          exact V (sub_sound H hu hn ht (ht.evX x) hv) hev
        · simp at hev
      · simp at hev
  | fieldAddr s x f =>
    simp only [evOp, oAlloc, oBox, oBuild, oBuildSlice, oLoad, oStore, oBinOp, oConvert, oMakeSlice, oSlice, oFieldAddr, oField, oIndexAddr, oIndex, oLen, oAppend, oMax, oMin] at hev
    split at hev
    · rename_i fd hfd
      simp only [Option.bind_eq_some_iff] at hfd
      obtain ⟨fs, hf, hfd⟩ := hfd
      split at hev
      · rename_i n hn
        simp only [Option.bind_eq_some_iff] at hev
        obtain ⟨v, hv, hev⟩ := hev
        exact V (off_sound H hf hfd hn hv (ht.evX x)) hev
      · simp at hev
    · simp at hev
  | field s x f =>
    simp only [evOp, oAlloc, oBox, oBuild, oBuildSlice, oLoad, oStore, oBinOp, oConvert, oMakeSlice, oSlice, oFieldAddr, oField, oIndexAddr, oIndex, oLen, oAppend, oMax, oMin] at hev
    split at hev
    · rename_i fd hfd
      simp only [Option.bind_eq_some_iff] at hfd
      obtain ⟨fs, hf, hfd⟩ := hfd
      split at hev
      · rename_i g n hg hn
        simp only [Option.bind_eq_some_iff] at hev
        obtain ⟨v, hv, hev⟩ := hev
        exact V (part_sound H hf hfd hg hn hv (ht.evX x)) hev
      · simp at hev
    · simp at hev
  | indexAddr ty x i =>
    simp only [evOp, oAlloc, oBox, oBuild, oBuildSlice, oLoad, oStore, oBinOp, oConvert, oMakeSlice, oSlice, oFieldAddr, oField, oIndexAddr, oIndex, oLen, oAppend, oMax, oMin] at hev
    split at hev
    · rename_i e he
      split at hev
      · rename_i n hn
        simp only [Option.bind_eq_some_iff] at hev
        obtain ⟨v, hv, hev⟩ := hev
        exact V (idx_sound H (elem_under he) hn hv (ht.evX x) (ht.evX i)) hev
      · simp at hev
    · simp at hev
  | index ty x i =>
    simp only [evOp, oAlloc, oBox, oBuild, oBuildSlice, oLoad, oStore, oBinOp, oConvert, oMakeSlice, oSlice, oFieldAddr, oField, oIndexAddr, oIndex, oLen, oAppend, oMax, oMin] at hev
    split at hev
    · rename_i hu
      simp only [Option.bind_eq_some_iff] at hev
      obtain ⟨v, hv, hev⟩ := hev
      exact V (strIx_sound H hu hv (ht.evX x) (ht.evX i)) hev
    · simp at hev
  | extract x i =>
    simp only [evOp, oAlloc, oBox, oBuild, oBuildSlice, oLoad, oStore, oBinOp, oConvert, oMakeSlice, oSlice, oFieldAddr, oField, oIndexAddr, oIndex, oLen, oAppend, oMax, oMin, Option.bind_eq_some_iff] at hev
    obtain ⟨v, hv, hev⟩ := hev
    exact V (ext_sound H hv (ht.evX x)) hev
  | call c =>
    obtain ⟨callee, args, argTypes⟩ := c
    cases callee with
    | invoke r m => simp [evOp, oAlloc, oBox, oBuild, oBuildSlice, oLoad, oStore, oBinOp, oConvert, oMakeSlice, oSlice, oFieldAddr, oField, oIndexAddr, oIndex, oLen, oAppend, oMax, oMin] at hev
    | builtin b =>
      have B : ∀ {h' : AHeap} {v : Value} (s : Sem Value), (builtin b argTypes type (args.map fun | .const _ => true | _ => false) (args.map a.eval)) = (do pure (.value (← s))) → SemOk P w0 ι h' w s v → k v h' = some r →
          Oper.upon P ⟨dst, .call ⟨.builtin b, args, argTypes⟩, type, pos, after, guard⟩ a next Q ((execOp a.eval ⟨dst, .call ⟨.builtin b, args, argTypes⟩, type, pos, after, guard⟩).run P w) := by
        intro h' v s hb hs he
        have : execOp a.eval ⟨dst, .call ⟨.builtin b, args, argTypes⟩, type, pos, after, guard⟩ = (do pure (.value (← s))) := hb
        rw [this]
        exact V hs he
      cases b with
      | len =>
        simp only [evOp, oAlloc, oBox, oBuild, oBuildSlice, oLoad, oStore, oBinOp, oConvert, oMakeSlice, oSlice, oFieldAddr, oField, oIndexAddr, oIndex, oLen, oAppend, oMax, oMin] at hev
        split at hev
        · rename_i x ty hx hty
          obtain rfl := list_one hx
          obtain rfl := list_one' hty
          split at hev
          · rename_i hu
            simp only [Option.bind_eq_some_iff] at hev
            obtain ⟨s, hs, hev⟩ := hev
            have hxs : AH.evX t x = .string s := by
              unfold asS at hs
              split at hs
              · rename_i heq; simp at hs; subst hs; exact heq
              · simp at hs
            have hv := ht.evX x
            rw [hxs] at hv
            refine B (Builtin.len_ #[ty] type #[a.eval x]) (by simp [builtin]) (SemOk.same H (v' := .int .i64 s.size) ?_ (.s0 (.int _ _))) hev
            rw [hv.string_inv]
            simp [Builtin.len_, run_underlying hu, goInt]
          · rename_i e hu
            simp only [Option.bind_eq_some_iff] at hev
            obtain ⟨v, hv, hev⟩ := hev
            exact B (Builtin.len_ #[ty] type #[a.eval x]) (by simp [builtin]) (len_sound H hu hv (ht.evX x)) hev
          · simp at hev
        · simp at hev
      | append =>
        simp only [evOp, oAlloc, oBox, oBuild, oBuildSlice, oLoad, oStore, oBinOp, oConvert, oMakeSlice, oSlice, oFieldAddr, oField, oIndexAddr, oIndex, oLen, oAppend, oMax, oMin] at hev
        split at hev
        · rename_i s x ts tx hx hty
          obtain rfl := list_two hx
          obtain rfl := list_two' hty
          split at hev
          · rename_i e e2 he hu
            split at hev
            · rename_i hts
              subst hts
              split at hev
              · rename_i n b z hn hb hz
                split at hev
                · rename_i hcd
                  simp only [Option.bind_eq_some_iff] at hev
                  obtain ⟨v, hv, hev⟩ := hev
                  exact B (Builtin.append_ #[ts, ts] type #[a.eval s, a.eval x]) (by simp [builtin]) (appG_sound H (elem_under he) hn hcd.1 hb hz hcd.2 hv (ht.evX s) fun m cs hsr => src_sound H hsr (ht.evX x)) hev
                · simp at hev
              · simp at hev
            · simp at hev
          · rename_i e he hu
            split at hev
            · rename_i b z hn hb hz
              simp only [Option.bind_eq_some_iff] at hev
              obtain ⟨v, hv, hev⟩ := hev
              exact B (Builtin.append_ #[ts, tx] type #[a.eval s, a.eval x]) (by simp [builtin]) (appG_sound H (elem_under he) hn Nat.one_pos hb hz rfl hv (ht.evX s) fun m cs hsr => srcS_sound rfl hu hsr (ht.evX x)) hev
            · simp at hev
          · simp at hev
        · simp at hev
      | max =>
        simp only [evOp, oAlloc, oBox, oBuild, oBuildSlice, oLoad, oStore, oBinOp, oConvert, oMakeSlice, oSlice, oFieldAddr, oField, oIndexAddr, oIndex, oLen, oAppend, oMax, oMin] at hev
        split at hev
        · rename_i x y hx
          obtain rfl := list_two hx
          simp only [Option.bind_eq_some_iff] at hev
          obtain ⟨v, hv, hev⟩ := hev
          exact B (Builtin.max_ argTypes type #[a.eval x, a.eval y]) (by simp [builtin]) (mm_sound (t := type) (ats := argTypes) H true hv (ht.evX x) (ht.evX y)) hev
        · simp at hev
      | min =>
        simp only [evOp, oAlloc, oBox, oBuild, oBuildSlice, oLoad, oStore, oBinOp, oConvert, oMakeSlice, oSlice, oFieldAddr, oField, oIndexAddr, oIndex, oLen, oAppend, oMax, oMin] at hev
        split at hev
        · rename_i x y hx
          obtain rfl := list_two hx
          simp only [Option.bind_eq_some_iff] at hev
          obtain ⟨v, hv, hev⟩ := hev
          exact B (Builtin.min_ argTypes type #[a.eval x, a.eval y]) (by simp [builtin]) (mm_sound (t := type) (ats := argTypes) H false hv (ht.evX x) (ht.evX y)) hev
        · simp at hev
      | _ => simp [evOp, oAlloc, oBox, oBuild, oBuildSlice, oLoad, oStore, oBinOp, oConvert, oMakeSlice, oSlice, oFieldAddr, oField, oIndexAddr, oIndex, oLen, oAppend, oMax, oMin] at hev
    | value f =>
      simp only [evOp, oAlloc, oBox, oBuild, oBuildSlice, oLoad, oStore, oBinOp, oConvert, oMakeSlice, oSlice, oFieldAddr, oField, oIndexAddr, oIndex, oLen, oAppend, oMax, oMin, Option.bind_eq_some_iff] at hev
      obtain ⟨⟨v, h'⟩, hv, hev⟩ := hev
      unfold aCallV at hv
      split at hv
      · rename_i g first captured hf
        have hfr := ht.evX f
        rw [hf] at hfr
        obtain ⟨first', captured', hfe, hfa, hca⟩ := hfr.func_inv
        obtain ⟨fn, hfn, hbody, hname⟩ := hC.body _ _ _ _ hv
        have hrun : (execOp a.eval ⟨dst, .call ⟨.value f, args, argTypes⟩, type, pos, after, guard⟩).run P w = .ok (.enter g (first' ++ args.map a.eval ++ captured')) w := by
          have hne : fn.name ≠ "runtime.NumGoroutine" := by simpa using hname
          have hb2 : fn.body ≠ none := by intro e; rw [e] at hbody; simp at hbody
          simp [execOp, resolve, hfe, Deferred.ofValue, invoke, callFunc, hfn, hne, hb2]
        rw [hrun]
        have hall : All2 (VR ι) (first.toList ++ args.toList.map (AH.evX t) ++ captured.toList) (first' ++ args.map a.eval ++ captured').toList := by
          have := ((hfa.mono fun _ _ => VR.s0).append (args_sound ht args.toList)).append (hca.mono fun _ _ => VR.s0)
          simpa using this
        refine (hC.calls _ _ _ _ _ hv ι w _ hall H).mono fun e w' ⟨v', ι', he, n, H', hv'⟩ => ?_
        subst he
        exact hk _ _ _ _ _ n H' hv' hev
      · simp at hv
  | _ => simp [evOp, oAlloc, oBox, oBuild, oBuildSlice, oLoad, oStore, oBinOp, oConvert, oMakeSlice, oSlice, oFieldAddr, oField, oIndexAddr, oIndex, oLen, oAppend, oMax, oMin] at hev
end
end Go.AH
