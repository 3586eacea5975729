import Derived.Test.YtadmoackacickaaXReg
import Derived.Orders
/- A region that draws its order. -/
set_option linter.unusedSimpArgs false
set_option linter.unusedVariables false
namespace Go.AH
open Go.RowKit Go.Lib
variable {P : Program} {w0 w : World} {ι : Inj} {h : AHeap}

/-! ### what an operation's outcome hangs on -/
theorem partsOf_congr {t t2 : Tm} (pl : List (Nat × Nat)) : ∀ (l : List (Nat × Operand)), (∀ p ∈ l, evX t p.2 = evX t2 p.2) → partsOf pl t l = partsOf pl t2 l
  | [], _ => rfl
  | (i, x) :: l, h => by
    unfold partsOf
    rw [partsOf_congr pl l fun p hp => h p (List.mem_cons_of_mem _ hp), h (i, x) (List.mem_cons_self ..)]
theorem evOp_congr {R : Type} {C : ACall} {o : Oper} {t t2 : Tm} {k : Value → AHeap → Option R} (he : ∀ x ∈ o.op.operands, evX t x = evX t2 x) :
    evOp P C o t h k = evOp P C o t2 h k := by
  obtain ⟨dst, op, type, pos, after, guard⟩ := o
  cases op with
  | build ty parts =>
    simp only [Op.operands] at he
    simp only [evOp, oAlloc, oBox, oBuild, oBuildSlice, oLoad, oStore, oBinOp, oConvert, oMakeSlice, oSlice, oFieldAddr, oField, oIndexAddr, oIndex, oLen, oAppend, oMax, oMin]
    have : ∀ pl, partsOf pl t parts.toList = partsOf pl t2 parts.toList := fun pl => partsOf_congr pl _ fun p hp => he p.2 (by simp; exact ⟨p.1, by simpa using hp⟩)
    simp only [this]
  | buildSlice ty len parts =>
    simp only [Op.operands] at he
    simp only [evOp, oAlloc, oBox, oBuild, oBuildSlice, oLoad, oStore, oBinOp, oConvert, oMakeSlice, oSlice, oFieldAddr, oField, oIndexAddr, oIndex, oLen, oAppend, oMax, oMin]
    have : ∀ n : Nat, (parts.toList.map fun p => (p.1 * n, n, evX t p.2)) = (parts.toList.map fun p => (p.1 * n, n, evX t2 p.2)) := fun n => List.map_congr_left fun p hp => by rw [he p.2 (by simp; exact ⟨p.1, by simpa using hp⟩)]
    simp only [this]
  | makeFunc fn first captured =>
    simp only [Op.operands] at he
    cases fn with
    | func f =>
      simp only [evOp, oAlloc, oBox, oBuild, oBuildSlice, oLoad, oStore, oBinOp, oConvert, oMakeSlice, oSlice, oFieldAddr, oField, oIndexAddr, oIndex, oLen, oAppend, oMax, oMin]
      rw [List.map_congr_left fun x hx => he x (by simp at hx; simp [hx]), List.map_congr_left (l := captured.toList) fun x hx => he x (by simp at hx; simp [hx])]
    | _ => rfl
  | call c =>
    obtain ⟨callee, args, argTypes⟩ := c
    have ha : args.toList.map (evX t) = args.toList.map (evX t2) := List.map_congr_left fun x hx => he x (by simp at hx; simp [Op.operands, Call.operands, hx])
    cases callee with
    | value f =>
      have hf : evX t f = evX t2 f := he f (by simp [Op.operands, Call.operands])
      simp only [evOp, oAlloc, oBox, oBuild, oBuildSlice, oLoad, oStore, oBinOp, oConvert, oMakeSlice, oSlice, oFieldAddr, oField, oIndexAddr, oIndex, oLen, oAppend, oMax, oMin, ha, hf]
    | invoke => rfl
    | builtin b =>
      have h1 : ∀ x, args.toList = [x] → evX t x = evX t2 x := fun x hx => by simpa [hx] using ha
      have h2 : ∀ x y, args.toList = [x, y] → evX t x = evX t2 x ∧ evX t y = evX t2 y := fun x y hx => by simpa [hx] using ha
      cases b with
      | len => simp only [evOp, oAlloc, oBox, oBuild, oBuildSlice, oLoad, oStore, oBinOp, oConvert, oMakeSlice, oSlice, oFieldAddr, oField, oIndexAddr, oIndex, oLen, oAppend, oMax, oMin]; split <;> first | rfl | (rename_i hx _; rw [h1 _ hx])
      | append => simp only [evOp, oAlloc, oBox, oBuild, oBuildSlice, oLoad, oStore, oBinOp, oConvert, oMakeSlice, oSlice, oFieldAddr, oField, oIndexAddr, oIndex, oLen, oAppend, oMax, oMin]; split <;> first | rfl | (rename_i hx _; rw [(h2 _ _ hx).1, (h2 _ _ hx).2])
      | max => simp only [evOp, oAlloc, oBox, oBuild, oBuildSlice, oLoad, oStore, oBinOp, oConvert, oMakeSlice, oSlice, oFieldAddr, oField, oIndexAddr, oIndex, oLen, oAppend, oMax, oMin]; split <;> first | rfl | (rename_i hx; rw [(h2 _ _ hx).1, (h2 _ _ hx).2])
      | min => simp only [evOp, oAlloc, oBox, oBuild, oBuildSlice, oLoad, oStore, oBinOp, oConvert, oMakeSlice, oSlice, oFieldAddr, oField, oIndexAddr, oIndex, oLen, oAppend, oMax, oMin]; split <;> first | rfl | (rename_i hx; rw [(h2 _ _ hx).1, (h2 _ _ hx).2])
      | _ => rfl
  | slice t x lo hi mx =>
    cases mx with
    | some m => rfl
    | none => cases lo <;> cases hi <;> simp_all [evOp, oAlloc, oBox, oBuild, oBuildSlice, oLoad, oStore, oBinOp, oConvert, oMakeSlice, oSlice, oFieldAddr, oField, oIndexAddr, oIndex, oLen, oAppend, oMax, oMin, Op.operands]
  | _ => first | (simp only [Op.operands] at he; simp_all [evOp, oAlloc, oBox, oBuild, oBuildSlice, oLoad, oStore, oBinOp, oConvert, oMakeSlice, oSlice, oFieldAddr, oField, oIndexAddr, oIndex, oLen, oAppend, oMax, oMin]; done) | rfl
theorem evOp_bind {R : Type} {C : ACall} {o : Oper} {t : Tm} {k : Value → AHeap → Option R} (he : isEff o.op = false) :
    evOp P C o t h k = (evOp P C o t h fun v _ => some v).bind fun v => k v h := by
  obtain ⟨dst, op, type, pos, after, guard⟩ := o
  cases op with
  | call c =>
    obtain ⟨callee, args, argTypes⟩ := c
    cases callee with
    | value f => simp [isEff] at he
    | invoke => rfl
    | builtin b =>
      cases b with
      | append => simp [isEff] at he
      | len => simp only [evOp, oAlloc, oBox, oBuild, oBuildSlice, oLoad, oStore, oBinOp, oConvert, oMakeSlice, oSlice, oFieldAddr, oField, oIndexAddr, oIndex, oLen, oAppend, oMax, oMin]; (repeat' split) <;> simp [Option.bind_assoc]
      | max => simp only [evOp, oAlloc, oBox, oBuild, oBuildSlice, oLoad, oStore, oBinOp, oConvert, oMakeSlice, oSlice, oFieldAddr, oField, oIndexAddr, oIndex, oLen, oAppend, oMax, oMin]; split <;> simp [Option.bind_assoc]
      | min => simp only [evOp, oAlloc, oBox, oBuild, oBuildSlice, oLoad, oStore, oBinOp, oConvert, oMakeSlice, oSlice, oFieldAddr, oField, oIndexAddr, oIndex, oLen, oAppend, oMax, oMin]; split <;> simp [Option.bind_assoc]
      | _ => rfl
  | pick c x y => simp only [evOp, oAlloc, oBox, oBuild, oBuildSlice, oLoad, oStore, oBinOp, oConvert, oMakeSlice, oSlice, oFieldAddr, oField, oIndexAddr, oIndex, oLen, oAppend, oMax, oMin, Option.bind_assoc]; congr 1; funext b; cases b <;> rfl
  | makeFunc fn first captured => cases fn <;> simp [evOp, oAlloc, oBox, oBuild, oBuildSlice, oLoad, oStore, oBinOp, oConvert, oMakeSlice, oSlice, oFieldAddr, oField, oIndexAddr, oIndex, oLen, oAppend, oMax, oMin, Option.bind_assoc]
  | slice t x lo hi mx =>
    cases mx with
    | some m => rfl
    | none => simp only [evOp, oAlloc, oBox, oBuild, oBuildSlice, oLoad, oStore, oBinOp, oConvert, oMakeSlice, oSlice, oFieldAddr, oField, oIndexAddr, oIndex, oLen, oAppend, oMax, oMin]; (repeat' split) <;> simp [Option.bind_assoc]
  | _ =>
    first
      | (simp [isEff] at he; done)
      | (simp only [evOp, oAlloc, oBox, oBuild, oBuildSlice, oLoad, oStore, oBinOp, oConvert, oMakeSlice, oSlice, oFieldAddr, oField, oIndexAddr, oIndex, oLen, oAppend, oMax, oMin, Option.bind_assoc, Option.bind_some]; done)
      | (simp only [evOp, oAlloc, oBox, oBuild, oBuildSlice, oLoad, oStore, oBinOp, oConvert, oMakeSlice, oSlice, oFieldAddr, oField, oIndexAddr, oIndex, oLen, oAppend, oMax, oMin]; (repeat' split) <;> simp [Option.bind_assoc]; done)
      | rfl
theorem evOp_still {C : ACall} {o : Oper} {t : Tm} {h h2 : AHeap} (he : isEff o.op = false) (hr : isRd o.op = false) :
    evOp P C o t h (fun v _ => some v) = evOp P C o t h2 (fun v _ => some v) := by
  obtain ⟨dst, op, type, pos, after, guard⟩ := o
  cases op with
  | call c =>
    obtain ⟨callee, args, argTypes⟩ := c
    cases callee with
    | value f => simp [isEff] at he
    | invoke => rfl
    | builtin b =>
      cases b with
      | append => simp [isEff] at he
      | _ => rfl
  | makeFunc fn first captured => cases fn <;> rfl
  | _ => first | (simp [isEff] at he; done) | (simp [isRd] at hr; done) | rfl

/-! ### what comes ahead of what -/
section
variable {ops : Array Oper}
theorem preOf_spec {o : Oper} {acc : List Nat} {i : Nat} (h : (preOf o acc).testBit i = true) :
    ∃ e ∈ o.after, Region.binds .any e = true ∧ (e.on = i ∨ (acc.getD e.on 0).testBit i = true) := by
  have key : ∀ (l : List Edge) (s : Nat), (l.foldl (fun s e => bif Region.binds .any e then s ||| (2 ^ e.on ||| acc.getD e.on 0) else s) s).testBit i = true →
      s.testBit i = true ∨ ∃ e ∈ l, Region.binds .any e = true ∧ (e.on = i ∨ (acc.getD e.on 0).testBit i = true) := by
    intro l
    induction l with
    | nil => intro s h; exact .inl h
    | cons e l ih =>
      intro s h
      rw [List.foldl_cons] at h
      rcases ih _ h with h | ⟨e', he', h⟩
      · cases hb : Region.binds .any e with
        | false => rw [hb] at h; exact .inl h
        | true =>
          rw [hb] at h
          simp only [cond_true, Nat.testBit_or, Bool.or_eq_true, Nat.testBit_two_pow, decide_eq_true_eq] at h
          rcases h with h | h | h
          · exact .inl h
          · exact .inr ⟨e, List.mem_cons_self .., hb, .inl h⟩
          · exact .inr ⟨e, List.mem_cons_self .., hb, .inr h⟩
      · exact .inr ⟨e', List.mem_cons_of_mem _ he', h⟩
  rcases key _ _ h with h | ⟨e, he, h⟩
  · simp at h
  · exact ⟨e, by simpa using he, h⟩
theorem presGo_spec (L : List Oper) : ∀ (l done : List Oper) (acc : List Nat), L = done ++ l → acc.length = done.length →
    (∀ j i, (acc.getD j 0).testBit i = true → ∃ o, L[j]? = some o ∧ ∃ e ∈ o.after, Region.binds .any e = true ∧ (e.on = i ∨ (acc.getD e.on 0).testBit i = true)) →
    ∀ j i, ((presGo l acc).getD j 0).testBit i = true → ∃ o, L[j]? = some o ∧ ∃ e ∈ o.after, Region.binds .any e = true ∧ (e.on = i ∨ ((presGo l acc).getD e.on 0).testBit i = true) := by
  intro l
  induction l with
  | nil => intro done acc _ _ h; exact h
  | cons o os ih =>
    intro done acc hL hlen h
    have up : ∀ m i, (acc.getD m 0).testBit i = true → ((acc ++ [preOf o acc]).getD m 0).testBit i = true := by
      intro m i hb
      by_cases hm : m < acc.length
      · simpa [List.getD_eq_getElem?_getD, List.getElem?_append_left hm] using hb
      · simp [List.getD_eq_getElem?_getD, List.getElem?_eq_none (Nat.le_of_not_lt hm)] at hb
    refine ih (done ++ [o]) (acc ++ [preOf o acc]) (by simp [hL]) (by simp [hlen]) fun j i hb => ?_
    rcases Nat.lt_trichotomy j acc.length with hj | hj | hj
    · have hb' : (acc.getD j 0).testBit i = true := by simpa [List.getD_eq_getElem?_getD, List.getElem?_append_left hj] using hb
      obtain ⟨o', ho', e, he, hbi, hh⟩ := h j i hb'
      exact ⟨o', ho', e, he, hbi, hh.imp id (up _ _)⟩
    · subst hj
      have hb' : (preOf o acc).testBit i = true := by simpa [List.getD_eq_getElem?_getD] using hb
      obtain ⟨e, he, hbi, hh⟩ := preOf_spec hb'
      exact ⟨o, by rw [hL, hlen]; simp, e, he, hbi, hh.imp id (up _ _)⟩
    · have : (acc ++ [preOf o acc])[j]? = none := List.getElem?_eq_none (by simp; omega)
      simp [List.getD_eq_getElem?_getD, this] at hb
theorem pres_spec {j i : Nat} (h : ((pres ops).getD j 0).testBit i = true) :
    ∃ o, ops[j]? = some o ∧ ∃ e ∈ o.after, Region.binds .any e = true ∧ (e.on = i ∨ ((pres ops).getD e.on 0).testBit i = true) := by
  obtain ⟨o, ho, hh⟩ := presGo_spec ops.toList ops.toList [] [] rfl rfl (by simp) j i h
  exact ⟨o, by simpa using ho, hh⟩

structure DrawOk (ops : Array Oper) (l : List Nat) : Prop where
  lt : ∀ j ∈ l, j < ops.size
  mem : ∀ j, j < ops.size → j ∈ l
  row : drawRow ops (pres ops) l = true
  top : ∀ (j : Nat) (o : Oper), ops[j]? = some o → ∀ e ∈ o.after, Region.binds .any e = true → e.on < j
  ssa : ∀ i ∈ l, eff ops i = false → ∀ d, dstOf ops i = some d → ∀ j ∈ l, d ∈ looks ops j → ((pres ops).getD j 0).testBit i = true
theorem drawOk_spec {l : List Nat} (h : drawOk ops (pres ops) l = true) : DrawOk ops l := by
  simp only [drawOk, Bool.and_eq_true, List.all_eq_true] at h
  obtain ⟨⟨⟨⟨⟨h1, h2⟩, h3⟩, h4⟩, h5⟩, h6⟩ := h
  refine ⟨fun j hj => by simpa using h2 j hj, fun j hj => by simpa using h3 j (by simpa using hj), h4, fun j o ho e he hbi => ?_, fun i hi hef d hd j hj hl => ?_⟩
  · have := h5 (o, j) (by
      rw [Array.mem_toList_iff, Array.mem_zipIdx_iff_getElem?]; exact ho)
    simp only [Array.all_eq_true_iff_forall_mem, Bool.or_eq_true, Bool.not_eq_true', decide_eq_true_eq] at this
    exact (this e he).resolve_left (by rw [hbi]; simp)
  · have := h6 i hi
    rw [hef, hd] at this
    simp only [Bool.false_or, List.all_eq_true] at this
    have := this j hj
    simpa [hl] using this
theorem pre_lt {l : List Nat} (K : DrawOk ops l) : ∀ (j : Nat) {i : Nat}, ((pres ops).getD j 0).testBit i = true → i < j := by
  intro j
  induction j using Nat.strongRecOn with
  | _ j ih =>
    intro i h
    obtain ⟨o, ho, e, he, hbi, hh⟩ := pres_spec h
    have := K.top j o ho e he hbi
    rcases hh with hh | hh
    · omega
    · have := ih e.on this hh; omega
theorem drawRow_pair {pre : List Nat} : ∀ {X : List Nat} {j : Nat} {r : List Nat}, drawRow ops pre (X ++ j :: r) = true → ∀ i ∈ X,
    (∀ d, dstOf ops j = some d → (d ∈ looks ops i → eff ops j = true ∧ (pre.getD j 0).testBit i = true) ∧ dstOf ops i ≠ some d) ∧ (eff ops i = true → (pre.getD j 0).testBit i = true) ∧ i ≠ j
  | x :: X, j, r, h, i, hi => by
    simp only [List.cons_append, drawRow, Bool.and_eq_true, List.all_eq_true] at h
    rcases List.mem_cons.1 hi with rfl | hi
    · obtain ⟨⟨h0, h1⟩, _⟩ := h
      have h1 := h1 j (by simp)
      refine ⟨fun d hd => ?_, fun he => ?_, ?_⟩
      · rw [hd] at h1
        simp only [Bool.and_eq_true, Bool.not_eq_true', Bool.or_eq_true, beq_eq_false_iff_ne] at h1
        exact ⟨fun hl => h1.1.1.resolve_left (by simpa using hl), h1.1.2⟩
      · simpa [he] using h1.2
      · rintro rfl; simp at h0
    · exact drawRow_pair h.2 i hi
end

/-! ### the walk through such a region -/
theorem All2.of {α β : Type} {R : α → β → Prop} : ∀ {l : List α} {l' : List β}, l.length = l'.length → (∀ (i : Nat) a b, l[i]? = some a → l'[i]? = some b → R a b) → All2 R l l'
  | [], [], _, _ => .nil
  | a :: l, b :: l', hl, h => .cons (h 0 a b rfl rfl) (All2.of (by simpa using hl) fun i a b ha hb => h (i + 1) a b (by simpa using ha) (by simpa using hb))
  | [], _ :: _, hl, _ => by simp at hl
  | _ :: _, [], hl, _ => by simp at hl
theorem All2.len {α β : Type} {R : α → β → Prop} {l : List α} {l' : List β} (h : All2 R l l') : l.length = l'.length := by
  induction h with
  | nil => rfl
  | cons _ _ ih => simp [ih]
theorem put_getD {t : Tm} {dst : Option Tmp} {v : Value} {s : Nat} (h : dst ≠ some s) : (put t dst v).getD s junk = t.getD s junk := by
  cases dst with
  | none => rfl
  | some d => exact set_ne fun e => h (by rw [e])
theorem put_len {t : Tm} {dst : Option Tmp} {v : Value} : (put t dst v).n = t.n := by
  cases dst with
  | none => rfl
  | some d => exact set_n
theorem put_same {t : Tm} {d : Tmp} {v : Value} (h : d < t.n) : (put t (some d) v).getD d junk = v := set_same h
theorem aput_ne {a : Act} {dst : Option Tmp} {v : Value} {s : Nat} (h : dst ≠ some s) : (a.put dst v).tmps.getD s undef = a.tmps.getD s undef := by
  cases dst with
  | none => rfl
  | some d =>
    have : d ≠ s := fun e => h (by rw [e])
    simp [Act.put, Array.getD_eq_getD_getElem?, Array.getElem?_setIfInBounds_ne this]
theorem aput_same {a : Act} {d : Tmp} {v : Value} (h : d < a.tmps.size) : (a.put (some d) v).tmps.getD d undef = v := by simp [Act.put, Array.getD_eq_getD_getElem?, h]
theorem aput_size {a : Act} {dst : Option Tmp} {v : Value} : (a.put dst v).tmps.size = a.tmps.size := by cases dst <;> simp [Act.put]

section
variable {ops : Array Oper} {C : ACall} {R : Type} {D : List Deferred} {k : Tm → AHeap → Option R} {r : R}

def Unl (listed : Array Bool) (j : Nat) : Prop := listed.getD j false = false
/-- The slots that wait. -/
def Waits (ops : Array Oper) (X : List Nat) (listed : Array Bool) (s : Nat) : Prop := ∃ i ∈ X, Unl listed i ∧ eff ops i = false ∧ dstOf ops i = some s
structure TRm (ops : Array Oper) (X : List Nat) (listed : Array Bool) (ι : Inj) (t : Tm) (a : Act) : Prop where
  len : t.n = a.tmps.size
  slot : ∀ s, Waits ops X listed s ∨ VR ι (t.getD s junk) (a.tmps.getD s undef)
structure Fact (P : Program) (C : ACall) (ops : Array Oper) (t : Tm) (h : AHeap) (j : Nat) (o : Oper) : Prop where
  at' : ops[j]? = some o
  still : isEff o.op = false
  says : (gW ops o t = some true ∧ ∃ v, evOp P C o t h (fun v _ => some v) = some v ∧ ∀ d, o.dst = some d → d < t.n → t.getD d junk = v) ∨
    (gW ops o t = some false ∧ ∀ d, o.dst = some d → d < t.n → t.getD d junk = undef)

def waiting (ops : Array Oper) (X : List Nat) (listed : Array Bool) : List Nat := X.filterMap fun i => if listed.getD i false = false ∧ eff ops i = false then dstOf ops i else none
theorem mem_waiting {X : List Nat} {listed : Array Bool} {s : Nat} : s ∈ waiting ops X listed ↔ Waits ops X listed s := by
  unfold waiting Waits Unl
  rw [List.mem_filterMap]
  constructor
  · rintro ⟨i, hi, h⟩
    split at h
    · rename_i hc; exact ⟨i, hi, hc.1, hc.2, h⟩
    · cases h
  · rintro ⟨i, hi, h1, h2, h3⟩
    exact ⟨i, hi, by rw [if_pos ⟨h1, h2⟩]; exact h3⟩
def veil (ops : Array Oper) (X : List Nat) (listed : Array Bool) (t : Tm) : Tm := ⟨t.n, (waiting ops X listed).map (fun s => (s, junk)) ++ t.l⟩
theorem lk_veil {i : Nat} {l : List (Nat × Value)} : ∀ keys : List Nat, (i ∈ keys → lk junk i (keys.map (fun s => (s, junk)) ++ l) = junk) ∧ (i ∉ keys → lk junk i (keys.map (fun s => (s, junk)) ++ l) = lk junk i l)
  | [] => ⟨fun h => by simp at h, fun _ => rfl⟩
  | j :: keys => by
    have ih := lk_veil (i := i) (l := l) keys
    rw [List.map_cons, List.cons_append]
    by_cases h : j = i
    · subst h; exact ⟨fun _ => lk_cons_same, fun h => by simp at h⟩
    · rw [lk_cons_ne h]
      exact ⟨fun hm => ih.1 ((List.mem_cons.1 hm).resolve_left fun e => h e.symm), fun hm => ih.2 fun h2 => hm (List.mem_cons_of_mem _ h2)⟩
theorem veil_getD {X : List Nat} {listed : Array Bool} {t : Tm} {s : Nat} (h : ¬ Waits ops X listed s) : (veil ops X listed t).getD s junk = t.getD s junk := by
  by_cases hs : s < t.n
  · rw [getD_in hs, getD_in (show s < (veil ops X listed t).n from hs)]
    exact (lk_veil _).2 fun hm => h (mem_waiting.1 hm)
  · rw [getD_out hs, getD_out (show ¬ s < (veil ops X listed t).n from hs)]
theorem TRm.veil {X : List Nat} {listed : Array Bool} {t : Tm} {a : Act} (h : TRm ops X listed ι t a) : TR ι (veil ops X listed t) a.tmps := by
  refine ⟨h.len, fun i => ?_⟩
  by_cases hw : Waits ops X listed i
  · have : (AH.veil ops X listed t).getD i junk = junk := by
      by_cases hs : i < t.n
      · rw [getD_in (show i < (AH.veil ops X listed t).n from hs)]; exact (lk_veil _).1 (mem_waiting.2 hw)
      · exact getD_out hs
    rw [this]; exact .junk _
  · rw [veil_getD hw]; exact (h.slot i).resolve_left hw
theorem mem_looks_op {j : Nat} {o : Oper} (ho : ops[j]? = some o) {d : Tmp} (hd : Operand.tmp d ∈ o.op.operands) : d ∈ looks ops j := by
  simp only [looks, ho, List.mem_append, List.mem_filterMap]
  exact .inl ⟨.tmp d, by simpa using hd, rfl⟩
theorem mem_looks_guard {j : Nat} {o : Oper} (ho : ops[j]? = some o) {g : Nat} {want : Bool} {d : Tmp} (hg : o.guard = some (g, want)) (hd : (ops[g]?).bind (·.dst) = some d) : d ∈ looks ops j := by
  simp only [looks, ho, hg, hd, List.mem_append]
  exact .inr (by simp)
theorem evX_congr {j : Nat} {o : Oper} (ho : ops[j]? = some o) {t t2 : Tm} (he : ∀ d ∈ looks ops j, t.getD d junk = t2.getD d junk) : ∀ x ∈ o.op.operands, evX t x = evX t2 x := by
  intro x hx
  cases x with
  | tmp d => exact he d (mem_looks_op ho hx)
  | _ => rfl
theorem gW_congr {j : Nat} {o : Oper} (ho : ops[j]? = some o) {t t2 : Tm} (he : ∀ d ∈ looks ops j, t.getD d junk = t2.getD d junk) : gW ops o t = gW ops o t2 := by
  unfold gW
  cases hg : o.guard with
  | none => rfl
  | some jw =>
    obtain ⟨g, want⟩ := jw
    simp only []
    cases hd : (ops[g]?).bind (·.dst) with
    | none => rfl
    | some d => simp only [he d (mem_looks_guard ho hg hd)]
theorem Fact.put {t : Tm} {j : Nat} {o : Oper} (f : Fact P C ops t h j o) {dst : Option Tmp} {v : Value} (hd : ∀ d, dst = some d → d ∉ looks ops j ∧ dstOf ops j ≠ some d) :
    Fact P C ops (put t dst v) h j o := by
  have e : ∀ d ∈ looks ops j, (AH.put t dst v).getD d junk = t.getD d junk := fun d hl => put_getD fun e => (hd d e).1 hl
  have e2 : ∀ d, o.dst = some d → (AH.put t dst v).getD d junk = t.getD d junk := fun d ho => put_getD fun e => (hd d e).2 (by simp [dstOf, f.at', ho])
  refine ⟨f.at', f.still, ?_⟩
  rw [gW_congr f.at' e, evOp_congr (evX_congr f.at' e)]
  refine f.says.imp (fun ⟨h1, v, h2, h3⟩ => ⟨h1, v, h2, fun d h4 h5 => ?_⟩) fun ⟨h1, h3⟩ => ⟨h1, fun d h4 h5 => ?_⟩ <;>
  · rw [e2 d h4]; exact h3 d h4 (by rwa [put_len] at h5)
theorem Fact.same {t t' : Tm} (hs : Same t t') {j : Nat} {o : Oper} (f : Fact P C ops t h j o) : Fact P C ops t' h j o := by
  have e : ∀ d ∈ looks ops j, t'.getD d junk = t.getD d junk := fun d _ => hs.at' d
  refine ⟨f.at', f.still, ?_⟩
  rw [gW_congr f.at' e, evOp_congr (evX_congr f.at' e)]
  refine f.says.imp (fun ⟨h1, v, h2, h3⟩ => ⟨h1, v, h2, fun d h4 h5 => ?_⟩) fun ⟨h1, h3⟩ => ⟨h1, fun d h4 h5 => ?_⟩ <;>
  · rw [hs.at']; exact h3 d h4 (by rwa [hs.n] at h5)
theorem TRm.same {t t' : Tm} (hs : Same t t') {X : List Nat} {listed : Array Bool} {a : Act} (T : TRm ops X listed ι t a) : TRm ops X listed ι t' a :=
  ⟨hs.n.trans T.len, fun s => by rw [hs.at']; exact T.slot s⟩
theorem Fact.heap {t : Tm} {j : Nat} {o : Oper} (f : Fact P C ops t h j o) (hr : isRd o.op = false) (h2 : AHeap) : Fact P C ops t h2 j o :=
  ⟨f.at', f.still, by rw [evOp_still f.still hr (h2 := h)]; exact f.says⟩
end
end Go.AH
