import Derived.Test.YtadmoackacickaaXOps2
/- The small evaluator's operations against the machine's, the third part: stores, arithmetic, cuts, conversions. -/
namespace Go.AH
open Go.RowKit
/-- What an operation without an answer comes to. -/
def SemOkU (P : Program) (w0 : World) (ι : Inj) (h' : AHeap) (w : World) (s : Sem Unit) : Prop :=
  ∃ w' ι', s.run P w = .ok () w' ∧ Nxt ι w ι' w' ∧ HRel P w0 ι' h' w'
section
variable {P : Program} {w0 w : World} {ι : Inj} {h : AHeap}

theorem splice_get {R : Value → Value → Prop} {cs vs vs' : List Value} {arr : Array Value} (off : Nat) (hv : All2 R vs vs') (hfit : off + vs.length ≤ cs.length) (hfit' : off + vs'.length ≤ arr.size)
    (hc : ∀ (j : Nat) v, cs[j]? = some v → ∃ v', arr[j]? = some v' ∧ R v v') :
    ∀ (j : Nat) v, (splice cs off vs)[j]? = some v → ∃ v', (arr.toList.take off ++ vs' ++ arr.toList.drop (off + vs'.length)).toArray[j]? = some v' ∧ R v v' := by
  intro j v hj
  have hl := hv.length
  simp only [splice, List.append_assoc] at hj
  simp only [List.append_assoc, List.getElem?_toArray]
  by_cases h1 : j < off
  · rw [List.getElem?_append_left (by simp; omega), List.getElem?_take, if_pos h1] at hj
    rw [List.getElem?_append_left (by simp; omega), List.getElem?_take, if_pos h1]
    obtain ⟨v', g1, g2⟩ := hc j v hj
    exact ⟨v', by simpa using g1, g2⟩
  · have e1 : (cs.take off).length = off := by simp; omega
    have e2 : (arr.toList.take off).length = off := by simp; omega
    rw [List.getElem?_append_right (by omega), e1] at hj
    rw [List.getElem?_append_right (by omega), e2]
    by_cases h2 : j - off < vs.length
    · rw [List.getElem?_append_left h2] at hj
      rw [List.getElem?_append_left (by omega)]
      exact hv.get _ _ hj
    · rw [List.getElem?_append_right (by omega), List.getElem?_drop] at hj
      rw [List.getElem?_append_right (by omega), List.getElem?_drop]
      have e3 : off + vs.length + (j - off - vs.length) = j := by omega
      have e4 : off + vs'.length + (j - off - vs'.length) = j := by omega
      rw [e3] at hj; rw [e4]
      obtain ⟨v', g1, g2⟩ := hc j v hj
      exact ⟨v', by simpa using g1, g2⟩
theorem st_sound (H : HRel P w0 ι h w) {ty : TypeId} {n : Nat} (hn : tSize P ty = some n) {p p' v v' : Value} {h' : AHeap} (he : aSt h p v n = some h') (hp : VR ι p p') (hv : VR ι v v') : SemOkU P w0 ι h' w (Instr.storeAt ty p' v') := by
  unfold aSt at he
  split at he
  · rename_i i off
    split at he
    · rename_i o vs ho hvs
      split at he
      · rename_i hcd
        obtain ⟨hro, hlen, hfit⟩ := hcd
        simp at he; subst he
        obtain ⟨q, hq, rfl⟩ := hp.ptr_inv
        obtain ⟨vs', e0, ha⟩ := aCells_sound hvs hv
        obtain ⟨q2, hq2, e2, e3, e4, e5⟩ := H.obj i o ho
        rw [hq] at hq2; cases hq2
        have hqro := e2.trans hro
        obtain ⟨_, hbase⟩ := (H.pl i q hq).own hqro
        obtain ⟨arr, el, fr, hb, hsz, hfr⟩ := (H.pl i q hq).block
        obtain ⟨rfl, rfl⟩ := hfr hqro
        have hl := ha.length
        have hfit' : off + vs'.length ≤ arr.size := by omega
        have hrun := run_storeCells_at P q.blk off q.el vs' 0 arr w hb (by omega) ha.cells
        simp only [Nat.add_zero] at hrun
        obtain ⟨k1, k2⟩ := H.write ho hro q hq arr (0, 0) hb (arr.toList.take off ++ vs' ++ arr.toList.drop (off + vs'.length)).toArray (splice o.cells off vs) (by simp; omega) (by simp [splice]; omega)
          (by
            rw [hbase]
            simp only [Nat.zero_add]
            refine splice_get off ha (by omega) hfit' fun j v hj => ?_
            obtain ⟨v', g1, g2⟩ := e5 j v hj
            refine ⟨v', ?_, g2⟩
            rw [hbase, Nat.zero_add] at g1
            simpa [World.cell?, hb] using g1)
        refine ⟨_, ι, ?_, k2, k1⟩
        have hsz2 : v'.cells.size = n := by rw [← Array.length_toList, e0, ← hl]; exact hlen
        simp [Instr.storeAt, Instr.sureAddr, storeVar, run_sizeOf' hn, hsz2, hbase, e0, hrun]
      · simp at he
    · simp at he
  · simp at he

/-! ### arithmetic -/
theorem bin_int {op : BinOp} {ty : TypeId} {k k' : IntKind} {a b : Int} {v : Value} (he : aBin op (.int k a) (.int k' b) = some v) : (binOp op ty (.int k a) (.int k' b)).run P w = .ok v w := by
  by_cases hk : k = k'
  · subst hk
    cases op <;> simp [aBin] at he
    case add => subst he; simp [binOp, Op.intArith]
    case sub => subst he; simp [binOp, Op.intArith]
    case mul => subst he; simp [binOp, Op.intArith]
    case quo => obtain ⟨h0, rfl⟩ := he; simp [binOp, Op.intDiv, h0]
    case rem => obtain ⟨h0, rfl⟩ := he; simp [binOp, Op.intDiv, h0]
    case and => subst he; simp [binOp, Op.intBits]
    case or => subst he; simp [binOp, Op.intBits]
    case xor => subst he; simp [binOp, Op.intBits]
    case andNot => subst he; simp [binOp, Op.intBits]
    case shl => obtain ⟨h0, rfl⟩ := he; simp [binOp, Op.shift, show ¬ b < 0 from by omega]
    case shr => obtain ⟨h0, rfl⟩ := he; simp [binOp, Op.shift, show ¬ b < 0 from by omega]
    case eql => subst he; simp [binOp, Op.intCmp]
    case neq => subst he; simp [binOp, Op.intCmp]
    case lss => subst he; simp [binOp, Op.intCmp]
    case leq => subst he; simp [binOp, Op.intCmp]
    case gtr => subst he; simp [binOp, Op.intCmp]
    case geq => subst he; simp [binOp, Op.intCmp]
  · cases op <;> simp [aBin, hk] at he
    case shl => obtain ⟨h0, rfl⟩ := he; simp [binOp, Op.shift, show ¬ b < 0 from by omega]
    case shr => obtain ⟨h0, rfl⟩ := he; simp [binOp, Op.shift, show ¬ b < 0 from by omega]
theorem bin_str {op : BinOp} {ty : TypeId} {a b : ByteArray} {v : Value} (he : aBin op (.string a) (.string b) = some v) : (binOp op ty (.string a) (.string b)).run P w = .ok v w := by
  cases op <;> simp [aBin] at he
  case add =>
    obtain ⟨h0, rfl⟩ := he
    have : ¬ (9223372036854775807 < (a.size : Int) + (b.size : Int)) := by unfold most at h0; omega
    simp [binOp, Op.stringOp, this]
  all_goals (subst he; simp [binOp, Op.stringOp])
theorem bin_sound (H : HRel P w0 ι h w) {op : BinOp} {ty : TypeId} {x y x' y' v : Value} (ox oy : Operand) (he : aBin op x y = some v) (hx : VR ι x x') (hy : VR ι y y') :
    SemOk P w0 ι h w (do eqGuard op ty ox oy x' y'; binOp op ty x' y') v := by
  have hv : VR ι v v ∧ ((∃ k a k' b, x = .int k a ∧ y = .int k' b) ∨ ∃ a b, x = .string a ∧ y = .string b) := by
    cases x <;> cases y <;> simp [aBin] at he
    · rename_i k a k' b
      refine ⟨?_, .inl ⟨k, a, k', b, rfl, rfl⟩⟩
      cases op <;> simp at he
      all_goals first
        | (obtain ⟨_, rfl⟩ := he; exact .s0 (.int _ _))
        | (obtain ⟨_, rfl⟩ := he; exact .s0 (.bool _))
        | (obtain ⟨_, _, rfl⟩ := he; exact .s0 (.int _ _))
    · rename_i a b
      refine ⟨?_, .inr ⟨a, b, rfl, rfl⟩⟩
      cases op <;> simp at he
      all_goals first
        | (obtain ⟨_, rfl⟩ := he; exact .s0 (.string _))
        | (subst he; exact .s0 (.bool _))
  obtain ⟨hv, ⟨k, a, k', b, rfl, rfl⟩ | ⟨a, b, rfl, rfl⟩⟩ := hv
  · obtain rfl := hx.int_inv; obtain rfl := hy.int_inv
    exact SemOk.same H (by simp [eqGuard_at_int, bin_int (P := P) (w := w) (ty := ty) he]) hv
  · obtain rfl := hx.string_inv; obtain rfl := hy.string_inv
    exact SemOk.same H (by simp [eqGuard_at_string, bin_str (P := P) (w := w) (ty := ty) he]) hv
theorem run_equal_bool {ty : TypeId} (hu : P.underlying ty = some .bool) (a b : Bool) (w : World) : (Op.equal ty (.bool a) (.bool b)).run P w = .ok (a == b) w := by
  have : ∀ d, (Op.equalIn (d + 1) ty (.bool a) (.bool b)).run P w = .ok (a == b) w := fun d => by simp [Op.equalIn, run_underlying hu]
  exact this 9999
theorem run_equal_ptr {ty e : TypeId} (hu : P.underlying ty = some (.pointer e)) (a : Option Addr) (w : World) : (Op.equal ty (.pointer a) (.pointer none)).run P w = .ok a.isNone w := by
  have : ∀ d, (Op.equalIn (d + 1) ty (.pointer a) (.pointer none)).run P w = .ok a.isNone w := fun d => by cases a <;> simp [Op.equalIn, run_underlying hu]
  exact this 9999
theorem binB_sound (H : HRel P w0 ι h w) {op : BinOp} {ty : TypeId} (hu : P.underlying ty = some .bool) {x y x' y' v : Value} (ox oy : Operand) (he : aBinB op x y = some v) (hx : VR ι x x') (hy : VR ι y y') :
    SemOk P w0 ι h w (do eqGuard op ty ox oy x' y'; binOp op ty x' y') v := by
  unfold aBinB at he
  split at he
  · rename_i a b
    obtain rfl := hx.bool_inv; obtain rfl := hy.bool_inv
    cases op <;> simp at he
    case eql =>
      subst he
      have e1 : binOp .eql ty (.bool a) (.bool b) = (do pure (.bool (← Op.equal ty (.bool a) (.bool b)))) := rfl
      exact SemOk.same H (by rw [eqGuard_at_bool, e1]; simp [run_equal_bool hu]) (.s0 (.bool _))
    case neq =>
      subst he
      have e1 : binOp .neq ty (.bool a) (.bool b) = (do pure (.bool (!(← Op.equal ty (.bool a) (.bool b))))) := rfl
      exact SemOk.same H (by rw [eqGuard_at_bool, e1]; simp [run_equal_bool hu]) (.s0 (.bool _))
  · simp at he
theorem binP_sound (H : HRel P w0 ι h w) {op : BinOp} {ty e : TypeId} (hu : P.underlying ty = some (.pointer e)) {x y x' y' v : Value} (ox oy : Operand) (he : aBinP op x y = some v) (hx : VR ι x x') (hy : VR ι y y') :
    SemOk P w0 ι h w (do eqGuard op ty ox oy x' y'; binOp op ty x' y') v := by
  unfold aBinP at he
  split at he
  · rename_i a
    obtain rfl := hy.ptrNil_inv
    obtain ⟨a', rfl, hn⟩ : ∃ a', x' = .pointer a' ∧ a'.isNone = a.isNone := by
      cases a with
      | none => exact ⟨none, hx.ptrNil_inv, rfl⟩
      | some a =>
        cases hx with
        | s2 hv => cases hv with
          | s1 hv => cases hv with
            | s0 hv => cases hv; exact ⟨_, rfl, rfl⟩
    cases op <;> simp at he
    case eql =>
      subst he
      have e1 : binOp .eql ty (.pointer a') (.pointer none) = (do pure (.bool (← Op.equal ty (.pointer a') (.pointer none)))) := rfl
      exact SemOk.same H (by rw [eqGuard_at_pointer, e1]; simp [run_equal_ptr hu, hn]) (.s0 (.bool _))
    case neq =>
      subst he
      have e1 : binOp .neq ty (.pointer a') (.pointer none) = (do pure (.bool (!(← Op.equal ty (.pointer a') (.pointer none))))) := rfl
      exact SemOk.same H (by rw [eqGuard_at_pointer, e1]; simp [run_equal_ptr hu, hn]) (.s0 (.bool _))
  · simp at he
theorem un_sound (H : HRel P w0 ι h w) {op : UnOp} {x x' v : Value} (he : aUn op x = some v) (hx : VR ι x x') : SemOk P w0 ι h w (Op.unary op x') v := by
  unfold aUn at he
  split at he
  · simp at he; subst he
    obtain rfl := hx.int_inv
    exact SemOk.same H (by simp [Op.unary, Op.intArith]) (.s0 (.int _ _))
  · simp at he; subst he
    obtain rfl := hx.bool_inv
    exact SemOk.same H (by simp [Op.unary]) (.s0 (.bool _))
  · simp at he
theorem cvInt_sound (H : HRel P w0 ι h w) {src dst : TypeId} {ks kd : IntKind} (hs : P.underlying src = some (.int ks)) (hd : P.underlying dst = some (.int kd)) {x x' v : Value} (he : aCvInt kd x = some v) (hx : VR ι x x') : SemOk P w0 ι h w (convert src dst x') v := by
  unfold aCvInt at he
  split at he
  · simp at he; subst he
    obtain rfl := hx.int_inv
    exact SemOk.same H (v' := .int kd _) (by simp [convert, run_underlying hs, run_underlying hd, Conv.intToInt]) (.s0 (.int _ _))
  · simp at he
theorem nil_sound {x x' v : Value} (he : aNil x = some v) (hx : VR ι x x') : VR ι v x' ∧ ((∃ a, x' = .pointer (some a)) ∨ ∃ f a b, x' = .func (.func f) a b) := by
  unfold aNil at he
  split at he
  · simp at he; subst he
    refine ⟨hx, .inl ?_⟩
    cases hx with
    | s2 hv => cases hv with
      | s1 hv => cases hv with
        | s0 hv => cases hv; exact ⟨_, rfl⟩
  · simp at he; subst he
    obtain ⟨a', c', rfl, _⟩ := hx.func_inv
    exact ⟨hx, .inr ⟨_, _, _, rfl⟩⟩
  · simp at he
theorem ext_sound (H : HRel P w0 ι h w) {x x' v : Value} {i : Nat} (he : aExt x i = some v) (hx : VR ι x x') : SemOk P w0 ι h w (Instr.extract x' i) v := by
  unfold aExt at he
  split at he
  · obtain ⟨a', rfl, ha⟩ := hx.tuple_inv
    obtain ⟨b, g1, g2⟩ := ha.get i v (by simpa using he)
    exact SemOk.same H (v' := b) (by simp at g1; simp [Instr.extract, g1]) (.s2 g2)
  · simp at he
theorem mm_sound (H : HRel P w0 ι h w) {ats : Array TypeId} {t : TypeId} (mx : Bool) {x y x' y' v : Value} (he : aMm mx x y = some v) (hx : VR ι x x') (hy : VR ι y y') :
    SemOk P w0 ι h w (if mx then Builtin.max_ ats t #[x', y'] else Builtin.min_ ats t #[x', y']) v := by
  unfold aMm at he
  split at he
  · rename_i k a k' b
    split at he
    · rename_i hk
      subst hk
      simp at he; subst he
      obtain rfl := hx.int_inv; obtain rfl := hy.int_inv
      cases mx
      · refine SemOk.same H (v' := .int k _) ?_ (.s0 (.int _ _))
        simp [Builtin.min_, Builtin.min2]
      · refine SemOk.same H (v' := .int k _) ?_ (.s0 (.int _ _))
        simp [Builtin.max_, Builtin.max2]
    · simp at he
  · simp at he
end
end Go.AH
