import Derived.Test.YtadmoackacickaaXApp
/- The small evaluator's operations against the machine's: each answer of the one is an answer of the other. -/
namespace Go.AH
open Go.RowKit

/-- What an operation of the machine comes to. -/
def SemOk (P : Program) (w0 : World) (ι : Inj) (h' : AHeap) (w : World) (s : Sem Value) (v : Value) : Prop :=
  ∃ v' w' ι', s.run P w = .ok v' w' ∧ Nxt ι w ι' w' ∧ HRel P w0 ι' h' w' ∧ VR ι' v v'

section
variable {P : Program} {w0 w : World} {ι : Inj} {h : AHeap}

theorem SemOk.same (H : HRel P w0 ι h w) {s : Sem Value} {v v' : Value} (hr : s.run P w = .ok v' w) (hv : VR ι v v') : SemOk P w0 ι h w s v :=
  ⟨v', w, ι, hr, Nxt.refl _ _, H, hv⟩

theorem tSize_info {t : TypeId} {n : Nat} (hs : tSize P t = some n) : ∃ i, P.info? t = some i ∧ i.size = n := by
  simpa [tSize] using hs
theorem run_sizeOf' {t : TypeId} {n : Nat} (hs : tSize P t = some n) (w : World) : (sizeOf t).run P w = .ok n w := by
  obtain ⟨i, hi, rfl⟩ := tSize_info hs
  simp [sizeOf, typeInfo, hi]
theorem run_isAgg {t : TypeId} {b : Bool} (hs : tAgg P t = some b) (w : World) : (isAgg t).run P w = .ok b w := by
  unfold tAgg at hs
  cases hu : P.underlying t with
  | none => simp [hu] at hs
  | some d => cases d <;> simp [hu] at hs <;> subst hs <;> simp [isAgg, run_underlying hu]
theorem run_zeroValue {t : TypeId} {i : TypeInfo} {zv : Value} (hi : P.info? t = some i) (hz : i.zero = some zv) (w : World) : (zeroValue t).run P w = .ok zv w := by
  simp [zeroValue, typeInfo, hi, hz]

/-! ### pointers' shapes -/
theorem VR.ptr_inv {i off : Nat} {v' : Value} (hv : VR ι (.pointer (some ⟨i, off, none⟩)) v') : ∃ p, ι.pl i = some p ∧ v' = .pointer (some ⟨p.blk, p.base + off, none⟩) := by
  cases hv with
  | s2 hv => cases hv with
    | s1 hv => cases hv with
      | s0 hv => cases hv with
        | ptr _ _ p hp => exact ⟨p, hp, rfl⟩
theorem VR.int_inv {k : IntKind} {n : Int} {v' : Value} (hv : VR ι (.int k n) v') : v' = .int k n := by
  cases hv with
  | s2 hv => cases hv with
    | s1 hv => cases hv with
      | s0 hv => cases hv; rfl
theorem VR.bool_inv {b : Bool} {v' : Value} (hv : VR ι (.bool b) v') : v' = .bool b := by
  cases hv with
  | s2 hv => cases hv with
    | s1 hv => cases hv with
      | s0 hv => cases hv; rfl
theorem VR.string_inv {b : ByteArray} {v' : Value} (hv : VR ι (.string b) v') : v' = .string b := by
  cases hv with
  | s2 hv => cases hv with
    | s1 hv => cases hv with
      | s0 hv => cases hv; rfl
theorem VR.slc_inv {i off n c : Nat} {v' : Value} (hv : VR ι (.slice (some ⟨i, off, none⟩) n c) v') :
    (∃ p c', ι.pl i = some p ∧ n ≤ c' ∧ off + c' * p.esz ≤ p.cap ∧ v' = .slice (some ⟨p.blk, p.base + off, none⟩) n c') ∨ (n = 0 ∧ 0 < off ∧ ∃ a', v' = .slice (some a') 0 0) := by
  cases hv with
  | s2 hv => cases hv with
    | s1 hv => cases hv with
      | s0 hv => cases hv with
        | slc _ _ _ _ p c' hp h1 h2 => exact .inl ⟨p, c', hp, h1, h2, rfl⟩
        | slcEmp _ _ _ a' ho => exact .inr ⟨rfl, ho, a', rfl⟩
theorem VR.slcNil_inv {n c : Nat} {v' : Value} (hv : VR ι (.slice none n c) v') : n = 0 ∧ v' = .slice none 0 0 := by
  cases hv with
  | s2 hv => cases hv with
    | s1 hv => cases hv with
      | s0 hv => cases hv; exact ⟨rfl, rfl⟩
theorem VR.ptrNil_inv {v' : Value} (hv : VR ι (.pointer none) v') : v' = .pointer none := by
  cases hv with
  | s2 hv => cases hv with
    | s1 hv => cases hv with
      | s0 hv => cases hv; rfl
theorem VR.agg_inv {a : Array Value} {v' : Value} (hv : VR ι (.agg a) v') : ∃ a', v' = .agg a' ∧ All2 (S1 ι) a.toList a'.toList := by
  cases hv with
  | s2 hv => cases hv with
    | s1 hv => cases hv with
      | s0 hv => cases hv
    | agg ha => exact ⟨_, rfl, ha⟩
theorem VR.tuple_inv {a : Array Value} {v' : Value} (hv : VR ι (.tuple a) v') : ∃ a', v' = .tuple a' ∧ All2 (S2 ι) a.toList a'.toList := by
  cases hv with
  | s2 hv => cases hv with
    | s1 hv => cases hv with
      | s0 hv => cases hv
  | tuple ha => exact ⟨_, rfl, ha⟩
theorem VR.func_inv {f : FuncId} {a c : Array Value} {v' : Value} (hv : VR ι (.func (.func f) a c) v') : ∃ a' c', v' = .func (.func f) a' c' ∧ All2 (S0 ι) a.toList a'.toList ∧ All2 (S0 ι) c.toList c'.toList := by
  cases hv with
  | s2 hv => cases hv with
    | s1 hv => cases hv with
      | s0 hv => cases hv
      | func _ ha hc => exact ⟨_, _, rfl, ha, hc⟩
theorem VR.map_inv {i : Nat} {v' : Value} (hv : VR ι (.map (some i)) v') : ∃ r, ι.mp i = some r ∧ v' = .map (some r) := by
  cases hv with
  | s2 hv => cases hv with
    | s1 hv => cases hv with
      | s0 hv => cases hv with
        | map _ r hr => exact ⟨r, hr, rfl⟩
theorem VR.mapNil_inv {v' : Value} (hv : VR ι (.map none) v') : v' = .map none := by
  cases hv with
  | s2 hv => cases hv with
    | s1 hv => cases hv with
      | s0 hv => cases hv; rfl

/-! ### reading -/
theorem add_mk (b o j : Nat) : (⟨b, o, none⟩ : Addr).add j = ⟨b, o + j, none⟩ := by unfold Addr.add; split <;> simp_all
/-- What the small heap reads, the machine's memory reads alike. -/
theorem rd_sound (H : HRel P w0 ι h w) {i off n : Nat} {cs : List Value} (hr : h.rd i off n = some cs) :
    ∃ p cs', ι.pl i = some p ∧ All2 (S1 ι) cs cs' ∧ cs.length = n ∧ (∀ (j : Nat) v, cs'[j]? = some v → w.cell? ((⟨p.blk, p.base + off, none⟩ : Addr).add j) = some v) := by
  unfold AHeap.rd at hr
  split at hr
  · rename_i o ho
    split at hr
    · rename_i hle
      simp at hr; subst hr
      obtain ⟨p, hp, _, _, _, hc⟩ := H.obj i o ho
      have hlen : ((o.cells.drop off).take n).length = n := by simp; omega
      refine ⟨p, (List.range n).map (fun j => (w.cell? ⟨p.blk, p.base + off + j, none⟩).getD undef), hp, ?_, hlen, ?_⟩
      · refine All2.of_get (by rw [hlen]; simp) fun j a b ha hb => ?_
        have hj : j < n := by have := (List.getElem?_eq_some_iff.1 ha).1; omega
        rw [List.getElem?_take, if_pos hj, List.getElem?_drop] at ha
        obtain ⟨v', g1, g2⟩ := hc (off + j) a ha
        rw [List.getElem?_map, List.getElem?_range hj] at hb
        simp at hb
        rw [show p.base + off + j = p.base + (off + j) from by omega, g1] at hb
        simp at hb; subst hb; exact g2
      · intro j v hv
        have hj : j < n := by have := (List.getElem?_eq_some_iff.1 hv).1; simpa using this
        rw [List.getElem?_map, List.getElem?_range hj] at hv
        simp at hv
        obtain ⟨a, ha⟩ : ∃ a, o.cells[off + j]? = some a := ⟨_, List.getElem?_eq_getElem (by omega)⟩
        obtain ⟨v', g1, g2⟩ := hc (off + j) a ha
        rw [show p.base + off + j = p.base + (off + j) from by omega, g1] at hv
        simp at hv; subst hv
        rw [add_mk, show p.base + off + j = p.base + (off + j) from by omega]; exact g1
    · simp at hr
  · simp at hr

theorem ld1_run (H : HRel P w0 ι h w) {ty : TypeId} {p p' v : Value} (hg : tAgg P ty = some false) (he : aLd1 h p = some v) (hp : VR ι p p') : ∃ ad v', p' = .pointer (some ad) ∧ (loadVar ty ad).run P w = .ok v' w ∧ VR ι v v' := by
  unfold aLd1 at he
  split at he
  · rename_i i off
    simp only [Option.bind_eq_some_iff] at he
    obtain ⟨cs, hr, hh⟩ := he
    obtain ⟨q, cs', hq, ha, hl, hc⟩ := rd_sound H hr
    obtain ⟨q2, hq2, rfl⟩ := hp.ptr_inv
    rw [hq] at hq2; cases hq2
    cases ha with
    | nil => simp at hh
    | cons r _ =>
      simp at hh; subst hh
      rename_i b _ _ _
      have hcell := hc 0 b rfl
      rw [Addr.add_zero'] at hcell
      refine ⟨_, b, rfl, ?_, .s1 r⟩
      simp [loadVar, run_isAgg hg, hcell]
  · simp at he
theorem ld_of_run (H : HRel P w0 ι h w) {ty : TypeId} {p' v : Value} (hx : ∃ ad v', p' = .pointer (some ad) ∧ (loadVar ty ad).run P w = .ok v' w ∧ VR ι v v') : SemOk P w0 ι h w (Instr.loadAt ty p') v := by
  obtain ⟨ad, v', rfl, hr, hv⟩ := hx
  exact SemOk.same H (v' := v') (by simp [Instr.loadAt, Instr.sureAddr, hr]) hv
theorem ld1_sound (H : HRel P w0 ι h w) {ty : TypeId} {p p' v : Value} (hg : tAgg P ty = some false) (he : aLd1 h p = some v) (hp : VR ι p p') : SemOk P w0 ι h w (Instr.loadAt ty p') v := ld_of_run H (ld1_run H hg he hp)
theorem ldN_run (H : HRel P w0 ι h w) {ty : TypeId} {n : Nat} {p p' v : Value} (hg : tAgg P ty = some true) (hs : tSize P ty = some n) (he : aLdN h p n = some v) (hp : VR ι p p') : ∃ ad v', p' = .pointer (some ad) ∧ (loadVar ty ad).run P w = .ok v' w ∧ VR ι v v' := by
  unfold aLdN at he
  split at he
  · rename_i i off
    simp only [Option.map_eq_some_iff] at he
    obtain ⟨cs, hr, rfl⟩ := he
    obtain ⟨q, cs', hq, ha, hl, hc⟩ := rd_sound H hr
    obtain ⟨q2, hq2, rfl⟩ := hp.ptr_inv
    rw [hq] at hq2; cases hq2
    refine ⟨_, .agg cs'.toArray, rfl, ?_, .s2 (.agg (by simpa using ha))⟩
    have hrun := run_loadCells_list (P := P) w (⟨q.blk, q.base + off, none⟩ : Addr) cs' hc
    rw [← ha.length, hl] at hrun
    simp [loadVar, run_isAgg hg, run_sizeOf' hs, hrun]
  · simp at he
theorem ldN_sound (H : HRel P w0 ι h w) {ty : TypeId} {n : Nat} {p p' v : Value} (hg : tAgg P ty = some true) (hs : tSize P ty = some n) (he : aLdN h p n = some v) (hp : VR ι p p') : SemOk P w0 ι h w (Instr.loadAt ty p') v := ld_of_run H (ldN_run H hg hs he hp)

/-! ### addresses -/
theorem off_sound (H : HRel P w0 ι h w) {s : TypeId} {f : Nat} {fd : Field} {fs : Array Field} {n : Nat} (hf : fieldsOf P s = some fs) (hfd : fs[f]? = some fd) (hn : tSize P fd.type = some (n + 1)) {p p' v : Value}
    (he : aOff p fd.offset = some v) (hp : VR ι p p') : SemOk P w0 ι h w (Instr.fieldAt s p' f) v := by
  unfold aOff at he
  split at he
  · simp at he; subst he
    obtain ⟨q, hq, rfl⟩ := hp.ptr_inv
    have hu : P.underlying s = some (.struct fs) := by
      unfold fieldsOf at hf
      split at hf
      · rename_i hu; simp at hf; subst hf; exact hu
      · simp at hf
    refine SemOk.same H (v' := .pointer (some ⟨q.blk, q.base + (_ + fd.offset), none⟩)) ?_ (.s0 (.ptr _ _ q hq))
    simp [Instr.fieldAt, run_underlying hu, hfd, Instr.sureAddr, fieldPlace, run_sizeOf' hn, add_mk, Nat.add_assoc]
  · simp at he
theorem idx_sound (H : HRel P w0 ι h w) {ty e : TypeId} {n : Nat} (hu : P.underlying ty = some (.slice e)) (hn : tSize P e = some n) {s s' i i' v : Value}
    (he : aIdx s i n = some v) (hs : VR ι s s') (hi : VR ι i i') : SemOk P w0 ι h w (Instr.indexAt ty s' i') v := by
  unfold aIdx at he
  split at he
  · rename_i b off m c k j
    split at he
    · rename_i hb
      simp at he; subst he
      obtain ⟨q, c', hq, _, _, rfl⟩ | ⟨h0, _⟩ := hs.slc_inv
      case inr => omega
      obtain rfl := hi.int_inv
      refine SemOk.same H (v' := .pointer (some ⟨q.blk, q.base + (off + j.toNat * n), none⟩)) ?_ (.s0 (.ptr _ _ q hq))
      simp [Instr.indexAt, asIntOf, run_underlying hu, hb.1, hb.2, run_sizeOf' hn, add_mk, Nat.add_assoc]
    · simp at he
  · simp at he
theorem strIx_sound (H : HRel P w0 ι h w) {ty : TypeId} (hu : P.underlying ty = some .string) {s s' i i' v : Value}
    (he : aStrIx s i = some v) (hs : VR ι s s') (hi : VR ι i i') : SemOk P w0 ι h w (Instr.index ty s' i') v := by
  unfold aStrIx at he
  split at he
  · rename_i s k j
    split at he
    · rename_i hb
      simp only [Option.map_eq_some_iff] at he
      obtain ⟨b, hb2, rfl⟩ := he
      obtain rfl := hs.string_inv
      obtain rfl := hi.int_inv
      refine SemOk.same H (v' := .int .u8 b.toNat) ?_ (.s0 (.int _ _))
      simp [Instr.index, asIntOf, run_underlying hu, hb, hb2]
    · simp at he
  · simp at he
theorem len_sound (H : HRel P w0 ι h w) {ty t e : TypeId} (hu : P.underlying ty = some (.slice e)) {x x' v : Value} (he : aLen x = some v) (hx : VR ι x x') : SemOk P w0 ι h w (Builtin.len_ #[ty] t #[x']) v := by
  unfold aLen at he
  split at he
  · rename_i a n c
    simp at he; subst he
    have : ∃ a' c', x' = .slice a' n c' := by
      cases a with
      | none => obtain ⟨rfl, rfl⟩ := hx.slcNil_inv; exact ⟨_, _, rfl⟩
      | some a =>
        cases hx with
        | s2 hv => cases hv with
          | s1 hv => cases hv with
            | s0 hv => cases hv <;> exact ⟨_, _, rfl⟩
    obtain ⟨a', c', rfl⟩ := this
    exact SemOk.same H (v' := .int .i64 n) (by simp [Builtin.len_, run_underlying hu, goInt]) (.s0 (.int _ _))
  · simp at he
end
end Go.AH
