import Derived.Test.YtadmoackacickaaXRowT2
import Derived.Test.YtadmoackacickaaXBind
import Derived.Carry
/- A slice of bytes that is an argument; FnBinds: the row. -/
namespace Go.Proofs.Ytadmoackacickaa
open Go Go.ChangeShapes Go.WideShapes Go.ChangeAt Go.RowKit Go.ChangeMaps Go.AH

theorem uBytes : Try.prog.underlying 40 = some (.slice 5) := by kernel_rfl
theorem uByte : Try.prog.underlying 5 = some (.int .u8) := by kernel_rfl
theorem cByte : Try.prog.cellsOf 5 = 1 := by kernel_rfl
theorem zByte : tSize Try.prog 5 = some 1 := by kernel_rfl
/-- A slice of bytes of the machine's. -/
def BM (W : World) (v : Value) (xs : List Int) : Prop :=
  (v = .slice none 0 0 ∧ xs = []) ∨ (∃ a, v = .slice (some a) 0 0 ∧ xs = []) ∨
  ∃ b off cap, v = .slice (some ⟨b, off, none⟩) xs.length cap ∧ xs.length ≤ cap ∧ cap ≤ maxLen ∧ Blk W b (off + cap * 1) ∧ ∀ (j : Nat) (n : Int), xs[j]? = some n → W.cell? ⟨b, off + j, none⟩ = some (.int .u8 n)
theorem open_bytes {H : Type} {enc : TypeId × Value → H} {W : World} {fuel : Nat} {v : Value} {x : DataW H × List MemPlace} (h : DataW.trod enc Try.prog W 0 (fun _ => true) true fuel 40 [v] = some x) : ∃ xs, BM W v xs ∧ ∀ z, z ∈ xs → 0 ≤ z ∧ z < 256 := by
  rcases open_rowM uBytes cByte (by decide) h with h0 | ⟨a, h0⟩ | ⟨b, off, len, cap, n, D, Pl, h0, hl, hm, hb, hx⟩
  · exact ⟨[], .inl ⟨h0, rfl⟩, by simp⟩
  · exact ⟨[], .inr (.inl ⟨a, h0, rfl⟩), by simp⟩
  · have each : ∀ i, i < len → ∃ z : Int, W.cell? ⟨b, off + i, none⟩ = some (.int .u8 z) ∧ 0 ≤ z ∧ z < 256 := fun i hi => by
      obtain ⟨cs', h1, h2, h3⟩ := hx i hi
      obtain ⟨z, h4, _, hw⟩ := DataW.trod_int uByte h3
      have := h2 0 (by omega)
      rw [h4] at this
      refine ⟨z, by simpa using this, ?_⟩
      have hw2 := hw
      simp [Lit.wf] at hw2
      have m0 : IntKind.u8.min = 0 := rfl
      have m1 : IntKind.u8.max = 255 := rfl
      omega
    obtain ⟨f, hf⟩ := Deep.choose_lt each
    refine ⟨(List.range len).map f, .inr (.inr ⟨b, off, cap, by simpa using h0, by simpa using hl, hm, hb, fun j z hz => ?_⟩), fun z hz => ?_⟩
    · obtain ⟨hj, rfl⟩ := range_get f hz
      exact (hf j hj).1
    · obtain ⟨j, hj, rfl⟩ := List.mem_map.1 hz
      exact (hf j (List.mem_range.1 hj)).2
def BytesStart (W : World) (v : Value) (xs : List Int) : Prop := ∃ (h : AHeap) (ι : Inj) (va : Value), HRel Try.prog W ι h W ∧ S0 ι va v ∧ BSl h va xs
theorem start_bytes {W : World} {v : Value} {xs : List Int} (h : BM W v xs) : BytesStart W v xs := by
  rcases h with ⟨h1, h2⟩ | ⟨a, h1, h2⟩ | ⟨b, off, cap, h1, h2, h3, h4, h5⟩
  · subst h1 h2
    exact ⟨h00, i00, _, start_rel W, .slcNil 0, .inl ⟨rfl, rfl⟩⟩
  · subst h1 h2
    exact ⟨h00, i00, .slice (some ⟨0, 1, none⟩) 0 0, start_rel W, .slcEmp 0 1 0 a (by omega), .inr (.inl ⟨_, rfl, rfl⟩)⟩
  · subst h1
    let R : Nat → Option (AH.Place × List Value) := fun i => match i with
      | 0 => some (⟨b, off, cap * 1, 1, true, 5⟩, xs.map (Value.int .u8))
      | _ + 1 => none
    have R0 : R 0 = some (⟨b, off, cap * 1, 1, true, 5⟩, xs.map (Value.int .u8)) := rfl
    have hn : ∀ i r, R i = some r → i < 1 := fun i r hr => by
      cases i with
      | zero => omega
      | succ j => cases hr
    have H : HRel Try.prog W (iRows R) (hRows 1 R) W := by
      refine start_rows hn fun i r hr => ?_
      cases i with
      | succ j => cases hr
      | zero =>
        rw [R0] at hr; cases hr
        refine ⟨⟨?_, (fun e => by cases e), fun _ => h4.lt, zByte⟩, rfl, by show (xs.map (Value.int .u8)).length ≤ cap * 1; simp; omega, fun idx v hv => ?_⟩
        · obtain ⟨arr, el, fr, g1, g2⟩ := h4
          exact ⟨arr, el, fr, g1, g2, fun e => by cases e⟩
        · have hv2 : (xs.map (Value.int .u8))[idx]? = some v := hv
          rw [List.getElem?_map, Option.map_eq_some_iff] at hv2
          obtain ⟨z, hz, rfl⟩ := hv2
          exact ⟨_, h5 idx z hz, .s0 (.int _ _)⟩
    refine ⟨hRows 1 R, iRows R, slc 0 0 xs.length, H, ?_, .inr (.inr ⟨0, rfl, _, rows_at (by omega) R0, rfl⟩)⟩
    exact S0.slc (ι := iRows R) 0 0 xs.length xs.length ⟨b, off, cap * 1, 1, true, 5⟩ cap rfl h2 (by show 0 + cap * 1 ≤ cap * 1; omega)
theorem laidB : laidOutB Try.prog = true := by kernel_rfl
theorem rBytes : Try.prog.readableRec 40 = true := by kernel_rfl
theorem tBytes : (40 : Nat) < Try.prog.types.size := of_decide_eq_true (by kernel_rfl)
theorem open_bytesArg {H : Type} {enc : TypeId × Value → H} {W : World} {v : Value} {d : DataW H} {ps : List MemPlace} (hv : v.cells = #[v]) (h : DataW.Trod enc Try.prog W 0 (fun _ => true) true 40 v d ps) : ∃ xs, BM W v xs ∧ ∀ z, z ∈ xs → 0 ≤ z ∧ z < 256 := by
  obtain ⟨fuel, h⟩ := h
  rw [hv] at h
  exact open_bytes h
set_option maxRecDepth 100000 in
theorem bindsLifted (hAH : ∀ (v : Value) (xs : List Int) (h : AHeap), BSl h v xs → (∀ z, z ∈ xs → 0 ≤ z ∧ z < 256) → ∃ d h', call Try.prog Ms d 6 [v] h = some (.bool true, h')) (os : Os) (started : os.Started) (H : Type) (enc : TypeId × Value → H) :
    ReturnsInHanded {} Try.checked os 6 .any (Rows.fnBindsSpec.pre6 enc Try.prog Try.f6 Rows.fnBindsRow.domain false) (Rows.fnBindsSpec.post enc Try.prog Try.f6 false true false false) := by
  refine returnsInHanded_of_change (C := Try.checked) own started (by kernel_rfl) (by kernel_rfl)
    (ChangeSpec.witness6 (enc := enc) (C := Try.checked) false ⟨#[], #[.slice none 0 0], []⟩ 8 (by kernel_rfl) (by kernel_rfl) (by kernel_rfl) (by kernel_rfl)) ?_
  intro W base args ds gs before hval0 hW _ _
  have hval : ∀ (j : Nat) t v, Try.f6.params[j]? = some t → args[j]? = some v → Value.okWide Try.prog W .any base t v := hval0
  have hW' := hW
  obtain ⟨p, q, hA0, hV, rfl, hfz, hnd⟩ := hW
  have hA : DataW.TrodAll enc Try.prog W 0 (fun _ => true) true Try.f6.params.toList args.toList ds p := hA0
  have hp3 : Try.f6.params = #[40] := by kernel_rfl
  rw [hp3] at hA hval
  obtain ⟨v0, vs0, d0, ds0, p0, q0, hargs, rfl, rfl, h0, r0⟩ := trodAll_cons hA
  obtain ⟨rfl, rfl, rfl⟩ := trodAll_nil r0
  obtain rfl : args = #[v0] := by cases args; simp_all
  obtain ⟨rfl, rfl⟩ := trodVars_none hV
  have hcell : v0.cells = #[v0] := by
    have := hval 0 40 v0 rfl rfl
    unfold Value.okWide at this
    rw [uBytes] at this
    cases v0 <;> first | rfl | exact False.elim this
  obtain ⟨xs, hN, hz⟩ := open_bytesArg hcell h0
  obtain ⟨ah, ι, na, HR, hs, hk⟩ := start_bytes hN
  obtain ⟨d, h', he⟩ := hAH na xs ah hk hz
  simp only [List.append_nil] at hW'
  have h0k := h0
  have hlt : ∀ x ∈ p0, x.block < W.heap.size := fun x hx => by simpa using hW'.lt x (by simpa using hx)
  have hrel : VR ι na v0 := .s1 (.s0 hs)
  refine (law_calls mixed fnOk he (args' := #[v0]) (.cons hrel .nil) HR).mono fun e W' ⟨he, hbel⟩ => ?_
  subst he
  exact ⟨_, rfl, post_below (pa := p0) (pv := []) hW' (fun _ _ _ => (trodAll_cons_mk (shut_bool uBool _) trodAll_mk0)) (fun sp hsp => by
    have := trodAll_cons_mk (WideElems.Trod_stays laidB rBytes tBytes h0k (fun x hx => hbel.same (hlt x hx)) (fun x hx => hsp x (by simpa using hx))) (trodAll_mk0 (enc := enc) (P := Try.prog) (w := W') (base := 0) (spare := sp) (held := true))
    rw [List.append_nil] at this
    exact this) (fun _ _ => rfl) hbel⟩
end Go.Proofs.Ytadmoackacickaa
