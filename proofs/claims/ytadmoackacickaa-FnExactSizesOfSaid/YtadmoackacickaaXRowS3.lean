import Derived.Test.YtadmoackacickaaXRowT3
/- FnExactSizesOf: the row, given what the small evaluator says. -/
namespace Go.Proofs.Ytadmoackacickaa
open Go Go.ChangeShapes Go.WideShapes Go.ChangeAt Go.RowKit Go.ChangeMaps Go.AH

set_option maxRecDepth 100000 in
theorem sizesLifted (hAH : ∀ (nv : Value) (T : List Kn) (top : Int) (h : AHeap), KSl h.size h nv T → T.length ≤ bigT → (∀ n ∈ T, okK n) → ∃ d h', call Try.prog Ms d 7 [trVal nv top] h = some (.bool true, h')) (os : Os) (started : os.Started) (H : Type) (enc : TypeId × Value → H) :
    ReturnsInHanded {} Try.checked os 7 .any (Rows.fnExactSizesOfSpec.pre6 enc Try.prog Try.f7 Rows.fnExactSizesOfRow.domain false) (Rows.fnExactSizesOfSpec.post enc Try.prog Try.f7 false true false false) := by
  refine returnsInHanded_of_change (C := Try.checked) own started (by kernel_rfl) (by kernel_rfl)
    (ChangeSpec.witness6 (enc := enc) (C := Try.checked) false ⟨#[], #[.agg #[.slice none 0 0, .int .i64 0]], []⟩ 8 (by kernel_rfl) (by kernel_rfl) (by kernel_rfl) (by kernel_rfl)) ?_
  intro W base args ds gs before hval0 hW _ _
  have hval : ∀ (j : Nat) t v, Try.f7.params[j]? = some t → args[j]? = some v → Value.okWide Try.prog W .any base t v := hval0
  have hW' := hW
  obtain ⟨p, q, hA0, hV, rfl, hfz, hnd⟩ := hW
  have hA : DataW.TrodAll enc Try.prog W 0 (fun _ => true) true Try.f7.params.toList args.toList ds p := hA0
  have hp3 : Try.f7.params = #[30] := by kernel_rfl
  rw [hp3] at hA hval
  obtain ⟨v0, vs0, d0, ds0, p0, q0, hargs, rfl, rfl, h0, r0⟩ := trodAll_cons hA
  obtain ⟨rfl, rfl, rfl⟩ := trodAll_nil r0
  obtain rfl : args = #[v0] := by cases args; simp_all
  obtain ⟨rfl, rfl⟩ := trodVars_none hV
  have hagg : ∃ cs, v0 = .agg cs := by
    have := hval 0 30 v0 rfl rfl
    unfold Value.okWide at this
    rw [uTree] at this
    obtain ⟨cs, e, _⟩ := this
    exact ⟨cs, e⟩
  obtain ⟨cs, hcs⟩ := hagg
  obtain ⟨nv, T, top, hv, hN⟩ := open_tree hcs h0
  obtain ⟨ah, ι, na, HR, hs, hk⟩ := start_tree hN
  obtain ⟨hb, hK⟩ := hN.ok
  obtain ⟨d, h', he⟩ := hAH na T top ah hk hb hK
  simp only [List.append_nil] at hW'
  have h0k := h0
  have hlt : ∀ x ∈ p0, x.block < W.heap.size := fun x hx => by simpa using hW'.lt x (by simpa using hx)
  have hrel : VR ι (trVal na top) v0 := by
    rw [hv]
    exact .s2 (.agg (.cons (.s0 hs) (.cons (.s0 (.int _ _)) .nil)))
  refine (law_calls mixed fnOk he (args' := #[v0]) (.cons hrel .nil) HR).mono fun e W' ⟨he, hbel⟩ => ?_
  subst he
  exact ⟨_, rfl, post_below (pa := p0) (pv := []) hW' (fun _ _ _ => (trodAll_cons_mk (shut_bool uBool _) trodAll_mk0)) (fun sp hsp => by
    have := trodAll_cons_mk (WideElems.Trod_stays laid rTree tTree h0k (fun x hx => hbel.same (hlt x hx)) (fun x hx => hsp x (by simpa using hx))) (trodAll_mk0 (enc := enc) (P := Try.prog) (w := W') (base := 0) (spare := sp) (held := true))
    rw [List.append_nil] at this
    exact this) (fun _ _ => rfl) hbel⟩
end Go.Proofs.Ytadmoackacickaa
