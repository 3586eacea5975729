import Derived.Test.YtadmoackacickaaXAK
import Derived.Test.YtadmoackacickaaXAL
import Derived.Test.YtadmoackacickaaXAD
/- ExactParse: the walk. -/
set_option linter.unusedSimpArgs false
namespace Go.Proofs.Ytadmoackacickaa
open Go Go.AH

theorem KidH.isl {h : AHeap} {kv : Value} {ks : List Int} (x : KidH h kv ks) : ISl h.size h kv ks := by
  rcases x with x | ⟨i, rt, rfl, ep, a⟩
  · exact .inl x
  · exact .inr (.inr ⟨i, _, rfl, a, rfl, rfl, (at?_obj a).2.1⟩)
theorem NodesH.ksl {h : AHeap} {nv : Value} {ns : List Kn} {rn : Option Nat} (x : NodesH h nv ns rn) : KSl h.size h nv ns := by
  rcases x with ⟨a, b, _⟩ | ⟨i, root, cells, rfl, _, ⟨ep, a⟩, hl, hx⟩
  · exact .inl ⟨a, b⟩
  · exact .inr (.inr ⟨i, _, rfl, a, (at?_obj a).2.1, hl, fun j n hn => let ⟨kv, y, z⟩ := hx j n hn; ⟨kv, y, z.isl⟩⟩)
theorem NodesG.ns {h0 h : AHeap} {nv : Value} {ns : List Kn} {g : GR} {p : Nat} (x : NodesG h nv ns g) (k : GN none g h0) : ∃ rts rn, NS h0.size p h nv ns rts rn := by
  rcases x with ⟨a, b, _⟩ | ⟨i, root, cells, rts, rfl, rfl, o, hl, h1, h2, h3, hx⟩
  · exact ⟨[], p, .inl ⟨a, b, rfl, rfl⟩⟩
  · have ol := o.lt
    have rl : h0.size ≤ root := by
      rcases k.1 with e | ⟨q, e, hq⟩
      · cases e
      · have : root = q := by simpa [gRoot] using e
        omega
    refine ⟨rts, root, .inr ⟨rl, by omega, h1, h2, fun q hq => ⟨?_, h3 q hq⟩, i, cells, rfl, o, hl, hx⟩⟩
    rcases k.2 q hq with e | e
    · cases e
    · exact e
/-- What lies below a bound stays, but parsers. -/
def Kb (b : Nat) (h h' : AHeap) : Prop := h.size ≤ h'.size ∧ ∀ j o, j < b → h.at? j = some o → o.elem ≠ 81 → h'.at? j = some o
theorem Kb.trans {b : Nat} {h h1 h2 : AHeap} (x : Kb b h h1) (y : Kb b h1 h2) : Kb b h h2 := ⟨Nat.le_trans x.1 y.1, fun j o a c d => y.2 j o a (x.2 j o a c d) d⟩
theorem Kb.ext {b : Nat} {h h' : AHeap} (x : Ext b h h') : Kb b h h' := ⟨x.size, fun j o a c _ => x.at? a c⟩
theorem PK.at {h h' : AHeap} (x : PK none h h') {j : Nat} {o : AObj} (a : h.at? j = some o) (he : o.elem ≠ 81) : h'.at? j = some o := x.2.1 j o a he fun _ => by simp
theorem Kb.pk {b : Nat} {h h' : AHeap} (x : PK none h h') : Kb b h h' := ⟨x.1, fun j o _ c d => PK.at x c d⟩
theorem KidH.kb {h h' : AHeap} {kv : Value} {ks : List Int} (x : KidH h kv ks) (k : Kb h.size h h') : KidH h' kv ks := by
  rcases x with x | ⟨i, rt, e, ep, a⟩
  · exact .inl x
  · exact .inr ⟨i, rt, e, ep, k.2 i _ (at?_obj a).2.1 a (by show (3 : TypeId) ≠ 81; decide)⟩
theorem NodesH.kb {h h' : AHeap} {nv : Value} {ns : List Kn} {rn : Option Nat} (x : NodesH h nv ns rn) (k : Kb h.size h h') : NodesH h' nv ns rn := by
  rcases x with x | ⟨i, root, cells, e1, e2, ⟨ep, a⟩, hl, hx⟩
  · exact .inl x
  · exact .inr ⟨i, root, cells, e1, e2, ⟨ep, k.2 i _ (at?_obj a).2.1 a (by show (73 : TypeId) ≠ 81; decide)⟩, hl, fun j n hn => let ⟨kv, y, z⟩ := hx j n hn; ⟨kv, y, z.kb k⟩⟩
theorem OwnR.kb {h h' : AHeap} {i rt : Nat} {e : TypeId} {cs : List Value} {b : Nat} (x : OwnR h i rt e cs) (k : Kb b h h') (hb : i < b) (he : e ≠ 81) : OwnR h' i rt e cs := let ⟨ep, a⟩ := x; ⟨ep, k.2 i _ hb a he⟩
theorem NodesG.ext {h h' : AHeap} {nv : Value} {ns : List Kn} {g : GR} (x : NodesG h nv ns g) (e : Ext h.size h h') : NodesG h' nv ns g := x.keep e.size fun j o a _ => e.at? (at?_obj a).2.1 a
theorem Hd.pk {h h' : AHeap} {v : Value} {ns : List Kn} (x : Hd h v ns) (k : PK none h h') : Hd h' v ns := by
  rcases x with x | ⟨r, rn, rts, cells, h1, ⟨ep, h2⟩, h3, h4, h5⟩
  · exact .inl x
  · exact .inr ⟨r, rn, rts, cells, h1, ⟨ep, PK.at k h2 (by show (73 : TypeId) ≠ 81; decide)⟩, h3, fun i n hi hj => (h4 i n hi hj).keep fun j o a b _ => PK.at k a (by rw [b]; decide), fun i n hi hj => absurd (List.getElem?_eq_some_iff.1 hi).1 (by omega)⟩
def IsT (o : Option (Value × AHeap)) : Prop := ∃ h', o = some (.bool true, h')
/-- A tree is put into a row of one's own. -/
theorem putTr {P : Option (Value × AHeap) → Prop} {h : AHeap} {nv : Value} {top : Int} {K : Value → AHeap → Option (Value × AHeap)} (hv : isCell nv = true)
    (hk : ∀ h', Ext h.size h h' → OwnR h' h.size h.size 35 [nv, .int .i64 top] → P (K (ptr h.size 0) h')) :
    P (aNew h 35 [.slice none 0 0, .int .i64 0] fun p7 h8 => (aSt h8 p7 (trVal nv top) 2).bind fun h9 => K p7 h9) := by
  have e1 := Ext.new (Nat.le_refl h.size) 35 [.slice none 0 0, .int .i64 0]
  have o1 := OwnR.new h 35 [.slice none 0 0, .int .i64 0]
  obtain ⟨h', a, b, _, o, _⟩ := stAll (b := h.size) (m := 2) o1 (Nat.le_refl _) (tv_cells hv top) rfl rfl
  refine nN (pb a (hk h' (e1.trans b) o))
theorem l12 {E : Nat} (hE : 1048700 < E) (hE2 : E ≤ 2000000) (s : ByteArray) (h : AHeap) : IsT (call Try.prog Ms (E + 1) 12 [.string s] h) := by
  rw [c12, e12]
  by_cases hs : (s.size : Int) > 1048576
  · exact pct (P := IsT) (decide_eq_true hs) ⟨h, rfl⟩
  refine pcf (P := IsT) (decide_eq_false hs) ?_
  obtain ⟨d, rfl⟩ : ∃ d, E = d + 22 := ⟨E - 22, by omega⟩
  obtain ⟨r, p1, p2, hl, hk⟩ := parse_both s (D := d + 21) (D' := d + 21) (by omega) (by omega) (by omega)
  have hl2 : r.1.length ≤ 1048576 := by omega
  have hl3 : r.1.length ≤ 10000 := by omega
  have hk2 : ∀ n ∈ r.1, n.ks.length ≤ 1048576 := fun n hn => (hk n hn).2
  obtain ⟨h1, nv1, rn1, c1, y1, k1, _⟩ := q47 (d := d + 17) (by omega) (h := h) p1
  have c1' : call Try.prog Ms (d + 22) 47 [.string s] h = some (tval nv1 r, h1) := c1
  refine pb (P := IsT) c1' (pb rfl (pb rfl (pb rfl (pb rfl (pb rfl (putTr (nv := nv1) (top := r.2.1) y1.cell fun h3 E13 o7 => ?_))))))
  have y3 := y1.kb (Kb.ext E13)
  have s13 := E13.size
  have o7l := o7.lt
  obtain ⟨h4, nv2, g2, c2, y4, k4, n4⟩ := g28 (d := d) (by omega) (h := h3) (by omega) p2
  refine pb (P := IsT) c2 (pb rfl (pb rfl (pb rfl (pb rfl (pb rfl (putTr (nv := nv2) (top := r.2.1) y4.old.cell fun h6 E46 o16 => ?_))))))
  have B6 : Kb h3.size h3 h6 := (Kb.pk k4).trans (Kb.ext (E46.mono k4.1))
  have y6 := y4.ext E46
  obtain ⟨h7, c7, E67⟩ := l23 (d := d + 18) (by omega) (top := r.2.1) y6.old.ksl (y3.kb B6).ksl (Nat.le_refl _) hl2 hk
  have c7' : call Try.prog Ms (d + 22) 23 [trVal nv2 r.2.1, trVal nv1 r.2.1] h6 = some (.bool true, h7) := c7
  have y7 := y6.ext E67
  refine pb (P := IsT) (ld2 o16.row).2.2 (pb (ld2 (o7.kb B6 o7l.2 (by decide)).row).2.2 (pb c7' (pb rfl (pcf rfl (pcf (bne_self_eq_false _) ?_)))))
  rw [s12_0_j, s12_0_eq]
  refine pcf (P := IsT) (bne_self_eq_false _) ?_
  rw [s12_1_j, s12_1_eq]
  have o16b := o16.ext E67
  obtain ⟨rts, rn, nz⟩ := y7.ns (p := 0) n4
  have B7 := B6.trans (Kb.ext (E67.mono B6.1))
  obtain ⟨h8, c8, E78, hd8, u8⟩ := l33F (d := d + 19) (by omega) (tp := r.2.1) nz B7.1 hl3 hk2
  have c8' : call Try.prog Ms (d + 22) 33 [trVal nv2 r.2.1, .int .i64 1] h7 = some (.int .i64 (fM r.1 r.1.length), h8) := c8
  have o16c : OwnR h8 h4.size h4.size 35 [nv2, .int .i64 r.2.1] := let ⟨ep, a⟩ := o16b; ⟨ep, u8 _ _ a (by show (35 : TypeId) ≠ 73; decide) (by show (35 : TypeId) ≠ 3; decide)⟩
  obtain ⟨h9, c9, E89⟩ := l44 (d := d + 19) (by omega) (tp := r.2.1) y7.old.cell hl3 hk2 hd8
  have c9' : call Try.prog Ms (d + 22) 44 [trVal nv2 r.2.1, .int .i64 1] h8 = some (.int .i64 (fM r.1 r.1.length), h9) := c9
  have fb := fM_le hk2 r.1.length
  have hneg : decide (fM r.1 r.1.length < 0) = false := decide_eq_false (by omega)
  refine pb (P := IsT) (ld2 o16b.row).2.2 (pb c8' (pb rfl (pb (ld2 o16c.row).2.2 (pb c9' (pb rfl (pcf hneg (pcf (bne_self_eq_false _) ?_)))))))
  have B8 := B7.trans (Kb.ext E78)
  have B9 := B8.trans (Kb.ext (E89.mono B8.1))
  have hd9 := hd8.ext E89
  have o16d := o16c.ext E89
  obtain ⟨h10, nv3, g3, c10, y10, k10, n10⟩ := g28 (d := d) (by omega) (h := h9) (by omega) p2
  refine pb (P := IsT) c10 (pb rfl (pb rfl (pb rfl (pb rfl (pb rfl (putTr (nv := nv3) (top := r.2.1) y10.old.cell fun h12 E12 o35 => ?_))))))
  have B10 := B9.trans (Kb.pk k10)
  have B12 := B10.trans (Kb.ext (E12.mono B10.1))
  have y12 := y10.ext E12
  obtain ⟨h13, c13, E13'⟩ := l23 (d := d + 18) (by omega) (top := r.2.1) y12.old.ksl (y3.kb B12).ksl (Nat.le_refl _) hl2 hk
  have c13' : call Try.prog Ms (d + 22) 23 [trVal nv3 r.2.1, trVal nv1 r.2.1] h12 = some (.bool true, h13) := c13
  refine pb (P := IsT) (ld2 o35.row).2.2 (pb (ld2 (o7.kb B12 o7l.2 (by decide)).row).2.2 (pb c13' (pb rfl (pcf rfl (pcf (bne_self_eq_false _) ?_)))))
  rw [s12_2_j, s12_2_eq]
  refine pcf (P := IsT) (bne_self_eq_false _) ?_
  rw [s12_3_j, s12_3_eq]
  have hd13 := ((hd9.pk k10).ext E12).ext E13'
  have o16e := ((o16d.pk k10 (by decide) (by decide)).ext E12).ext E13'
  obtain ⟨h14, c14, _⟩ := l44 (d := d + 19) (by omega) (tp := r.2.1) y7.old.cell hl3 hk2 hd13
  have c14' : call Try.prog Ms (d + 22) 44 [trVal nv2 r.2.1, .int .i64 1] h13 = some (.int .i64 (fM r.1 r.1.length), h14) := c14
  exact pb (P := IsT) (ld2 o16e.row).2.2 (pb c14' (pb rfl (pcf hneg (pcf (bne_self_eq_false _) ⟨h14, rfl⟩))))
end Go.Proofs.Ytadmoackacickaa
/- FnExactParse: the row. -/
namespace Go.Proofs.Ytadmoackacickaa
open Go.ChangeShapes Go.WideShapes Go.ChangeAt Go.RowKit Go.ChangeMaps Go.AH

set_option maxRecDepth 100000 in
theorem parLifted (hAH : ∀ s : ByteArray, ∃ d h', call Try.prog Ms d 12 [.string s] h00 = some (.bool true, h')) (os : Os) (started : os.Started) (H : Type) (enc : TypeId × Value → H) :
    ReturnsInHanded {} Try.checked os 12 .any (Rows.fnExactParseSpec.pre6 enc Try.prog Try.f12 Rows.fnExactParseRow.domain false) (Rows.fnExactParseSpec.post enc Try.prog Try.f12 false true false false) := by
  refine returnsInHanded_of_change (C := Try.checked) own started (by kernel_rfl) (by kernel_rfl)
    (ChangeSpec.witness6 (enc := enc) (C := Try.checked) false ⟨#[], #[.string .empty], []⟩ 8 (by kernel_rfl) (by kernel_rfl) (by kernel_rfl) (by kernel_rfl)) ?_
  intro W base args ds gs before hval0 hW _ _
  have hval : ∀ (j : Nat) t v, Try.f12.params[j]? = some t → args[j]? = some v → Value.okWide Try.prog W .any base t v := hval0
  have hW' := hW
  obtain ⟨p, q, hA0, hV, rfl, hfz, hnd⟩ := hW
  have hA : DataW.TrodAll enc Try.prog W 0 (fun _ => true) true Try.f12.params.toList args.toList ds p := hA0
  have hp3 : Try.f12.params = #[9] := by kernel_rfl
  rw [hp3] at hA hval
  obtain ⟨v0, vs0, d0, ds0, p0, q0, hargs, rfl, rfl, h0, r0⟩ := trodAll_cons hA
  obtain ⟨rfl, rfl, rfl⟩ := trodAll_nil r0
  obtain rfl : args = #[v0] := by cases args; simp_all
  obtain ⟨rfl, rfl⟩ := trodVars_none hV
  obtain ⟨s, rfl, rfl, rfl, hs⟩ := open_string uStr (hval 0 9 v0 rfl rfl) h0
  clear hA0
  simp only [List.append_nil] at hW'
  obtain ⟨d, h', he⟩ := hAH s
  refine (law_calls mixed fnOk he (args' := #[.string s]) (.cons (.s1 (.s0 (.string s))) .nil) (start_rel W)).mono fun e W' ⟨he, hb⟩ => ?_
  subst he
  exact ⟨_, rfl, post_below (pa := []) (pv := []) hW' (fun _ _ _ => (trodAll_cons_mk (shut_bool uBool _) trodAll_mk0)) (fun sp _ => (trodAll_cons_mk (shut_string uStr hs) trodAll_mk0)) (fun _ _ => rfl) hb⟩

end Go.Proofs.Ytadmoackacickaa
/- FnExactParse: the row. -/
namespace Go.Proofs.Ytadmoackacickaa
open Go.ChangeShapes Go.WideShapes Go.ChangeAt Go.RowKit Go.AH
theorem parRow (hAH : ∀ s : ByteArray, ∃ d h', call Try.prog Ms d 12 [.string s] h00 = some (.bool true, h')) : Rows.FnExactParseSaid :=
  OpenClaim.holds_of_wide 12 Try.f12 rfl rfl rfl rfl rfl rfl rfl ⟨rfl, rfl, rfl, rfl, rfl⟩ rfl rfl rfl rfl rfl (by kernel_rfl) (by kernel_rfl) (by kernel_rfl)
    (of_decide_eq_true (by kernel_rfl)) (by unfold Func.isWrapper; first | (rw [if_pos (by decide +kernel)]; kernel_rfl) | (rw [if_neg (by decide +kernel)]; exact ⟨rfl, rfl⟩))
    (fun os started H enc _ => parLifted hAH os started H enc)
theorem fnExactParse : Rows.FnExactParseSaid := parRow fun s => ⟨1100001, l12 (E := 1100000) (by decide) (by decide) s h00⟩
end Go.Proofs.Ytadmoackacickaa
