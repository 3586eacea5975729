import Derived.Test.YtadmoackacickaaXAM
/- FnExactPrint, as the small evaluator runs it. -/
set_option linter.unusedSimpArgs false
namespace Go.Proofs.Ytadmoackacickaa
open Go Go.AH

theorem KSg.ext {e : TypeId} {c : Nat} {h g : AHeap} {v : Value} {ns : List Kn} (x : KSg e c h v ns) (k : Ext c h g) : KSg e c g v ns := by
  rcases x with x | x | ⟨i, o, a1, a2, a6, a3, a4, a5⟩
  · exact .inl x
  · exact .inr (.inl x)
  · exact .inr (.inr ⟨i, o, a1, k.at? a3 a2, a6, a3, a4, fun j n hn => let ⟨kv, a, b⟩ := a5 j n hn; ⟨kv, a, b.ext k⟩⟩)
theorem RowE.ext' {h g : AHeap} {i : Nat} {e : TypeId} {cs : List Value} (x : RowE h i e cs) (k : Ext h.size h g) : RowE g i e cs := let ⟨o, a, b, c⟩ := x; ⟨o, k.at? (at?_obj a).2.1 a, b, c⟩
theorem l11 {d : Nat} (hd : 1048577 < d) {nv : Value} {T : List Kn} {top : Int} {h : AHeap} (x : KSg 133 h.size h nv T) (hb : T.length ≤ bigT) (hN : ∀ n ∈ T, okK n) :
    ∃ h', call Try.prog Ms (d + 16010 + 9) 11 [trVal nv top] h = some (.bool true, h') := by
  have hcall : call Try.prog Ms (d + 16010 + 9) 11 [trVal nv top] h = evFn hk0 Try.prog (call Try.prog Ms (d + 16010 + 8)) M11 (d + 16010 + 8) Try.f11 [trVal nv top] h := c11 (d + 16010 + 8) _ _
  rw [hcall, e11, tr_aCells x.ksl, Option.bind_some]
  have e1 := Ext.new (Nat.le_refl h.size) 30 [nv, .int .i64 top]
  have r1 := RowE.new h 30 [nv, .int .i64 top]
  simp only [aNew]
  have x1 := (x.ext e1).mono e1.size
  generalize h.new 30 [nv, .int .i64 top] = h1 at e1 r1 x1 ⊢
  have a1 : aLdN h1 (ptr h.size 0) 2 = some (trVal nv top) := (ld2 r1.row).2.2
  obtain ⟨h2, c2, e2⟩ := l19 (d := d + 16010 + 4) (by omega) (top := top) x1.ksl (Nat.le_refl _) hN hb
  have c2' : call Try.prog Ms (d + 16010 + 8) 19 [trVal nv top, .int .i64 1048576] h1 = _ := c2
  by_cases hs : szT T 1048576 < 0
  · rw [if_pos hs] at c2'
    exact ⟨h2, eb a1 (eb c2' (eb rfl (ect rfl rfl)))⟩
  rw [if_neg hs] at c2'
  obtain ⟨hT, hK⟩ := szT_ok (ns := T) (by omega)
  have r2 := r1.ext' e2
  have x2 := (x1.ext e2).mono e2.size
  have a2 : aLdN h2 (ptr h.size 0) 2 = some (trVal nv top) := (ld2 r2.row).2.2
  obtain ⟨na, h3, c3, e3, k3⟩ := l21 (d := d + 16010 + 4) (by omega) (top := top) x2.ksl (Nat.le_refl _) hT hK
  have c3' : call Try.prog Ms (d + 16010 + 8) 21 [trVal nv top] h2 = _ := c3
  obtain ⟨h4, c4', e4⟩ := l45 (d := d + 3000) (by omega) (top := top) k3.kse hT hK
  rw [show d + 3000 + 13010 + 8 = d + 16010 + 8 by omega] at c4'
  have r4 := (r2.ext' e3).ext' e4
  have x4 := (((x2.ext e3).mono e3.size).ext e4).mono e4.size
  have a4 : aLdN h4 (ptr h.size 0) 2 = some (trVal nv top) := (ld2 r4.row).2.2
  obtain ⟨nb, h5, c5, e5, k5⟩ := l21 (d := d + 16010 + 4) (by omega) (top := top) x4.ksl (Nat.le_refl _) hT hK
  have c5' : call Try.prog Ms (d + 16010 + 8) 21 [trVal nv top] h4 = _ := c5
  have e6 := Ext.new (Nat.le_refl h5.size) 35 [.slice none 0 0, .int .i64 0]
  have o6 := Own.new (Nat.le_refl h5.size) 35 [.slice none 0 0, .int .i64 0]
  have k6 := k5.ext e6
  generalize hg6 : h5.new 35 [.slice none 0 0, .int .i64 0] = h6 at e6 o6 k6
  obtain ⟨h7, t7, e7, o7, s7, q7⟩ := Own.stX o6 (off := 0) (n := 2) (v := trVal nb top) (tr_aCells k6.ksl top) rfl (by show 0 + 2 ≤ 2; omega)
  have k7 := k6.keep (e := 35) (by decide) (by decide) q7
  have E57 : Ext h5.size h5 h7 := e6.trans e7
  have r7 : RowE h7 h5.size 35 [nb, .int .i64 top] := Own.rowE o7
  have a7 : aLdN h7 (ptr h5.size 0) 2 = some (trVal nb top) := (ld2 r7.row).2.2
  obtain ⟨h8, c8, S8⟩ := l46 hd (top := top) k7.kse hT hK
  have r7' := (r4.ext' e5).ext' E57
  have x7 := ((x4.ext e5).mono e5.size |>.ext E57).mono E57.size
  have r8 := r7'.sf S8 (by decide) (by decide)
  have x8 := (x7.sf (by decide) (by decide) S8).mono S8.1
  have rb8 := r7.sf S8 (by decide) (by decide)
  have kb8 := (k7.kse.lf S8.lf).mono S8.1
  have a8 : aLdN h8 (ptr h.size 0) 2 = some (trVal nv top) := (ld2 r8.row).2.2
  have ab8 : aLdN h8 (ptr h5.size 0) 2 = some (trVal nb top) := (ld2 rb8.row).2.2
  obtain ⟨nc, h9, c9, e9, k9⟩ := l21 (d := d + 16010 + 4) (by omega) (top := top) x8.ksl (Nat.le_refl _) hT hK
  have c9' : call Try.prog Ms (d + 16010 + 8) 21 [trVal nv top] h8 = _ := c9
  have rb9 := rb8.ext' e9
  have ab9 : aLdN h9 (ptr h5.size 0) 2 = some (trVal nb top) := (ld2 rb9.row).2.2
  have kb9 := (kb8.lf (SF.ext e9).lf).mono e9.size
  obtain ⟨h10, c10, e10⟩ := l23 (d := d + 16010 + 4) (by omega) (top := top) kb9.ksl k9.ksl (Nat.le_refl _) hT hK
  have c10' : call Try.prog Ms (d + 16010 + 8) 23 [trVal nb top, trVal nc top] h9 = _ := c10
  have hstr : (!((prS T top).toList == (prS T top).toList)) = false := by simp
  have hbb : (!(specOk T top == specOk T top)) = false := by simp
  refine ⟨h10, ?_⟩
  refine eb a1 (eb c2' (eb rfl (ecf (decide_eq_false hs) (eb a2 (eb c3' (eb c4' (eb rfl (eb rfl (eb rfl (eb rfl (eb a4 (eb c5' ?_))))))))))))
  rw [hg6]
  refine eb t7 (eb a7 (eb c8 (eb rfl (eb rfl (eb rfl (eb rfl (ecf hstr ?_)))))))
  rw [hbb, s11_0_j, s11_0_eq]
  refine ecf rfl ?_
  rw [s11_1_j, s11_1_eq]
  exact eb ab8 (eb a8 (eb c9' (eb (ag1 ab9) (ect (tr_vbeq kb9.ksl top) (eb c10' (eb rfl (ecf rfl rfl)))))))
end Go.Proofs.Ytadmoackacickaa
