import Derived.Test.YtnjnggejbpkgoaaGreatXAI
import Derived.Test.YtnjnggejbpkgoaaGreatXAE
import Derived.Test.YtnjnggejbpkgoaaGreatXAF
import Derived.Test.YtnjnggejbpkgoaaGreatXAG
set_option linter.unusedSimpArgs false
set_option linter.unusedVariables false
/- Arenas (printed by gw.py). -/
namespace Go.Proofs.YtnjnggejbpkgoaaGreat
open Go Go.AH Go.AM
def mS66_0 (a : Ar) : Nat → List Int → List Int → Int → Int → Int → List Int → Int → Option (Bool × List Int × List Int)
 | 0, _, _, _, _, _, _, _ => none
 | f + 1, is, ml, x2, x3, x9, sx10, x11 =>
  bif decide (x11 < x2) then (rd a.ws x11).bind fun w2 => (m102 w2).bind fun r3 => bif r3.2 then bif (x3 == 2) then bif decide (r3.1 ≥ ((is.length : Int))) then some (false, is, ml) else (rd is r3.1).bind fun w7 => bif w7 != 1 then some (false, is, ml) else bif (decide (r3.1 ∈ sx10)) then some (false, is, ml) else (upd is x11 3).bind fun l11 => (m72 a r3.1).bind fun r12 => bif decide ((IntKind.i64.wrap ((IntKind.i64.wrap (x11 + r12.s)) + 1)) > x2) then some (false, l11, ml) else mS66_0 a f l11 ml x2 x3 (IntKind.i64.wrap ((IntKind.i64.wrap (x9 + r12.s)) + 1)) ((insM sx10 r3.1)) (IntKind.i64.wrap ((IntKind.i64.wrap (x11 + r12.s)) + 1)) else (m103 w2).bind fun r14 => bif !r14.2 then some (false, is, ml) else bif decide (r14.1.n ≥ a.ser) then some (false, is, ml) else bif decide (r14.1.n > 0) then bif (decide (r14.1.n ∈ ml)) then some (false, is, ml) else (upd is x11 x3).bind fun l22 => bif decide ((IntKind.i64.wrap ((IntKind.i64.wrap (x11 + r14.1.s)) + 1)) > x2) then some (false, l22, (insM ml r14.1.n)) else mS66_0 a f l22 ((insM ml r14.1.n)) x2 x3 x9 sx10 (IntKind.i64.wrap ((IntKind.i64.wrap (x11 + r14.1.s)) + 1)) else (upd is x11 x3).bind fun l25 => bif decide ((IntKind.i64.wrap ((IntKind.i64.wrap (x11 + r14.1.s)) + 1)) > x2) then some (false, l25, (insM ml r14.1.n)) else mS66_0 a f l25 ((insM ml r14.1.n)) x2 x3 x9 sx10 (IntKind.i64.wrap ((IntKind.i64.wrap (x11 + r14.1.s)) + 1)) else (m103 w2).bind fun r27 => bif !r27.2 then some (false, is, ml) else bif decide (r27.1.n ≥ a.ser) then some (false, is, ml) else bif decide (r27.1.n > 0) then bif (decide (r27.1.n ∈ ml)) then some (false, is, ml) else (upd is x11 x3).bind fun l35 => bif decide ((IntKind.i64.wrap ((IntKind.i64.wrap (x11 + r27.1.s)) + 1)) > x2) then some (false, l35, (insM ml r27.1.n)) else mS66_0 a f l35 ((insM ml r27.1.n)) x2 x3 x9 sx10 (IntKind.i64.wrap ((IntKind.i64.wrap (x11 + r27.1.s)) + 1)) else (upd is x11 x3).bind fun l38 => bif decide ((IntKind.i64.wrap ((IntKind.i64.wrap (x11 + r27.1.s)) + 1)) > x2) then some (false, l38, (insM ml r27.1.n)) else mS66_0 a f l38 ((insM ml r27.1.n)) x2 x3 x9 sx10 (IntKind.i64.wrap ((IntKind.i64.wrap (x11 + r27.1.s)) + 1)) else bif x3 != 2 then some (true, is, ml) else some (x9 == a.cop, is, ml)
theorem tS66_0 {D N : Nat} {h : AHeap} (hD : 5 ≤ D) (hN : 20000 ≤ N) {wv rv : Value} {a : Ar} (H : ArH h wv rv a) {pa ps ii ir ms : Nat} {vis mb : Value} {F : List FRow} {Q : List ORow} {MQ : List MRow}  : ∀ (f n2 : Nat) (_ : f ≤ n2) (is : List Int) (his : LV vis ii true is.length) (ml : List Int) (x2 : Int) (x3 : Int) (x9 : Int) (mx10 : Nat) (sx10 : List Int) (x11 : Int) (g : AHeap) (_ : Ext h.size h g) (_ : Cx h.size g F (⟨ii, ir, 5, true, is.map (Value.int .u8)⟩ :: ⟨ps, ps, 85, true, [ptr pa 0, vis, .map (some ms), mb]⟩ :: ⟨pa, pa, 29, true, arCells wv rv a⟩ :: Q) ((mx10, sx10) :: (ms, ml) :: MQ)), SmR h (RWm h Value.bool F ii ir (⟨ps, ps, 85, true, [ptr pa 0, vis, .map (some ms), mb]⟩ :: ⟨pa, pa, 29, true, arCells wv rv a⟩ :: Q) ms MQ is.length) (mS66_0 a f is ml x2 x3 x9 sx10 x11) (s60_0 hk0 (call Tp Ms D) N n2 (ptr ps 0) x2 x3 x9 (.map (some mx10)) x11 g) := by
 intro f
 induction f with
 | zero => intros; exact Sm.none
 | succ f ih =>
  intro n2 hf is his ml x2 x3 x9 mx10 sx10 x11 g0 E0 y0
  obtain ⟨n2, rfl⟩ : ∃ k, n2 = k + 1 := ⟨n2 - 1, by omega⟩
  rw [s60_0_eq, mS66_0]
  refine Sm.i (fun k1 => ?_) (fun k1 => ?_)
  ·refine Sm.b rfl ?_
   refine Sm.b rfl ?_
   refine Sm.b (y0.ldO 1 0 rfl rfl) ?_
   refine Sm.b rfl ?_
   refine Sm.b rfl ?_
   refine Sm.b (y0.ldO 2 0 rfl rfl) ?_
   refine Sm.mo fun w2 e2 => ?_
   obtain ⟨q2, i2, l2⟩ := H.w.at e2
   refine Sm.b i2 ?_
   refine Sm.b (l2 _ E0) ?_
   refine Sm.b rfl ?_
   refine Sm.c (t102 (by omega) w2) fun r3 g3 e1003 X3 => ?_
   have y3 := y0.ext X3
   have E3 := E0.trans (X3.mono E0.size)
   refine Sm.b rfl ?_
   refine Sm.b rfl ?_
   refine Sm.b rfl ?_
   refine Sm.b rfl ?_
   refine Sm.i (fun k4 => ?_) (fun k4 => ?_)
   ·rw [s60_1_j, s60_1_eq]
    refine Sm.i (fun k5 => ?_) (fun k5 => ?_)
    ·refine Sm.b rfl ?_
     refine Sm.b rfl ?_
     refine Sm.b (y3.ldO 1 1 rfl rfl) ?_
     refine Sm.b his.len ?_
     refine Sm.b rfl ?_
     refine Sm.i (fun k6 => ?_) (fun k6 => ?_)
     ·rw [s60_2_j, s60_2_eq]
      refine Sm.ct rfl ?_
      exact Sm.fin E3 ⟨rfl, rfl, (y3.pick (.cons_cons _ (.cons_cons _ (.cons_cons _ (.refl _))))).pickM (.cons _ (.cons_cons _ (.refl _)))⟩
     ·refine Sm.b rfl ?_
      refine Sm.b rfl ?_
      refine Sm.b (y3.ldO 1 1 rfl rfl) ?_
      refine Sm.mo fun w7 e1007 => ?_
      refine Sm.b (y3.atS 0 (Value.int .u8) is rfl his e1007).1 ?_
      refine Sm.b (y3.atS 0 (Value.int .u8) is rfl his e1007).2 ?_
      refine Sm.b rfl ?_
      refine Sm.i (fun k8 => ?_) (fun k8 => ?_)
      ·rw [s60_2_j, s60_2_eq]
       refine Sm.ct rfl ?_
       exact Sm.fin E3 ⟨rfl, rfl, (y3.pick (.cons_cons _ (.cons_cons _ (.cons_cons _ (.refl _))))).pickM (.cons _ (.cons_cons _ (.refl _)))⟩
      ·refine Sm.b (y3.mget 0 rfl r3.1) ?_
       refine Sm.b rfl ?_
       rw [s60_2_j, s60_2_eq]
       refine Sm.i (fun k9 => ?_) (fun k9 => ?_)
       ·exact Sm.fin E3 ⟨rfl, rfl, (y3.pick (.cons_cons _ (.cons_cons _ (.cons_cons _ (.refl _))))).pickM (.cons _ (.cons_cons _ (.refl _)))⟩
       ·rw [s60_3_j, s60_3_eq]
        refine Sm.mst y3 0 rfl r3.1 fun g10 X10 y10 => ?_
        have E10 := E3.trans X10
        refine Sm.b rfl ?_
        refine Sm.b rfl ?_
        refine Sm.b (y10.ldO 1 1 rfl rfl) ?_
        refine Sm.upv (Value.int .u8) (cI _) y10 0 is his rfl fun g11 l11 e1011 n11 v11 X11 y11 => ?_
        have E11 := E10.trans X11
        rw [← n11]
        refine Sm.b rfl ?_
        refine Sm.b rfl ?_
        refine Sm.b (y11.ldO 1 0 rfl rfl) ?_
        refine Sm.c (t72 (by omega) (H.ext E11) (y11.rowO 2 rfl) r3.1) fun r12 g12 e1012 X12 => ?_
        have y12 := y11.ext X12
        have E12 := E11.trans (X12.mono E11.size)
        refine Sm.b rfl ?_
        refine Sm.b rfl ?_
        rw [s60_6_j, s60_6_eq]
        refine Sm.i (fun k13 => ?_) (fun k13 => ?_)
        ·exact Sm.fin E12 ⟨rfl, rfl, (y12.pick (.cons_cons _ (.cons_cons _ (.cons_cons _ (.refl _))))).pickM (.cons _ (.cons_cons _ (.refl _)))⟩
        ·exact ih _ (by omega) l11 v11 ml x2 x3 (IntKind.i64.wrap ((IntKind.i64.wrap (x9 + r12.s)) + 1)) _ ((insM sx10 r3.1)) (IntKind.i64.wrap ((IntKind.i64.wrap (x11 + r12.s)) + 1)) _ E12 ((y12.pick (.cons_cons _ (.cons_cons _ (.cons_cons _ (.refl _))))).pickM (.cons_cons _ (.cons_cons _ (.refl _))))
    ·refine Sm.b rfl ?_
     refine Sm.b rfl ?_
     refine Sm.b (y3.ldO 1 0 rfl rfl) ?_
     refine Sm.b rfl ?_
     refine Sm.b rfl ?_
     refine Sm.b (y3.ldO 2 0 rfl rfl) ?_
     refine Sm.b i2 ?_
     refine Sm.b (l2 _ E3) ?_
     refine Sm.b rfl ?_
     refine Sm.c (t103 (by omega) w2) fun r14 g14 e9 X14 => ?_
     have y14 := y3.ext X14
     have E14 := E3.trans (X14.mono E3.size)
     refine Sm.b rfl ?_
     refine Sm.b rfl ?_
     refine Sm.b rfl ?_
     refine Sm.n y14 fun p15 g15 X15 y15 => ?_
     have E15 := E14.trans (X15.mono E14.size)
     refine Sm.st y15 0 rfl rfl rfl (by simp [splice]) fun g16 X16 y16 => ?_
     have E16 := E15.trans X16
     refine Sm.i (fun k17 => ?_) (fun k17 => ?_)
     ·rw [s60_4_j, s60_4_eq]
      refine Sm.ct rfl ?_
      exact Sm.fin E16 ⟨rfl, rfl, (y16.pick (.cons _ (.cons_cons _ (.cons_cons _ (.cons_cons _ (.refl _)))))).pickM (.cons _ (.cons_cons _ (.refl _)))⟩
     ·refine Sm.b rfl ?_
      refine Sm.b (y16.ldO 0 2 rfl rfl) ?_
      refine Sm.b rfl ?_
      refine Sm.b rfl ?_
      refine Sm.b rfl ?_
      refine Sm.b (y16.ldO 2 0 rfl rfl) ?_
      refine Sm.b rfl ?_
      refine Sm.b rfl ?_
      refine Sm.b (y16.ldO 3 8 rfl rfl) ?_
      refine Sm.b rfl ?_
      refine Sm.i (fun k18 => ?_) (fun k18 => ?_)
      ·rw [s60_4_j, s60_4_eq]
       refine Sm.ct rfl ?_
       exact Sm.fin E16 ⟨rfl, rfl, (y16.pick (.cons _ (.cons_cons _ (.cons_cons _ (.cons_cons _ (.refl _)))))).pickM (.cons _ (.cons_cons _ (.refl _)))⟩
      ·refine Sm.b rfl ?_
       refine Sm.b (y16.ldO 0 2 rfl rfl) ?_
       refine Sm.b rfl ?_
       refine Sm.i (fun k19 => ?_) (fun k19 => ?_)
       ·refine Sm.b rfl ?_
        refine Sm.b rfl ?_
        refine Sm.b (y16.ldO 2 2 rfl rfl) ?_
        refine Sm.b rfl ?_
        refine Sm.b (y16.ldO 0 2 rfl rfl) ?_
        refine Sm.b rfl ?_
        refine Sm.b (y16.mget 1 rfl r14.1.n) ?_
        refine Sm.b rfl ?_
        rw [s60_4_j, s60_4_eq]
        refine Sm.i (fun k20 => ?_) (fun k20 => ?_)
        ·exact Sm.fin E16 ⟨rfl, rfl, (y16.pick (.cons _ (.cons_cons _ (.cons_cons _ (.cons_cons _ (.refl _)))))).pickM (.cons _ (.cons_cons _ (.refl _)))⟩
        ·rw [s60_5_j, s60_5_eq]
         refine Sm.b rfl ?_
         refine Sm.b rfl ?_
         refine Sm.b (y16.ldO 2 2 rfl rfl) ?_
         refine Sm.b rfl ?_
         refine Sm.b (y16.ldO 0 2 rfl rfl) ?_
         refine Sm.b rfl ?_
         refine Sm.mst y16 1 rfl r14.1.n fun g21 X21 y21 => ?_
         have E21 := E16.trans X21
         refine Sm.b rfl ?_
         refine Sm.b rfl ?_
         refine Sm.b (y21.ldO 2 1 rfl rfl) ?_
         refine Sm.upv (Value.int .u8) (cI _) y21 1 is his rfl fun g22 l22 e1022 n22 v22 X22 y22 => ?_
         have E22 := E21.trans X22
         rw [← n22]
         refine Sm.b rfl ?_
         refine Sm.b (y22.ldO 0 1 rfl rfl) ?_
         refine Sm.b rfl ?_
         rw [s60_6_j, s60_6_eq]
         refine Sm.i (fun k23 => ?_) (fun k23 => ?_)
         ·exact Sm.fin E22 ⟨rfl, rfl, (y22.pick (.cons _ (.cons_cons _ (.cons_cons _ (.cons_cons _ (.refl _)))))).pickM (.cons _ (.cons_cons _ (.refl _)))⟩
         ·exact ih _ (by omega) l22 v22 ((insM ml r14.1.n)) x2 x3 x9 _ sx10 (IntKind.i64.wrap ((IntKind.i64.wrap (x11 + r14.1.s)) + 1)) _ E22 ((y22.pick (.cons _ (.cons_cons _ (.cons_cons _ (.cons_cons _ (.refl _)))))).pickM (.cons_cons _ (.cons_cons _ (.refl _))))
       ·rw [s60_4_j, s60_4_eq]
        refine Sm.cf rfl ?_
        rw [s60_5_j, s60_5_eq]
        refine Sm.b rfl ?_
        refine Sm.b rfl ?_
        refine Sm.b (y16.ldO 2 2 rfl rfl) ?_
        refine Sm.b rfl ?_
        refine Sm.b (y16.ldO 0 2 rfl rfl) ?_
        refine Sm.b rfl ?_
        refine Sm.mst y16 1 rfl r14.1.n fun g24 X24 y24 => ?_
        have E24 := E16.trans X24
        refine Sm.b rfl ?_
        refine Sm.b rfl ?_
        refine Sm.b (y24.ldO 2 1 rfl rfl) ?_
        refine Sm.upv (Value.int .u8) (cI _) y24 1 is his rfl fun g25 l25 e1025 n25 v25 X25 y25 => ?_
        have E25 := E24.trans X25
        rw [← n25]
        refine Sm.b rfl ?_
        refine Sm.b (y25.ldO 0 1 rfl rfl) ?_
        refine Sm.b rfl ?_
        rw [s60_6_j, s60_6_eq]
        refine Sm.i (fun k26 => ?_) (fun k26 => ?_)
        ·exact Sm.fin E25 ⟨rfl, rfl, (y25.pick (.cons _ (.cons_cons _ (.cons_cons _ (.cons_cons _ (.refl _)))))).pickM (.cons _ (.cons_cons _ (.refl _)))⟩
        ·exact ih _ (by omega) l25 v25 ((insM ml r14.1.n)) x2 x3 x9 _ sx10 (IntKind.i64.wrap ((IntKind.i64.wrap (x11 + r14.1.s)) + 1)) _ E25 ((y25.pick (.cons _ (.cons_cons _ (.cons_cons _ (.cons_cons _ (.refl _)))))).pickM (.cons_cons _ (.cons_cons _ (.refl _))))
   ·rw [s60_1_j, s60_1_eq]
    refine Sm.cf rfl ?_
    refine Sm.b rfl ?_
    refine Sm.b rfl ?_
    refine Sm.b (y3.ldO 1 0 rfl rfl) ?_
    refine Sm.b rfl ?_
    refine Sm.b rfl ?_
    refine Sm.b (y3.ldO 2 0 rfl rfl) ?_
    refine Sm.b i2 ?_
    refine Sm.b (l2 _ E3) ?_
    refine Sm.b rfl ?_
    refine Sm.c (t103 (by omega) w2) fun r27 g27 e12 X27 => ?_
    have y27 := y3.ext X27
    have E27 := E3.trans (X27.mono E3.size)
    refine Sm.b rfl ?_
    refine Sm.b rfl ?_
    refine Sm.b rfl ?_
    refine Sm.n y27 fun p28 g28 X28 y28 => ?_
    have E28 := E27.trans (X28.mono E27.size)
    refine Sm.st y28 0 rfl rfl rfl (by simp [splice]) fun g29 X29 y29 => ?_
    have E29 := E28.trans X29
    refine Sm.i (fun k30 => ?_) (fun k30 => ?_)
    ·rw [s60_4_j, s60_4_eq]
     refine Sm.ct rfl ?_
     exact Sm.fin E29 ⟨rfl, rfl, (y29.pick (.cons _ (.cons_cons _ (.cons_cons _ (.cons_cons _ (.refl _)))))).pickM (.cons _ (.cons_cons _ (.refl _)))⟩
    ·refine Sm.b rfl ?_
     refine Sm.b (y29.ldO 0 2 rfl rfl) ?_
     refine Sm.b rfl ?_
     refine Sm.b rfl ?_
     refine Sm.b rfl ?_
     refine Sm.b (y29.ldO 2 0 rfl rfl) ?_
     refine Sm.b rfl ?_
     refine Sm.b rfl ?_
     refine Sm.b (y29.ldO 3 8 rfl rfl) ?_
     refine Sm.b rfl ?_
     refine Sm.i (fun k31 => ?_) (fun k31 => ?_)
     ·rw [s60_4_j, s60_4_eq]
      refine Sm.ct rfl ?_
      exact Sm.fin E29 ⟨rfl, rfl, (y29.pick (.cons _ (.cons_cons _ (.cons_cons _ (.cons_cons _ (.refl _)))))).pickM (.cons _ (.cons_cons _ (.refl _)))⟩
     ·refine Sm.b rfl ?_
      refine Sm.b (y29.ldO 0 2 rfl rfl) ?_
      refine Sm.b rfl ?_
      refine Sm.i (fun k32 => ?_) (fun k32 => ?_)
      ·refine Sm.b rfl ?_
       refine Sm.b rfl ?_
       refine Sm.b (y29.ldO 2 2 rfl rfl) ?_
       refine Sm.b rfl ?_
       refine Sm.b (y29.ldO 0 2 rfl rfl) ?_
       refine Sm.b rfl ?_
       refine Sm.b (y29.mget 1 rfl r27.1.n) ?_
       refine Sm.b rfl ?_
       rw [s60_4_j, s60_4_eq]
       refine Sm.i (fun k33 => ?_) (fun k33 => ?_)
       ·exact Sm.fin E29 ⟨rfl, rfl, (y29.pick (.cons _ (.cons_cons _ (.cons_cons _ (.cons_cons _ (.refl _)))))).pickM (.cons _ (.cons_cons _ (.refl _)))⟩
       ·rw [s60_5_j, s60_5_eq]
        refine Sm.b rfl ?_
        refine Sm.b rfl ?_
        refine Sm.b (y29.ldO 2 2 rfl rfl) ?_
        refine Sm.b rfl ?_
        refine Sm.b (y29.ldO 0 2 rfl rfl) ?_
        refine Sm.b rfl ?_
        refine Sm.mst y29 1 rfl r27.1.n fun g34 X34 y34 => ?_
        have E34 := E29.trans X34
        refine Sm.b rfl ?_
        refine Sm.b rfl ?_
        refine Sm.b (y34.ldO 2 1 rfl rfl) ?_
        refine Sm.upv (Value.int .u8) (cI _) y34 1 is his rfl fun g35 l35 e108 n35 v35 X35 y35 => ?_
        have E35 := E34.trans X35
        rw [← n35]
        refine Sm.b rfl ?_
        refine Sm.b (y35.ldO 0 1 rfl rfl) ?_
        refine Sm.b rfl ?_
        rw [s60_6_j, s60_6_eq]
        refine Sm.i (fun k36 => ?_) (fun k36 => ?_)
        ·exact Sm.fin E35 ⟨rfl, rfl, (y35.pick (.cons _ (.cons_cons _ (.cons_cons _ (.cons_cons _ (.refl _)))))).pickM (.cons _ (.cons_cons _ (.refl _)))⟩
        ·exact ih _ (by omega) l35 v35 ((insM ml r27.1.n)) x2 x3 x9 _ sx10 (IntKind.i64.wrap ((IntKind.i64.wrap (x11 + r27.1.s)) + 1)) _ E35 ((y35.pick (.cons _ (.cons_cons _ (.cons_cons _ (.cons_cons _ (.refl _)))))).pickM (.cons_cons _ (.cons_cons _ (.refl _))))
      ·rw [s60_4_j, s60_4_eq]
       refine Sm.cf rfl ?_
       rw [s60_5_j, s60_5_eq]
       refine Sm.b rfl ?_
       refine Sm.b rfl ?_
       refine Sm.b (y29.ldO 2 2 rfl rfl) ?_
       refine Sm.b rfl ?_
       refine Sm.b (y29.ldO 0 2 rfl rfl) ?_
       refine Sm.b rfl ?_
       refine Sm.mst y29 1 rfl r27.1.n fun g37 X37 y37 => ?_
       have E37 := E29.trans X37
       refine Sm.b rfl ?_
       refine Sm.b rfl ?_
       refine Sm.b (y37.ldO 2 1 rfl rfl) ?_
       refine Sm.upv (Value.int .u8) (cI _) y37 1 is his rfl fun g38 l38 e1038 n38 v38 X38 y38 => ?_
       have E38 := E37.trans X38
       rw [← n38]
       refine Sm.b rfl ?_
       refine Sm.b (y38.ldO 0 1 rfl rfl) ?_
       refine Sm.b rfl ?_
       rw [s60_6_j, s60_6_eq]
       refine Sm.i (fun k39 => ?_) (fun k39 => ?_)
       ·exact Sm.fin E38 ⟨rfl, rfl, (y38.pick (.cons _ (.cons_cons _ (.cons_cons _ (.cons_cons _ (.refl _)))))).pickM (.cons _ (.cons_cons _ (.refl _)))⟩
       ·exact ih _ (by omega) l38 v38 ((insM ml r27.1.n)) x2 x3 x9 _ sx10 (IntKind.i64.wrap ((IntKind.i64.wrap (x11 + r27.1.s)) + 1)) _ E38 ((y38.pick (.cons _ (.cons_cons _ (.cons_cons _ (.cons_cons _ (.refl _)))))).pickM (.cons_cons _ (.cons_cons _ (.refl _))))
  ·refine Sm.i (fun k40 => ?_) (fun k40 => ?_)
   ·exact Sm.fin E0 ⟨rfl, rfl, (y0.pick (.cons_cons _ (.cons_cons _ (.cons_cons _ (.refl _))))).pickM (.cons _ (.cons_cons _ (.refl _)))⟩
   ·refine Sm.b rfl ?_
    refine Sm.b rfl ?_
    refine Sm.b (y0.ldO 1 0 rfl rfl) ?_
    refine Sm.b rfl ?_
    refine Sm.b rfl ?_
    refine Sm.b (y0.ldO 2 7 rfl rfl) ?_
    refine Sm.b rfl ?_
    exact Sm.fin E0 ⟨rfl, rfl, (y0.pick (.cons_cons _ (.cons_cons _ (.cons_cons _ (.refl _))))).pickM (.cons _ (.cons_cons _ (.refl _)))⟩
def m66 (a : Ar) (is ml : List Int) (fr : Int) (to : Int) (mk : Int) : Option (Bool × List Int × List Int) :=
 mS66_0 a 20000 is ml to mk 0 (([] : List Int)) fr
theorem t66 {D : Nat} {h : AHeap} (hD : 20001 ≤ D) {wv rv : Value} {a : Ar} (H : ArH h wv rv a) {pa ps ii ir ms : Nat} {vis mb : Value} {F : List FRow} {Q : List ORow} {MQ : List MRow} (is : List Int) (his : LV vis ii true is.length) (ml : List Int) (fr : Int) (to : Int) (mk : Int) (g0 : AHeap) (E0 : Ext h.size h g0) (y0 : Cx h.size g0 F (⟨ii, ir, 5, true, is.map (Value.int .u8)⟩ :: ⟨ps, ps, 85, true, [ptr pa 0, vis, .map (some ms), mb]⟩ :: ⟨pa, pa, 29, true, arCells wv rv a⟩ :: Q) ((ms, ml) :: MQ)) : SmR h (RWm h Value.bool F ii ir (⟨ps, ps, 85, true, [ptr pa 0, vis, .map (some ms), mb]⟩ :: ⟨pa, pa, 29, true, arCells wv rv a⟩ :: Q) ms MQ is.length) (m66 a is ml fr to mk) (call Tp Ms D 60 [ptr ps 0, .int .i64 fr, .int .i64 to, .int .u8 mk] g0) := by
 obtain ⟨D, rfl⟩ : ∃ d, D = d + 1 := ⟨D - 1, by omega⟩
 rw [c60, e60]
 unfold m66
 refine Sm.nM y0 fun p1 g1 X1 y1 => ?_
 have E1 := E0.trans (X1.mono E0.size)
 exact tS66_0 (by omega) (by omega) H 20000 _ (by omega) is his ml to mk 0 _ (([] : List Int)) fr _ E1 ((y1.pick (.cons_cons _ (.cons_cons _ (.cons_cons _ (.refl _))))).pickM (.cons_cons _ (.cons_cons _ (.refl _))))
def mS105_0 (a : Ar) : Nat → List Int → List Int → Int → Int → Int → Int → Int → Int → Option (Bool × List Int)
 | 0, _, _, _, _, _, _, _, _ => none
 | f + 1, is, ml, x5, x7, x8, x9, x62, x63 =>
  bif decide (x63 < x62) then (m114 a (IntKind.i64.wrap ((IntKind.i64.wrap (x7 + 1)) + (IntKind.i64.wrap (4 * x63))))).bind fun r2 => bif r2.t == 0 then mS105_0 a f is ml x5 x7 x8 x9 x62 (IntKind.i64.wrap (x63 + 1)) else (m136 a x7 ⟨r2.t, r2.n⟩).bind fun r6 => bif r6.1 != x63 then some (false, ml) else mS105_0 a f is ml x5 x7 (IntKind.i64.wrap (x8 + 1)) x9 x62 (IntKind.i64.wrap (x63 + 1)) else bif (IntKind.u64.wrap x8) == x5 then some (decide ((IntKind.i64.wrap (4 * x8)) ≤ (IntKind.i64.wrap (3 * x9))), ml) else some (false, ml)
theorem tS105_0 {D N : Nat} {h : AHeap} (hD : 20003 ≤ D) (hN : 20000 ≤ N) {wv rv : Value} {a : Ar} (H : ArH h wv rv a) {pa ps ii ir mb : Nat} {vis ms : Value} {F : List FRow} {Q : List ORow} {MQ : List MRow}  : ∀ (f n2 : Nat) (_ : f ≤ n2) (is : List Int) (his : LV vis ii true is.length) (ml : List Int) (x5 : Int) (x7 : Int) (x8 : Int) (x9 : Int) (x62 : Int) (x63 : Int) (g : AHeap) (_ : Ext h.size h g) (_ : Cx h.size g F (⟨ii, ir, 5, true, is.map (Value.int .u8)⟩ :: ⟨ps, ps, 85, true, [ptr pa 0, vis, ms, .map (some mb)]⟩ :: ⟨pa, pa, 29, true, arCells wv rv a⟩ :: Q) ((mb, ml) :: MQ)), SmR h (RMb h Value.bool F (⟨ii, ir, 5, true, is.map (Value.int .u8)⟩ :: ⟨ps, ps, 85, true, [ptr pa 0, vis, ms, .map (some mb)]⟩ :: ⟨pa, pa, 29, true, arCells wv rv a⟩ :: Q) mb MQ) (mS105_0 a f is ml x5 x7 x8 x9 x62 x63) (s86_0 hk0 (call Tp Ms D) N n2 (ptr ps 0) x5 x7 x8 x9 x62 x63 g) := by
 intro f
 induction f with
 | zero => intros; exact Sm.none
 | succ f ih =>
  intro n2 hf is his ml x5 x7 x8 x9 x62 x63 g0 E0 y0
  obtain ⟨n2, rfl⟩ : ∃ k, n2 = k + 1 := ⟨n2 - 1, by omega⟩
  rw [s86_0_eq, mS105_0]
  refine Sm.i (fun k1 => ?_) (fun k1 => ?_)
  ·refine Sm.b rfl ?_
   refine Sm.b rfl ?_
   refine Sm.b (y0.ldO 1 0 rfl rfl) ?_
   refine Sm.c (t114 (by omega) (H.ext E0) (y0.rowO 2 rfl) (IntKind.i64.wrap ((IntKind.i64.wrap (x7 + 1)) + (IntKind.i64.wrap (4 * x63))))) fun r2 g2 e2 X2 => ?_
   have y2 := y0.ext X2
   have E2 := E0.trans (X2.mono E0.size)
   refine Sm.n y2 fun p3 g3 X3 y3 => ?_
   have E3 := E2.trans (X3.mono E2.size)
   refine Sm.st y3 0 rfl rfl rfl (by simp [splice]) fun g4 X4 y4 => ?_
   have E4 := E3.trans X4
   refine Sm.b rfl ?_
   refine Sm.b (y4.ldO 0 0 rfl rfl) ?_
   refine Sm.b rfl ?_
   refine Sm.i (fun k5 => ?_) (fun k5 => ?_)
   ·exact ih _ (by omega) is his ml x5 x7 x8 x9 x62 (IntKind.i64.wrap (x63 + 1)) _ E4 ((y4.pick (.cons _ (.cons_cons _ (.cons_cons _ (.cons_cons _ (.refl _)))))).pickM (.cons_cons _ (.refl _)))
   ·refine Sm.b rfl ?_
    refine Sm.b rfl ?_
    refine Sm.b (y4.ldO 2 0 rfl rfl) ?_
    refine Sm.b (y4.ldON 0 rfl rfl) ?_
    refine Sm.c (t136 (by omega) (H.ext E4) (y4.rowO 3 rfl) x7 ⟨r2.t, r2.n⟩) fun r6 g6 e4 X6 => ?_
    have y6 := y4.ext X6
    have E6 := E4.trans (X6.mono E4.size)
    refine Sm.b rfl ?_
    refine Sm.b rfl ?_
    refine Sm.b rfl ?_
    refine Sm.b rfl ?_
    refine Sm.i (fun k7 => ?_) (fun k7 => ?_)
    ·exact Sm.fin E6 ⟨rfl, (y6.pick (.cons _ (.cons_cons _ (.cons_cons _ (.cons_cons _ (.refl _)))))).pickM (.cons_cons _ (.refl _))⟩
    ·exact ih _ (by omega) is his ml x5 x7 (IntKind.i64.wrap (x8 + 1)) x9 x62 (IntKind.i64.wrap (x63 + 1)) _ E6 ((y6.pick (.cons _ (.cons_cons _ (.cons_cons _ (.cons_cons _ (.refl _)))))).pickM (.cons_cons _ (.refl _)))
  ·refine Sm.i (fun k8 => ?_) (fun k8 => ?_)
   ·exact Sm.fin E0 ⟨rfl, (y0.pick (.cons_cons _ (.cons_cons _ (.cons_cons _ (.refl _))))).pickM (.cons_cons _ (.refl _))⟩
   ·exact Sm.fin E0 ⟨rfl, (y0.pick (.cons_cons _ (.cons_cons _ (.cons_cons _ (.refl _))))).pickM (.cons_cons _ (.refl _))⟩
def m105 (a : Ar) (is ml : List Int) (p : Int) : Option (Bool × List Int) :=
 (rd a.ws (IntKind.i64.wrap (p + 1))).bind fun w1 => (m114 a (IntKind.i64.wrap (p + 2))).bind fun r2 => bif r2.t == 0 then some (w1 == 0, ml) else (m71 a ⟨r2.t, r2.n⟩).bind fun r6 => bif (decide (r6 ∈ ml)) then some (false, ml) else (m72 a r6).bind fun r9 => mS105_0 a 20000 is ((insM ml r6)) w1 r6 0 (IntKind.i64.wrap (Int.tdiv r9.s 4)) (IntKind.i64.wrap (Int.tdiv r9.s 4)) 0
theorem t105 {D : Nat} {h : AHeap} (hD : 20004 ≤ D) {wv rv : Value} {a : Ar} (H : ArH h wv rv a) {pa ps ii ir mb : Nat} {vis ms : Value} {F : List FRow} {Q : List ORow} {MQ : List MRow} (is : List Int) (his : LV vis ii true is.length) (ml : List Int) (p : Int) (g0 : AHeap) (E0 : Ext h.size h g0) (y0 : Cx h.size g0 F (⟨ii, ir, 5, true, is.map (Value.int .u8)⟩ :: ⟨ps, ps, 85, true, [ptr pa 0, vis, ms, .map (some mb)]⟩ :: ⟨pa, pa, 29, true, arCells wv rv a⟩ :: Q) ((mb, ml) :: MQ)) : SmR h (RMb h Value.bool F (⟨ii, ir, 5, true, is.map (Value.int .u8)⟩ :: ⟨ps, ps, 85, true, [ptr pa 0, vis, ms, .map (some mb)]⟩ :: ⟨pa, pa, 29, true, arCells wv rv a⟩ :: Q) mb MQ) (m105 a is ml p) (call Tp Ms D 86 [ptr ps 0, .int .i64 p] g0) := by
 obtain ⟨D, rfl⟩ : ∃ d, D = d + 1 := ⟨D - 1, by omega⟩
 rw [c86, e86]
 unfold m105
 refine Sm.b rfl ?_
 refine Sm.b rfl ?_
 refine Sm.b (y0.ldO 1 0 rfl rfl) ?_
 refine Sm.b rfl ?_
 refine Sm.b rfl ?_
 refine Sm.b (y0.ldO 2 0 rfl rfl) ?_
 refine Sm.mo fun w1 e1 => ?_
 obtain ⟨q1, i1, l1⟩ := H.w.at e1
 refine Sm.b i1 ?_
 refine Sm.b (l1 _ E0) ?_
 refine Sm.b rfl ?_
 refine Sm.b rfl ?_
 refine Sm.b rfl ?_
 refine Sm.b (y0.ldO 1 0 rfl rfl) ?_
 refine Sm.c (t114 (by omega) (H.ext E0) (y0.rowO 2 rfl) (IntKind.i64.wrap (p + 2))) fun r2 g2 e2 X2 => ?_
 have y2 := y0.ext X2
 have E2 := E0.trans (X2.mono E0.size)
 refine Sm.n y2 fun p3 g3 X3 y3 => ?_
 have E3 := E2.trans (X3.mono E2.size)
 refine Sm.st y3 0 rfl rfl rfl (by simp [splice]) fun g4 X4 y4 => ?_
 have E4 := E3.trans X4
 refine Sm.b rfl ?_
 refine Sm.b (y4.ldO 0 0 rfl rfl) ?_
 refine Sm.b rfl ?_
 refine Sm.i (fun k5 => ?_) (fun k5 => ?_)
 ·exact Sm.fin E4 ⟨rfl, (y4.pick (.cons _ (.cons_cons _ (.cons_cons _ (.cons_cons _ (.refl _)))))).pickM (.cons_cons _ (.refl _))⟩
 ·refine Sm.b rfl ?_
  refine Sm.b rfl ?_
  refine Sm.b (y4.ldO 2 0 rfl rfl) ?_
  refine Sm.b (y4.ldON 0 rfl rfl) ?_
  refine Sm.c (t71 (by omega) (H.ext E4) (y4.rowO 3 rfl) ⟨r2.t, r2.n⟩) fun r6 g6 e4 X6 => ?_
  have y6 := y4.ext X6
  have E6 := E4.trans (X6.mono E4.size)
  refine Sm.b rfl ?_
  refine Sm.b rfl ?_
  refine Sm.b rfl ?_
  refine Sm.b (y6.ldO 2 3 rfl rfl) ?_
  refine Sm.b (y6.mget 0 rfl r6) ?_
  refine Sm.b rfl ?_
  refine Sm.i (fun k7 => ?_) (fun k7 => ?_)
  ·exact Sm.fin E6 ⟨rfl, (y6.pick (.cons _ (.cons_cons _ (.cons_cons _ (.cons_cons _ (.refl _)))))).pickM (.cons_cons _ (.refl _))⟩
  ·refine Sm.b rfl ?_
   refine Sm.b rfl ?_
   refine Sm.b (y6.ldO 2 3 rfl rfl) ?_
   refine Sm.mst y6 0 rfl r6 fun g8 X8 y8 => ?_
   have E8 := E6.trans X8
   refine Sm.b rfl ?_
   refine Sm.b rfl ?_
   refine Sm.b (y8.ldO 2 0 rfl rfl) ?_
   refine Sm.c (t72 (by omega) (H.ext E8) (y8.rowO 3 rfl) r6) fun r9 g9 e1009 X9 => ?_
   have y9 := y8.ext X9
   have E9 := E8.trans (X9.mono E8.size)
   refine Sm.b rfl ?_
   refine Sm.b rfl ?_
   exact tS105_0 (by omega) (by omega) H 20000 _ (by omega) is his ((insM ml r6)) w1 r6 0 (IntKind.i64.wrap (Int.tdiv r9.s 4)) (IntKind.i64.wrap (Int.tdiv r9.s 4)) 0 _ E9 ((y9.pick (.cons _ (.cons_cons _ (.cons_cons _ (.cons_cons _ (.refl _)))))).pickM (.cons_cons _ (.refl _)))
def mS69_2 (a : Ar) : Nat → List Int → List Int → Int → Int → Option (Bool × List Int)
 | 0, _, _, _, _ => none
 | f + 1, is, ml, x34, x35 =>
  bif decide (x35 < x34) then (rd is x35).bind fun w2 => bif w2 == 1 then (m72 a x35).bind fun r4 => bif r4.k == 2 then (m105 a is ml x35).bind fun r6 => bif (!r6.1) then some (false, r6.2) else mS69_2 a f is r6.2 x34 (IntKind.i64.wrap (x35 + 1)) else mS69_2 a f is ml x34 (IntKind.i64.wrap (x35 + 1)) else bif w2 == 2 then (m72 a x35).bind fun r9 => bif r9.k == 2 then (m105 a is ml x35).bind fun r11 => bif (!r11.1) then some (false, r11.2) else mS69_2 a f is r11.2 x34 (IntKind.i64.wrap (x35 + 1)) else mS69_2 a f is ml x34 (IntKind.i64.wrap (x35 + 1)) else mS69_2 a f is ml x34 (IntKind.i64.wrap (x35 + 1)) else (m106 a is).bind fun r13 => some (!r13, ml)
theorem tS69_2 {D N : Nat} {h : AHeap} (hD : 20004 ≤ D) (hN : 20000 ≤ N) {wv rv : Value} {a : Ar} (H : ArH h wv rv a) {pa ps ii ir mb : Nat} {vis ms : Value} {F : List FRow} {Q : List ORow} {MQ : List MRow}  : ∀ (f n2 : Nat) (_ : f ≤ n2) (is : List Int) (his : LV vis ii true is.length) (ml : List Int) (px1 : Nat) (x34 : Int) (x35 : Int) (g : AHeap) (_ : Ext h.size h g) (_ : Cx h.size g F (⟨px1, px1, 80, true, [ptr ps 0]⟩ :: ⟨ii, ir, 5, true, is.map (Value.int .u8)⟩ :: ⟨ps, ps, 85, true, [ptr pa 0, vis, ms, .map (some mb)]⟩ :: ⟨pa, pa, 29, true, arCells wv rv a⟩ :: Q) ((mb, ml) :: MQ)), SmR h (RMb h Value.bool F (⟨ii, ir, 5, true, is.map (Value.int .u8)⟩ :: ⟨ps, ps, 85, true, [ptr pa 0, vis, ms, .map (some mb)]⟩ :: ⟨pa, pa, 29, true, arCells wv rv a⟩ :: Q) mb MQ) (mS69_2 a f is ml x34 x35) (s63_2 hk0 (call Tp Ms D) N n2 (ptr px1 0) vis x34 x35 g) := by
 intro f
 induction f with
 | zero => intros; exact Sm.none
 | succ f ih =>
  intro n2 hf is his ml px1 x34 x35 g0 E0 y0
  obtain ⟨n2, rfl⟩ : ∃ k, n2 = k + 1 := ⟨n2 - 1, by omega⟩
  rw [s63_2_eq, mS69_2]
  refine Sm.i (fun k1 => ?_) (fun k1 => ?_)
  ·refine Sm.mo fun w2 e2 => ?_
   refine Sm.b (y0.atS 1 (Value.int .u8) is rfl his e2).1 ?_
   refine Sm.b (y0.atS 1 (Value.int .u8) is rfl his e2).2 ?_
   refine Sm.b rfl ?_
   refine Sm.i (fun k3 => ?_) (fun k3 => ?_)
   ·refine Sm.b (y0.ldO 0 0 rfl rfl) ?_
    refine Sm.b rfl ?_
    refine Sm.b rfl ?_
    refine Sm.b (y0.ldO 2 0 rfl rfl) ?_
    refine Sm.c (t72 (by omega) (H.ext E0) (y0.rowO 3 rfl) x35) fun r4 g4 e1004 X4 => ?_
    have y4 := y0.ext X4
    have E4 := E0.trans (X4.mono E0.size)
    refine Sm.b rfl ?_
    refine Sm.b rfl ?_
    refine Sm.i (fun k5 => ?_) (fun k5 => ?_)
    ·refine Sm.b (y4.ldO 0 0 rfl rfl) ?_
     have Z6 := (((y4.front 3 rfl).front 3 rfl).front 3 rfl)
     refine Sm.cr (g := h) (t105 (by omega) H is his ml x35 _ E4 Z6) fun r6 v6 g6 e4 E6 R6 => ?_
     obtain ⟨rfl, y6⟩ := R6
     have y6 := (y6.front 3 rfl)
     refine Sm.b rfl ?_
     rw [s63_3_j, s63_3_eq]
     refine Sm.i (fun k7 => ?_) (fun k7 => ?_)
     ·exact Sm.fin E6 ⟨rfl, (y6.pick (.cons _ (.cons_cons _ (.cons_cons _ (.cons_cons _ (.refl _)))))).pickM (.cons_cons _ (.refl _))⟩
     ·exact ih _ (by omega) is his r6.2 _ x34 (IntKind.i64.wrap (x35 + 1)) _ E6 ((y6.pick (.cons_cons _ (.cons_cons _ (.cons_cons _ (.cons_cons _ (.refl _)))))).pickM (.cons_cons _ (.refl _)))
    ·rw [s63_3_j, s63_3_eq]
     refine Sm.cf rfl ?_
     exact ih _ (by omega) is his ml _ x34 (IntKind.i64.wrap (x35 + 1)) _ E4 ((y4.pick (.cons_cons _ (.cons_cons _ (.cons_cons _ (.cons_cons _ (.refl _)))))).pickM (.cons_cons _ (.refl _)))
   ·refine Sm.i (fun k8 => ?_) (fun k8 => ?_)
    ·refine Sm.b (y0.ldO 0 0 rfl rfl) ?_
     refine Sm.b rfl ?_
     refine Sm.b rfl ?_
     refine Sm.b (y0.ldO 2 0 rfl rfl) ?_
     refine Sm.c (t72 (by omega) (H.ext E0) (y0.rowO 3 rfl) x35) fun r9 g9 e1009 X9 => ?_
     have y9 := y0.ext X9
     have E9 := E0.trans (X9.mono E0.size)
     refine Sm.b rfl ?_
     refine Sm.b rfl ?_
     refine Sm.i (fun k10 => ?_) (fun k10 => ?_)
     ·refine Sm.b (y9.ldO 0 0 rfl rfl) ?_
      have Z11 := (((y9.front 3 rfl).front 3 rfl).front 3 rfl)
      refine Sm.cr (g := h) (t105 (by omega) H is his ml x35 _ E9 Z11) fun r11 v11 g11 e1011 E11 R11 => ?_
      obtain ⟨rfl, y11⟩ := R11
      have y11 := (y11.front 3 rfl)
      refine Sm.b rfl ?_
      rw [s63_3_j, s63_3_eq]
      refine Sm.i (fun k12 => ?_) (fun k12 => ?_)
      ·exact Sm.fin E11 ⟨rfl, (y11.pick (.cons _ (.cons_cons _ (.cons_cons _ (.cons_cons _ (.refl _)))))).pickM (.cons_cons _ (.refl _))⟩
      ·exact ih _ (by omega) is his r11.2 _ x34 (IntKind.i64.wrap (x35 + 1)) _ E11 ((y11.pick (.cons_cons _ (.cons_cons _ (.cons_cons _ (.cons_cons _ (.refl _)))))).pickM (.cons_cons _ (.refl _)))
     ·rw [s63_3_j, s63_3_eq]
      refine Sm.cf rfl ?_
      exact ih _ (by omega) is his ml _ x34 (IntKind.i64.wrap (x35 + 1)) _ E9 ((y9.pick (.cons_cons _ (.cons_cons _ (.cons_cons _ (.cons_cons _ (.refl _)))))).pickM (.cons_cons _ (.refl _)))
    ·rw [s63_3_j, s63_3_eq]
     refine Sm.cf rfl ?_
     exact ih _ (by omega) is his ml _ x34 (IntKind.i64.wrap (x35 + 1)) _ E0 ((y0.pick (.cons_cons _ (.cons_cons _ (.cons_cons _ (.cons_cons _ (.refl _)))))).pickM (.cons_cons _ (.refl _)))
  ·refine Sm.b (y0.ldO 0 0 rfl rfl) ?_
   refine Sm.b rfl ?_
   refine Sm.b rfl ?_
   refine Sm.b (y0.ldO 2 0 rfl rfl) ?_
   refine Sm.b rfl ?_
   refine Sm.b rfl ?_
   refine Sm.b (y0.ldO 3 9 rfl rfl) ?_
   refine Sm.b rfl ?_
   refine Sm.c (t106 (by omega) (H.ext E0) (y0.rowO 3 rfl) (y0.slI 1 is rfl his) (y0.rowO 2 rfl) (y0.rowO 0 rfl)) fun r13 g13 e1013 X13 => ?_
   have y13 := y0.ext X13
   have E13 := E0.trans (X13.mono E0.size)
   refine Sm.b rfl ?_
   exact Sm.fin E13 ⟨rfl, (y13.pick (.cons _ (.cons_cons _ (.cons_cons _ (.cons_cons _ (.refl _)))))).pickM (.cons_cons _ (.refl _))⟩
def mS69_0 (a : Ar) : Nat → List Int → List Int → Int → Int → Option (Bool × List Int)
 | 0, _, _, _, _ => none
 | f + 1, is, ml, x11, x12 =>
  bif decide (x12 < x11) then (rd is x12).bind fun w2 => bif w2 == 1 then (m104 a is x12).bind fun r4 => bif (!r4) then some (false, ml) else mS69_0 a f is ml x11 (IntKind.i64.wrap (x12 + 1)) else bif w2 == 2 then (m104 a is x12).bind fun r7 => bif (!r7) then some (false, ml) else mS69_0 a f is ml x11 (IntKind.i64.wrap (x12 + 1)) else mS69_0 a f is ml x11 (IntKind.i64.wrap (x12 + 1)) else mS69_2 a 20000 is ml (is.length : Int) 0
theorem tS69_0 {D N : Nat} {h : AHeap} (hD : 20004 ≤ D) (hN : 20000 ≤ N) {wv rv : Value} {a : Ar} (H : ArH h wv rv a) {pa ps ii ir mb : Nat} {vis ms : Value} {F : List FRow} {Q : List ORow} {MQ : List MRow}  : ∀ (f n2 : Nat) (_ : f ≤ n2) (is : List Int) (his : LV vis ii true is.length) (ml : List Int) (px1 : Nat) (x11 : Int) (x12 : Int) (g : AHeap) (_ : Ext h.size h g) (_ : Cx h.size g F (⟨px1, px1, 80, true, [ptr ps 0]⟩ :: ⟨ii, ir, 5, true, is.map (Value.int .u8)⟩ :: ⟨ps, ps, 85, true, [ptr pa 0, vis, ms, .map (some mb)]⟩ :: ⟨pa, pa, 29, true, arCells wv rv a⟩ :: Q) ((mb, ml) :: MQ)), SmR h (RMb h Value.bool F (⟨ii, ir, 5, true, is.map (Value.int .u8)⟩ :: ⟨ps, ps, 85, true, [ptr pa 0, vis, ms, .map (some mb)]⟩ :: ⟨pa, pa, 29, true, arCells wv rv a⟩ :: Q) mb MQ) (mS69_0 a f is ml x11 x12) (s63_0 hk0 (call Tp Ms D) N n2 (ptr px1 0) vis x11 x12 g) := by
 intro f
 induction f with
 | zero => intros; exact Sm.none
 | succ f ih =>
  intro n2 hf is his ml px1 x11 x12 g0 E0 y0
  obtain ⟨n2, rfl⟩ : ∃ k, n2 = k + 1 := ⟨n2 - 1, by omega⟩
  rw [s63_0_eq, mS69_0]
  refine Sm.i (fun k1 => ?_) (fun k1 => ?_)
  ·refine Sm.mo fun w2 e2 => ?_
   refine Sm.b (y0.atS 1 (Value.int .u8) is rfl his e2).1 ?_
   refine Sm.b (y0.atS 1 (Value.int .u8) is rfl his e2).2 ?_
   refine Sm.b rfl ?_
   refine Sm.i (fun k3 => ?_) (fun k3 => ?_)
   ·refine Sm.b (y0.ldO 0 0 rfl rfl) ?_
    refine Sm.c (t104 (by omega) (H.ext E0) (y0.rowO 3 rfl) (y0.slI 1 is rfl his) (y0.rowO 2 rfl) x12) fun r4 g4 e1004 X4 => ?_
    have y4 := y0.ext X4
    have E4 := E0.trans (X4.mono E0.size)
    refine Sm.b rfl ?_
    rw [s63_1_j, s63_1_eq]
    refine Sm.i (fun k5 => ?_) (fun k5 => ?_)
    ·exact Sm.fin E4 ⟨rfl, (y4.pick (.cons _ (.cons_cons _ (.cons_cons _ (.cons_cons _ (.refl _)))))).pickM (.cons_cons _ (.refl _))⟩
    ·exact ih _ (by omega) is his ml _ x11 (IntKind.i64.wrap (x12 + 1)) _ E4 ((y4.pick (.cons_cons _ (.cons_cons _ (.cons_cons _ (.cons_cons _ (.refl _)))))).pickM (.cons_cons _ (.refl _)))
   ·refine Sm.i (fun k6 => ?_) (fun k6 => ?_)
    ·refine Sm.b (y0.ldO 0 0 rfl rfl) ?_
     refine Sm.c (t104 (by omega) (H.ext E0) (y0.rowO 3 rfl) (y0.slI 1 is rfl his) (y0.rowO 2 rfl) x12) fun r7 g7 e1007 X7 => ?_
     have y7 := y0.ext X7
     have E7 := E0.trans (X7.mono E0.size)
     refine Sm.b rfl ?_
     rw [s63_1_j, s63_1_eq]
     refine Sm.i (fun k8 => ?_) (fun k8 => ?_)
     ·exact Sm.fin E7 ⟨rfl, (y7.pick (.cons _ (.cons_cons _ (.cons_cons _ (.cons_cons _ (.refl _)))))).pickM (.cons_cons _ (.refl _))⟩
     ·exact ih _ (by omega) is his ml _ x11 (IntKind.i64.wrap (x12 + 1)) _ E7 ((y7.pick (.cons_cons _ (.cons_cons _ (.cons_cons _ (.cons_cons _ (.refl _)))))).pickM (.cons_cons _ (.refl _)))
    ·rw [s63_1_j, s63_1_eq]
     refine Sm.cf rfl ?_
     exact ih _ (by omega) is his ml _ x11 (IntKind.i64.wrap (x12 + 1)) _ E0 ((y0.pick (.cons_cons _ (.cons_cons _ (.cons_cons _ (.cons_cons _ (.refl _)))))).pickM (.cons_cons _ (.refl _)))
  ·refine Sm.b (y0.ldO 0 0 rfl rfl) ?_
   refine Sm.b rfl ?_
   refine Sm.b rfl ?_
   refine Sm.b (y0.ldO 2 1 rfl rfl) ?_
   refine Sm.b his.len ?_
   refine Sm.b rfl ?_
   exact tS69_2 (by omega) (by omega) H 20000 _ (by omega) is his ml _ (is.length : Int) 0 _ E0 ((y0.pick (.cons_cons _ (.cons_cons _ (.cons_cons _ (.cons_cons _ (.refl _)))))).pickM (.cons_cons _ (.refl _)))
def m69 (a : Ar) (is ml : List Int) : Option (Bool × List Int) :=
 mS69_0 a 20000 is ml (is.length : Int) 0
theorem t69 {D : Nat} {h : AHeap} (hD : 20005 ≤ D) {wv rv : Value} {a : Ar} (H : ArH h wv rv a) {pa ps ii ir mb : Nat} {vis ms : Value} {F : List FRow} {Q : List ORow} {MQ : List MRow} (is : List Int) (his : LV vis ii true is.length) (ml : List Int) (g0 : AHeap) (E0 : Ext h.size h g0) (y0 : Cx h.size g0 F (⟨ii, ir, 5, true, is.map (Value.int .u8)⟩ :: ⟨ps, ps, 85, true, [ptr pa 0, vis, ms, .map (some mb)]⟩ :: ⟨pa, pa, 29, true, arCells wv rv a⟩ :: Q) ((mb, ml) :: MQ)) : SmR h (RMb h Value.bool F (⟨ii, ir, 5, true, is.map (Value.int .u8)⟩ :: ⟨ps, ps, 85, true, [ptr pa 0, vis, ms, .map (some mb)]⟩ :: ⟨pa, pa, 29, true, arCells wv rv a⟩ :: Q) mb MQ) (m69 a is ml) (call Tp Ms D 63 [ptr ps 0] g0) := by
 obtain ⟨D, rfl⟩ : ∃ d, D = d + 1 := ⟨D - 1, by omega⟩
 rw [c63, e63]
 unfold m69
 refine Sm.b rfl ?_
 refine Sm.n y0 fun p1 g1 X1 y1 => ?_
 have E1 := E0.trans (X1.mono E0.size)
 refine Sm.b (y1.ldO 0 0 rfl rfl) ?_
 refine Sm.b rfl ?_
 refine Sm.b rfl ?_
 refine Sm.b (y1.ldO 2 1 rfl rfl) ?_
 refine Sm.b his.len ?_
 refine Sm.b rfl ?_
 exact tS69_0 (by omega) (by omega) H 20000 _ (by omega) is his ml _ (is.length : Int) 0 _ E1 ((y1.pick (.cons_cons _ (.cons_cons _ (.cons_cons _ (.cons_cons _ (.refl _)))))).pickM (.cons_cons _ (.refl _)))
def m33 (a : Ar) : Option (Bool) :=
 (m63 a.semi 256 4000).bind fun r2 => bif !r2 then some false else bif ((a.ws.length : Int)) != (IntKind.i64.wrap (2 * a.semi)) then some false else (m63 a.to 0 1).bind fun r5 => bif !r5 then some false else (m64 a a.to).bind fun r7 => (m65 a a.to).bind fun r8 => (m63 a.top r7 r8).bind fun r9 => bif !r9 then some false else (m63 a.ser 1 1000000000).bind fun r11 => bif !r11 then some false else bif (decide (((a.rs.length : Int)) > 24)) then some false else (mkL (a.ws.length : Int) ((0 : Int))).bind fun l14 => (m64 a a.to).bind fun r18 => (m66 a l14 (([] : List Int)) r18 a.top 1).bind fun r19 => bif !r19.1 then some false else bif !a.cyc then bif a.scan != 0 then some false else bif a.old != 0 then some false else bif (a.cop != 0) then some false else (m69 a r19.2.1 (([] : List Int))).bind fun r25 => some r25.1 else (m67 a).bind fun r26 => (m64 a r26).bind fun r27 => (m63 a.scan 1 a.top).bind fun r28 => bif !r28 then some false else bif a.scan != a.top then (rd r19.2.1 a.scan).bind fun w31 => bif w31 != 1 then some false else (m67 a).bind fun r33 => (m65 a r33).bind fun r34 => (m63 a.old r27 r34).bind fun r35 => bif !r35 then some false else (m66 a r19.2.1 r19.2.2 r27 a.old 2).bind fun r37 => bif !r37.1 then some false else (m68 a).bind fun r39 => (m65 a a.to).bind fun r40 => bif (decide ((IntKind.i64.wrap (a.top + r39)) > r40)) then some false else (m69 a r37.2.1 (([] : List Int))).bind fun r42 => some r42.1 else (m67 a).bind fun r43 => (m65 a r43).bind fun r44 => (m63 a.old r27 r44).bind fun r45 => bif !r45 then some false else (m66 a r19.2.1 r19.2.2 r27 a.old 2).bind fun r47 => bif !r47.1 then some false else (m68 a).bind fun r49 => (m65 a a.to).bind fun r50 => bif (decide ((IntKind.i64.wrap (a.top + r49)) > r50)) then some false else (m69 a r47.2.1 (([] : List Int))).bind fun r52 => some r52.1
theorem t33 {D : Nat} {h : AHeap} (hD : 20006 ≤ D) {wv rv : Value} {a : Ar} (H : ArH h wv rv a) : SmR h (En Value.bool) (m33 a) (call Tp Ms D 26 [arV wv rv a] h) := by
 obtain ⟨D, rfl⟩ : ∃ d, D = d + 1 := ⟨D - 1, by omega⟩
 rw [c26, e26]
 unfold m33
 have y0 := Cx.start0 h
 have E0 := Ext.refl h.size h
 refine Sm.b H.cells ?_
 refine Sm.n y0 fun p1 g1 X1 y1 => ?_
 have E1 := E0.trans (X1.mono E0.size)
 refine Sm.b rfl ?_
 refine Sm.b (y1.ldO 0 1 rfl rfl) ?_
 refine Sm.b rfl ?_
 refine Sm.c (t63 (by omega) a.semi 256 4000) fun r2 g2 e2 X2 => ?_
 have y2 := y1.ext X2
 have E2 := E1.trans (X2.mono E1.size)
 refine Sm.b rfl ?_
 refine Sm.i (fun k3 => ?_) (fun k3 => ?_)
 ·rw [s26_0_j, s26_0_eq]
  refine Sm.ct rfl ?_
  exact Sm.fin E2 rfl
 ·refine Sm.b rfl ?_
  refine Sm.b (y2.ldO 0 0 rfl rfl) ?_
  refine Sm.b H.w.len ?_
  refine Sm.b rfl ?_
  refine Sm.b rfl ?_
  refine Sm.b (y2.ldO 0 1 rfl rfl) ?_
  refine Sm.b rfl ?_
  refine Sm.i (fun k4 => ?_) (fun k4 => ?_)
  ·rw [s26_0_j, s26_0_eq]
   refine Sm.ct rfl ?_
   exact Sm.fin E2 rfl
  ·refine Sm.b rfl ?_
   refine Sm.b (y2.ldO 0 2 rfl rfl) ?_
   refine Sm.b rfl ?_
   refine Sm.c (t63 (by omega) a.to 0 1) fun r5 g5 e1005 X5 => ?_
   have y5 := y2.ext X5
   have E5 := E2.trans (X5.mono E2.size)
   refine Sm.b rfl ?_
   refine Sm.i (fun k6 => ?_) (fun k6 => ?_)
   ·rw [s26_0_j, s26_0_eq]
    refine Sm.ct rfl ?_
    exact Sm.fin E5 rfl
   ·refine Sm.b rfl ?_
    refine Sm.b (y5.ldO 0 3 rfl rfl) ?_
    refine Sm.b rfl ?_
    refine Sm.b rfl ?_
    refine Sm.b (y5.ldO 0 2 rfl rfl) ?_
    refine Sm.b rfl ?_
    refine Sm.b rfl ?_
    refine Sm.b (y5.ldO 0 2 rfl rfl) ?_
    refine Sm.b rfl ?_
    refine Sm.c (t64 (by omega) (H.ext E5) (y5.rowO 0 rfl) a.to) fun r7 g7 e1007 X7 => ?_
    have y7 := y5.ext X7
    have E7 := E5.trans (X7.mono E5.size)
    refine Sm.b rfl ?_
    refine Sm.b (agI (y7.ldO 0 3 rfl rfl)) ?_
    refine Sm.ct rfl ?_
    refine Sm.b (agI (y7.ldO 0 2 rfl rfl)) ?_
    refine Sm.ct rfl ?_
    refine Sm.c (t65 (by omega) (H.ext E7) (y7.rowO 0 rfl) a.to) fun r8 g8 e6 X8 => ?_
    have y8 := y7.ext X8
    have E8 := E7.trans (X8.mono E7.size)
    refine Sm.b rfl ?_
    refine Sm.b (agI (y8.ldO 0 3 rfl rfl)) ?_
    refine Sm.ct rfl ?_
    refine Sm.c (t63 (by omega) a.top r7 r8) fun r9 g9 e1009 X9 => ?_
    have y9 := y8.ext X9
    have E9 := E8.trans (X9.mono E8.size)
    refine Sm.b rfl ?_
    refine Sm.i (fun k10 => ?_) (fun k10 => ?_)
    ·rw [s26_0_j, s26_0_eq]
     refine Sm.ct rfl ?_
     exact Sm.fin E9 rfl
    ·refine Sm.b rfl ?_
     refine Sm.b (y9.ldO 0 8 rfl rfl) ?_
     refine Sm.b rfl ?_
     refine Sm.c (t63 (by omega) a.ser 1 1000000000) fun r11 g11 e1011 X11 => ?_
     have y11 := y9.ext X11
     have E11 := E9.trans (X11.mono E9.size)
     refine Sm.b rfl ?_
     refine Sm.i (fun k12 => ?_) (fun k12 => ?_)
     ·rw [s26_0_j, s26_0_eq]
      refine Sm.ct rfl ?_
      exact Sm.fin E11 rfl
     ·refine Sm.b rfl ?_
      refine Sm.b (y11.ldO 0 9 rfl rfl) ?_
      refine Sm.b H.r.len ?_
      refine Sm.b rfl ?_
      rw [s26_0_j, s26_0_eq]
      refine Sm.i (fun k13 => ?_) (fun k13 => ?_)
      ·exact Sm.fin E11 rfl
      ·rw [s26_1_j, s26_1_eq]
       refine Sm.b rfl ?_
       refine Sm.b (y11.ldO 0 0 rfl rfl) ?_
       refine Sm.b H.w.len ?_
       refine Sm.b rfl ?_
       refine Sm.mk (Value.int .u8) y11 0 (by decide) fun p14 g14 l14 e9 X14 y14 => ?_
       have E14 := E11.trans (X14.mono E11.size)
       refine Sm.nM y14 fun p15 g15 X15 y15 => ?_
       have E15 := E14.trans (X15.mono E14.size)
       refine Sm.nM y15 fun p16 g16 X16 y16 => ?_
       have E16 := E15.trans (X16.mono E15.size)
       refine Sm.b (r := [ptr p1 0, slc p14 0 l14.length, .map (some p15), .map (some p16)]) rfl ?_
       refine Sm.b rfl ?_
       refine Sm.n y16 fun p17 g17 X17 y17 => ?_
       have E17 := E16.trans (X17.mono E16.size)
       refine Sm.b rfl ?_
       refine Sm.b (y17.ldO 2 2 rfl rfl) ?_
       refine Sm.b rfl ?_
       refine Sm.b rfl ?_
       refine Sm.b (y17.ldO 2 3 rfl rfl) ?_
       refine Sm.b rfl ?_
       refine Sm.c (t64 (by omega) (H.ext E17) (y17.rowO 2 rfl) a.to) fun r18 g18 e1018 X18 => ?_
       have y18 := y17.ext X18
       have E18 := E17.trans (X18.mono E17.size)
       refine Sm.b rfl ?_
       refine Sm.b (agI (y18.ldO 2 3 rfl rfl)) ?_
       refine Sm.ct rfl ?_
       have Z19 := ((((y18.front 2 rfl).front 1 rfl).front 2 rfl).frontM 1 rfl)
       refine Sm.cr (g := h) (t66 (by omega) H l14 (LV.mk _ _) (([] : List Int)) r18 a.top 1 _ E18 Z19) fun r19 v19 g19 e1019 E19 R19 => ?_
       obtain ⟨rfl, n19, y19⟩ := R19
       refine Sm.b rfl ?_
       refine Sm.i (fun k20 => ?_) (fun k20 => ?_)
       ·exact Sm.fin E19 rfl
       ·refine Sm.b rfl ?_
        refine Sm.b (y19.ldO 2 4 rfl rfl) ?_
        refine Sm.b rfl ?_
        refine Sm.i (fun k21 => ?_) (fun k21 => ?_)
        ·refine Sm.b rfl ?_
         refine Sm.b (y19.ldO 2 5 rfl rfl) ?_
         refine Sm.b rfl ?_
         refine Sm.i (fun k22 => ?_) (fun k22 => ?_)
         ·rw [s26_2_j, s26_2_eq]
          refine Sm.ct rfl ?_
          exact Sm.fin E19 rfl
         ·refine Sm.b rfl ?_
          refine Sm.b (y19.ldO 2 6 rfl rfl) ?_
          refine Sm.b rfl ?_
          refine Sm.i (fun k23 => ?_) (fun k23 => ?_)
          ·rw [s26_2_j, s26_2_eq]
           refine Sm.ct rfl ?_
           exact Sm.fin E19 rfl
          ·refine Sm.b rfl ?_
           refine Sm.b (y19.ldO 2 7 rfl rfl) ?_
           refine Sm.b rfl ?_
           rw [s26_2_j, s26_2_eq]
           refine Sm.i (fun k24 => ?_) (fun k24 => ?_)
           ·exact Sm.fin E19 rfl
           ·have Z25 := ((((y19.front 2 rfl).front 2 rfl).front 2 rfl).frontM 1 rfl)
            refine Sm.cr (g := h) (t69 (by omega) H r19.2.1 (LV.of n19 (LV.mk _ _)) (([] : List Int)) _ E19 Z25) fun r25 v25 g25 e1025 E25 R25 => ?_
            obtain ⟨rfl, y25⟩ := R25
            refine Sm.b rfl ?_
            exact Sm.fin E25 rfl
        ·refine Sm.c (t67 (by omega) (H.ext E19) (y19.rowO 2 rfl)) fun r26 g26 e11 X26 => ?_
         have y26 := y19.ext X26
         have E26 := E19.trans (X26.mono E19.size)
         refine Sm.b rfl ?_
         refine Sm.c (t64 (by omega) (H.ext E26) (y26.rowO 2 rfl) r26) fun r27 g27 e12 X27 => ?_
         have y27 := y26.ext X27
         have E27 := E26.trans (X27.mono E26.size)
         refine Sm.b rfl ?_
         refine Sm.b rfl ?_
         refine Sm.b (y27.ldO 2 5 rfl rfl) ?_
         refine Sm.b rfl ?_
         refine Sm.b rfl ?_
         refine Sm.b (y27.ldO 2 3 rfl rfl) ?_
         refine Sm.b rfl ?_
         refine Sm.c (t63 (by omega) a.scan 1 a.top) fun r28 g28 e13 X28 => ?_
         have y28 := y27.ext X28
         have E28 := E27.trans (X28.mono E27.size)
         refine Sm.b rfl ?_
         refine Sm.i (fun k29 => ?_) (fun k29 => ?_)
         ·rw [s26_3_j, s26_3_eq]
          refine Sm.ct rfl ?_
          exact Sm.fin E28 rfl
         ·refine Sm.b rfl ?_
          refine Sm.b (y28.ldO 2 5 rfl rfl) ?_
          refine Sm.b rfl ?_
          refine Sm.b rfl ?_
          refine Sm.b (y28.ldO 2 3 rfl rfl) ?_
          refine Sm.b rfl ?_
          refine Sm.i (fun k30 => ?_) (fun k30 => ?_)
          ·refine Sm.b rfl ?_
           refine Sm.b rfl ?_
           refine Sm.b (y28.ldO 1 1 rfl rfl) ?_
           refine Sm.b rfl ?_
           refine Sm.b (y28.ldO 2 5 rfl rfl) ?_
           refine Sm.b rfl ?_
           refine Sm.mo fun w31 e23 => ?_
           refine Sm.b (y28.atS 0 (Value.int .u8) r19.2.1 rfl (LV.of n19 (LV.mk _ _)) e23).1 ?_
           refine Sm.b (y28.atS 0 (Value.int .u8) r19.2.1 rfl (LV.of n19 (LV.mk _ _)) e23).2 ?_
           refine Sm.b rfl ?_
           refine Sm.i (fun k32 => ?_) (fun k32 => ?_)
           ·rw [s26_3_j, s26_3_eq]
            refine Sm.ct rfl ?_
            exact Sm.fin E28 rfl
           ·refine Sm.b rfl ?_
            refine Sm.b (y28.ldO 2 6 rfl rfl) ?_
            refine Sm.b rfl ?_
            refine Sm.c (t67 (by omega) (H.ext E28) (y28.rowO 2 rfl)) fun r33 g33 e26 X33 => ?_
            have y33 := y28.ext X33
            have E33 := E28.trans (X33.mono E28.size)
            refine Sm.b rfl ?_
            refine Sm.b (agI (y33.ldO 2 6 rfl rfl)) ?_
            refine Sm.ct rfl ?_
            refine Sm.c (t65 (by omega) (H.ext E33) (y33.rowO 2 rfl) r33) fun r34 g34 e1034 X34 => ?_
            have y34 := y33.ext X34
            have E34 := E33.trans (X34.mono E33.size)
            refine Sm.b rfl ?_
            refine Sm.b (agI (y34.ldO 2 6 rfl rfl)) ?_
            refine Sm.ct rfl ?_
            refine Sm.c (t63 (by omega) a.old r27 r34) fun r35 g35 e108 X35 => ?_
            have y35 := y34.ext X35
            have E35 := E34.trans (X35.mono E34.size)
            refine Sm.b rfl ?_
            refine Sm.i (fun k36 => ?_) (fun k36 => ?_)
            ·rw [s26_3_j, s26_3_eq]
             refine Sm.ct rfl ?_
             exact Sm.fin E35 rfl
            ·refine Sm.b rfl ?_
             refine Sm.b (y35.ldO 2 6 rfl rfl) ?_
             refine Sm.b rfl ?_
             have Z37 := (((y35.front 2 rfl).front 2 rfl).front 2 rfl)
             refine Sm.cr (g := h) (t66 (by omega) H r19.2.1 (LV.of n19 (LV.mk _ _)) r19.2.2 r27 a.old 2 _ E35 Z37) fun r37 v37 g37 e37 E37 R37 => ?_
             obtain ⟨rfl, n37, y37⟩ := R37
             refine Sm.b rfl ?_
             refine Sm.i (fun k38 => ?_) (fun k38 => ?_)
             ·rw [s26_3_j, s26_3_eq]
              refine Sm.ct rfl ?_
              exact Sm.fin E37 rfl
             ·refine Sm.b rfl ?_
              refine Sm.b (y37.ldO 2 3 rfl rfl) ?_
              refine Sm.b rfl ?_
              refine Sm.b rfl ?_
              refine Sm.b (y37.ldO 2 2 rfl rfl) ?_
              refine Sm.b rfl ?_
              refine Sm.c (t68 (by omega) (H.ext E37) (y37.rowO 2 rfl)) fun r39 g39 e1039 X39 => ?_
              have y39 := y37.ext X39
              have E39 := E37.trans (X39.mono E37.size)
              refine Sm.b rfl ?_
              refine Sm.b (agI (y39.ldO 2 3 rfl rfl)) ?_
              refine Sm.ct rfl ?_
              refine Sm.b (agI (y39.ldO 2 2 rfl rfl)) ?_
              refine Sm.ct rfl ?_
              refine Sm.c (t65 (by omega) (H.ext E39) (y39.rowO 2 rfl) a.to) fun r40 g40 e38 X40 => ?_
              have y40 := y39.ext X40
              have E40 := E39.trans (X40.mono E39.size)
              refine Sm.b rfl ?_
              refine Sm.b (agI (y40.ldO 2 3 rfl rfl)) ?_
              refine Sm.ct rfl ?_
              rw [s26_3_j, s26_3_eq]
              refine Sm.i (fun k41 => ?_) (fun k41 => ?_)
              ·exact Sm.fin E40 rfl
              ·have Z42 := ((((y40.front 2 rfl).front 2 rfl).front 2 rfl).frontM 1 rfl)
               refine Sm.cr (g := h) (t69 (by omega) H r37.2.1 (LV.of n37 (LV.of n19 (LV.mk _ _))) (([] : List Int)) _ E40 Z42) fun r42 v42 g42 e1042 E42 R42 => ?_
               obtain ⟨rfl, y42⟩ := R42
               refine Sm.b rfl ?_
               exact Sm.fin E42 rfl
          ·refine Sm.b rfl ?_
           refine Sm.b (y28.ldO 2 6 rfl rfl) ?_
           refine Sm.b rfl ?_
           refine Sm.c (t67 (by omega) (H.ext E28) (y28.rowO 2 rfl)) fun r43 g43 e1043 X43 => ?_
           have y43 := y28.ext X43
           have E43 := E28.trans (X43.mono E28.size)
           refine Sm.b rfl ?_
           refine Sm.b (agI (y43.ldO 2 6 rfl rfl)) ?_
           refine Sm.ct rfl ?_
           refine Sm.c (t65 (by omega) (H.ext E43) (y43.rowO 2 rfl) r43) fun r44 g44 e1044 X44 => ?_
           have y44 := y43.ext X44
           have E44 := E43.trans (X44.mono E43.size)
           refine Sm.b rfl ?_
           refine Sm.b (agI (y44.ldO 2 6 rfl rfl)) ?_
           refine Sm.ct rfl ?_
           refine Sm.c (t63 (by omega) a.old r27 r44) fun r45 g45 e1045 X45 => ?_
           have y45 := y44.ext X45
           have E45 := E44.trans (X45.mono E44.size)
           refine Sm.b rfl ?_
           refine Sm.i (fun k46 => ?_) (fun k46 => ?_)
           ·rw [s26_3_j, s26_3_eq]
            refine Sm.ct rfl ?_
            exact Sm.fin E45 rfl
           ·refine Sm.b rfl ?_
            refine Sm.b (y45.ldO 2 6 rfl rfl) ?_
            refine Sm.b rfl ?_
            have Z47 := (((y45.front 2 rfl).front 2 rfl).front 2 rfl)
            refine Sm.cr (g := h) (t66 (by omega) H r19.2.1 (LV.of n19 (LV.mk _ _)) r19.2.2 r27 a.old 2 _ E45 Z47) fun r47 v47 g47 e1047 E47 R47 => ?_
            obtain ⟨rfl, n47, y47⟩ := R47
            refine Sm.b rfl ?_
            refine Sm.i (fun k48 => ?_) (fun k48 => ?_)
            ·rw [s26_3_j, s26_3_eq]
             refine Sm.ct rfl ?_
             exact Sm.fin E47 rfl
            ·refine Sm.b rfl ?_
             refine Sm.b (y47.ldO 2 3 rfl rfl) ?_
             refine Sm.b rfl ?_
             refine Sm.b rfl ?_
             refine Sm.b (y47.ldO 2 2 rfl rfl) ?_
             refine Sm.b rfl ?_
             refine Sm.c (t68 (by omega) (H.ext E47) (y47.rowO 2 rfl)) fun r49 g49 e1049 X49 => ?_
             have y49 := y47.ext X49
             have E49 := E47.trans (X49.mono E47.size)
             refine Sm.b rfl ?_
             refine Sm.b (agI (y49.ldO 2 3 rfl rfl)) ?_
             refine Sm.ct rfl ?_
             refine Sm.b (agI (y49.ldO 2 2 rfl rfl)) ?_
             refine Sm.ct rfl ?_
             refine Sm.c (t65 (by omega) (H.ext E49) (y49.rowO 2 rfl) a.to) fun r50 g50 e1050 X50 => ?_
             have y50 := y49.ext X50
             have E50 := E49.trans (X50.mono E49.size)
             refine Sm.b rfl ?_
             refine Sm.b (agI (y50.ldO 2 3 rfl rfl)) ?_
             refine Sm.ct rfl ?_
             rw [s26_3_j, s26_3_eq]
             refine Sm.i (fun k51 => ?_) (fun k51 => ?_)
             ·exact Sm.fin E50 rfl
             ·have Z52 := ((((y50.front 2 rfl).front 2 rfl).front 2 rfl).frontM 1 rfl)
              refine Sm.cr (g := h) (t69 (by omega) H r47.2.1 (LV.of n47 (LV.of n19 (LV.mk _ _))) (([] : List Int)) _ E50 Z52) fun r52 v52 g52 e43 E52 R52 => ?_
              obtain ⟨rfl, y52⟩ := R52
              refine Sm.b rfl ?_
              exact Sm.fin E52 rfl
def m9 (a : Ar) (r : Int) : Option (Int) :=
 (m33 a).bind fun r2 => bif !r2 then some (-1) else (m34 a ([r])).bind fun r5 => bif !r5 then some (-1) else (rd a.rs r).bind fun w7 => bif w7.t == 0 then some (-1) else bif (w7.t == 9) then some (-1) else (m35 a ⟨w7.t, w7.n⟩).bind fun r10 => some r10
open Go Go.AH Go.AM
def m26 (ws : List Int) (bd : Int) : Option (Int) :=
 bif decide ((IntKind.i64.wrap (bd - ((ws.length : Int)))) < 0) then some (-1) else some (IntKind.i64.wrap (bd - ((ws.length : Int))))
theorem t26 {D : Nat} {h : AHeap} (hD : 1 ≤ D) {vws : Value} {ws : List Int} (Sws : SlI .u64 h vws ws) (bd : Int) : SmR h (En (Value.int .i64)) (m26 ws bd) (call Tp Ms D 11 [vws, .int .i64 bd] h) := by
 obtain ⟨D, rfl⟩ : ∃ d, D = d + 1 := ⟨D - 1, by omega⟩
 rw [c11, e11]
 unfold m26
 have y0 := Cx.start0 h
 have E0 := Ext.refl h.size h
 refine Sm.b Sws.len ?_
 refine Sm.b rfl ?_
 refine Sm.i (fun k1 => ?_) (fun k1 => ?_)
 ·exact Sm.fin E0 rfl
 ·exact Sm.fin E0 rfl
def m27 (vs : List Vl) (bd : Int) : Option (Int) :=
 bif decide ((IntKind.i64.wrap (bd - ((vs.length : Int)))) < 0) then some (-1) else some (IntKind.i64.wrap (bd - ((vs.length : Int))))
theorem t27 {D : Nat} {h : AHeap} (hD : 1 ≤ D) {vvs : Value} {vs : List Vl} (Svs : SlV h vvs vs) (bd : Int) : SmR h (En (Value.int .i64)) (m27 vs bd) (call Tp Ms D 12 [vvs, .int .i64 bd] h) := by
 obtain ⟨D, rfl⟩ : ∃ d, D = d + 1 := ⟨D - 1, by omega⟩
 rw [c12, e12]
 unfold m27
 have y0 := Cx.start0 h
 have E0 := Ext.refl h.size h
 refine Sm.b Svs.len ?_
 refine Sm.b rfl ?_
 refine Sm.i (fun k1 => ?_) (fun k1 => ?_)
 ·exact Sm.fin E0 rfl
 ·exact Sm.fin E0 rfl
def m6 (a : Ar) (bd : Int) : Option (Int) :=
 (m26 a.ws bd).bind fun r2 => bif decide (r2 < 0) then some (-1) else (m27 a.rs r2).bind fun r4 => bif decide (r4 < 0) then some (-1) else some r4
theorem t6 {D : Nat} {h : AHeap} (hD : 2 ≤ D) {wv rv : Value} {a : Ar} (H : ArH h wv rv a) (bd : Int) : SmR h (En (Value.int .i64)) (m6 a bd) (call Tp Ms D 4 [arV wv rv a, .int .i64 bd] h) := by
 obtain ⟨D, rfl⟩ : ∃ d, D = d + 1 := ⟨D - 1, by omega⟩
 rw [c4, e4]
 unfold m6
 have y0 := Cx.start0 h
 have E0 := Ext.refl h.size h
 refine Sm.b H.cells ?_
 refine Sm.n y0 fun p1 g1 X1 y1 => ?_
 have E1 := E0.trans (X1.mono E0.size)
 refine Sm.b rfl ?_
 refine Sm.b (y1.ldO 0 0 rfl rfl) ?_
 refine Sm.c (t26 (by omega) (H.w.ext E1) bd) fun r2 g2 e2 X2 => ?_
 have y2 := y1.ext X2
 have E2 := E1.trans (X2.mono E1.size)
 refine Sm.b rfl ?_
 refine Sm.i (fun k3 => ?_) (fun k3 => ?_)
 ·exact Sm.fin E2 rfl
 ·refine Sm.b rfl ?_
  refine Sm.b (y2.ldO 0 9 rfl rfl) ?_
  refine Sm.c (t27 (by omega) (H.r.ext E2) r2) fun r4 g4 e1004 X4 => ?_
  have y4 := y2.ext X4
  have E4 := E2.trans (X4.mono E2.size)
  refine Sm.b rfl ?_
  refine Sm.i (fun k5 => ?_) (fun k5 => ?_)
  ·exact Sm.fin E4 rfl
  ·exact Sm.fin E4 rfl
def m62 (v : Vl) : Option (Vl) :=
 some ⟨v.t, v.n⟩
theorem t62 {D : Nat} {h : AHeap} (hD : 1 ≤ D) (v : Vl) : SmR h (En Vl.v) (m62 v) (call Tp Ms D 55 [v.v] h) := by
 obtain ⟨D, rfl⟩ : ∃ d, D = d + 1 := ⟨D - 1, by omega⟩
 rw [c55, e55]
 unfold m62
 have y0 := Cx.start0 h
 have E0 := Ext.refl h.size h
 refine Sm.b rfl ?_
 refine Sm.n y0 fun p1 g1 X1 y1 => ?_
 have E1 := E0.trans (X1.mono E0.size)
 refine Sm.n y1 fun p2 g2 X2 y2 => ?_
 have E2 := E1.trans (X2.mono E1.size)
 refine Sm.n y2 fun p3 g3 X3 y3 => ?_
 have E3 := E2.trans (X3.mono E2.size)
 refine Sm.b rfl ?_
 refine Sm.b (y3.ldO 2 0 rfl rfl) ?_
 refine Sm.b rfl ?_
 refine Sm.b rfl ?_
 refine Sm.st y3 0 rfl rfl rfl (by simp [splice]) fun g4 X4 y4 => ?_
 have E4 := E3.trans X4
 refine Sm.b rfl ?_
 refine Sm.b (y4.ldO 2 1 rfl rfl) ?_
 refine Sm.b rfl ?_
 refine Sm.b rfl ?_
 refine Sm.st y4 0 rfl rfl rfl (by simp [splice]) fun g5 X5 y5 => ?_
 have E5 := E4.trans X5
 refine Sm.b (y5.ldON 0 rfl rfl) ?_
 refine Sm.st y5 1 rfl rfl rfl (by simp [splice]) fun g6 X6 y6 => ?_
 have E6 := E5.trans X6
 refine Sm.b (y6.ldON 1 rfl rfl) ?_
 exact Sm.fin E6 rfl
def m73 (v : Vl) (w : Vl) : Option (Bool) :=
 bif v.t != w.t then some false else bif v.n != w.n then some false else some true
theorem t73 {D : Nat} {h : AHeap} (hD : 1 ≤ D) (v : Vl) (w : Vl) : SmR h (En Value.bool) (m73 v w) (call Tp Ms D 67 [v.v, w.v] h) := by
 obtain ⟨D, rfl⟩ : ∃ d, D = d + 1 := ⟨D - 1, by omega⟩
 rw [c67, e67]
 unfold m73
 have y0 := Cx.start0 h
 have E0 := Ext.refl h.size h
 refine Sm.b rfl ?_
 refine Sm.n y0 fun p1 g1 X1 y1 => ?_
 have E1 := E0.trans (X1.mono E0.size)
 refine Sm.b rfl ?_
 refine Sm.n y1 fun p2 g2 X2 y2 => ?_
 have E2 := E1.trans (X2.mono E1.size)
 refine Sm.b rfl ?_
 refine Sm.b (y2.ldO 1 0 rfl rfl) ?_
 refine Sm.b rfl ?_
 refine Sm.b rfl ?_
 refine Sm.b (y2.ldO 0 0 rfl rfl) ?_
 refine Sm.b rfl ?_
 refine Sm.i (fun k3 => ?_) (fun k3 => ?_)
 ·exact Sm.fin E2 rfl
 ·refine Sm.b rfl ?_
  refine Sm.b (y2.ldO 1 1 rfl rfl) ?_
  refine Sm.b rfl ?_
  refine Sm.b rfl ?_
  refine Sm.b (y2.ldO 0 1 rfl rfl) ?_
  refine Sm.b rfl ?_
  refine Sm.i (fun k4 => ?_) (fun k4 => ?_)
  ·exact Sm.fin E2 rfl
  ·exact Sm.fin E2 rfl
def mS31_0 : Nat → List Int → List Int → Int → Option (List Int)
 | 0, _, _, _ => none
 | f + 1, ws, lx3, x4 =>
  bif decide (x4 < ((ws.length : Int))) then (rd ws x4).bind fun w2 => (upd lx3 x4 w2).bind fun l3 => mS31_0 f ws l3 (IntKind.i64.wrap (x4 + 1)) else some lx3
theorem tS31_0 {D N : Nat} {h : AHeap} (hD : 0 ≤ D) (hN : 2000000 ≤ N) {vws : Value} {ws : List Int} (Sws : SlI .u64 h vws ws) : ∀ (f n2 : Nat) (_ : f ≤ n2) (ix3 rx3 : Nat) (lx3 : List Int) (x4 : Int) (g : AHeap) (_ : Ext h.size h g) (_ : Cx h.size g [] [⟨ix3, rx3, 74, true, lx3.map (Value.int .u64)⟩] []), SmR h (RO h (Value.int .u64) 74) (mS31_0 f ws lx3 x4) (s23_0 hk0 (call Tp Ms D) N n2 vws (slc ix3 0 lx3.length) x4 g) := by
 intro f
 induction f with
 | zero => intros; exact Sm.none
 | succ f ih =>
  intro n2 hf ix3 rx3 lx3 x4 g0 E0 y0
  obtain ⟨n2, rfl⟩ : ∃ k, n2 = k + 1 := ⟨n2 - 1, by omega⟩
  rw [s23_0_eq, mS31_0]
  refine Sm.b Sws.len ?_
  refine Sm.b rfl ?_
  refine Sm.i (fun k1 => ?_) (fun k1 => ?_)
  ·refine Sm.mo fun w2 e2 => ?_
   obtain ⟨q2, i2, l2⟩ := Sws.at e2
   refine Sm.b i2 ?_
   refine Sm.b (l2 _ E0) ?_
   refine Sm.b rfl ?_
   refine Sm.up1 (Value.int .u64) (cI _) y0 0 lx3 rfl fun g3 l3 e1003 n3 X3 y3 => ?_
   have E3 := E0.trans X3
   rw [← n3]
   exact ih _ (by omega) _ _ l3 (IntKind.i64.wrap (x4 + 1)) _ E3 (y3.pick (.cons_cons _ .slnil))
  ·exact Sm.fin E0 (y0.ro 0 (Value.int .u64) lx3 rfl (LV.mk _ _))
def m31 (ws : List Int) : Option (List Int) :=
 (mkL (ws.length : Int) ((0 : Int))).bind fun l1 => mS31_0 2000000 ws l1 0
theorem t31 {D : Nat} {h : AHeap} (hD : 2000001 ≤ D) {vws : Value} {ws : List Int} (Sws : SlI .u64 h vws ws) : SmR h (RO h (Value.int .u64) 74) (m31 ws) (call Tp Ms D 23 [vws] h) := by
 obtain ⟨D, rfl⟩ : ∃ d, D = d + 1 := ⟨D - 1, by omega⟩
 rw [c23, e23]
 unfold m31
 have y0 := Cx.start0 h
 have E0 := Ext.refl h.size h
 refine Sm.b Sws.len ?_
 refine Sm.b rfl ?_
 refine Sm.mk (Value.int .u64) y0 0 (by decide) fun p1 g1 l1 e1 X1 y1 => ?_
 have E1 := E0.trans (X1.mono E0.size)
 exact tS31_0 (by omega) (by omega) Sws 2000000 _ (by omega) _ _ l1 0 _ E1 (y1.pick (.cons_cons _ .slnil))
def mS32_0 : Nat → List Vl → List Vl → Int → Option (List Vl)
 | 0, _, _, _ => none
 | f + 1, vs, lx3, x4 =>
  bif decide (x4 < ((vs.length : Int))) then (rd vs x4).bind fun w2 => (m62 ⟨w2.t, w2.n⟩).bind fun r3 => (upd lx3 x4 ⟨r3.t, r3.n⟩).bind fun l4 => mS32_0 f vs l4 (IntKind.i64.wrap (x4 + 1)) else some lx3
theorem tS32_0 {D N : Nat} {h : AHeap} (hD : 1 ≤ D) (hN : 2000000 ≤ N) {vvs : Value} {vs : List Vl} (Svs : SlV h vvs vs) : ∀ (f n2 : Nat) (_ : f ≤ n2) (ix3 rx3 : Nat) (lx3 : List Vl) (x4 : Int) (g : AHeap) (_ : Ext h.size h g) (_ : Cx h.size g [] [⟨ix3, rx3, 42, true, vcells lx3⟩] []), SmR h (ROV h) (mS32_0 f vs lx3 x4) (s24_0 hk0 (call Tp Ms D) N n2 vvs (slc ix3 0 lx3.length) x4 g) := by
 intro f
 induction f with
 | zero => intros; exact Sm.none
 | succ f ih =>
  intro n2 hf ix3 rx3 lx3 x4 g0 E0 y0
  obtain ⟨n2, rfl⟩ : ∃ k, n2 = k + 1 := ⟨n2 - 1, by omega⟩
  rw [s24_0_eq, mS32_0]
  refine Sm.b Svs.len ?_
  refine Sm.b rfl ?_
  refine Sm.i (fun k1 => ?_) (fun k1 => ?_)
  ·refine Sm.mo fun w2 e2 => ?_
   obtain ⟨q2, o2, i2, l2⟩ := Svs.at e2
   refine Sm.b i2 ?_
   refine Sm.b (l2 _ E0).1 ?_
   refine Sm.c (t62 (by omega) ⟨w2.t, w2.n⟩) fun r3 g3 e1003 X3 => ?_
   have y3 := y0.ext X3
   have E3 := E0.trans (X3.mono E0.size)
   refine Sm.upV y3 0 lx3 rfl fun g4 l4 e1004 n4 X4 y4 => ?_
   have E4 := E3.trans X4
   rw [← n4]
   exact ih _ (by omega) _ _ l4 (IntKind.i64.wrap (x4 + 1)) _ E4 (y4.pick (.cons_cons _ .slnil))
  ·exact Sm.fin E0 (y0.rov 0 lx3 rfl)
def m32 (vs : List Vl) : Option (List Vl) :=
 (mkL (vs.length : Int) (⟨0, 0⟩ : Vl)).bind fun l1 => mS32_0 2000000 vs l1 0
theorem t32 {D : Nat} {h : AHeap} (hD : 2000001 ≤ D) {vvs : Value} {vs : List Vl} (Svs : SlV h vvs vs) : SmR h (ROV h) (m32 vs) (call Tp Ms D 24 [vvs] h) := by
 obtain ⟨D, rfl⟩ : ∃ d, D = d + 1 := ⟨D - 1, by omega⟩
 rw [c24, e24]
 unfold m32
 have y0 := Cx.start0 h
 have E0 := Ext.refl h.size h
 refine Sm.b Svs.len ?_
 refine Sm.b rfl ?_
 refine Sm.mkV y0 fun p1 g1 l1 e1 X1 y1 => ?_
 have E1 := E0.trans (X1.mono E0.size)
 exact tS32_0 (by omega) (by omega) Svs 2000000 _ (by omega) _ _ l1 0 _ E1 (y1.pick (.cons_cons _ .slnil))
def mS36_0 : Nat → List Int → List Int → Int → Option (Bool)
 | 0, _, _, _ => none
 | f + 1, ws, xs, x5 =>
  bif decide (x5 < ((ws.length : Int))) then (rd ws x5).bind fun w2 => (rd xs x5).bind fun w3 => bif w2 != w3 then some false else mS36_0 f ws xs (IntKind.i64.wrap (x5 + 1)) else some true
theorem tS36_0 {D N : Nat} {h : AHeap} (hD : 0 ≤ D) (hN : 2000000 ≤ N) {vws : Value} {ws : List Int} (Sws : SlI .u64 h vws ws) {vxs : Value} {xs : List Int} (Sxs : SlI .u64 h vxs xs) : ∀ (f n2 : Nat) (_ : f ≤ n2) (x5 : Int) (g : AHeap) (_ : Ext h.size h g) (_ : Cx h.size g [] [] []), SmR h (En Value.bool) (mS36_0 f ws xs x5) (s36_0 hk0 (call Tp Ms D) N n2 vws vxs x5 g) := by
 intro f
 induction f with
 | zero => intros; exact Sm.none
 | succ f ih =>
  intro n2 hf x5 g0 E0 y0
  obtain ⟨n2, rfl⟩ : ∃ k, n2 = k + 1 := ⟨n2 - 1, by omega⟩
  rw [s36_0_eq, mS36_0]
  refine Sm.b Sws.len ?_
  refine Sm.b rfl ?_
  refine Sm.i (fun k1 => ?_) (fun k1 => ?_)
  ·refine Sm.mo fun w2 e2 => ?_
   obtain ⟨q2, i2, l2⟩ := Sws.at e2
   refine Sm.b i2 ?_
   refine Sm.b (l2 _ E0) ?_
   refine Sm.b rfl ?_
   refine Sm.mo fun w3 e1003 => ?_
   obtain ⟨q3, i3, l3⟩ := Sxs.at e1003
   refine Sm.b i3 ?_
   refine Sm.b (l3 _ E0) ?_
   refine Sm.b rfl ?_
   refine Sm.i (fun k4 => ?_) (fun k4 => ?_)
   ·exact Sm.fin E0 rfl
   ·exact ih _ (by omega) (IntKind.i64.wrap (x5 + 1)) _ E0 (y0.pick .slnil)
  ·exact Sm.fin E0 rfl
def m36 (ws : List Int) (xs : List Int) : Option (Bool) :=
 bif ((ws.length : Int)) != ((xs.length : Int)) then some false else mS36_0 2000000 ws xs 0
theorem t36 {D : Nat} {h : AHeap} (hD : 2000001 ≤ D) {vws : Value} {ws : List Int} (Sws : SlI .u64 h vws ws) {vxs : Value} {xs : List Int} (Sxs : SlI .u64 h vxs xs) : SmR h (En Value.bool) (m36 ws xs) (call Tp Ms D 36 [vws, vxs] h) := by
 obtain ⟨D, rfl⟩ : ∃ d, D = d + 1 := ⟨D - 1, by omega⟩
 rw [c36, e36]
 unfold m36
 have y0 := Cx.start0 h
 have E0 := Ext.refl h.size h
 refine Sm.b Sws.len ?_
 refine Sm.b rfl ?_
 refine Sm.b Sxs.len ?_
 refine Sm.b rfl ?_
 refine Sm.i (fun k1 => ?_) (fun k1 => ?_)
 ·exact Sm.fin E0 rfl
 ·exact tS36_0 (by omega) (by omega) Sws Sxs 2000000 _ (by omega) 0 _ E0 (y0.pick .slnil)
def mS37_0 : Nat → List Vl → List Vl → Int → Option (Bool)
 | 0, _, _, _ => none
 | f + 1, vs, us, x5 =>
  bif decide (x5 < ((vs.length : Int))) then (rd vs x5).bind fun w2 => (rd us x5).bind fun w3 => (m73 ⟨w2.t, w2.n⟩ ⟨w3.t, w3.n⟩).bind fun r4 => bif !r4 then some false else mS37_0 f vs us (IntKind.i64.wrap (x5 + 1)) else some true
theorem tS37_0 {D N : Nat} {h : AHeap} (hD : 1 ≤ D) (hN : 2000000 ≤ N) {vvs : Value} {vs : List Vl} (Svs : SlV h vvs vs) {vus : Value} {us : List Vl} (Sus : SlV h vus us) : ∀ (f n2 : Nat) (_ : f ≤ n2) (x5 : Int) (g : AHeap) (_ : Ext h.size h g) (_ : Cx h.size g [] [] []), SmR h (En Value.bool) (mS37_0 f vs us x5) (s37_0 hk0 (call Tp Ms D) N n2 vvs vus x5 g) := by
 intro f
 induction f with
 | zero => intros; exact Sm.none
 | succ f ih =>
  intro n2 hf x5 g0 E0 y0
  obtain ⟨n2, rfl⟩ : ∃ k, n2 = k + 1 := ⟨n2 - 1, by omega⟩
  rw [s37_0_eq, mS37_0]
  refine Sm.b Svs.len ?_
  refine Sm.b rfl ?_
  refine Sm.i (fun k1 => ?_) (fun k1 => ?_)
  ·refine Sm.mo fun w2 e2 => ?_
   obtain ⟨q2, o2, i2, l2⟩ := Svs.at e2
   refine Sm.b i2 ?_
   refine Sm.b (l2 _ E0).1 ?_
   refine Sm.mo fun w3 e1003 => ?_
   obtain ⟨q3, o3, i3, l3⟩ := Sus.at e1003
   refine Sm.b i3 ?_
   refine Sm.b (l3 _ E0).1 ?_
   refine Sm.c (t73 (by omega) ⟨w2.t, w2.n⟩ ⟨w3.t, w3.n⟩) fun r4 g4 e1004 X4 => ?_
   have y4 := y0.ext X4
   have E4 := E0.trans (X4.mono E0.size)
   refine Sm.b rfl ?_
   refine Sm.i (fun k5 => ?_) (fun k5 => ?_)
   ·exact Sm.fin E4 rfl
   ·exact ih _ (by omega) (IntKind.i64.wrap (x5 + 1)) _ E4 (y4.pick .slnil)
  ·exact Sm.fin E0 rfl
def m37 (vs : List Vl) (us : List Vl) : Option (Bool) :=
 bif ((vs.length : Int)) != ((us.length : Int)) then some false else mS37_0 2000000 vs us 0
theorem t37 {D : Nat} {h : AHeap} (hD : 2000001 ≤ D) {vvs : Value} {vs : List Vl} (Svs : SlV h vvs vs) {vus : Value} {us : List Vl} (Sus : SlV h vus us) : SmR h (En Value.bool) (m37 vs us) (call Tp Ms D 37 [vvs, vus] h) := by
 obtain ⟨D, rfl⟩ : ∃ d, D = d + 1 := ⟨D - 1, by omega⟩
 rw [c37, e37]
 unfold m37
 have y0 := Cx.start0 h
 have E0 := Ext.refl h.size h
 refine Sm.b Svs.len ?_
 refine Sm.b rfl ?_
 refine Sm.b Sus.len ?_
 refine Sm.b rfl ?_
 refine Sm.i (fun k1 => ?_) (fun k1 => ?_)
 ·exact Sm.fin E0 rfl
 ·exact tS37_0 (by omega) (by omega) Svs Sus 2000000 _ (by omega) 0 _ E0 (y0.pick .slnil)
open Go Go.AH Go.AM
def m8 (a : Ar) : Option (Ar) :=
 (m31 a.ws).bind fun r4 => (m32 a.rs).bind fun r14 => some ⟨r4, a.semi, a.to, a.top, a.cyc, a.scan, a.old, a.cop, a.ser, r14⟩
theorem t8 {D : Nat} {h : AHeap} (hD : 2000002 ≤ D) {wv rv : Value} {a : Ar} (H : ArH h wv rv a) : SmR h RAr (m8 a) (call Tp Ms D 6 [arV wv rv a] h) := by
 obtain ⟨D, rfl⟩ : ∃ d, D = d + 1 := ⟨D - 1, by omega⟩
 rw [c6, e6]
 unfold m8
 have y0 := Cx.start0 h
 have E0 := Ext.refl h.size h
 refine Sm.b H.cells ?_
 refine Sm.n y0 fun p1 g1 X1 y1 => ?_
 have E1 := E0.trans (X1.mono E0.size)
 refine Sm.n y1 fun p2 g2 X2 y2 => ?_
 have E2 := E1.trans (X2.mono E1.size)
 refine Sm.n y2 fun p3 g3 X3 y3 => ?_
 have E3 := E2.trans (X3.mono E2.size)
 refine Sm.b rfl ?_
 refine Sm.b (y3.ldO 2 0 rfl rfl) ?_
 refine Sm.cr (t31 (by omega) (H.w.ext E3)) fun r4 v4 g4 e1004 X4 R4 => ?_
 obtain ⟨i4, q4, b4, h4, o4, z4⟩ := R4
 have y4 := y3.add X4 o4 z4
 have E4 := E3.trans (X4.mono E3.size)
 refine Sm.b rfl ?_
 refine Sm.sts y4 1 [v4, .int .i64 0, .int .i64 0, .int .i64 0, .bool false, .int .i64 0, .int .i64 0, .int .i64 0, .int .i64 0, .slice none 0 0] rfl (LV.cells h4) rfl (by simp) rfl fun g5 X5 y5 => ?_
 have E5 := E4.trans X5
 refine Sm.b rfl ?_
 refine Sm.b (y5.ldO 3 1 rfl rfl) ?_
 refine Sm.b rfl ?_
 refine Sm.b rfl ?_
 refine Sm.sts y5 1 [v4, .int .i64 a.semi, .int .i64 0, .int .i64 0, .bool false, .int .i64 0, .int .i64 0, .int .i64 0, .int .i64 0, .slice none 0 0] rfl rfl rfl (by simp) rfl fun g6 X6 y6 => ?_
 have E6 := E5.trans X6
 refine Sm.b rfl ?_
 refine Sm.b (y6.ldO 3 2 rfl rfl) ?_
 refine Sm.b rfl ?_
 refine Sm.b rfl ?_
 refine Sm.sts y6 1 [v4, .int .i64 a.semi, .int .i64 a.to, .int .i64 0, .bool false, .int .i64 0, .int .i64 0, .int .i64 0, .int .i64 0, .slice none 0 0] rfl rfl rfl (by simp) rfl fun g7 X7 y7 => ?_
 have E7 := E6.trans X7
 refine Sm.b rfl ?_
 refine Sm.b (y7.ldO 3 3 rfl rfl) ?_
 refine Sm.b rfl ?_
 refine Sm.b rfl ?_
 refine Sm.sts y7 1 [v4, .int .i64 a.semi, .int .i64 a.to, .int .i64 a.top, .bool false, .int .i64 0, .int .i64 0, .int .i64 0, .int .i64 0, .slice none 0 0] rfl rfl rfl (by simp) rfl fun g8 X8 y8 => ?_
 have E8 := E7.trans X8
 refine Sm.b rfl ?_
 refine Sm.b (y8.ldO 3 4 rfl rfl) ?_
 refine Sm.b rfl ?_
 refine Sm.b rfl ?_
 refine Sm.sts y8 1 [v4, .int .i64 a.semi, .int .i64 a.to, .int .i64 a.top, .bool a.cyc, .int .i64 0, .int .i64 0, .int .i64 0, .int .i64 0, .slice none 0 0] rfl rfl rfl (by simp) rfl fun g9 X9 y9 => ?_
 have E9 := E8.trans X9
 refine Sm.b rfl ?_
 refine Sm.b (y9.ldO 3 5 rfl rfl) ?_
 refine Sm.b rfl ?_
 refine Sm.b rfl ?_
 refine Sm.sts y9 1 [v4, .int .i64 a.semi, .int .i64 a.to, .int .i64 a.top, .bool a.cyc, .int .i64 a.scan, .int .i64 0, .int .i64 0, .int .i64 0, .slice none 0 0] rfl rfl rfl (by simp) rfl fun g10 X10 y10 => ?_
 have E10 := E9.trans X10
 refine Sm.b rfl ?_
 refine Sm.b (y10.ldO 3 6 rfl rfl) ?_
 refine Sm.b rfl ?_
 refine Sm.b rfl ?_
 refine Sm.sts y10 1 [v4, .int .i64 a.semi, .int .i64 a.to, .int .i64 a.top, .bool a.cyc, .int .i64 a.scan, .int .i64 a.old, .int .i64 0, .int .i64 0, .slice none 0 0] rfl rfl rfl (by simp) rfl fun g11 X11 y11 => ?_
 have E11 := E10.trans X11
 refine Sm.b rfl ?_
 refine Sm.b (y11.ldO 3 7 rfl rfl) ?_
 refine Sm.b rfl ?_
 refine Sm.b rfl ?_
 refine Sm.sts y11 1 [v4, .int .i64 a.semi, .int .i64 a.to, .int .i64 a.top, .bool a.cyc, .int .i64 a.scan, .int .i64 a.old, .int .i64 a.cop, .int .i64 0, .slice none 0 0] rfl rfl rfl (by simp) rfl fun g12 X12 y12 => ?_
 have E12 := E11.trans X12
 refine Sm.b rfl ?_
 refine Sm.b (y12.ldO 3 8 rfl rfl) ?_
 refine Sm.b rfl ?_
 refine Sm.b rfl ?_
 refine Sm.sts y12 1 [v4, .int .i64 a.semi, .int .i64 a.to, .int .i64 a.top, .bool a.cyc, .int .i64 a.scan, .int .i64 a.old, .int .i64 a.cop, .int .i64 a.ser, .slice none 0 0] rfl rfl rfl (by simp) rfl fun g13 X13 y13 => ?_
 have E13 := E12.trans X13
 refine Sm.b rfl ?_
 refine Sm.b (y13.ldO 3 9 rfl rfl) ?_
 refine Sm.cr (t32 (by omega) (H.r.ext E13)) fun r14 v14 g14 e9 X14 R14 => ?_
 obtain ⟨i14, q14, rfl, o14, z14⟩ := R14
 have y14 := y13.add (lv := true) X14 (fun _ => ⟨o14, z14⟩) (fun h => by cases h)
 have E14 := E13.trans (X14.mono E13.size)
 refine Sm.b rfl ?_
 refine Sm.sts y14 2 [v4, .int .i64 a.semi, .int .i64 a.to, .int .i64 a.top, .bool a.cyc, .int .i64 a.scan, .int .i64 a.old, .int .i64 a.cop, .int .i64 a.ser, slc i14 0 r14.length] rfl rfl rfl (by simp) rfl fun g15 X15 y15 => ?_
 have E15 := E14.trans X15
 refine Sm.b (y15.ldON 2 rfl rfl) ?_
 refine Sm.sts y15 3 [v4, .int .i64 a.semi, .int .i64 a.to, .int .i64 a.top, .bool a.cyc, .int .i64 a.scan, .int .i64 a.old, .int .i64 a.cop, .int .i64 a.ser, slc i14 0 r14.length] rfl (arCells_ok (a := ⟨r4, a.semi, a.to, a.top, a.cyc, a.scan, a.old, a.cop, a.ser, r14⟩) h4.isc rfl) rfl (by simp) rfl fun g16 X16 y16 => ?_
 have E16 := E15.trans X16
 refine Sm.b (y16.ldON 3 rfl rfl) ?_
 exact Sm.fin E16 ⟨_, _, rfl, y16.slE 1 rfl h4, y16.slI 1 r4 rfl h4, y16.slV 0 r14 rfl⟩
def m10 (a : Ar) (a2 : Ar) : Option (Bool) :=
 (m36 a.ws a2.ws).bind fun r3 => bif !r3 then some false else bif a.semi != a2.semi then some false else bif a.to != a2.to then some false else bif a.top != a2.top then some false else bif !(a.cyc == a2.cyc) then some false else bif a.scan != a2.scan then some false else bif a.old != a2.old then some false else bif a.cop != a2.cop then some false else bif a.ser != a2.ser then some false else (m37 a.rs a2.rs).bind fun r13 => bif !r13 then some false else some true
theorem t10 {D : Nat} {h : AHeap} (hD : 2000002 ≤ D) {wv rv : Value} {a : Ar} (H : ArH h wv rv a) {wv2 rv2 : Value} {a2 : Ar} (H2 : ArH h wv2 rv2 a2) : SmR h (En Value.bool) (m10 a a2) (call Tp Ms D 8 [arV wv rv a, arV wv2 rv2 a2] h) := by
 obtain ⟨D, rfl⟩ : ∃ d, D = d + 1 := ⟨D - 1, by omega⟩
 rw [c8, e8]
 unfold m10
 have y0 := Cx.start0 h
 have E0 := Ext.refl h.size h
 refine Sm.b H.cells ?_
 refine Sm.n y0 fun p1 g1 X1 y1 => ?_
 have E1 := E0.trans (X1.mono E0.size)
 refine Sm.b H2.cells ?_
 refine Sm.n y1 fun p2 g2 X2 y2 => ?_
 have E2 := E1.trans (X2.mono E1.size)
 refine Sm.b rfl ?_
 refine Sm.b (y2.ldO 1 0 rfl rfl) ?_
 refine Sm.b rfl ?_
 refine Sm.b (y2.ldO 0 0 rfl rfl) ?_
 refine Sm.c (t36 (by omega) (H.w.ext E2) (H2.w.ext E2)) fun r3 g3 e1003 X3 => ?_
 have y3 := y2.ext X3
 have E3 := E2.trans (X3.mono E2.size)
 refine Sm.b rfl ?_
 refine Sm.i (fun k4 => ?_) (fun k4 => ?_)
 ·exact Sm.fin E3 rfl
 ·refine Sm.b rfl ?_
  refine Sm.b (y3.ldO 1 1 rfl rfl) ?_
  refine Sm.b rfl ?_
  refine Sm.b rfl ?_
  refine Sm.b (y3.ldO 0 1 rfl rfl) ?_
  refine Sm.b rfl ?_
  refine Sm.i (fun k5 => ?_) (fun k5 => ?_)
  ·exact Sm.fin E3 rfl
  ·refine Sm.b rfl ?_
   refine Sm.b (y3.ldO 1 2 rfl rfl) ?_
   refine Sm.b rfl ?_
   refine Sm.b rfl ?_
   refine Sm.b (y3.ldO 0 2 rfl rfl) ?_
   refine Sm.b rfl ?_
   refine Sm.i (fun k6 => ?_) (fun k6 => ?_)
   ·exact Sm.fin E3 rfl
   ·refine Sm.b rfl ?_
    refine Sm.b (y3.ldO 1 3 rfl rfl) ?_
    refine Sm.b rfl ?_
    refine Sm.b rfl ?_
    refine Sm.b (y3.ldO 0 3 rfl rfl) ?_
    refine Sm.b rfl ?_
    refine Sm.i (fun k7 => ?_) (fun k7 => ?_)
    ·exact Sm.fin E3 rfl
    ·refine Sm.b rfl ?_
     refine Sm.b (y3.ldO 1 4 rfl rfl) ?_
     refine Sm.b rfl ?_
     refine Sm.b rfl ?_
     refine Sm.b (y3.ldO 0 4 rfl rfl) ?_
     refine Sm.b rfl ?_
     refine Sm.i (fun k8 => ?_) (fun k8 => ?_)
     ·exact Sm.fin E3 rfl
     ·refine Sm.b rfl ?_
      refine Sm.b (y3.ldO 1 5 rfl rfl) ?_
      refine Sm.b rfl ?_
      refine Sm.b rfl ?_
      refine Sm.b (y3.ldO 0 5 rfl rfl) ?_
      refine Sm.b rfl ?_
      refine Sm.i (fun k9 => ?_) (fun k9 => ?_)
      ·exact Sm.fin E3 rfl
      ·refine Sm.b rfl ?_
       refine Sm.b (y3.ldO 1 6 rfl rfl) ?_
       refine Sm.b rfl ?_
       refine Sm.b rfl ?_
       refine Sm.b (y3.ldO 0 6 rfl rfl) ?_
       refine Sm.b rfl ?_
       refine Sm.i (fun k10 => ?_) (fun k10 => ?_)
       ·exact Sm.fin E3 rfl
       ·refine Sm.b rfl ?_
        refine Sm.b (y3.ldO 1 7 rfl rfl) ?_
        refine Sm.b rfl ?_
        refine Sm.b rfl ?_
        refine Sm.b (y3.ldO 0 7 rfl rfl) ?_
        refine Sm.b rfl ?_
        refine Sm.i (fun k11 => ?_) (fun k11 => ?_)
        ·exact Sm.fin E3 rfl
        ·refine Sm.b rfl ?_
         refine Sm.b (y3.ldO 1 8 rfl rfl) ?_
         refine Sm.b rfl ?_
         refine Sm.b rfl ?_
         refine Sm.b (y3.ldO 0 8 rfl rfl) ?_
         refine Sm.b rfl ?_
         refine Sm.i (fun k12 => ?_) (fun k12 => ?_)
         ·exact Sm.fin E3 rfl
         ·refine Sm.b rfl ?_
          refine Sm.b (y3.ldO 1 9 rfl rfl) ?_
          refine Sm.b rfl ?_
          refine Sm.b (y3.ldO 0 9 rfl rfl) ?_
          refine Sm.c (t37 (by omega) (H.r.ext E3) (H2.r.ext E3)) fun r13 g13 e1013 X13 => ?_
          have y13 := y3.ext X13
          have E13 := E3.trans (X13.mono E3.size)
          refine Sm.b rfl ?_
          refine Sm.i (fun k14 => ?_) (fun k14 => ?_)
          ·exact Sm.fin E13 rfl
          ·exact Sm.fin E13 rfl
open Go Go.AH Go.AM
theorem wr {x : Int} (h0 : -9223372036854775808 ≤ x) (h1 : x ≤ 9223372036854775807) : IntKind.i64.wrap x = x := by
 have hb : IntKind.i64.bits = 64 := rfl
 unfold IntKind.wrap
 simp only [hb]
 by_cases h : 0 ≤ x
 ·have : x % 2 ^ 64 = x := by omega
  rw [this]
  rw [if_neg]
  intro hc
  simp at hc
  omega
 ·have : x % 2 ^ 64 = x + 2 ^ 64 := by omega
  rw [this]
  rw [if_pos]
  ·omega
  ·simp; exact ⟨rfl, by omega⟩
theorem rd_nat {α : Type} (l : List α) (k : Nat) : rd l (k : Int) = l[k]? := by simp [rd]
theorem upd_nat {α : Type} (l : List α) (k : Nat) (x : α) (h : k < l.length) : upd l (k : Int) x = some (l.set k x) := by simp [upd, h]
theorem copy31 : ∀ (f : Nat) (ws l : List Int) (k : Nat), l.length = ws.length → k ≤ ws.length → (∀ i, i < k → l[i]? = ws[i]?) → ws.length - k < f → ws.length ≤ 4611686018427387904 → mS31_0 f ws l (k : Int) = some ws
 | 0, ws, l, k, _, _, _, h, _ => absurd h (Nat.not_lt_zero _)
 | f + 1, ws, l, k, hl, hk, he, hf, hb => by
  rw [mS31_0]
  by_cases h : k < ws.length
  ·rw [decide_eq_true (by omega : (k : Int) < (ws.length : Int)), cond_true, rd_nat, List.getElem?_eq_getElem h]
   show (upd l (k : Int) ws[k]).bind _ = _
   rw [upd_nat _ _ _ (by omega)]
   show mS31_0 f ws (l.set k ws[k]) _ = _
   rw [wr (by omega) (by omega), show (k : Int) + 1 = ((k + 1 : Nat) : Int) by omega]
   refine copy31 f ws _ (k + 1) (by simp [hl]) h (fun i hi => ?_) (by omega) hb
   by_cases hik : i = k
   ·subst hik; rw [List.getElem?_set_self (by omega), List.getElem?_eq_getElem h]
   ·rw [List.getElem?_set_ne (fun h => hik h.symm)]; exact he i (by omega)
  ·rw [decide_eq_false (by omega : ¬ (k : Int) < (ws.length : Int)), cond_false]
   refine congrArg some (List.ext_getElem? fun i => ?_)
   by_cases hi : i < k
   ·exact he i hi
   ·rw [List.getElem?_eq_none (by omega), List.getElem?_eq_none (by omega)]
theorem copy32 : ∀ (f : Nat) (ws l : List Vl) (k : Nat), l.length = ws.length → k ≤ ws.length → (∀ i, i < k → l[i]? = ws[i]?) → ws.length - k < f → ws.length ≤ 4611686018427387904 → mS32_0 f ws l (k : Int) = some ws
 | 0, ws, l, k, _, _, _, h, _ => absurd h (Nat.not_lt_zero _)
 | f + 1, ws, l, k, hl, hk, he, hf, hb => by
  rw [mS32_0]
  by_cases h : k < ws.length
  ·rw [decide_eq_true (by omega : (k : Int) < (ws.length : Int)), cond_true, rd_nat, List.getElem?_eq_getElem h]
   show (upd l (k : Int) ws[k]).bind _ = _
   rw [upd_nat _ _ _ (by omega)]
   show mS32_0 f ws (l.set k ws[k]) _ = _
   rw [wr (by omega) (by omega), show (k : Int) + 1 = ((k + 1 : Nat) : Int) by omega]
   refine copy32 f ws _ (k + 1) (by simp [hl]) h (fun i hi => ?_) (by omega) hb
   by_cases hik : i = k
   ·subst hik; rw [List.getElem?_set_self (by omega), List.getElem?_eq_getElem h]
   ·rw [List.getElem?_set_ne (fun h => hik h.symm)]; exact he i (by omega)
  ·rw [decide_eq_false (by omega : ¬ (k : Int) < (ws.length : Int)), cond_false]
   refine congrArg some (List.ext_getElem? fun i => ?_)
   by_cases hi : i < k
   ·exact he i hi
   ·rw [List.getElem?_eq_none (by omega), List.getElem?_eq_none (by omega)]
theorem copy31' (ws : List Int) (h : ws.length < 2000000) : m31 ws = some ws := by
 unfold m31 mkL
 rw [if_pos (by omega)]
 have e := copy31 2000000 ws (List.replicate (ws.length : Int).toNat (0 : Int)) 0 (by simp) (Nat.zero_le _) (fun i hi => absurd hi (Nat.not_lt_zero _)) (by omega) (by omega)
 rw [show ((0 : Nat) : Int) = 0 from rfl] at e
 rw [oBs]
 exact e
theorem copy32' (ws : List Vl) (h : ws.length < 2000000) : m32 ws = some ws := by
 unfold m32 mkL
 rw [if_pos (by omega)]
 have e := copy32 2000000 ws (List.replicate (ws.length : Int).toNat (⟨0, 0⟩ : Vl)) 0 (by simp) (Nat.zero_le _) (fun i hi => absurd hi (Nat.not_lt_zero _)) (by omega) (by omega)
 rw [show ((0 : Nat) : Int) = 0 from rfl] at e
 rw [oBs]
 exact e
theorem same36 : ∀ (f : Nat) (ws : List Int) (k : Nat), k ≤ ws.length → ws.length - k < f → ws.length ≤ 4611686018427387904 → mS36_0 f ws ws (k : Int) = some true
 | 0, ws, k, _, h, _ => absurd h (Nat.not_lt_zero _)
 | f + 1, ws, k, hk, hf, hb => by
  rw [mS36_0]
  by_cases h : k < ws.length
  ·rw [decide_eq_true (by omega : (k : Int) < (ws.length : Int)), cond_true, rd_nat, List.getElem?_eq_getElem h]
   show (bif ws[k] != ws[k] then some false else _) = _
   rw [bne_self_eq_false, cond_false, wr (by omega) (by omega), show (k : Int) + 1 = ((k + 1 : Nat) : Int) by omega]
   exact same36 f ws (k + 1) h (by omega) hb
  ·rw [decide_eq_false (by omega : ¬ (k : Int) < (ws.length : Int)), cond_false]
theorem same37 : ∀ (f : Nat) (ws : List Vl) (k : Nat), k ≤ ws.length → ws.length - k < f → ws.length ≤ 4611686018427387904 → mS37_0 f ws ws (k : Int) = some true
 | 0, ws, k, _, h, _ => absurd h (Nat.not_lt_zero _)
 | f + 1, ws, k, hk, hf, hb => by
  rw [mS37_0]
  by_cases h : k < ws.length
  ·rw [decide_eq_true (by omega : (k : Int) < (ws.length : Int)), cond_true, rd_nat, List.getElem?_eq_getElem h]
   show (m73 _ _).bind _ = _
   have : m73 ⟨ws[k].t, ws[k].n⟩ ⟨ws[k].t, ws[k].n⟩ = some true := by unfold m73; rw [bne_self_eq_false, cond_false, bne_self_eq_false, cond_false]
   rw [this]
   show mS37_0 f ws ws _ = _
   rw [wr (by omega) (by omega), show (k : Int) + 1 = ((k + 1 : Nat) : Int) by omega]
   exact same37 f ws (k + 1) h (by omega) hb
  ·rw [decide_eq_false (by omega : ¬ (k : Int) < (ws.length : Int)), cond_false]
theorem same36' (ws : List Int) (h : ws.length < 2000000) : m36 ws ws = some true := by
 unfold m36
 rw [bne_self_eq_false, cond_false]
 have e := same36 2000000 ws 0 (Nat.zero_le _) (by omega) (by omega)
 rw [show ((0 : Nat) : Int) = 0 from rfl] at e
 exact e
theorem same37' (ws : List Vl) (h : ws.length < 2000000) : m37 ws ws = some true := by
 unfold m37
 rw [bne_self_eq_false, cond_false]
 have e := same37 2000000 ws 0 (Nat.zero_le _) (by omega) (by omega)
 rw [show ((0 : Nat) : Int) = 0 from rfl] at e
 exact e
theorem copy8 (a : Ar) (h1 : a.ws.length < 2000000) (h2 : a.rs.length < 2000000) : m8 a = some a := by
 unfold m8
 rw [copy31' _ h1, oBs, copy32' _ h2, oBs]
theorem same10 (a : Ar) (h1 : a.ws.length < 2000000) (h2 : a.rs.length < 2000000) : m10 a a = some true := by
 unfold m10
 rw [same36' _ h1, same37' _ h2]
 simp
end Go.Proofs.YtnjnggejbpkgoaaGreat
