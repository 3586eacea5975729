import Derived.Test.YtajpnemfppaafaaXAO
import Derived.Test.YtajpnemfppaafaaXAJ
import Derived.Test.YtajpnemfppaafaaXAK
import Derived.Test.YtajpnemfppaafaaXAM
import Derived.Test.YtajpnemfppaafaaXAN
set_option linter.unusedSimpArgs false
set_option linter.unusedVariables false
/- Shapes: nodes (the program). -/
namespace Go.Proofs.Ytajpnemfppaafaa
open Go Go.AH Go.AM
def END (x : Nd) (v : Value) : Prop := ∃ sv, v = .agg (List.toArray (x.cs sv)) ∧ isCell sv = true
def mS77_2 (a : Ar) : Nat → Int → List Int → List Int → List Vl → Int → Option (List Int × List Vl)
 | 0, _, _, _, _, _ => none
 | f + 1, p, ls, ps, sl, i => bif decide (i < (ls.length : Int)) then (rd ls i).bind fun k => (m114 a (IntKind.i64.wrap (p + k))).bind fun v => (val9 a ps v).bind fun q => (grow sl q.2).bind fun sl' => mS77_2 a f p ls q.1 sl' (IntKind.i64.wrap (i + 1))
  else some (ps, sl)
theorem tS77_2 {D N : Nat} {h : AHeap} (hD : 20005 ≤ D) (hN : 20000 ≤ N) {wv rv : Value} {a : Ar} (H : ArH h wv rv a) {Q : List ORow} {MQ : List MRow} {pa psh mm il rl pn pt : Nat} {lvl : Bool} {tmp : List Value} (htmp : tmp.length = 6) (ls : List Int) {m : Nat} {xs : Value} (hx : LV xs il lvl m) (hm : m ≤ ls.length) (p : Int) (nd : Nd) :
  ∀ (f n2 : Nat) (_ : f ≤ n2) (ps : List Int) (ip rtp : Nat) (lvp : Bool) (pv : Value) (_ : LV pv ip lvp ps.length) (sl : List Vl) (iv rtv : Nat) (lv : Bool) (sv : Value) (_ : LV sv iv lv sl.length) (x : Int) (g : AHeap) (_ : Ext h.size h g)
   (_ : Cx h.size g [(pa, arCells wv rv a)] (ShO ip rtp psh pa mm lvp pv ps (⟨iv, rtv, 59, lv, fl cV sl⟩ :: ⟨pn, pn, 73, true, nd.cs sv⟩ :: ⟨il, rl, 3, lvl, ls.map (Value.int .i64)⟩ :: ⟨pt, pt, 73, true, tmp⟩ :: Q)) ((mm, nEnt ps) :: MQ)),
   SmR h (RSh h END [(pa, arCells wv rv a)] psh pa mm Q MQ) ((mS77_2 a f p (ls.take m) ps sl x).bind fun r => some (r.1, { nd with sl := r.2 })) (s77_2 hk0 (call Tp Ms D) N n2 (ptr psh 0) p (ptr pt 0) (ptr pn 0) xs (m : Int) x g) := by
 intro f
 induction f with
 | zero => intros; exact Sm.none
 | succ f ih =>
  intro n2 hf ps ip rtp lvp pv hpv sl iv rtv lv sv hsv x g0 E0 y0
  unfold ShO at y0
  obtain ⟨n2, rfl⟩ : ∃ k, n2 = k + 1 := ⟨n2 - 1, by omega⟩
  rw [s77_2_eq, mS77_2]
  have hlen : (ls.take m).length = m := by rw [List.length_take, Nat.min_eq_left hm]
  rw [hlen]
  cases hc : decide (x < (m : Int)) with
  | true =>
   rw [cond_true, cond_true, Option.bind_assoc]
   refine Sm.mo fun k ek => ?_
   obtain ⟨a1, a2⟩ := atT y0 4 (Value.int .i64) ls rfl hx hm ek
   refine Sm.b a1 ?_
   refine Sm.b a2 ?_
   refine Sm.b rfl ?_
   refine Sm.b rfl ?_
   refine Sm.b rfl ?_
   refine Sm.b (y0.ldO 1 0 rfl rfl) ?_
   have RA := y0.rowF 0 rfl
   rw [Option.bind_assoc]
   refine Sm.c (t114 (by omega) (H.ext E0) RA (IntKind.i64.wrap (p + k))) fun v g2 e2 X2 => ?_
   have y2 := y0.ext X2
   have E2 := E0.trans (X2.mono E0.size)
   rw [Option.bind_assoc]
   refine Sm.cr (t76 (by omega) H ps hpv v g2 E2 y2) fun r4 v4 g4 e4 E4 R4 => ?_
   obtain ⟨hv4, ip4, rtp4, lv4, pv4, hp4, y4⟩ := R4
   have hv4' : v4 = r4.2.v := hv4
   subst hv4'
   unfold ShO at y4
   refine Sm.n y4 fun p5 g5 X5 y5 => ?_
   have E5 := E4.trans (X5.mono E4.size)
   refine Sm.sts y5 0 (cV r4.2) rfl (vlCells r4.2) rfl (by simp) (by simp [splice, cV]) fun g6 X6 y6 => ?_
   have E6 := E5.trans X6
   refine Sm.b rfl ?_
   refine Sm.b (y6.ldO 4 5 rfl rfl) ?_
   refine Sm.b (y6.ldON 0 rfl rfl) ?_
   refine Sm.b rfl ?_
   refine Sm.ns y6 fun p7 g7 X7 y7 => ?_
   have E7 := E6.trans (X7.mono E6.size)
   rw [Option.bind_assoc]
   refine Sm.apG cV cV_len (by decide) y7 4 sl (z := r4.2) rfl hsv (src1 y7 0 rfl rfl) fun i8 rt8 g8 l8 e8 X8 y8 => ?_
   have E8 := E7.trans X8
   refine Sm.b rfl ?_
   refine Sm.sts y8 5 (nd.cs (slc i8 0 l8.length)) rfl rfl rfl (by simp [Nd.cs]) rfl fun g9 X9 y9 => ?_
   have E9 := E8.trans X9
   exact ih _ (by omega) r4.1 ip4 rtp4 lv4 pv4 hp4 l8 i8 rt8 true (slc i8 0 l8.length) (LV.mk _ _) (IntKind.i64.wrap (x + 1)) _ E9 (y9.pick (.cons _ (.cons _ (List.Sublist.refl _))))
  | false =>
   rw [cond_false, cond_false, oBs]
   refine Sm.b (y0.ldON 3 rfl rfl) ?_
   refine Sm.sts y0 5 (nd.cs sv) rfl (ndCells nd hsv.isc) rfl (by rw [htmp]; simp) (by unfold splice; simp [htmp, Nd.cs]) fun g1 X1 y1 => ?_
   have E1 := E0.trans X1
   refine Sm.b (y1.ldON 5 rfl rfl) ?_
   exact Sm.fin E1 ⟨⟨sv, rfl, hsv.isc⟩, ip, rtp, lvp, pv, hpv, y1.pick (.cons_cons _ (.cons_cons _ (.cons _ (.cons _ (.cons _ (.cons _ (List.Sublist.refl _)))))))⟩
def slots9 (a : Ar) (p : Int) (ls ps : List Int) (nd : Nd) : Option (List Int × Nd) := (mS77_2 a 20000 p ls ps [] 0).bind fun r => some (r.1, { nd with sl := r.2 })
def node9 (a : Ar) (ps : List Int) (p : Int) : Option (List Int × Nd) :=
 (m72 a p).bind fun h => (m113 h.k h.s).bind fun ls =>
  bif h.k == 2 then (rd a.ws (IntKind.i64.wrap (p + 1))).bind fun n => slots9 a p ls ps ⟨h.k, h.n, IntKind.i64.wrap n, 0, ⟨#[]⟩, []⟩
  else bif h.k == 4 then (rd a.ws (IntKind.i64.wrap (p + 1))).bind fun n => slots9 a p ls ps ⟨h.k, h.n, IntKind.i64.wrap n, 0, ⟨#[]⟩, []⟩
  else bif h.k == 6 then (rd a.ws (IntKind.i64.wrap (p + 1))).bind fun n => (rd a.ws (IntKind.i64.wrap (p + 2))).bind fun m => (takeM ls (IntKind.i64.wrap (IntKind.i64.wrap m + 1))).bind fun ls' => slots9 a p ls' ps ⟨h.k, h.n, IntKind.i64.wrap n, IntKind.i64.wrap m, ⟨#[]⟩, []⟩
  else bif h.k == 1 then (m70 a p).bind fun t => slots9 a p ls ps ⟨h.k, h.n, 0, 0, t, []⟩
  else slots9 a p ls ps ⟨h.k, h.n, 0, 0, ⟨#[]⟩, []⟩
theorem t77_1 {D N : Nat} {h : AHeap} (hD : 20005 ≤ D) (hN : 20000 ≤ N) {wv rv : Value} {a : Ar} (H : ArH h wv rv a) {Q : List ORow} {MQ : List MRow} {pa psh mm il rl pn pt ip rtp : Nat} {lvl lvp : Bool} {pv : Value} {tmp : List Value} (htmp : tmp.length = 6) (ps ls : List Int) (hpv : LV pv ip lvp ps.length)
  {m : Nat} {xs : Value} (hx : LV xs il lvl m) (hm : m ≤ ls.length) (p : Int) (nd : Nd) (g : AHeap) (E0 : Ext h.size h g)
  (y0 : Cx h.size g [(pa, arCells wv rv a)] (⟨pn, pn, 73, true, nd.cs (.slice none 0 0)⟩ :: ⟨il, rl, 3, lvl, ls.map (Value.int .i64)⟩ :: ⟨pt, pt, 73, true, tmp⟩ :: ShO ip rtp psh pa mm lvp pv ps Q) ((mm, nEnt ps) :: MQ)) :
  SmR h (RSh h END [(pa, arCells wv rv a)] psh pa mm Q MQ) (slots9 a p (ls.take m) ps nd) (s77_1 hk0 (call Tp Ms D) N (ptr psh 0) p (ptr pt 0) (ptr pn 0) xs g) := by
 rw [s77_1_j, s77_1_eq]
 refine Sm.b hx.len ?_
 refine Sm.b rfl ?_
 have y1 := y0.add (Ext.refl g.size g) (i := 0) (rt := 0) (e := 59) (cs := []) (lv := false) (fun h => by cases h) (fun _ => rfl)
 unfold ShO at y1
 exact tS77_2 hD hN H htmp ls hx hm p nd 20000 N hN ps ip rtp lvp pv hpv [] 0 0 false (.slice none 0 0) (.inr ⟨rfl, rfl, rfl⟩) 0 g E0 ((y1.front 5 rfl).front 5 rfl)
theorem ord77 {b : Nat} {g : AHeap} {F : List FRow} {X1 X2 X3 X4 X5 X6 : ORow} {Q : List ORow} {M : List MRow} (y : Cx b g F (X1 :: X2 :: X3 :: X4 :: X5 :: X6 :: Q) M) : Cx b g F (X2 :: X1 :: X4 :: X5 :: X6 :: Q) M :=
 (y.pick (O' := X1 :: X2 :: X4 :: X5 :: X6 :: Q) (.cons_cons _ (.cons_cons _ (.cons _ (List.Sublist.refl _))))).front 1 rfl
theorem t77 {D : Nat} {h : AHeap} (hD : 20006 ≤ D) {wv rv : Value} {a : Ar} (H : ArH h wv rv a) {pa psh mm ip rtp : Nat} {lv : Bool} {pv : Value} {Q : List ORow} {MQ : List MRow} (ps : List Int) (hp : LV pv ip lv ps.length) (p : Int) (g0 : AHeap) (E0 : Ext h.size h g0)
  (y0 : Cx h.size g0 [(pa, arCells wv rv a)] (ShO ip rtp psh pa mm lv pv ps Q) ((mm, nEnt ps) :: MQ)) :
  SmR h (RSh h END [(pa, arCells wv rv a)] psh pa mm Q MQ) (node9 a ps p) (call Tp Ms D 77 [ptr psh 0, .int .i64 p] g0) := by
 obtain ⟨D, rfl⟩ : ∃ d, D = d + 1 := ⟨D - 1, by omega⟩
 rw [c77, e77]
 unfold node9
 have y0' := y0
 unfold ShO at y0'
 refine Sm.n y0' fun p1 g1 X1 y1 => ?_
 have E1 := E0.trans (X1.mono E0.size)
 refine Sm.b rfl ?_
 refine Sm.b rfl ?_
 refine Sm.b (y1.ldO 2 0 rfl rfl) ?_
 refine Sm.c (t72 (by omega) (H.ext E1) (y1.rowF 0 rfl) p) fun r3 g3 e3 X3 => ?_
 have y3 := y1.ext X3
 have E3 := E1.trans (X3.mono E1.size)
 refine Sm.n y3 fun p4 g4 X4 y4 => ?_
 have E4 := E3.trans (X4.mono E3.size)
 refine Sm.sts y4 0 [.int .i64 r3.k, .int .i64 r3.s, .int .i64 r3.n] rfl rfl rfl (by simp) rfl fun g5 X5 y5 => ?_
 have E5 := E4.trans X5
 refine Sm.b rfl ?_
 refine Sm.b (y5.ldO 0 0 rfl rfl) ?_
 refine Sm.b rfl ?_
 refine Sm.b rfl ?_
 refine Sm.b (y5.ldO 0 2 rfl rfl) ?_
 refine Sm.b rfl ?_
 refine Sm.n y5 fun p6 g6 X6 y6 => ?_
 have E6 := E5.trans (X6.mono E5.size)
 refine Sm.sts y6 0 ((⟨r3.k, r3.n, 0, 0, ⟨#[]⟩, []⟩ : Nd).cs (.slice none 0 0)) rfl rfl rfl (by simp) rfl fun g7 X7 y7 => ?_
 have E7 := E6.trans X7
 refine Sm.b rfl ?_
 refine Sm.b (y7.ldO 1 0 rfl rfl) ?_
 refine Sm.b rfl ?_
 refine Sm.b rfl ?_
 refine Sm.b (y7.ldO 1 1 rfl rfl) ?_
 refine Sm.b rfl ?_
 refine Sm.cr (t113 (by omega) r3.k r3.s) fun ls v8 g8 e8 X8 R8 => ?_
 obtain ⟨il, rl, lvl, hx, o8, z8⟩ := R8
 have E8 := E7.trans (X8.mono E7.size)
 have y8 := y7.add X8 o8 z8
 refine Sm.b rfl ?_
 refine Sm.b (y8.ldO 2 0 rfl rfl) ?_
 refine Sm.b rfl ?_
 have whole : ls.take ls.length = ls := List.take_length
 have NN : ∀ (g : AHeap) (E : Ext h.size h g) (y : Cx h.size g [(pa, arCells wv rv a)] (⟨il, rl, 3, lvl, ls.map (Value.int .i64)⟩ :: ⟨p6, p6, 73, true, (⟨r3.k, r3.n, 0, 0, ⟨#[]⟩, []⟩ : Nd).cs (.slice none 0 0)⟩ :: ⟨p4, p4, 102, true, [.int .i64 r3.k, .int .i64 r3.s, .int .i64 r3.n]⟩ :: ⟨p1, p1, 73, true, [.int .i64 0, .int .i64 0, .int .i64 0, .int .i64 0, .string ⟨#[]⟩, .slice none 0 0]⟩ :: ⟨ip, rtp, 3, lv, fl c1 ps⟩ :: ⟨psh, psh, 130, true, [ptr pa 0, .map (some mm), pv]⟩ :: Q) ((mm, nEnt ps) :: MQ)),
   SmR h (RSh h END [(pa, arCells wv rv a)] psh pa mm Q MQ) ((rd a.ws (IntKind.i64.wrap (p + 1))).bind fun n => slots9 a p ls ps ⟨r3.k, r3.n, IntKind.i64.wrap n, 0, ⟨#[]⟩, []⟩) (s77_0 hk0 (call Tp Ms D) D (ptr psh 0) p (ptr p1 0) (ptr p6 0) v8 r3.k true g) := fun g E y => by
  rw [s77_0_j, s77_0_eq]
  refine Sm.ct rfl ?_
  refine Sm.b rfl ?_
  refine Sm.b rfl ?_
  refine Sm.b (y.ldO 5 0 rfl rfl) ?_
  refine Sm.b rfl ?_
  refine Sm.b rfl ?_
  refine Sm.b (y.ldF 0 0 rfl rfl) ?_
  refine Sm.mo fun n en => ?_
  obtain ⟨q, i1, i2⟩ := H.w.at en
  refine Sm.b i1 ?_
  refine Sm.b (i2 _ E) ?_
  refine Sm.b rfl ?_
  refine Sm.b rfl ?_
  refine Sm.sts y 1 ((⟨r3.k, r3.n, IntKind.i64.wrap n, 0, ⟨#[]⟩, []⟩ : Nd).cs (.slice none 0 0)) rfl rfl rfl (by simp [Nd.cs]) rfl fun g11 X11 y11 => ?_
  have E11 := E.trans X11
  have := t77_1 (D := D) (N := D) (by omega) (by omega) H (by simp) ps ls hp hx (Nat.le_refl _) p ⟨r3.k, r3.n, IntKind.i64.wrap n, 0, ⟨#[]⟩, []⟩ g11 E11 (ord77 y11)
  rw [whole] at this
  exact this
 refine Sm.i (fun k9 => ?_) (fun k9 => ?_)
 ·rw [k9]
  exact NN g8 E8 y8
 ·cases k10 : r3.k == 4 with
  | true =>
   rw [cond_true]
   exact NN g8 E8 y8
  | false =>
   rw [cond_false, s77_0_j, s77_0_eq]
   refine Sm.cf rfl ?_
   refine Sm.i (fun k11 => ?_) (fun k11 => ?_)
   ·refine Sm.b rfl ?_
    refine Sm.b rfl ?_
    refine Sm.b (y8.ldO 5 0 rfl rfl) ?_
    refine Sm.b rfl ?_
    refine Sm.b rfl ?_
    refine Sm.b (y8.ldF 0 0 rfl rfl) ?_
    refine Sm.mo fun n en => ?_
    obtain ⟨q, i1, i2⟩ := H.w.at en
    refine Sm.b i1 ?_
    refine Sm.b (i2 _ E8) ?_
    refine Sm.b rfl ?_
    refine Sm.b rfl ?_
    refine Sm.sts y8 1 ((⟨r3.k, r3.n, IntKind.i64.wrap n, 0, ⟨#[]⟩, []⟩ : Nd).cs (.slice none 0 0)) rfl rfl rfl (by simp [Nd.cs]) rfl fun g11 X11 y11 => ?_
    have E11 := E8.trans X11
    refine Sm.b rfl ?_
    refine Sm.b rfl ?_
    refine Sm.b (y11.ldO 5 0 rfl rfl) ?_
    refine Sm.b rfl ?_
    refine Sm.b rfl ?_
    refine Sm.b (y11.ldF 0 0 rfl rfl) ?_
    refine Sm.mo fun m em => ?_
    obtain ⟨q2, j1, j2⟩ := H.w.at em
    refine Sm.b j1 ?_
    refine Sm.b (j2 _ E11) ?_
    refine Sm.b rfl ?_
    refine Sm.b rfl ?_
    refine Sm.sts y11 1 ((⟨r3.k, r3.n, IntKind.i64.wrap n, IntKind.i64.wrap m, ⟨#[]⟩, []⟩ : Nd).cs (.slice none 0 0)) rfl rfl rfl (by simp [Nd.cs]) rfl fun g13 X13 y13 => ?_
    have E13 := E11.trans X13
    refine Sm.b rfl ?_
    refine Sm.b (y13.ldO 1 3 rfl rfl) ?_
    refine Sm.b rfl ?_
    refine Sm.mo fun ls' e' => ?_
    unfold takeM at e'
    by_cases hc : 0 ≤ IntKind.i64.wrap (IntKind.i64.wrap m + 1) ∧ IntKind.i64.wrap (IntKind.i64.wrap m + 1) ≤ ls.length ∧ 0 < ls.length
    ·rw [if_pos hc] at e'
     cases e'
     obtain ⟨s1, s2⟩ := sub0 y13 0 rfl hx hc.1 hc.2.1 hc.2.2
     subst s2
     refine Sm.b s1 ?_
     exact t77_1 (D := D) (N := D) (by omega) (by omega) H (by simp) ps ls hp (LV.mk il (IntKind.i64.wrap (IntKind.i64.wrap m + 1)).toNat) (by omega) p ⟨r3.k, r3.n, IntKind.i64.wrap n, IntKind.i64.wrap m, ⟨#[]⟩, []⟩ g13 E13 (ord77 y13)
    ·rw [if_neg hc] at e'; cases e'
   ·refine Sm.i (fun k12 => ?_) (fun k12 => ?_)
    ·refine Sm.b rfl ?_
     refine Sm.b rfl ?_
     refine Sm.b (y8.ldO 5 0 rfl rfl) ?_
     refine Sm.c (t70 (by omega) (H.ext E8) (y8.rowF 0 rfl) p) fun t g10 e10 X10 => ?_
     have y10 := y8.ext X10
     have E10 := E8.trans (X10.mono E8.size)
     refine Sm.b rfl ?_
     refine Sm.b rfl ?_
     refine Sm.sts y10 1 ((⟨r3.k, r3.n, 0, 0, t, []⟩ : Nd).cs (.slice none 0 0)) rfl rfl rfl (by simp [Nd.cs]) rfl fun g11 X11 y11 => ?_
     have E11 := E10.trans X11
     have := t77_1 (D := D) (N := D) (by omega) (by omega) H (by simp) ps ls hp hx (Nat.le_refl _) p ⟨r3.k, r3.n, 0, 0, t, []⟩ g11 E11 (ord77 y11)
     rw [whole] at this
     exact this
    ·have := t77_1 (D := D) (N := D) (by omega) (by omega) H (by simp) ps ls hp hx (Nat.le_refl _) p ⟨r3.k, r3.n, 0, 0, ⟨#[]⟩, []⟩ g8 E8 (ord77 y8)
     rw [whole] at this
     exact this
open Go Go.AH Go.AM
def mS39_1 (a : Ar) : Nat → List Int → List Nd → Int → Option (List Nd)
 | 0, _, _, _ => none
 | f + 1, ps, ns, i => bif decide (i < (ps.length : Int)) then (rd ps i).bind fun p => (node9 a ps p).bind fun r => (grow ns r.2).bind fun ns' => mS39_1 a f r.1 ns' (IntKind.i64.wrap (i + 1)) else some ns
def mS39_0 (a : Ar) : Nat → List Int → List Vl → Int → Option (List Nd)
 | 0, _, _, _ => none
 | f + 1, ps, vs, i => bif decide (i < (a.rs.length : Int)) then (rd a.rs i).bind fun v => (val9 a ps v).bind fun r => (grow vs r.2).bind fun vs' => mS39_0 a f r.1 vs' (IntKind.i64.wrap (i + 1)) else mS39_1 a 20000 ps [] 0
def m39 (a : Ar) : Option (List Nd) := mS39_0 a 20000 [] [] 0
def RShape9 (h : AHeap) : List Nd → Value → AHeap → Prop := fun r v g => ∃ rv nv, v = .agg (List.toArray [rv, nv]) ∧ isCell rv = true ∧ isCell nv = true ∧ NdL h r nv g
theorem tS39_1 {D N : Nat} {h : AHeap} (hD : 20006 ≤ D) (hN : 20000 ≤ N) {wv rv : Value} {a : Ar} (H : ArH h wv rv a) {pa psh mm pt po : Nat} {tv : List Value} (htv : tv.length = 2) {rv1 : Value} {ir nr : Nat} {lr : Bool} (hr : LV rv1 ir lr nr) :
  ∀ (f n2 : Nat) (_ : f ≤ n2) (ps : List Int) (ip rtp : Nat) (lvp : Bool) (pv : Value) (_ : LV pv ip lvp ps.length) (l : List (Nd × Value)) (_ : ∀ x ∈ l, isCell x.2 = true) (iv rtv : Nat) (lv : Bool) (nv : Value) (_ : LV nv iv lv l.length) (x : Int) (g : AHeap) (_ : Ext h.size h g)
   (_ : Cx h.size g [(pa, arCells wv rv a)] (ShO ip rtp psh pa mm lvp pv ps (⟨iv, rtv, 73, lv, fl cN l⟩ :: ⟨po, po, 69, true, [rv1, nv]⟩ :: ⟨pt, pt, 69, true, tv⟩ :: [])) [(mm, nEnt ps)]),
   SmR h (RShape9 h) (mS39_1 a f ps (l.map (·.1)) x) (s39_1 hk0 (call Tp Ms D) N n2 (ptr pt 0) (ptr psh 0) (ptr po 0) x g) := by
 intro f
 induction f with
 | zero => intros; exact Sm.none
 | succ f ih =>
  intro n2 hf ps ip rtp lvp pv hpv l hl iv rtv lv nv hv x g0 E0 y0
  obtain ⟨n2, rfl⟩ : ∃ k, n2 = k + 1 := ⟨n2 - 1, by omega⟩
  rw [s39_1_eq, mS39_1]
  have y0' := y0
  unfold ShO at y0'
  refine Sm.b rfl ?_
  refine Sm.b rfl ?_
  refine Sm.b (y0'.ldO 1 2 rfl rfl) ?_
  refine Sm.b hpv.len ?_
  refine Sm.b rfl ?_
  cases hc : decide (x < (ps.length : Int)) with
  | true =>
   rw [cond_true, cond_true]
   refine Sm.b rfl ?_
   refine Sm.b rfl ?_
   refine Sm.b (y0'.ldO 1 2 rfl rfl) ?_
   refine Sm.mo fun p ep => ?_
   obtain ⟨a1, a2, a3⟩ := y0'.atG 0 c1 c1_len ps rfl hpv ep
   refine Sm.b a1 ?_
   refine Sm.b (a3 0 _ rfl) ?_
   refine Sm.b rfl ?_
   refine Sm.cr (t77 (by omega) H ps hpv p g0 E0 y0) fun r2 v2 g2 e2 E2 R2 => ?_
   obtain ⟨⟨sv2, rfl, hs2⟩, ip2, rtp2, lv2, pv2, hp2, y2⟩ := R2
   unfold ShO at y2
   refine Sm.n y2 fun p1 g1 X1 y1 => ?_
   have E1 := E2.trans (X1.mono E2.size)
   refine Sm.sts y1 0 (r2.2.cs sv2) rfl (ndCells r2.2 hs2) rfl (by simp) (by simp [splice, Nd.cs]) fun g3 X3 y3 => ?_
   have E3 := E1.trans X3
   refine Sm.b rfl ?_
   refine Sm.b (y3.ldO 4 1 rfl rfl) ?_
   refine Sm.b (y3.ldON 0 rfl rfl) ?_
   refine Sm.b (show aFill [.int .i64 0, .int .i64 0, .int .i64 0, .int .i64 0, .string ⟨#[]⟩, .slice none 0 0] [(0, 6, .agg (List.toArray (r2.2.cs sv2)))] = some (r2.2.cs sv2) by
    unfold aFill
    rw [ndCells r2.2 hs2, oBs, if_pos ⟨rfl, by simp⟩]
    unfold aFill
    simp [splice, Nd.cs]) ?_
   refine Sm.ns y3 fun p4 g4 X4 y4 => ?_
   have E4 := E3.trans (X4.mono E3.size)
   refine Sm.mo fun ns' en => ?_
   obtain ⟨hlen, rfl⟩ := grow_some en
   rw [List.length_map] at hlen
   refine Sm.apX cN cN_len (by decide) y4 4 l (z := (r2.2, sv2)) rfl hv (src1 y4 0 rfl rfl) hlen fun i5 rt5 g5 X5 y5 => ?_
   have E5 := E4.trans X5
   refine Sm.b rfl ?_
   refine Sm.sts y5 5 [rv1, slc i5 0 (l ++ [(r2.2, sv2)]).length] rfl rfl rfl (by simp) rfl fun g6 X6 y6 => ?_
   have E6 := E5.trans X6
   have := ih n2 (by omega) r2.1 ip2 rtp2 lv2 pv2 hp2 (l ++ [(r2.2, sv2)]) (fun x hx => by
    rcases List.mem_append.1 hx with hx | hx
    ·exact hl x hx
    ·rw [List.mem_singleton.1 hx]; exact hs2) i5 rt5 true _ (LV.mk i5 _) (IntKind.i64.wrap (x + 1)) g6 E6 (y6.pick (.cons _ (.cons _ (List.Sublist.refl _))))
   rw [List.map_append] at this
   exact this
  | false =>
   rw [cond_false, cond_false]
   refine Sm.b (y0'.ldON 3 rfl rfl) ?_
   refine Sm.sts y0' 4 [rv1, nv] rfl (cells2 hr.isc hv.isc) rfl (by rw [htv]; simp) (by unfold splice; simp [htv]) fun g1 X1 y1 => ?_
   have E1 := E0.trans X1
   refine Sm.b (y1.ldON 4 rfl rfl) ?_
   have q := y1.ow _ (List.mem_of_getElem? (show (_ : List ORow)[2]? = some ⟨iv, rtv, 73, lv, fl cN l⟩ from rfl))
   exact Sm.fin E1 ⟨rv1, nv, rfl, hr.isc, hv.isc, iv, rtv, lv, l, rfl, hv, q.1, q.2, hl⟩
theorem tS39_0 {D N : Nat} {h : AHeap} (hD : 20006 ≤ D) (hN : 20000 ≤ N) {wv rv : Value} {a : Ar} (H : ArH h wv rv a) {pa psh mm pt po : Nat} {tv : List Value} (htv : tv.length = 2) :
  ∀ (f n2 : Nat) (_ : f ≤ n2) (ps : List Int) (ip rtp : Nat) (lvp : Bool) (pv : Value) (_ : LV pv ip lvp ps.length) (vs : List Vl) (iv rtv : Nat) (lv : Bool) (rv1 : Value) (_ : LV rv1 iv lv vs.length) (x : Int) (g : AHeap) (_ : Ext h.size h g)
   (_ : Cx h.size g [(pa, arCells wv rv a)] (ShO ip rtp psh pa mm lvp pv ps (⟨iv, rtv, 59, lv, fl cV vs⟩ :: ⟨po, po, 69, true, [rv1, .slice none 0 0]⟩ :: ⟨pt, pt, 69, true, tv⟩ :: [])) [(mm, nEnt ps)]),
   SmR h (RShape9 h) (mS39_0 a f ps vs x) (s39_0 hk0 (call Tp Ms D) N n2 (ptr pt 0) (ptr psh 0) (ptr po 0) rv (a.rs.length : Int) x g) := by
 intro f
 induction f with
 | zero => intros; exact Sm.none
 | succ f ih =>
  intro n2 hf ps ip rtp lvp pv hpv vs iv rtv lv rv1 hv x g0 E0 y0
  obtain ⟨n2, rfl⟩ : ∃ k, n2 = k + 1 := ⟨n2 - 1, by omega⟩
  rw [s39_0_eq, mS39_0]
  cases hc : decide (x < (a.rs.length : Int)) with
  | true =>
   rw [cond_true, cond_true]
   refine Sm.mo fun v ev => ?_
   obtain ⟨j, o, a1, a2⟩ := H.r.at ev
   refine Sm.b a1 ?_
   refine Sm.b (a2 _ E0).1 ?_
   refine Sm.n y0 fun p1 g1 X1 y1 => ?_
   have E1 := E0.trans (X1.mono E0.size)
   refine Sm.sts y1 0 (cV v) rfl (vlCells v) rfl (by simp) (by simp [splice, cV]) fun g2 X2 y2 => ?_
   have E2 := E1.trans X2
   refine Sm.b (y2.ldON 0 rfl rfl) ?_
   unfold ShO at y2
   have y2' := (y2.front 1 rfl).front 2 rfl |>.front 1 rfl
   refine Sm.cr (t76 (by omega) H ps hpv v g2 E2 y2') fun r3 v3 g3 e3 E3 R3 => ?_
   obtain ⟨hv3, ip3, rtp3, lv3, pv3, hp3, y3⟩ := R3
   have hv3' : v3 = r3.2.v := hv3
   subst hv3'
   unfold ShO at y3
   refine Sm.n y3 fun p4 g4 X4 y4 => ?_
   have E4 := E3.trans (X4.mono E3.size)
   refine Sm.sts y4 0 (cV r3.2) rfl (vlCells r3.2) rfl (by simp) (by simp [splice, cV]) fun g5 X5 y5 => ?_
   have E5 := E4.trans X5
   refine Sm.b rfl ?_
   refine Sm.b (y5.ldO 5 0 rfl rfl) ?_
   refine Sm.b (y5.ldON 0 rfl rfl) ?_
   refine Sm.b rfl ?_
   refine Sm.ns y5 fun p6 g6 X6 y6 => ?_
   have E6 := E5.trans (X6.mono E5.size)
   refine Sm.mo fun vs' en => ?_
   obtain ⟨hlen, rfl⟩ := grow_some en
   refine Sm.apX cV cV_len (by decide) y6 5 vs (z := r3.2) rfl hv (src1 y6 0 rfl rfl) hlen fun i7 rt7 g7 X7 y7 => ?_
   have E7 := E6.trans X7
   refine Sm.b rfl ?_
   refine Sm.sts y7 6 [slc i7 0 (vs ++ [r3.2]).length, .slice none 0 0] rfl rfl rfl (by simp) rfl fun g8 X8 y8 => ?_
   have E8 := E7.trans X8
   exact ih n2 (by omega) r3.1 ip3 rtp3 lv3 pv3 hp3 (vs ++ [r3.2]) i7 rt7 true _ (LV.mk i7 _) (IntKind.i64.wrap (x + 1)) g8 E8 (y8.pick (.cons _ (.cons _ (.cons_cons _ (.cons_cons _ (.cons _ (List.Sublist.refl _)))))))
  | false =>
   rw [cond_false, cond_false]
   unfold ShO at y0
   have y1 := (y0.pick (O' := _ :: _ :: _ :: _ :: []) (.cons_cons _ (.cons_cons _ (.cons _ (.cons_cons _ (.cons_cons _ .slnil)))))).add (Ext.refl g0.size g0) (i := 0) (rt := 0) (e := 73) (cs := []) (lv := false) (fun h => by cases h) (fun _ => rfl)
   exact tS39_1 hD hN H htv hv 20000 N hN ps ip rtp lvp pv hpv [] (fun x hx => by cases hx) 0 0 false (.slice none 0 0) (.inr ⟨rfl, rfl, rfl⟩) 0 g0 E0 ((y1.front 2 rfl).front 2 rfl)
theorem t39 {D : Nat} {h : AHeap} (hD : 20007 ≤ D) {wv rv : Value} {a : Ar} (H : ArH h wv rv a) {pa : Nat} (RA : Row h pa (arCells wv rv a) ∧ pa < h.size) : SmR h (RShape9 h) (m39 a) (call Tp Ms D 39 [ptr pa 0] h) := by
 obtain ⟨D, rfl⟩ : ∃ d, D = d + 1 := ⟨D - 1, by omega⟩
 rw [c39, e39]
 unfold m39
 have y0 := (Cx.start0 h).addF RA.1 RA.2
 have E0 := Ext.refl h.size h
 refine Sm.n y0 fun p1 g1 X1 y1 => ?_
 have E1 := E0.trans (X1.mono E0.size)
 refine Sm.nM y1 fun p2 g2 X2 y2 => ?_
 have E2 := E1.trans (X2.mono E1.size)
 refine Sm.b rfl ?_
 refine Sm.b rfl ?_
 refine Sm.n y2 fun p3 g3 X3 y3 => ?_
 have E3 := E2.trans (X3.mono E2.size)
 refine Sm.n y3 fun p4 g4 X4 y4 => ?_
 have E4 := E3.trans (X4.mono E3.size)
 refine Sm.sts y4 0 [.slice none 0 0, .slice none 0 0] rfl rfl rfl (by simp) rfl fun g5 X5 y5 => ?_
 have E5 := E4.trans X5
 refine Sm.b rfl ?_
 refine Sm.b rfl ?_
 refine Sm.b (y5.ldF 0 9 rfl rfl) ?_
 refine Sm.b H.r.len ?_
 refine Sm.b rfl ?_
 have y6 := y5.add (Ext.refl g5.size g5) (i := 0) (rt := 0) (e := 59) (cs := []) (lv := false) (fun h => by cases h) (fun _ => rfl)
 have y7 := (y6.front 2 rfl).add (Ext.refl g5.size g5) (i := 0) (rt := 0) (e := 3) (cs := []) (lv := false) (fun h => by cases h) (fun _ => rfl)
 exact tS39_0 (by omega) (by omega) H rfl 20000 D (by omega) [] 0 0 false (.slice none 0 0) (.inr ⟨rfl, rfl, rfl⟩) [] 0 0 false (.slice none 0 0) (.inr ⟨rfl, rfl, rfl⟩) 0 g5 E5 y7
def m12 (a : Ar) : Option (List ByteArray) := (m33 a).bind fun ok => bif !ok then some [] else (m39 a).bind fun ns => mS11_0 20000 ns [] 0
theorem tS12_0 {D N : Nat} {h : AHeap} (hN : 20000 ≤ N) {rtn inn : Nat} {lvn : Bool} {nv : Value} (l : List (Nd × Value)) (hl : ∀ x ∈ l, isCell x.2 = true) (hv : LV nv inn lvn l.length) :
  ∀ (f n2 : Nat) (_ : f ≤ n2) (ts : List ByteArray) (it rt : Nat) (x : Int) (g : AHeap) (_ : Ext h.size h g)
   (_ : Cx h.size g [] (⟨it, rt, 9, true, ts.map Value.string⟩ :: ⟨inn, rtn, 73, lvn, fl cN l⟩ :: []) []),
   SmR h (RO h Value.string 9) (mS11_0 f (l.map (·.1)) ts x) (s12_0 hk0 (call Tp Ms D) N n2 (slc it 0 ts.length) nv (l.length : Int) x g) := by
 intro f
 induction f with
 | zero => intros; exact Sm.none
 | succ f ih =>
  intro n2 hf ts it rt x g0 E0 y0
  obtain ⟨n2, rfl⟩ : ∃ k, n2 = k + 1 := ⟨n2 - 1, by omega⟩
  rw [s12_0_eq, mS11_0, List.length_map]
  refine Sm.i (fun k1 => ?_) (fun k1 => ?_)
  ·refine Sm.mo fun nd en => ?_
   rw [rd_map, Option.map_eq_some_iff] at en
   obtain ⟨z, ez, rfl⟩ := en
   have hz := hl z (List.mem_of_getElem? (rd_some ez).2.2)
   obtain ⟨a1, a2, a3⟩ := y0.atG 1 cN cN_len l rfl hv ez
   refine Sm.b a1 ?_
   refine Sm.b a2 ?_
   refine Sm.n y0 fun p1 g1 X1 y1 => ?_
   have E1 := E0.trans (X1.mono E0.size)
   refine Sm.sts y1 0 (z.1.cs z.2) rfl (ndCells z.1 hz) rfl (by simp) (by simp [splice, Nd.cs]) fun g2 X2 y2 => ?_
   have E2 := E1.trans X2
   refine Sm.b rfl ?_
   refine Sm.b (y2.ldO 0 0 rfl rfl) ?_
   refine Sm.b rfl ?_
   refine Sm.i (fun k2 => ?_) (fun k2 => ?_)
   ·refine Sm.b rfl ?_
    refine Sm.b (y2.ldO 0 4 rfl rfl) ?_
    refine Sm.b rfl ?_
    refine Sm.ns y2 fun p3 g3 X3 y3 => ?_
    have E3 := E2.trans (X3.mono E2.size)
    refine Sm.ap Value.string y3 2 ts (by decide) rfl (y3.ldO 0 0 rfl rfl) fun i4 g4 l4 e4 X4 y4 => ?_
    have E4 := E3.trans X4
    exact ih n2 (by omega) l4 i4 _ (IntKind.i64.wrap (x + 1)) g4 E4 (y4.pick (.cons _ (.cons _ (List.Sublist.refl _))))
   ·exact ih n2 (by omega) ts it _ (IntKind.i64.wrap (x + 1)) g2 E2 (y2.pick (.cons _ (List.Sublist.refl _)))
  ·exact Sm.fin E0 (y0.ro 0 Value.string ts rfl (LV.mk _ _))
theorem t12 {D : Nat} {h : AHeap} (hD : 20008 ≤ D) {wv rv : Value} {a : Ar} (H : ArH h wv rv a) : SmR h (RO h Value.string 9) (m12 a) (call Tp Ms D 12 [arV wv rv a] h) := by
 obtain ⟨D, rfl⟩ : ∃ d, D = d + 1 := ⟨D - 1, by omega⟩
 rw [c12, e12]
 unfold m12
 have y0 := Cx.start0 h
 have E0 := Ext.refl h.size h
 refine Sm.b H.cells ?_
 refine Sm.n y0 fun p1 g1 X1 y1 => ?_
 have E1 := E0.trans (X1.mono E0.size)
 refine Sm.ns y1 fun p2 g2 X2 y2 => ?_
 have E2 := E1.trans (X2.mono E1.size)
 refine Sm.b (y2.ldON 1 rfl rfl) ?_
 refine Sm.c (t33 (by omega) (H.ext E2)) fun ok g3 e3 X3 => ?_
 have y3 := y2.ext X3
 have E3 := E2.trans (X3.mono E2.size)
 refine Sm.b rfl ?_
 refine Sm.i (fun k4 => ?_) (fun k4 => ?_)
 ·exact Sm.fin E3 (y3.ro 0 Value.string [] rfl (LV.mk _ _))
 ·refine Sm.cr (t39 (by omega) (H.ext E3) (y3.rowO 1 rfl)) fun ns v5 g5 e5 X5 R5 => ?_
  obtain ⟨rv5, nv5, rfl, hc1, hc2, i5, rt5, lv5, l5, hl5, hv5, o5, z5, hq5⟩ := R5
  have E5 := E3.trans (X5.mono E3.size)
  have y5 := y3.add X5 o5 z5
  refine Sm.b rfl ?_
  refine Sm.b hv5.len ?_
  refine Sm.b rfl ?_
  rw [← hl5]
  exact tS12_0 (by omega) l5 hq5 hv5 20000 D (by omega) [] p2 p2 0 g5 E5 ((y5.pick (O' := _ :: _ :: []) (.cons_cons _ (.cons_cons _ (.cons _ .slnil)))).front 1 rfl)
open Go Go.AH Go.AM
def RArO (h : AHeap) : Ar → Value → AHeap → Prop := fun a v g => ∃ wv rv iw rw lw ir rr, v = arV wv rv a ∧ ArH g wv rv a ∧ LV wv iw lw a.ws.length ∧ rv = slc ir 0 a.rs.length ∧ Cx h.size g [] (⟨iw, rw, 108, lw, a.ws.map (Value.int .u64)⟩ :: ⟨ir, rr, 59, true, vcells a.rs⟩ :: []) []
theorem t8o {D : Nat} {h : AHeap} (hD : 2000002 ≤ D) {wv rv : Value} {a : Ar} (H : ArH h wv rv a) : SmR h (RArO h) (m8 a) (call Tp Ms D 8 [arV wv rv a] h) := by
 obtain ⟨D, rfl⟩ : ∃ d, D = d + 1 := ⟨D - 1, by omega⟩
 rw [c8, e8]
 unfold m8
 have y0 := Cx.start0 h
 have E0 := Ext.refl h.size h
 refine Sm.b H.cells ?_
 refine Sm.n y0 fun p1 g1 X1 y1 => ?_
 have E1 := E0.trans (X1.mono E0.size)
 refine Sm.n y1 fun p2 g2 X2 y2 => ?_
 have E2 := E1.trans (X2.mono E1.size)
 refine Sm.n y2 fun p3 g3 X3 y3 => ?_
 have E3 := E2.trans (X3.mono E2.size)
 refine Sm.b rfl ?_
 refine Sm.b (y3.ldO 2 0 rfl rfl) ?_
 refine Sm.cr (t31 (by omega) (H.w.ext E3)) fun r4 v4 g4 e4 X4 R4 => ?_
 obtain ⟨i4, q4, b4, h4, o4, z4⟩ := R4
 have y4 := y3.add X4 o4 z4
 have E4 := E3.trans (X4.mono E3.size)
 refine Sm.b rfl ?_
 refine Sm.sts y4 1 [v4, .int .i64 0, .int .i64 0, .int .i64 0, .bool false, .int .i64 0, .int .i64 0, .int .i64 0, .int .i64 0, .slice none 0 0] rfl (LV.cells h4) rfl (by simp) rfl fun g5 X5 y5 => ?_
 have E5 := E4.trans X5
 refine Sm.b rfl ?_
 refine Sm.b (y5.ldO 3 1 rfl rfl) ?_
 refine Sm.b rfl ?_
 refine Sm.b rfl ?_
 refine Sm.sts y5 1 [v4, .int .i64 a.semi, .int .i64 0, .int .i64 0, .bool false, .int .i64 0, .int .i64 0, .int .i64 0, .int .i64 0, .slice none 0 0] rfl rfl rfl (by simp) rfl fun g6 X6 y6 => ?_
 have E6 := E5.trans X6
 refine Sm.b rfl ?_
 refine Sm.b (y6.ldO 3 2 rfl rfl) ?_
 refine Sm.b rfl ?_
 refine Sm.b rfl ?_
 refine Sm.sts y6 1 [v4, .int .i64 a.semi, .int .i64 a.to, .int .i64 0, .bool false, .int .i64 0, .int .i64 0, .int .i64 0, .int .i64 0, .slice none 0 0] rfl rfl rfl (by simp) rfl fun g7 X7 y7 => ?_
 have E7 := E6.trans X7
 refine Sm.b rfl ?_
 refine Sm.b (y7.ldO 3 3 rfl rfl) ?_
 refine Sm.b rfl ?_
 refine Sm.b rfl ?_
 refine Sm.sts y7 1 [v4, .int .i64 a.semi, .int .i64 a.to, .int .i64 a.top, .bool false, .int .i64 0, .int .i64 0, .int .i64 0, .int .i64 0, .slice none 0 0] rfl rfl rfl (by simp) rfl fun g8 X8 y8 => ?_
 have E8 := E7.trans X8
 refine Sm.b rfl ?_
 refine Sm.b (y8.ldO 3 4 rfl rfl) ?_
 refine Sm.b rfl ?_
 refine Sm.b rfl ?_
 refine Sm.sts y8 1 [v4, .int .i64 a.semi, .int .i64 a.to, .int .i64 a.top, .bool a.cyc, .int .i64 0, .int .i64 0, .int .i64 0, .int .i64 0, .slice none 0 0] rfl rfl rfl (by simp) rfl fun g9 X9 y9 => ?_
 have E9 := E8.trans X9
 refine Sm.b rfl ?_
 refine Sm.b (y9.ldO 3 5 rfl rfl) ?_
 refine Sm.b rfl ?_
 refine Sm.b rfl ?_
 refine Sm.sts y9 1 [v4, .int .i64 a.semi, .int .i64 a.to, .int .i64 a.top, .bool a.cyc, .int .i64 a.scan, .int .i64 0, .int .i64 0, .int .i64 0, .slice none 0 0] rfl rfl rfl (by simp) rfl fun g10 X10 y10 => ?_
 have E10 := E9.trans X10
 refine Sm.b rfl ?_
 refine Sm.b (y10.ldO 3 6 rfl rfl) ?_
 refine Sm.b rfl ?_
 refine Sm.b rfl ?_
 refine Sm.sts y10 1 [v4, .int .i64 a.semi, .int .i64 a.to, .int .i64 a.top, .bool a.cyc, .int .i64 a.scan, .int .i64 a.old, .int .i64 0, .int .i64 0, .slice none 0 0] rfl rfl rfl (by simp) rfl fun g11 X11 y11 => ?_
 have E11 := E10.trans X11
 refine Sm.b rfl ?_
 refine Sm.b (y11.ldO 3 7 rfl rfl) ?_
 refine Sm.b rfl ?_
 refine Sm.b rfl ?_
 refine Sm.sts y11 1 [v4, .int .i64 a.semi, .int .i64 a.to, .int .i64 a.top, .bool a.cyc, .int .i64 a.scan, .int .i64 a.old, .int .i64 a.cop, .int .i64 0, .slice none 0 0] rfl rfl rfl (by simp) rfl fun g12 X12 y12 => ?_
 have E12 := E11.trans X12
 refine Sm.b rfl ?_
 refine Sm.b (y12.ldO 3 8 rfl rfl) ?_
 refine Sm.b rfl ?_
 refine Sm.b rfl ?_
 refine Sm.sts y12 1 [v4, .int .i64 a.semi, .int .i64 a.to, .int .i64 a.top, .bool a.cyc, .int .i64 a.scan, .int .i64 a.old, .int .i64 a.cop, .int .i64 a.ser, .slice none 0 0] rfl rfl rfl (by simp) rfl fun g13 X13 y13 => ?_
 have E13 := E12.trans X13
 refine Sm.b rfl ?_
 refine Sm.b (y13.ldO 3 9 rfl rfl) ?_
 refine Sm.cr (t32 (by omega) (H.r.ext E13)) fun r14 v14 g14 e14 X14 R14 => ?_
 obtain ⟨i14, q14, rfl, o14, z14⟩ := R14
 have y14 := y13.add (lv := true) X14 (fun _ => ⟨o14, z14⟩) (fun h => by cases h)
 have E14 := E13.trans (X14.mono E13.size)
 refine Sm.b rfl ?_
 refine Sm.sts y14 2 [v4, .int .i64 a.semi, .int .i64 a.to, .int .i64 a.top, .bool a.cyc, .int .i64 a.scan, .int .i64 a.old, .int .i64 a.cop, .int .i64 a.ser, slc i14 0 r14.length] rfl rfl rfl (by simp) rfl fun g15 X15 y15 => ?_
 have E15 := E14.trans X15
 refine Sm.b (y15.ldON 2 rfl rfl) ?_
 refine Sm.sts y15 3 [v4, .int .i64 a.semi, .int .i64 a.to, .int .i64 a.top, .bool a.cyc, .int .i64 a.scan, .int .i64 a.old, .int .i64 a.cop, .int .i64 a.ser, slc i14 0 r14.length] rfl (arCells_ok (a := ⟨r4, a.semi, a.to, a.top, a.cyc, a.scan, a.old, a.cop, a.ser, r14⟩) h4.isc rfl) rfl (by simp) rfl fun g16 X16 y16 => ?_
 have E16 := E15.trans X16
 refine Sm.b (y16.ldON 3 rfl rfl) ?_
 exact Sm.fin E16 ⟨_, _, i4, q4, b4, i14, q14, rfl, ⟨y16.slE 1 rfl h4, y16.slI 1 r4 rfl h4, y16.slV 0 r14 rfl⟩, h4, rfl, ((y16.front 1 rfl).pick (O' := _ :: _ :: []) (.cons_cons _ (.cons_cons _ (List.nil_sublist _)))).pickM (List.nil_sublist _)⟩
theorem Cx.join {b : Nat} {g g' : AHeap} {F : List FRow} {O O2 : List ORow} {M : List MRow} (y : Cx b g F O M) (E : Ext g.size g g') (z : Cx g.size g' [] O2 []) : Cx b g' F (O2 ++ O) M := by
 have y' := y.ext E
 refine ⟨y'.bh, y'.fr, fun q hq => ?_, List.pairwise_append.2 ⟨z.nd, y'.nd, fun p hp q hq l1 l2 => ?_⟩, y'.ms, y'.md⟩
 ·rcases List.mem_append.1 hq with h | h
  ·have := z.ow q h
   exact ⟨fun l => ⟨(this.1 l).1, Nat.le_trans y.bh (this.1 l).2⟩, this.2⟩
  ·exact y'.ow q h
 ·have h1 := ((z.ow p hp).1 l1).2
  have h2 := ((y.ow q hq).1 l2).1.lt
  omega
theorem RO.cx {α : Type} {h g : AHeap} {c : α → Value} {e : TypeId} {l : List α} {v : Value} (x : RO h c e l v g) (E : Ext h.size h g) : ∃ i rt lv, LV v i lv l.length ∧ Cx h.size g [] (⟨i, rt, e, lv, l.map c⟩ :: []) [] := by
 obtain ⟨i, rt, lv, hv, o, z⟩ := x
 exact ⟨i, rt, lv, hv, (Cx.start0 h).add E o z⟩
def RMk (h : AHeap) (F : List FRow) (i rt : Nat) (e : TypeId) (lv : Bool) (n : Nat) (Q : List ORow) (M : List MRow) : Int → Value → AHeap → Prop := fun r v g => v = .int .i64 r ∧ ∃ cs, cs.length = n ∧ Cx h.size g F (⟨i, rt, e, lv, cs⟩ :: Q) M
theorem tS40_0 {D N : Nat} {h : AHeap} {F : List FRow} {Q : List ORow} {M : List MRow} {i rt : Nat} {lv : Bool} {n : Nat} {wv : Value} (hv : LV wv i lv n) (hn : n ≤ 2000000) :
  ∀ (f j : Nat) (k : Nat) (cs : List Value) (g : AHeap) (_ : n - j < f) (_ : j ≤ n) (_ : k + (n - j) ≤ 1000000000) (_ : cs.length = n) (_ : Ext h.size h g) (_ : Cx h.size g F (⟨i, rt, 108, lv, cs⟩ :: Q) M),
   SmR h (RMk h F i rt 108 lv n Q M) (some ((k + (n - j) : Nat) : Int)) (s40_0 hk0 (call Tp Ms D) N f wv (k : Int) (j : Int) g)
 | 0, _, _, _, _, h, _, _, _, _, _ => absurd h (Nat.not_lt_zero _)
 | f + 1, j, k, cs, g, hf, hj, hk, hc, E0, y0 => by
  rw [s40_0_eq]
  refine Sm.b hv.len ?_
  refine Sm.b rfl ?_
  by_cases c : j < n
  ·refine Sm.ct (decide_eq_true (by omega)) ?_
   rcases hv with ⟨hl, rfl⟩ | ⟨_, _, hz⟩
   ·subst hl
    refine Sm.b (show aIdx (slc i 0 n) (.int .i64 (j : Int)) 1 = some (ptr i j) by simp [aIdx, slc, c]) ?_
    refine Sm.st y0 0 (vs := [.int .u64 (IntKind.u64.wrap (k : Int))]) rfl rfl rfl (by omega) fun g1 X1 y1 => ?_
    have E1 := E0.trans X1
    rw [wr0 (by omega), wr0 (by omega), show k + (n - j) = (k + 1) + (n - (j + 1)) by omega]
    exact tS40_0 (.inl ⟨rfl, rfl⟩) hn f (j + 1) (k + 1) _ g1 (by omega) c (by omega) (by simp [splice]; omega) E1 y1
   ·omega
  ·refine Sm.cf (decide_eq_false (by omega)) ?_
   rw [show k + (n - j) = k by omega]
   exact Sm.fin E0 ⟨rfl, cs, hc, y0⟩
theorem t40 {D : Nat} {h : AHeap} (hD : 2000002 ≤ D) {F : List FRow} {Q : List ORow} {M : List MRow} {i rt : Nat} {lv : Bool} {n : Nat} {wv : Value} (hv : LV wv i lv n) (hn : n ≤ 2000000) (k : Nat) (hk : k + n ≤ 1000000000) (cs : List Value) (hc : cs.length = n) (g : AHeap) (E0 : Ext h.size h g) (y0 : Cx h.size g F (⟨i, rt, 108, lv, cs⟩ :: Q) M) :
  SmR h (RMk h F i rt 108 lv n Q M) (some ((k + n : Nat) : Int)) (call Tp Ms D 40 [wv, .int .i64 (k : Int)] g) := by
 obtain ⟨D, rfl⟩ : ∃ d, D = d + 1 := ⟨D - 1, by omega⟩
 rw [c40, e40]
 exact tS40_0 hv hn D 0 k cs g (by omega) (Nat.zero_le _) (by omega) hc E0 y0
theorem tS41_0 {D N : Nat} {h : AHeap} {F : List FRow} {Q : List ORow} {M : List MRow} {i rt : Nat} {lv : Bool} {n : Nat} {wv : Value} (hv : LV wv i lv n) (hn : n ≤ 2000000) :
  ∀ (f j : Nat) (k : Nat) (cs : List Value) (g : AHeap) (_ : n - j < f) (_ : j ≤ n) (_ : k + 2 * (n - j) ≤ 1000000000) (_ : cs.length = 2 * n) (_ : Ext h.size h g) (_ : Cx h.size g F (⟨i, rt, 59, lv, cs⟩ :: Q) M),
   SmR h (RMk h F i rt 59 lv (2 * n) Q M) (some ((k + 2 * (n - j) : Nat) : Int)) (s41_0 hk0 (call Tp Ms D) N f wv (k : Int) (j : Int) g)
 | 0, _, _, _, _, h, _, _, _, _, _ => absurd h (Nat.not_lt_zero _)
 | f + 1, j, k, cs, g, hf, hj, hk, hc, E0, y0 => by
  rw [s41_0_eq]
  refine Sm.b hv.len ?_
  refine Sm.b rfl ?_
  by_cases c : j < n
  ·refine Sm.ct (decide_eq_true (by omega)) ?_
   rcases hv with ⟨hl, rfl⟩ | ⟨_, _, hz⟩
   ·subst hl
    have ix : aIdx (slc i 0 n) (.int .i64 (j : Int)) 2 = some (ptr i (j * 2)) := by simp [aIdx, slc, c]
    refine Sm.b ix ?_
    refine Sm.b rfl ?_
    refine Sm.st y0 0 (off := j * 2 + 0) (vs := [.int .i64 (k : Int)]) rfl rfl rfl (by omega) fun g1 X1 y1 => ?_
    have E1 := E0.trans X1
    refine Sm.b ix ?_
    refine Sm.b rfl ?_
    rw [wr0 (by omega), wr0 (by omega), wr0 (by omega)]
    refine Sm.st y1 0 (off := j * 2 + 1) (vs := [.int .i64 ((k + 1 : Nat) : Int)]) rfl rfl rfl (by simp [splice]; omega) fun g2 X2 y2 => ?_
    have E2 := E1.trans X2
    rw [show k + 2 * (n - j) = (k + 1 + 1) + 2 * (n - (j + 1)) by omega]
    exact tS41_0 (.inl ⟨rfl, rfl⟩) hn f (j + 1) (k + 1 + 1) _ g2 (by omega) c (by omega) (by simp [splice]; omega) E2 y2
   ·omega
  ·refine Sm.cf (decide_eq_false (by omega)) ?_
   rw [show k + 2 * (n - j) = k by omega]
   exact Sm.fin E0 ⟨rfl, cs, hc, y0⟩
theorem t41 {D : Nat} {h : AHeap} (hD : 2000002 ≤ D) {F : List FRow} {Q : List ORow} {M : List MRow} {i rt : Nat} {lv : Bool} {n : Nat} {wv : Value} (hv : LV wv i lv n) (hn : n ≤ 2000000) (k : Nat) (hk : k + 2 * n ≤ 1000000000) (cs : List Value) (hc : cs.length = 2 * n) (g : AHeap) (E0 : Ext h.size h g) (y0 : Cx h.size g F (⟨i, rt, 59, lv, cs⟩ :: Q) M) :
  SmR h (RMk h F i rt 59 lv (2 * n) Q M) (some ((k + 2 * n : Nat) : Int)) (call Tp Ms D 41 [wv, .int .i64 (k : Int)] g) := by
 obtain ⟨D, rfl⟩ : ∃ d, D = d + 1 := ⟨D - 1, by omega⟩
 rw [c41, e41]
 exact tS41_0 hv hn D 0 k cs g (by omega) (Nat.zero_le _) (by omega) hc E0 y0
theorem t14 {D : Nat} {h : AHeap} (hD : 2000003 ≤ D) {F : List FRow} {Q : List ORow} {M : List MRow} {iw rw ir rr : Nat} {lw : Bool} {wv : Value} {a : Ar} (hw : LV wv iw lw a.ws.length) (h1 : a.ws.length ≤ 2000000) (h2 : a.rs.length ≤ 2000000) (g : AHeap) (E0 : Ext h.size h g)
  (y0 : Cx h.size g F (⟨iw, rw, 108, lw, a.ws.map (Value.int .u64)⟩ :: ⟨ir, rr, 59, true, vcells a.rs⟩ :: Q) M) :
  SmR h (fun (r : Int) v g => v = .int .i64 r ∧ Cx h.size g F Q M) (some ((1 + a.ws.length + 2 * a.rs.length : Nat) : Int)) (call Tp Ms D 14 [arV wv (slc ir 0 a.rs.length) a, .int .i64 1] g) := by
 obtain ⟨D, rfl⟩ : ∃ d, D = d + 1 := ⟨D - 1, by omega⟩
 rw [c14, e14]
 refine Sm.b (arCells_ok hw.isc rfl) ?_
 refine Sm.n y0 fun p1 g1 X1 y1 => ?_
 have E1 := E0.trans (X1.mono E0.size)
 refine Sm.b rfl ?_
 refine Sm.b (y1.ldO 0 0 rfl rfl) ?_
 refine Sm.cv rfl (t40 (by omega) hw h1 1 (by omega) _ (by simp) g1 E1 (y1.front 1 rfl)) fun v2 g2 E2 R2 => ?_
 obtain ⟨rfl, cs2, hc2, y2⟩ := R2
 refine Sm.b rfl ?_
 refine Sm.b rfl ?_
 refine Sm.b (y2.ldO 1 9 rfl rfl) ?_
 refine Sm.cv rfl (t41 (by omega) (LV.mk ir a.rs.length) h2 (1 + a.ws.length) (by omega) _ (by rw [vcells_len]; omega) g2 E2 (y2.front 2 rfl)) fun v3 g3 E3 R3 => ?_
 obtain ⟨rfl, cs3, hc3, y3⟩ := R3
 refine Sm.b rfl ?_
 exact Sm.fin E3 ⟨rfl, y3.pick (.cons _ (.cons _ (.cons _ (List.Sublist.refl _))))⟩
def catM (a b : ByteArray) : Option ByteArray := if a.size + b.size ≤ most then some (a ++ b) else none
theorem cat_ok {a b t : ByteArray} (e : catM a b = some t) : aBin .add (.string a) (.string b) = some (.string t) := by
 unfold catM at e
 by_cases h : a.size + b.size ≤ most
 ·rw [if_pos h] at e; cases e
  show (if a.size + b.size ≤ most then some (Value.string (a ++ b)) else none) = _
  rw [if_pos h]
 ·rw [if_neg h] at e; cases e
def mS42_0 : Nat → Int → ByteArray → Option ByteArray
 | 0, _, _ => none
 | f + 1, x, s => bif decide (x > 0) then (catM (bstr [IntKind.u8.wrap (IntKind.i64.wrap (48 + Int.tmod x 10))]) s).bind fun t => mS42_0 f (IntKind.i64.wrap (Int.tdiv x 10)) t else catM ⟨#[109]⟩ s
def m42 (x : Int) : Option ByteArray := bif decide (x ≤ 0) then some ⟨#[109, 48]⟩ else mS42_0 3000000 x ⟨#[]⟩
theorem m42_some : ∀ (f : Nat) (x : Nat) (s : ByteArray), x < f → x < 4611686018427387904 → s.size + f ≤ 1000000000 → ∃ t, mS42_0 f (x : Int) s = some t
 | 0, _, _, h, _, _ => absurd h (Nat.not_lt_zero _)
 | f + 1, x, s, hf, hx, hs => by
  rw [mS42_0]
  have h1 : ∀ y, (bstr [y]).size = 1 := fun y => by simp [bstr, ByteArray.size]
  by_cases c : 0 < x
  ·have e : ∀ y, catM (bstr [y]) s = some (bstr [y] ++ s) := fun y => if_pos (by rw [h1]; unfold most; omega)
   rw [decide_eq_true (by omega), cond_true, e, oBs, show Int.tdiv (x : Int) 10 = ((x / 10 : Nat) : Int) by rw [Int.tdiv_eq_ediv_of_nonneg (by omega)]; rfl, wr (x := ((x / 10 : Nat) : Int)) (by omega) (by omega)]
   exact m42_some f (x / 10) _ (by omega) (by omega) (by rw [ByteArray.size_append, h1]; omega)
  ·rw [decide_eq_false (by omega), cond_false]
   exact ⟨_, if_pos (by unfold most; show 1 + s.size ≤ _; omega)⟩
def mkT (x : Int) : ByteArray := (m42 x).getD ⟨#[]⟩
theorem m42_mkT {x : Nat} (h : x < 3000000) : m42 (x : Int) = some (mkT (x : Int)) := by
 have : ∃ t, m42 (x : Int) = some t := by
  unfold m42
  by_cases c : (x : Int) ≤ 0
  ·rw [decide_eq_true c]; exact ⟨_, rfl⟩
  ·rw [decide_eq_false c, cond_false]; exact m42_some 3000000 x _ h (by omega) (by show 0 + 3000000 ≤ 1000000000; omega)
 obtain ⟨t, e⟩ := this
 unfold mkT
 rw [e]; rfl
theorem tS42_0 {D N : Nat} {h : AHeap} : ∀ (f n2 : Nat) (_ : f ≤ n2) (x : Int) (s : ByteArray) (g : AHeap) (_ : Ext h.size h g) (_ : Cx h.size g [] [] []), SmR h (En Value.string) (mS42_0 f x s) (s42_0 hk0 (call Tp Ms D) N n2 x s g) := by
 intro f
 induction f with
 | zero => intros; exact Sm.none
 | succ f ih =>
  intro n2 hf x s g0 E0 y0
  obtain ⟨n2, rfl⟩ : ∃ k, n2 = k + 1 := ⟨n2 - 1, by omega⟩
  rw [s42_0_eq, mS42_0]
  refine Sm.i (fun k1 => ?_) (fun k1 => ?_)
  ·refine Sm.ns y0 fun p1 g1 X1 y1 => ?_
   have E1 := E0.trans (X1.mono E0.size)
   refine Sm.b (y1.cv 0 [IntKind.u8.wrap (IntKind.i64.wrap (48 + Int.tmod x 10))] rfl) ?_
   refine Sm.b rfl ?_
   refine Sm.mo fun t et => ?_
   refine Sm.b (cat_ok et) ?_
   refine Sm.b rfl ?_
   exact ih n2 (by omega) _ _ g1 E1 (y1.pick (.cons _ .slnil))
  ·intro t et
   rw [cat_ok et]
   exact ⟨_, _, rfl, E0, rfl⟩
theorem t42 {D : Nat} {h : AHeap} (hD : 3000001 ≤ D) (x : Int) : SmR h (En Value.string) (m42 x) (call Tp Ms D 42 [.int .i64 x] h) := by
 obtain ⟨D, rfl⟩ : ∃ d, D = d + 1 := ⟨D - 1, by omega⟩
 rw [c42, e42]
 unfold m42
 refine Sm.i (fun k1 => ?_) (fun k1 => ?_)
 ·exact Sm.fin (Ext.refl _ _) rfl
 ·exact tS42_0 3000000 D (by omega) x _ h (Ext.refl _ _) (Cx.start0 h)
def mks (k : Nat) : Nat → List ByteArray
 | 0 => []
 | n + 1 => mkT (k : Int) :: mks (k + 1) n
theorem mks_len : ∀ (n k : Nat), (mks k n).length = n
 | 0, _ => rfl
 | n + 1, k => by rw [mks, List.length_cons, mks_len n]
theorem mks_at : ∀ (n k j : Nat), j < n → (mks k n)[j]? = some (mkT ((k + j : Nat) : Int))
 | 0, _, _, h => absurd h (Nat.not_lt_zero _)
 | n + 1, k, 0, _ => by rw [mks]; rfl
 | n + 1, k, j + 1, h => by
  rw [mks, List.getElem?_cons_succ, mks_at n (k + 1) j (by omega)]
  exact congrArg some (congrArg mkT (by omega))
theorem mks_eq {ts : List ByteArray} {k n : Nat} (hl : ts.length = n) (h : ∀ j, j < n → ts[j]? = some (mkT ((k + j : Nat) : Int))) : ts = mks k n := by
 refine List.ext_getElem? fun j => ?_
 by_cases c : j < n
 ·rw [h j c, mks_at n k j c]
 ·rw [List.getElem?_eq_none (by omega), List.getElem?_eq_none (by rw [mks_len]; omega)]
def RStr (h : AHeap) (F : List FRow) (i rt : Nat) (lv : Bool) (Q : List ORow) (M : List MRow) : Int × List ByteArray → Value → AHeap → Prop := fun r v g => v = .int .i64 r.1 ∧ Cx h.size g F (⟨i, rt, 9, lv, r.2.map Value.string⟩ :: Q) M
theorem tS15_0 {D N : Nat} {h : AHeap} (hD : 3000001 ≤ D) {F : List FRow} {Q : List ORow} {M : List MRow} {i rt : Nat} {lv : Bool} {n : Nat} {wv : Value} (hv : LV wv i lv n) (hn : n ≤ 2000001) (k : Nat) (hk : k + n < 3000000) :
  ∀ (f j : Nat) (ts : List ByteArray) (g : AHeap) (_ : n - j < f) (_ : j ≤ n) (_ : ts.length = n) (_ : ∀ m, m < j → ts[m]? = some (mkT ((k + m : Nat) : Int))) (_ : Ext h.size h g) (_ : Cx h.size g F (⟨i, rt, 9, lv, ts.map Value.string⟩ :: Q) M),
   SmR h (RStr h F i rt lv Q M) (some (((k + n : Nat) : Int), mks k n)) (s15_0 hk0 (call Tp Ms D) N f wv ((k + j : Nat) : Int) (j : Int) g)
 | 0, _, _, _, h, _, _, _, _, _ => absurd h (Nat.not_lt_zero _)
 | f + 1, j, ts, g, hf, hj, hc, hm, E0, y0 => by
  rw [s15_0_eq]
  refine Sm.b hv.len ?_
  refine Sm.b rfl ?_
  by_cases c : j < n
  ·refine Sm.ct (decide_eq_true (by omega)) ?_
   refine Sm.cv (m42_mkT (x := k + j) (by omega)) (t42 hD ((k + j : Nat) : Int)) fun v2 g2 X2 R2 => ?_
   obtain rfl : v2 = .string (mkT ((k + j : Nat) : Int)) := R2
   have y2 := y0.ext X2
   have E2 := E0.trans (X2.mono E0.size)
   refine Sm.b rfl ?_
   rcases hv with ⟨hl, rfl⟩ | ⟨_, _, hz⟩
   ·subst hl
    refine Sm.b (show aIdx (slc i 0 n) (.int .i64 (j : Int)) 1 = some (ptr i j) by simp [aIdx, slc, c]) ?_
    refine Sm.sts y2 0 ((ts.set j (mkT ((k + j : Nat) : Int))).map Value.string) (vs := [.string (mkT ((k + j : Nat) : Int))]) rfl rfl rfl (by simp; omega) (by
     unfold splice
     rw [List.map_set, List.set_eq_take_append_cons_drop, if_pos (by simp; omega)]; simp) fun g3 X3 y3 => ?_
    have E3 := E2.trans X3
    rw [wr0 (by omega), wr0 (by omega)]
    refine tS15_0 hD (.inl ⟨rfl, rfl⟩) hn k hk f (j + 1) _ g3 (by omega) c (by simp [hc]) (fun m hm' => ?_) E3 y3
    by_cases e : m = j
    ·subst e; rw [List.getElem?_set_self (by omega)]
    ·rw [List.getElem?_set_ne (by omega)]; exact hm m (by omega)
   ·omega
  ·refine Sm.cf (decide_eq_false (by omega)) ?_
   have : j = n := by omega
   subst this
   rw [← mks_eq hc hm]
   exact Sm.fin E0 ⟨rfl, y0⟩
theorem t15 {D : Nat} {h : AHeap} (hD : 3000002 ≤ D) {F : List FRow} {Q : List ORow} {M : List MRow} {i rt : Nat} {lv : Bool} {wv : Value} (ts : List ByteArray) (hv : LV wv i lv ts.length) (hn : ts.length ≤ 2000001) (g : AHeap) (E0 : Ext h.size h g) (y0 : Cx h.size g F (⟨i, rt, 9, lv, ts.map Value.string⟩ :: Q) M) :
  SmR h (RStr h F i rt lv Q M) (some (((1 + ts.length : Nat) : Int), mks 1 ts.length)) (call Tp Ms D 15 [wv, .int .i64 1] g) := by
 obtain ⟨D, rfl⟩ : ∃ d, D = d + 1 := ⟨D - 1, by omega⟩
 rw [c15, e15]
 exact tS15_0 (by omega) hv hn 1 (by omega) D 0 ts g (by omega) (Nat.zero_le _) rfl (fun m h => absurd h (Nat.not_lt_zero _)) E0 y0
theorem tS16_0 {D N : Nat} {h : AHeap} (hD : 3000001 ≤ D) {b : Nat} {F : List FRow} {O : List ORow} {M : List MRow} (q : Nat) {i rt : Nat} {lv : Bool} {n : Nat} {wv : Value} (hv : LV wv i lv n) (hn : n ≤ 2000001) (k : Nat) (hk : k + n < 3000000) (eq : O[q]? = some ⟨i, rt, 9, lv, (mks k n).map Value.string⟩) :
  ∀ (f j : Nat) (g : AHeap) (_ : n - j < f) (_ : j ≤ n) (_ : Ext h.size h g) (_ : Cx b g F O M),
   SmR h (En (Value.int .i64)) (some ((k + n : Nat) : Int)) (s16_0 hk0 (call Tp Ms D) N f wv ((k + j : Nat) : Int) (j : Int) g)
 | 0, _, _, h, _, _, _ => absurd h (Nat.not_lt_zero _)
 | f + 1, j, g, hf, hj, E0, y0 => by
  rw [s16_0_eq]
  refine Sm.b hv.len ?_
  refine Sm.b rfl ?_
  by_cases c : j < n
  ·refine Sm.ct (decide_eq_true (by omega)) ?_
   have er : rd (mks k n) (j : Int) = some (mkT ((k + j : Nat) : Int)) := by
    unfold rd
    rw [if_pos (by omega)]; exact mks_at n k j c
   obtain ⟨a1, a2⟩ := y0.atS q Value.string (mks k n) eq (by rw [mks_len]; exact hv) er
   refine Sm.b a1 ?_
   refine Sm.b a2 ?_
   refine Sm.b rfl ?_
   refine Sm.cv (m42_mkT (x := k + j) (by omega)) (t42 hD ((k + j : Nat) : Int)) fun v2 g2 X2 R2 => ?_
   obtain rfl : v2 = .string (mkT ((k + j : Nat) : Int)) := R2
   have y2 := y0.ext X2
   have E2 := E0.trans (X2.mono E0.size)
   obtain ⟨_, a3⟩ := y2.atS q Value.string (mks k n) eq (by rw [mks_len]; exact hv) er
   refine Sm.b rfl ?_
   refine Sm.b (show ((aLd1 g2 (ptr i (j : Int).toNat)).bind fun v8 => (asS v8).bind fun t9 => some (vbeq (.string t9) (.string (mkT ((k + j : Nat) : Int))))) = some true by
    rw [a3]; exact congrArg some (vbS _)) ?_
   refine Sm.ct rfl ?_
   refine Sm.cf (by simp) ?_
   rw [wr0 (by omega), wr0 (by omega)]
   exact tS16_0 hD q hv hn k hk eq f (j + 1) g2 (by omega) c E2 y2
  ·refine Sm.cf (decide_eq_false (by omega)) ?_
   have : j = n := by omega
   subst this
   exact Sm.fin E0 rfl
theorem t16 {D : Nat} {g : AHeap} (hD : 3000002 ≤ D) {b : Nat} {F : List FRow} {O : List ORow} {M : List MRow} (q : Nat) {i rt : Nat} {lv : Bool} {n : Nat} {wv : Value} (hv : LV wv i lv n) (hn : n ≤ 2000001) (eq : O[q]? = some ⟨i, rt, 9, lv, (mks 1 n).map Value.string⟩) (y0 : Cx b g F O M) :
  SmR g (En (Value.int .i64)) (some ((1 + n : Nat) : Int)) (call Tp Ms D 16 [wv, .int .i64 1] g) := by
 obtain ⟨D, rfl⟩ : ∃ d, D = d + 1 := ⟨D - 1, by omega⟩
 rw [c16, e16]
 exact tS16_0 (by omega) q hv hn 1 (by omega) eq D 0 g (by omega) (Nat.zero_le _) (Ext.refl _ _) y0
theorem tS13_0 {D N : Nat} {g : AHeap} {b : Nat} {F : List FRow} {O : List ORow} {M : List MRow} (y0 : Cx b g F O M) (ts : List ByteArray) (q1 q2 : Nat) {i1 r1 i2 r2 : Nat} {l1 l2 : Bool} {v w : Value} (h1 : LV v i1 l1 ts.length) (h2 : LV w i2 l2 ts.length) (e1 : O[q1]? = some ⟨i1, r1, 9, l1, ts.map Value.string⟩) (e2 : O[q2]? = some ⟨i2, r2, 9, l2, ts.map Value.string⟩) (hn : ts.length ≤ 2000001) :
  ∀ (f j : Nat) (_ : ts.length - j < f) (_ : j ≤ ts.length), SmR g (En Value.bool) (some true) (s13_0 hk0 (call Tp Ms D) N f v w (j : Int) g)
 | 0, _, h, _ => absurd h (Nat.not_lt_zero _)
 | f + 1, j, hf, hj => by
  rw [s13_0_eq]
  refine Sm.b h1.len ?_
  refine Sm.b rfl ?_
  by_cases c : j < ts.length
  ·refine Sm.ct (decide_eq_true (by omega)) ?_
   have er : rd ts (j : Int) = some ts[j] := rd_at c
   obtain ⟨a1, a2⟩ := y0.atS q1 Value.string ts e1 h1 er
   obtain ⟨b1, b2⟩ := y0.atS q2 Value.string ts e2 h2 er
   refine Sm.b a1 ?_
   refine Sm.b a2 ?_
   refine Sm.b rfl ?_
   refine Sm.b b1 ?_
   refine Sm.b b2 ?_
   refine Sm.b rfl ?_
   refine Sm.cf (by simp) ?_
   rw [wr0 (by omega)]
   exact tS13_0 y0 ts q1 q2 h1 h2 e1 e2 hn f (j + 1) (by omega) c
  ·refine Sm.cf (decide_eq_false (by omega)) ?_
   exact Sm.fin (Ext.refl _ _) rfl
theorem t13 {D : Nat} {g : AHeap} (hD : 2000003 ≤ D) {b : Nat} {F : List FRow} {O : List ORow} {M : List MRow} (y0 : Cx b g F O M) (ts : List ByteArray) (q1 q2 : Nat) {i1 r1 i2 r2 : Nat} {l1 l2 : Bool} {v w : Value} (h1 : LV v i1 l1 ts.length) (h2 : LV w i2 l2 ts.length)
  (e1 : O[q1]? = some ⟨i1, r1, 9, l1, ts.map Value.string⟩) (e2 : O[q2]? = some ⟨i2, r2, 9, l2, ts.map Value.string⟩) (hn : ts.length ≤ 2000001) : SmR g (En Value.bool) (some true) (call Tp Ms D 13 [v, w] g) := by
 obtain ⟨D, rfl⟩ : ∃ d, D = d + 1 := ⟨D - 1, by omega⟩
 rw [c13, e13]
 refine Sm.b h1.len ?_
 refine Sm.b rfl ?_
 refine Sm.b h2.len ?_
 refine Sm.b rfl ?_
 refine Sm.cf (bne_self_eq_false _) ?_
 exact tS13_0 y0 ts q1 q2 h1 h2 e1 e2 hn D 0 (by omega) (Nat.zero_le _)
open Go Go.AH Go.AM
theorem sz6 (a : Ar) (h1 : a.ws.length ≤ 9223372036854775807) (h2 : a.rs.length ≤ 9223372036854775807) : ∃ n, m6 a 1048576 = some n ∧ (decide (n < 0) = false → a.ws.length + a.rs.length ≤ 1048576) := by
 unfold m6 m26
 rw [wr (by omega) (by omega)]
 by_cases c1 : (1048576 - (a.ws.length : Int)) < 0
 ·rw [decide_eq_true c1, cond_true, oBs]
  exact ⟨-1, rfl, fun h => by simp at h⟩
 ·rw [decide_eq_false c1, cond_false, oBs, decide_eq_false c1, cond_false]
  unfold m27
  rw [wr (by omega) (by omega)]
  by_cases c2 : (1048576 - (a.ws.length : Int) - (a.rs.length : Int)) < 0
  ·rw [decide_eq_true c2, cond_true, oBs]
   exact ⟨-1, rfl, fun h => by simp at h⟩
  ·rw [decide_eq_false c2, cond_false, oBs, decide_eq_false c2, cond_false]
   exact ⟨_, rfl, fun _ => by omega⟩
theorem l3 {D : Nat} {h : AHeap} (hD : 2000003 ≤ D) {wv rv : Value} {a : Ar} (H : ArH h wv rv a) (r : Int) (h1 : a.ws.length ≤ 9223372036854775807) (h2 : a.rs.length ≤ 9223372036854775807)
  (K : a.ws.length + a.rs.length ≤ 1048576 → ∃ v, m7 a r = some v ∧ m9 a r = some v) : SmR h (En Value.bool) (some true) (call Tp Ms D 3 [arV wv rv a, .int .i64 r] h) := by
 obtain ⟨D, rfl⟩ : ∃ d, D = d + 1 := ⟨D - 1, by omega⟩
 rw [c3, e3]
 have y0 := Cx.start0 h
 have E0 := Ext.refl h.size h
 refine Sm.b H.cells ?_
 refine Sm.n y0 fun p1 g1 X1 y1 => ?_
 have E1 := E0.trans (X1.mono E0.size)
 refine Sm.b (y1.ldON 0 rfl rfl) ?_
 obtain ⟨n, hn, hs⟩ := sz6 a h1 h2
 refine Sm.cv hn (t6 (by omega) (H.ext E1) 1048576) fun v2 g2 X2 R2 => ?_
 obtain rfl : v2 = .int .i64 n := R2
 have y2 := y1.ext X2
 have E2 := E1.trans (X2.mono E1.size)
 refine Sm.b rfl ?_
 cases hc : decide (n < 0) with
 | true => exact Sm.ct rfl (Sm.fin E2 rfl)
 | false =>
 have hl := hs hc
 obtain ⟨v, k7, k9⟩ := K hl
 have q8 := copy8 a (by omega) (by omega)
 refine Sm.cf rfl ?_
 refine Sm.b (y2.ldON 0 rfl rfl) ?_
 refine Sm.cv q8 (t8 (by omega) (H.ext E2)) fun v3 g3 X3 R3 => ?_
 obtain ⟨wv3, rv3, rfl, H3⟩ := R3
 have y3 := y2.ext X3
 have E3 := E2.trans (X3.mono E2.size)
 refine Sm.cv k7 (t7 (by omega) H3 r) fun v4 g4 X4 R4 => ?_
 obtain rfl : v4 = .int .i64 v := R4
 have y4 := y3.ext X4
 have E4 := E3.trans (X4.mono E3.size)
 refine Sm.b rfl ?_
 refine Sm.b (y4.ldON 0 rfl rfl) ?_
 refine Sm.cv q8 (t8 (by omega) (H.ext E4)) fun v5 g5 X5 R5 => ?_
 obtain ⟨wv5, rv5, rfl, H5⟩ := R5
 have y5 := y4.ext X5
 have E5 := E4.trans (X5.mono E4.size)
 have z5 := (Cx.start0 g5).addF (y5.rowO 0 rfl).1 (y5.rowO 0 rfl).2
 refine Sm.n z5 fun p6 g6 X6 y6 => ?_
 refine Sm.sts y6 0 (arCells wv5 rv5 a) rfl H5.cells rfl (by simp) rfl fun g7 X7 y7 => ?_
 have Z7 := X6.trans X7
 have E7 := E5.trans (Z7.mono E5.size)
 have H7 := H5.ext Z7
 refine Sm.b (y7.ldON 0 rfl rfl) ?_
 refine Sm.cv k9 (t9 (by omega) H7 r) fun v8 g8 X8 R8 => ?_
 obtain rfl : v8 = .int .i64 v := R8
 have y8 := y7.ext X8
 have E8 := E7.trans (X8.mono E7.size)
 refine Sm.b rfl ?_
 refine Sm.cf (bne_self_eq_false v) ?_
 refine Sm.b (y8.ldON 0 rfl rfl) ?_
 refine Sm.b (y8.ldFN 0 rfl rfl) ?_
 refine Sm.cv q8 (t8 (by omega) (H.ext E8)) fun v9 g9 X9 R9 => ?_
 obtain ⟨wv9, rv9, rfl, H9⟩ := R9
 have y9 := y8.ext X9
 have E9 := E8.trans (X9.mono E8.size)
 refine Sm.b (agA (y9.ldON 0 rfl rfl) H5.vb) ?_
 refine Sm.ct rfl ?_
 refine Sm.cv (same10 a (by omega) (by omega)) (t10 (by omega) (H7.ext (X8.trans (X9.mono X8.size))) H9) fun v10 g10 X10 R10 => ?_
 obtain rfl : v10 = .bool true := R10
 have E10 := E9.trans (X10.mono E9.size)
 refine Sm.b rfl ?_
 refine Sm.cf rfl ?_
 exact Sm.fin E10 rfl
open Go Go.AH Go.AM
theorem l4 {D : Nat} {h : AHeap} (hD : 3000020 ≤ D) {wv rv : Value} {a : Ar} (H : ArH h wv rv a) (h1 : a.ws.length ≤ 9223372036854775807) (h2 : a.rs.length ≤ 9223372036854775807)
  (K : a.ws.length + a.rs.length ≤ 1048576 → ∃ ts, m11 a = some ts ∧ m12 a = some ts ∧ ts.length ≤ 2000001) : SmR h (En Value.bool) (some true) (call Tp Ms D 4 [arV wv rv a] h) := by
 obtain ⟨D, rfl⟩ : ∃ d, D = d + 1 := ⟨D - 1, by omega⟩
 rw [c4, e4]
 have y0 := Cx.start0 h
 have E0 := Ext.refl h.size h
 refine Sm.b H.cells ?_
 refine Sm.n y0 fun p1 g1 X1 y1 => ?_
 have E1 := E0.trans (X1.mono E0.size)
 refine Sm.b (y1.ldON 0 rfl rfl) ?_
 obtain ⟨n, hn, hs⟩ := sz6 a h1 h2
 refine Sm.cv hn (t6 (by omega) (H.ext E1) 1048576) fun v2 g2 X2 R2 => ?_
 obtain rfl : v2 = .int .i64 n := R2
 have y2 := y1.ext X2
 have E2 := E1.trans (X2.mono E1.size)
 refine Sm.b rfl ?_
 cases hc : decide (n < 0) with
 | true => exact Sm.ct rfl (Sm.fin E2 rfl)
 | false =>
 have hl := hs hc
 obtain ⟨ts, k11, k12, hts⟩ := K hl
 have q8 := copy8 a (by omega) (by omega)
 refine Sm.cf rfl ?_
 refine Sm.b (y2.ldON 0 rfl rfl) ?_
 refine Sm.cv q8 (t8 (by omega) (H.ext E2)) fun v3 g3 X3 R3 => ?_
 obtain ⟨wv3, rv3, rfl, H3⟩ := R3
 have y3 := y2.ext X3
 have E3 := E2.trans (X3.mono E2.size)
 refine Sm.cv k11 (t11 (by omega) H3) fun w0 g4 X4 R4 => ?_
 obtain ⟨i4, r4, b4, hv4, z4⟩ := RO.cx R4 X4
 have y4 := Cx.join y3 X4 z4
 have E4 := E3.trans (X4.mono E3.size)
 refine Sm.b (y4.ldON 1 rfl rfl) ?_
 refine Sm.cv q8 (t8o (by omega) (H.ext E4)) fun v5 g5 X5 R5 => ?_
 obtain ⟨wv5, rv5, iw, rw5, lw, ir, rr, rfl, H5, hw5, rfl, z5⟩ := R5
 have y5 := Cx.join y4 X5 z5
 have E5 := E4.trans (X5.mono E4.size)
 refine Sm.n y5 fun p6 g6 X6 y6 => ?_
 have E6 := E5.trans (X6.mono E5.size)
 refine Sm.sts y6 0 (arCells wv5 (slc ir 0 a.rs.length) a) rfl H5.cells rfl (by simp) rfl fun g7 X7 y7 => ?_
 have E7 := E6.trans X7
 have HX : ∀ g, Ext h.size h g → Cx h.size g [] (⟨p6, p6, 30, true, arCells wv5 (slc ir 0 a.rs.length) a⟩ :: ⟨iw, rw5, 108, lw, a.ws.map (Value.int .u64)⟩ :: ⟨ir, rr, 59, true, vcells a.rs⟩ :: ⟨i4, r4, 9, b4, ts.map Value.string⟩ :: ⟨p1, p1, 25, true, arCells wv rv a⟩ :: []) [] → ArH g wv5 (slc ir 0 a.rs.length) a := fun g E y =>
  ⟨y.slE 1 rfl hw5, y.slI 1 a.ws rfl hw5, y.slV 2 a.rs rfl⟩
 have H7 := HX g7 E7 y7
 refine Sm.b (y7.ldON 0 rfl rfl) ?_
 refine Sm.cv k12 (t12 (by omega) H7) fun g0v g8 X8 R8 => ?_
 obtain ⟨i8, r8, b8, hv8, z8⟩ := RO.cx R8 X8
 have y8 := Cx.join y7 X8 z8
 have E8 := E7.trans (X8.mono E7.size)
 refine Sm.cv rfl (t13 (by omega) y8 ts 0 4 hv8 hv4 rfl rfl hts) fun v9 g9 X9 R9 => ?_
 obtain rfl : v9 = .bool true := R9
 have y9 := y8.ext X9
 have E9 := E8.trans (X9.mono E8.size)
 refine Sm.b rfl ?_
 refine Sm.cf rfl ?_
 refine Sm.b (y9.ldON 1 rfl rfl) ?_
 refine Sm.b (y9.ldON 5 rfl rfl) ?_
 refine Sm.cv q8 (t8 (by omega) (H.ext E9)) fun v10 g10 X10 R10 => ?_
 obtain ⟨wv10, rv10, rfl, H10⟩ := R10
 have y10 := y9.ext X10
 have E10 := E9.trans (X10.mono E9.size)
 refine Sm.b (agA (y10.ldON 1 rfl rfl) H5.vb) ?_
 refine Sm.ct rfl ?_
 have H7' : ArH g10 wv5 (slc ir 0 a.rs.length) a := H7.ext (X8.trans ((X9.mono X8.size).trans (X10.mono (Nat.le_trans X8.size X9.size))))
 refine Sm.cv (same10 a (by omega) (by omega)) (t10 (by omega) H7' H10) fun v11 g11 X11 R11 => ?_
 obtain rfl : v11 = .bool true := R11
 have y11 := y10.ext X11
 have E11 := E10.trans (X11.mono E10.size)
 refine Sm.b rfl ?_
 refine Sm.cf rfl ?_
 refine Sm.b (y11.ldON 1 rfl rfl) ?_
 refine Sm.cv rfl (t14 (by omega) hw5 (by omega) (by omega) g11 E11 ((y11.front 3 rfl).front 3 rfl)) fun v12 g12 E12 R12 => ?_
 obtain ⟨rfl, y12⟩ := R12
 refine Sm.b rfl ?_
 refine Sm.cf (decide_eq_false (by omega)) ?_
 refine Sm.cv rfl (t13 (by omega) y12 ts 0 2 hv8 hv4 rfl rfl hts) fun v13 g13 X13 R13 => ?_
 obtain rfl : v13 = .bool true := R13
 have y13 := y12.ext X13
 have E13 := E12.trans (X13.mono E12.size)
 refine Sm.b rfl ?_
 rw [s4_0_j, s4_0_eq]
 refine Sm.cf rfl ?_
 rw [s4_1_j, s4_1_eq]
 refine Sm.cv rfl (t15 (by omega) ts hv8 hts g13 E13 y13) fun v14 g14 E14 R14 => ?_
 obtain ⟨rfl, y14⟩ := R14
 refine Sm.b rfl ?_
 refine Sm.cv rfl (t16 (by omega) 0 hv8 hts rfl y14) fun v15 g15 X15 R15 => ?_
 obtain rfl : v15 = .int .i64 ((1 + ts.length : Nat) : Int) := R15
 have y15 := y14.ext X15
 have E15 := E14.trans (X15.mono E14.size)
 refine Sm.b rfl ?_
 refine Sm.cf (decide_eq_false (by omega)) ?_
 refine Sm.cf (bne_self_eq_false _) ?_
 refine Sm.b (y15.ldON 3 rfl rfl) ?_
 refine Sm.cv q8 (t8 (by omega) (H.ext E15)) fun v16 g16 X16 R16 => ?_
 obtain ⟨wv16, rv16, rfl, H16⟩ := R16
 have y16 := y15.ext X16
 have E16 := E15.trans (X16.mono E15.size)
 refine Sm.cv k12 (t12 (by omega) H16) fun h0v g17 X17 R17 => ?_
 obtain ⟨i17, r17, b17, hv17, z17⟩ := RO.cx R17 X17
 have y17 := Cx.join y16 X17 z17
 have E17 := E16.trans (X17.mono E16.size)
 refine Sm.cv rfl (t13 (by omega) y17 ts 0 3 hv17 hv4 rfl rfl hts) fun v18 g18 X18 R18 => ?_
 obtain rfl : v18 = .bool true := R18
 have y18 := y17.ext X18
 have E18 := E17.trans (X18.mono E17.size)
 refine Sm.b rfl ?_
 refine Sm.cf rfl ?_
 refine Sm.cv rfl (t16 (by omega) 1 hv8 hts rfl y18) fun v19 g19 X19 R19 => ?_
 obtain rfl : v19 = .int .i64 ((1 + ts.length : Nat) : Int) := R19
 have E19 := E18.trans (X19.mono E18.size)
 refine Sm.b rfl ?_
 refine Sm.cf (decide_eq_false (by omega)) ?_
 refine Sm.cf (bne_self_eq_false _) ?_
 exact Sm.fin E19 rfl
open Go Go.AH Go.AM
theorem nodup_le : ∀ (n : Nat) (l : List Int), l.Nodup → (∀ x ∈ l, 0 ≤ x ∧ x < (n : Int)) → l.length ≤ n
 | 0, l, _, h => by
  cases l with
  | nil => exact Nat.le_refl _
  | cons x l => have := h x (by simp); omega
 | n + 1, l, hd, h => by
  by_cases hm : (n : Int) ∈ l
  ·have := nodup_le n (l.erase (n : Int)) (hd.erase _) (fun x hx => by
    have h1 := h x (List.mem_of_mem_erase hx)
    have h2 : x ≠ (n : Int) := fun e => by subst e; exact (List.Nodup.not_mem_erase hd) hx
    omega)
   rw [List.length_erase_of_mem hm] at this
   omega
  ·have := nodup_le n l hd (fun x hx => by
    have h1 := h x hx
    have h2 : x ≠ (n : Int) := fun e => hm (e ▸ hx)
    omega)
   omega
structure Pl (M : List Int) (ps : List Int) : Prop where
 lv : ∀ q ∈ ps, live M q
 nd : ps.Nodup
theorem Pl.len {a : Ar} {M ps : List Int} (K : Mk a M) (P : Pl M ps) : ps.length ≤ 8000 := by
 have hl := K.bd.hl
 have hM := K.len
 exact nodup_le 8000 ps P.nd fun x hx => by have := live_0 (P.lv x hx); omega
theorem val_eq {a : Ar} {M : List Int} (K : Mk a M) (I : ArI a) {ps : List Int} (P : Pl M ps) {v : Vl} (g : GV a M v) : ∃ r, val7 a ps v = some r ∧ val9 a ps v = some r ∧ Pl M r.1 ∧ ps.length ≤ r.1.length := by
 unfold val7 val9
 rw [m112_eq, m100_eq, oBs, oBs]
 by_cases hk : kindOf v.t = 0
 ·rw [hk]
  exact ⟨_, rfl, rfl, P, Nat.le_refl _⟩
 ·obtain ⟨w, hw, ew, _⟩ := g.2 hk
  obtain ⟨g1, g2, g3⟩ := K.tg I ew hw
  rw [bne_iff_ne.2 hk, Bool.not_true, cond_false, cond_false, g1, g2, oBs]
  have hl := P.len K
  unfold numM
  rw [if_neg (by omega)]
  by_cases hm : tg a v.n ∈ ps
  ·rw [if_pos hm]
   exact ⟨_, rfl, rfl, P, Nat.le_refl _⟩
  ·rw [if_neg hm, show grow ps (tg a v.n) = some (ps ++ [tg a v.n]) from if_pos (by omega)]
   refine ⟨_, rfl, rfl, ⟨fun q hq => ?_, ?_⟩, by simp⟩
   ·rcases List.mem_append.1 hq with h | h
    ·exact P.lv q h
    ·rw [List.mem_singleton.1 h]; exact g3
   ·rw [List.nodup_append]
    exact ⟨P.nd, by simp, fun x hx y hy e => hm (by rw [← List.mem_singleton.1 hy, ← e]; exact hx)⟩
theorem slots_same {a : Ar} {M : List Int} (K : Mk a M) (I : ArI a) {p : Int} (hp : 0 ≤ p) {ls : List Int} (hl : ls.length ≤ 256) (hj : ∀ j ∈ ls, 1 ≤ j ∧ j ≤ 256 ∧ p + j + 1 < a.ws.length ∧ (rv a (p + j)).2 = true ∧ GV a M (rv a (p + j)).1) :
  ∀ (f : Nat) (i : Int) (ps : List Int) (sl : List Vl), 0 ≤ i → i ≤ ls.length → ((ls.length : Int) - i).toNat < f → Pl M ps → (sl.length : Int) ≤ i →
   ∃ r, mS75_2 a f p ls ps sl i = some r ∧ mS77_2 a f p ls ps sl i = some r ∧ Pl M r.1 ∧ ps.length ≤ r.1.length
 | 0, _, _, _, _, _, h, _, _ => absurd h (Nat.not_lt_zero _)
 | f + 1, i, ps, sl, h0, h1, hf, P, hs => by
  have hB := K.bd.hl
  rw [mS75_2, mS77_2]
  by_cases c : i < (ls.length : Int)
  ·obtain ⟨k, e⟩ := rd_ex h0 c
   have b := hj k (rd_mem e)
   obtain ⟨r, r1, r2, r3, r4⟩ := val_eq K I P b.2.2.2.2
   rw [decide_eq_true c, cond_true, cond_true, e, oBs, oBs, wr (x := p + k) (by omega) (by omega), m93_rv I hB (by omega) (by omega), m114_rv I hB (by omega) (by omega) b.2.2.2.1, oBs, oBs, r1, r2, oBs, oBs,
    show grow sl r.2 = some (sl ++ [r.2]) from if_pos (by omega), oBs, oBs, wr (x := i + 1) (by omega) (by omega)]
   obtain ⟨z, z1, z2, z3, z4⟩ := slots_same K I hp hl hj f (i + 1) r.1 (sl ++ [r.2]) (by omega) (by omega) (by omega) r3 (by simp; omega)
   exact ⟨z, z1, z2, z3, by omega⟩
  ·rw [decide_eq_false c, cond_false, cond_false]
   exact ⟨_, rfl, rfl, P, Nat.le_refl _⟩
theorem co_ok {a : Ar} (I : ArI a) (hl : (a.ws.length : Int) ≤ 8000) {p : Int} (h0 : 0 ≤ p) (hp : p + 127 ≤ a.ws.length) (h : m96 a p = some true) {w : Int} (e2 : rd a.ws (p + 2) = some w) : 0 ≤ IntKind.i64.wrap w ∧ IntKind.i64.wrap w ≤ 60 := by
 obtain ⟨w1, e1⟩ := rd_ex (l := a.ws) (p := p + 1) (by omega) (by omega)
 obtain ⟨w3, e3⟩ := rd_ex (l := a.ws) (p := p + 3) (by omega) (by omega)
 obtain ⟨w4, e4⟩ := rd_ex (l := a.ws) (p := p + 4) (by omega) (by omega)
 unfold m96 at h
 rw [m95_eq, m95_eq, m95_eq, m95_eq, wr (x := p + 1) (by omega) (by omega), wr (x := p + 2) (by omega) (by omega), wr (x := p + 3) (by omega) (by omega), wr (x := p + 4) (by omega) (by omega), e1, e2, e3, e4] at h
 simp only [oBs, m59_eq] at h
 by_cases c : 0 ≤ IntKind.i64.wrap w ∧ IntKind.i64.wrap w ≤ 60
 ·exact c
 ·rw [decide_eq_false c] at h
  cases hd1 : decide (0 ≤ IntKind.i64.wrap w1 ∧ IntKind.i64.wrap w1 ≤ 4) with
  | false => rw [hd1] at h; cases h
  | true => rw [hd1, Bool.not_true, cond_false] at h; cases h
theorem node_eq {a : Ar} {M : List Int} (K : Mk a M) (I : ArI a) (A : All M (objR a M) 0) {ps : List Int} (P : Pl M ps) {p : Int} (lp : live M p) : ∃ r, node7 a ps p = some r ∧ node9 a ps p = some r ∧ Pl M r.1 ∧ ps.length ≤ r.1.length := by
 have hB := K.bd.hl
 obtain ⟨h1, ok, hi, hs⟩ := K.obj lp
 have ho := A p (by omega) lp
 have hh := hd_hok ok
 have S := slots_eq (k := (hd a p).1.k) (s := (hd a p).1.s) (n := (hd a p).1.n) hh
 have L := slots_len (k := (hd a p).1.k) (s := (hd a p).1.s) (n := (hd a p).1.n) hh
 have ho' := ho
 unfold objR at ho
 simp only [Bool.and_eq_true] at ho
 have ha := List.all_eq_true.1 ho.1
 have hj : ∀ j ∈ slots (hd a p).1.k (hd a p).1.s, 1 ≤ j ∧ j ≤ 256 ∧ p + j + 1 < a.ws.length ∧ (rv a (p + j)).2 = true ∧ GV a M (rv a (p + j)).1 := fun j hjm => by
  have b := S.2.2 j hjm
  have o := ha j hjm
  exact ⟨b.1, by omega, by omega, okR_v o, (okR_ck o).1⟩
 have SS : ∀ (ls : List Int), ls.length ≤ 256 → (∀ j ∈ ls, j ∈ slots (hd a p).1.k (hd a p).1.s) → ∀ nd, ∃ r, slots7 a p ls ps nd = some r ∧ slots9 a p ls ps nd = some r ∧ Pl M r.1 ∧ ps.length ≤ r.1.length := fun ls hls hsub nd => by
  obtain ⟨z, z1, z2, z3, z4⟩ := slots_same K I (p := p) (by omega) hls (fun j hjm => hj j (hsub j hjm)) 20000 0 ps [] (Int.le_refl _) (by omega) (by omega) P (by simp)
  unfold slots7 slots9
  rw [z1, z2]
  exact ⟨_, rfl, rfl, z3, z4⟩
 unfold node7 node9
 rw [m55_hd I (by omega) (by omega), m72_hd I (by omega) (by omega), oBs, oBs, S.1, S.2.1, oBs, oBs]
 obtain ⟨w, e⟩ := rd_ex (l := a.ws) (p := p + 1) (by omega) (by omega)
 have e95 : m95 a p 1 = some (IntKind.i64.wrap w) := by rw [m95_eq, wr (x := p + 1) (by omega) (by omega), e]; rfl
 rw [wr (x := p + 1) (by omega) (by omega), e95, e]
 simp only [oBs]
 have full := SS (slots (hd a p).1.k (hd a p).1.s) L (fun j h => h)
 by_cases k1 : (hd a p).1.k = 1
 ·obtain ⟨t, t1, t2, _⟩ := txt K I lp k1 ho'
  rw [k1] at full ⊢
  rw [t1, t2]
  simp only [oBs]
  exact full _
 by_cases k2 : (hd a p).1.k = 2
 ·rw [k2] at full ⊢
  exact full _
 by_cases k4 : (hd a p).1.k = 4
 ·rw [k4] at full ⊢
  exact full _
 by_cases k6 : (hd a p).1.k = 6
 ·have hs6 : (hd a p).1.s = 126 := by
   unfold hok at hh
   rw [k6] at hh
   simp at hh
   exact hh.1
  obtain ⟨w2, e2⟩ := rd_ex (l := a.ws) (p := p + 2) (by omega) (by omega)
  have e952 : m95 a p 2 = some (IntKind.i64.wrap w2) := by rw [m95_eq, wr (x := p + 2) (by omega) (by omega), e2]; rfl
  have ht : tlR a p 6 126 = some true := by
   have := ho.2
   rw [k6, hs6] at this
   simpa using this
  have h96 : m96 a p = some true := by
   have e : tlR a p 6 126 = (m96 a p).bind fun r => some r := rfl
   rw [e] at ht
   cases e3 : m96 a p with
   | none => rw [e3] at ht; cases ht
   | some b => rw [e3] at ht; exact ht
  have cm := co_ok I hB (p := p) (by omega) (by omega) h96 e2
  have es : slots 6 126 = sq 61 5 := by unfold slots; simp
  rw [k6, hs6, es] at SS ⊢
  have et : takeM (sq 61 5) (IntKind.i64.wrap (IntKind.i64.wrap w2 + 1)) = some ((sq 61 5).take (IntKind.i64.wrap (IntKind.i64.wrap w2 + 1)).toNat) := by
   rw [wr (x := IntKind.i64.wrap w2 + 1) (by omega) (by omega)]
   exact if_pos ⟨by omega, by rw [sq_len]; omega, by rw [sq_len]; omega⟩
  rw [wr (x := p + 2) (by omega) (by omega), e952, e2]
  simp only [oBs]
  rw [et]
  simp only [oBs]
  exact SS _ (by rw [List.length_take, sq_len]; omega) (fun j h => List.mem_of_mem_take h) _
 ·rw [beq_eq_false_iff_ne.2 k1, beq_eq_false_iff_ne.2 k2, beq_eq_false_iff_ne.2 k4, beq_eq_false_iff_ne.2 k6]
  exact full _
theorem nodes_eq {a : Ar} {M : List Int} (K : Mk a M) (I : ArI a) (A : All M (objR a M) 0) : ∀ (f : Nat) (i : Int) (ps : List Int) (ns : List Nd), 0 ≤ i → i ≤ ps.length → (8000 - i).toNat < f → Pl M ps → (ns.length : Int) ≤ i → ∃ r, mS38_1 a f ps ns i = some r ∧ mS39_1 a f ps ns i = some r ∧ r.length ≤ 8000
 | 0, _, _, _, _, _, h, _, _ => absurd h (Nat.not_lt_zero _)
 | f + 1, i, ps, ns, h0, h1, hf, P, hn => by
  have hl := P.len K
  rw [mS38_1, mS39_1]
  by_cases c : i < (ps.length : Int)
  ·obtain ⟨p, e⟩ := rd_ex h0 c
   obtain ⟨r, r1, r2, r3, r4⟩ := node_eq K I A P (P.lv p (rd_mem e))
   rw [decide_eq_true c, cond_true, cond_true, e, oBs, oBs, r1, r2, oBs, oBs, show grow ns r.2 = some (ns ++ [r.2]) from if_pos (by omega), oBs, oBs, wr (x := i + 1) (by omega) (by omega)]
   exact nodes_eq K I A f (i + 1) r.1 (ns ++ [r.2]) (by omega) (by omega) (by omega) r3 (by simp; omega)
  ·rw [decide_eq_false c, cond_false, cond_false]
   exact ⟨ns, rfl, rfl, by omega⟩
theorem shape_eq {a : Ar} {M : List Int} (K : Mk a M) (I : ArI a) (A : All M (objR a M) 0) (R : a.rs.all (rok a M) = true) : ∀ (f : Nat) (i : Int) (ps : List Int) (vs : List Vl), 0 ≤ i → i ≤ a.rs.length → ((a.rs.length : Int) - i).toNat < f → Pl M ps → (vs.length : Int) ≤ i → ∃ r, mS38_0 a f ps vs i = some r ∧ mS39_0 a f ps vs i = some r ∧ r.length ≤ 8000
 | 0, _, _, _, _, _, h, _, _ => absurd h (Nat.not_lt_zero _)
 | f + 1, i, ps, vs, h0, h1, hf, P, hn => by
  have hr := K.num.roots
  rw [mS38_0, mS39_0]
  by_cases c : i < (a.rs.length : Int)
  ·obtain ⟨v, e⟩ := rd_ex h0 c
   have ho := List.all_eq_true.1 R v (rd_mem e)
   unfold rok at ho
   simp only [Bool.and_eq_true] at ho
   obtain ⟨r, r1, r2, r3, r4⟩ := val_eq K I P (ck_gv ho.1.1 ho.2)
   rw [decide_eq_true c, cond_true, cond_true, e, oBs, oBs, r1, r2, oBs, oBs, show grow vs r.2 = some (vs ++ [r.2]) from if_pos (by omega), oBs, oBs, wr (x := i + 1) (by omega) (by omega)]
   exact shape_eq K I A R f (i + 1) r.1 (vs ++ [r.2]) (by omega) (by omega) (by omega) r3 (by simp; omega)
  ·rw [decide_eq_false c, cond_false, cond_false]
   exact nodes_eq K I A 20000 0 ps [] (Int.le_refl _) (by omega) (by omega) P (by simp)
theorem texts_some (ns : List Nd) (hn : ns.length ≤ 8000) : ∀ (f : Nat) (i : Int) (ts : List ByteArray), 0 ≤ i → i ≤ ns.length → ((ns.length : Int) - i).toNat < f → (ts.length : Int) ≤ i → ∃ r, mS11_0 f ns ts i = some r ∧ r.length ≤ 8000
 | 0, _, _, _, _, h, _ => absurd h (Nat.not_lt_zero _)
 | f + 1, i, ts, h0, h1, hf, ht => by
  rw [mS11_0]
  by_cases c : i < (ns.length : Int)
  ·obtain ⟨x, e⟩ := rd_ex h0 c
   rw [decide_eq_true c, cond_true, e, oBs, wr (x := i + 1) (by omega) (by omega)]
   cases x.k == 1 with
   | true =>
    rw [cond_true, show grow ts x.t = some (ts ++ [x.t]) from if_pos (by omega), oBs]
    exact texts_some ns hn f (i + 1) _ (by omega) (by omega) (by omega) (by simp; omega)
   | false => exact texts_some ns hn f (i + 1) _ (by omega) (by omega) (by omega) (by omega)
  ·rw [decide_eq_false c, cond_false]
   exact ⟨ts, rfl, by omega⟩
theorem textsOf {a : Ar} (I : ArI a) : ∃ ts, m11 a = some ts ∧ m12 a = some ts ∧ ts.length ≤ 2000001 := by
 unfold m11 m12 m38
 rcases arena I with ⟨h1, h2⟩ | ⟨h1, h2, M, K, A, _, R⟩
 ·rw [h1, h2]; exact ⟨_, rfl, rfl, by decide⟩
 ·obtain ⟨ns, n1, n2, n3⟩ := shape_eq K I A R 20000 0 [] [] (Int.le_refl _) (by omega) (by have := K.num.roots; omega) ⟨fun q hq => (by cases hq), List.nodup_nil⟩ (by simp)
  obtain ⟨ts, t1, t2⟩ := texts_some ns n3 20000 0 [] (Int.le_refl _) (by omega) (by omega) (by simp)
  unfold m39
  rw [h1, h2, oBs, oBs, Bool.not_true, cond_false, cond_false, n1, n2, oBs, oBs, oBs, Bool.not_true, cond_false]
  exact ⟨ts, t1, t1, by omega⟩
open Go Go.ChangeShapes Go.WideShapes Go.ChangeAt Go.RowKit Go.ChangeMaps Go.AH Go.AM
set_option maxRecDepth 100000 in
theorem textsLifted (hAH : ∀ (wv rv : Value) (a : Ar) (h : AHeap), ArH h wv rv a → ArI a → a.ws.length ≤ maxLen → a.rs.length ≤ maxLen → ∃ d h', call Tp Ms d 4 [arV wv rv a] h = some (.bool true, h')) (os : Os) (started : os.Started) (H : Type) (enc : TypeId × Value → H) :
  ReturnsInHanded {} Try.checked os 4 .any (Rows.fnExactTextsOfSpec.pre6 enc Tp Try.f4 Rows.fnExactTextsOfRow.domain false) (Rows.fnExactTextsOfSpec.post enc Tp Try.f4 false true false false) := by
 refine returnsInHanded_of_change (C := Try.checked) own started (by kernel_rfl) (by kernel_rfl)
  (ChangeSpec.witness6 (enc := enc) (C := Try.checked) false ⟨#[], #[.agg #[.slice none 0 0, .int .i64 0, .int .i64 0, .int .i64 0, .bool false, .int .i64 0, .int .i64 0, .int .i64 0, .int .i64 0, .slice none 0 0]], []⟩ 8 (by kernel_rfl) (by kernel_rfl) (by kernel_rfl) (by kernel_rfl)) ?_
 intro W base args ds gs before hval0 hW _ _
 have hval : ∀ (j : Nat) t v, Try.f4.params[j]? = some t → args[j]? = some v → Value.okWide Tp W .any base t v := hval0
 have hW' := hW
 obtain ⟨p, q, hA0, hV, rfl, hfz, hnd⟩ := hW
 have hA : DataW.TrodAll enc Tp W 0 (fun _ => true) true Try.f4.params.toList args.toList ds p := hA0
 have hp3 : Try.f4.params = #[25] := by kernel_rfl
 rw [hp3] at hA hval
 obtain ⟨v0, vs0, d0, ds0, p0, q0, hargs, rfl, rfl, h0, r0⟩ := trodAll_cons hA
 obtain ⟨rfl, rfl, rfl⟩ := trodAll_nil r0
 obtain rfl : args = #[v0] := by cases args; simp_all
 obtain ⟨rfl, rfl⟩ := trodVars_none hV
 have hagg : ∃ cs, v0 = .agg cs := by
  have := hval 0 25 v0 rfl rfl
  unfold Value.okWide at this
  rw [uArena] at this
  obtain ⟨cs, e, _⟩ := this
  exact ⟨cs, e⟩
 obtain ⟨cs, hcs⟩ := hagg
 obtain ⟨wv, rv, a, hv, hN⟩ := open_arena hcs h0
 obtain ⟨ah, ι, wa, ra, HR, hs, hr, hk⟩ := start_arena hN
 obtain ⟨hb1, hb2⟩ := hN.len
 obtain ⟨d, h', he⟩ := hAH wa ra a ah hk hN.ari hb1 hb2
 simp only [List.append_nil] at hW'
 have h0k := h0
 have hlt : ∀ x ∈ p0, x.block < W.heap.size := fun x hx => by simpa using hW'.lt x (by simpa using hx)
 have hrel : VR ι (arV wa ra a) v0 := by
  rw [hv]
  exact .s2 (.agg (.cons (.s0 hs) (.cons (.s0 (.int _ _)) (.cons (.s0 (.int _ _)) (.cons (.s0 (.int _ _)) (.cons (.s0 (.bool _)) (.cons (.s0 (.int _ _)) (.cons (.s0 (.int _ _)) (.cons (.s0 (.int _ _)) (.cons (.s0 (.int _ _)) (.cons (.s0 hr) .nil)))))))))))
 refine (law_calls mixed fnOk he (args' := #[v0]) (.cons hrel .nil) HR).mono fun e W' ⟨he, hbel⟩ => ?_
 subst he
 exact ⟨_, rfl, post_below (pa := p0) (pv := []) hW' (fun _ _ _ => (trodAll_cons_mk (shut_bool uBool _) trodAll_mk0)) (fun sp hsp => by
  have := trodAll_cons_mk (WideElems.Trod_stays laid rArena tArena h0k (fun x hx => hbel.same (hlt x hx)) (fun x hx => hsp x (by simpa using hx))) (trodAll_mk0 (enc := enc) (P := Tp) (w := W') (base := 0) (spare := sp) (held := true))
  rw [List.append_nil] at this
  exact this) (fun _ _ => rfl) hbel⟩
end Go.Proofs.Ytajpnemfppaafaa
