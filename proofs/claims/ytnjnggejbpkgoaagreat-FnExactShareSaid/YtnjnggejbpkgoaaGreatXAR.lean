import Derived.Test.YtnjnggejbpkgoaaGreatXAQ
import Derived.Test.YtnjnggejbpkgoaaGreatXAJ
import Derived.Test.YtnjnggejbpkgoaaGreatXAK
import Derived.Test.YtnjnggejbpkgoaaGreatXAN
set_option linter.unusedSimpArgs false
set_option linter.unusedVariables false
/- spec.Share. -/
namespace Go.Proofs.YtnjnggejbpkgoaaGreat
open Go Go.AH Go.AM
def RSh (h : AHeap) : Ar × Int → Value → AHeap → Prop := fun r v g => ∃ wv rv iw rw lw ir rr lr, v = .tuple (List.toArray [arV wv rv r.1, .int .i64 r.2]) ∧ LV wv iw lw r.1.ws.length ∧ LV rv ir lr r.1.rs.length ∧ Cx h.size g [] (WRow iw rw lw r.1 :: RRow ir rr lr r.1 :: []) []
theorem m93_w {a : Ar} (W : wok a) (hl : (a.ws.length : Int) ≤ 8000) {i : Int} (h0 : 0 ≤ i) (h1 : i + 1 < a.ws.length) : m93 a.ws i = some (rv a i) := m93_rv (a := ⟨a.ws, 0, 0, 0, false, 0, 0, 0, 0, []⟩) W.ari hl h0 h1
theorem vcells_set1 : ∀ (l : List Vl) (i : Nat) (v : Vl) (n : Int), l[i]? = some v → splice (vcells l) (i * 2 + 1) [.int .i64 n] = vcells (l.set i ⟨v.t, n⟩) := fun l i v n e => by
 have hi : i < l.length := (List.getElem?_eq_some_iff.1 e).1
 have ev : l[i] = v := by rw [List.getElem?_eq_getElem hi] at e; exact Option.some.inj e
 rw [← vcells_set l i ⟨v.t, n⟩ hi]
 have e2 := vcells_at l i v e
 have hl := vcells_len l
 unfold splice
 have e3 : (vcells l).take (i * 2 + 1) = (vcells l).take (i * 2) ++ [.int .i64 v.t] := by
  rw [List.take_add]
  congr 1
  have := congrArg (List.take 1) e2
  rw [List.take_take] at this
  exact this
 rw [e3]
 simp
section
variable {D N : Nat} {h : AHeap} {Q : List ORow} {iw rw ir rr : Nat} {lw lr : Bool} {wv rv : Value} {a a1 a2 a3 b2 b3 : Ar} {T T3 : List Int}
theorem J.lvs {b : Ar} (S : Shr a a1 a2 a3 T b2 b3 T3) (j : J a3 T b) (hw : LV wv iw lw a.ws.length) (hr : LV rv ir lr a.rs.length) : LV wv iw lw b.ws.length ∧ LV rv ir lr b.rs.length :=
 ⟨by rw [j.wl, S.wl]; exact hw, by rw [j.rl, S.rl]; exact hr⟩
theorem u5_2 (hD : 20002 ≤ D) (hN : 20000 ≤ N) (S : Shr a a1 a2 a3 T b2 b3 T3) (hw : LV wv iw lw a.ws.length) (hr : LV rv ir lr a.rs.length) {p4 p16 il rl p59 : Nat} {ll : Bool} {c4 c59 : List Value} {x : Int} {L' ls : List Int} {lsv : Value} (hx : LV lsv il ll ls.length) (hls : ls.length ≤ 256) (hxT : x ∈ T) (hks : ∀ k ∈ ls, k ∈ slots (hd a3 x).1.k (hd a3 x).1.s) (n1 : Nat)
  (IH : ∀ (b : Ar) (g : AHeap), J a3 T b → obS (fsT a3 T) a3 L' b = shA a3 T → Ext h.size h g → Cx h.size g [] (PRow p16 wv rv b :: WRow iw rw lw b :: RRow ir rr lr b :: ⟨p4, p4, 29, true, c4⟩ :: Q) [] →
   SmR h (RSh h) (some (b3, (cntT a3 T : Int) - cntT b3 T3)) (s5_1 hk0 (call Tp Ms D) N n1 (ptr p4 0) (ptr p16 0) (cntT a3 T : Int) (x + (hd a3 x).1.s + 1) g)) :
  ∀ (n2 i : Nat) (b : Ar) (g : AHeap), ls.length - i < n2 → i ≤ ls.length → J a3 T b → obS (fsT a3 T) a3 L' (slS (fsT a3 T) x (ls.drop i) b) = shA a3 T → Ext h.size h g →
   Cx h.size g [] (⟨il, rl, 3, ll, ls.map (Value.int .i64)⟩ :: PRow p16 wv rv b :: WRow iw rw lw b :: RRow ir rr lr b :: ⟨p4, p4, 29, true, c4⟩ :: Q) [] →
   SmR h (RSh h) (some (b3, (cntT a3 T : Int) - cntT b3 T3)) (s5_2 hk0 (call Tp Ms D) N n1 n2 (ptr p4 0) (ptr p16 0) (cntT a3 T : Int) x lsv (i : Int) g) := by
 intro n2
 induction n2 with
 | zero => intro _ _ _ h; exact absurd h (Nat.not_lt_zero _)
 | succ n2 ih =>
  intro i b g hf hi j hob E0 y0
  obtain ⟨hw', hr'⟩ := j.lvs S hw hr
  have W := j.n.w
  have B := j.n.bnd hxT
  have hhd := j.h x hxT
  have half := j.n.half
  have hsm := j.n.semi
  have H0 : ArH g wv rv b := Cx.arH y0 2 3 rfl rfl hw' hr'
  rw [s5_2_eq]
  refine Sm.b hx.len ?_
  refine Sm.b rfl ?_
  by_cases c : i < ls.length
  ·refine Sm.ct (decide_eq_true (by omega)) ?_
   rw [List.drop_eq_getElem_cons c] at hob
   have er : rd ls (i : Int) = some ls[i] := rd_at c
   have hkm := hks ls[i] (List.getElem_mem c)
   generalize ls[i] = k at er hkm hob
   have hob' : obS (fsT a3 T) a3 L' (slS (fsT a3 T) x (ls.drop (i + 1)) (putA b (x + k) (shV (fsT a3 T) (Go.Proofs.YtnjnggejbpkgoaaGreat.rv b (x + k)).1).n)) = shA a3 T := hob
   have jn := j.slot hxT hkm
   have bk := slots_in (a := b) (j.n.oT x hxT).ok (by rw [hhd]; exact hkm)
   have hvr := (j.n.oT x hxT).sl k (by rw [hhd]; exact hkm)
   refine Sm.b rfl ?_
   refine Sm.b (y0.ldO 1 0 rfl rfl) ?_
   obtain ⟨q1, q2⟩ := y0.atS 0 (Value.int .i64) ls rfl hx er
   refine Sm.b q1 ?_
   refine Sm.b q2 ?_
   refine Sm.b rfl ?_
   refine Sm.n y0 fun p87 g1 X1 y1 => ?_
   have E1 := E0.trans (X1.mono E0.size)
   rw [wr (x := x + k) (by omega) (by omega)]
   refine Sm.cv (m93_w W (by omega) (i := x + k) (by omega) (by omega)) (t93 (by omega) (H0.ext X1).w _) fun v2 g2 X2 R2 => ?_
   obtain rfl : v2 = eVB (Go.Proofs.YtnjnggejbpkgoaaGreat.rv b (x + k)) := R2
   have y2 := y1.ext X2
   have E2 := E1.trans (X2.mono E1.size)
   have et := rv_t hvr
   have tb := W _ (rd_mem et)
   have h3n : (Go.Proofs.YtnjnggejbpkgoaaGreat.rv b (x + k)).1.t = 3 → (Go.Proofs.YtnjnggejbpkgoaaGreat.rv b (x + k)).1.n ∈ T ∧ (hd b (Go.Proofs.YtnjnggejbpkgoaaGreat.rv b (x + k)).1.n).1.k = 1 := fun h3 => by
    obtain ⟨z1, z2⟩ := j.n.r x hxT k (by rw [hhd]; exact hkm) (by rw [h3]; decide)
    rw [kd_nc j.n z1, h3] at z2
    exact ⟨z1, z2⟩
   have hsame : (Go.Proofs.YtnjnggejbpkgoaaGreat.rv b (x + k)).1.t ≠ 3 → putA b (x + k) (shV (fsT a3 T) (Go.Proofs.YtnjnggejbpkgoaaGreat.rv b (x + k)).1).n = b := fun h3 => by
    unfold shV
    rw [if_neg h3]
    exact putA_same W (by omega) hvr
   generalize Go.Proofs.YtnjnggejbpkgoaaGreat.rv b (x + k) = rk at *
   refine Sm.b rfl ?_
   refine Sm.b rfl ?_
   refine Sm.b rfl ?_
   refine Sm.sts y2 0 [.int .i64 rk.1.t, .int .i64 rk.1.n] rfl rfl rfl (by simp) rfl fun g3 X3 y3 => ?_
   have E3 := E2.trans X3
   refine Sm.b rfl ?_
   refine Sm.b (y3.ldO 0 0 rfl rfl) ?_
   refine Sm.b rfl ?_
   by_cases h3 : rk.1.t = 3
   ·refine Sm.ct (beq_iff_eq.2 h3) ?_
    obtain ⟨z1, z2⟩ := h3n h3
    have H3 : ArH g3 wv rv b := Cx.arH y3 3 4 rfl rfl hw' hr'
    refine Sm.b (y3.ldON 2 rfl rfl) ?_
    refine Sm.b rfl ?_
    refine Sm.b (y3.ldO 0 1 rfl rfl) ?_
    refine Sm.b rfl ?_
    refine Sm.cv rfl (u17 (by omega) j.n H3 z1 z2) fun v4 g4 X4 R4 => ?_
    obtain rfl : v4 = .int .i64 (fsT b T rk.1.n) := R4
    have y4 := y3.ext X4
    have E4 := E3.trans (X4.mono E3.size)
    rw [j.fs z1 (by rw [← j.h _ z1]; exact z2)]
    refine Sm.b rfl ?_
    refine Sm.b rfl ?_
    refine Sm.sts y4 0 [.int .i64 rk.1.t, .int .i64 (fsT a3 T rk.1.n)] rfl rfl rfl (by simp) rfl fun g5 X5 y5 => ?_
    have E5 := E4.trans X5
    refine Sm.b (y5.ldON 2 rfl rfl) ?_
    obtain ⟨q3, q4⟩ := y5.atS 1 (Value.int .i64) ls rfl hx er
    refine Sm.b q3 ?_
    refine Sm.b q4 ?_
    refine Sm.b rfl ?_
    refine Sm.b (y5.ldON 0 rfl rfl) ?_
    rw [wr (x := x + k) (by omega) (by omega)]
    refine Sm.cv rfl (u22 (a := b) (F := []) (M := []) (by omega) (i := x + k) ⟨rk.1.t, fsT a3 T rk.1.n⟩ (by omega) (by omega) (by omega) hw' hr' g5 E5 ((y5.front 4 rfl).front 4 rfl)) fun v6 g6 E6 R6 => ?_
    rw [setA_put (v := ⟨rk.1.t, fsT a3 T rk.1.n⟩) et tb] at R6
    obtain ⟨rfl, l6, rs6, y6⟩ := R6
    have es : (shV (fsT a3 T) rk.1).n = fsT a3 T rk.1.n := by unfold shV; rw [if_pos h3]
    rw [es] at jn hob'
    obtain ⟨hw6, hr6⟩ := jn.lvs S hw hr
    refine Sm.sts y6 4 (arCells wv rv (putA b (x + k) (fsT a3 T rk.1.n))) rfl (arC hw6 hr6 _) rfl (by simp [arCells]) rfl fun g7 X7 y7 => ?_
    have E7 := E6.trans X7
    rw [wr0 (by omega)]
    refine ih (i + 1) (putA b (x + k) (fsT a3 T rk.1.n)) g7 (by omega) c jn hob' E7 ?_
    exact ((y7.pick (O' := _ :: _ :: _ :: _ :: _ :: Q) (.cons_cons _ (.cons_cons _ (.cons _ (List.Sublist.refl _))))).front 3 rfl).front 3 rfl
   ·refine Sm.cf (beq_eq_false_iff_ne.2 h3) ?_
    rw [hsame h3] at jn hob'
    rw [wr0 (by omega)]
    exact ih (i + 1) b g3 (by omega) c j hob' E3 (y3.pick (.cons _ (List.Sublist.refl _)))
  ·refine Sm.cf (decide_eq_false (by omega)) ?_
   rw [List.drop_eq_nil_of_le (by omega)] at hob
   refine Sm.b (y0.ldON 1 rfl rfl) ?_
   refine Sm.cv (m55_w W (by omega) (by omega)) (t55 (by omega) H0 x) fun v1 g1 X1 R1 => ?_
   obtain rfl : v1 = (hd b x).1.v := R1
   have y1 := y0.ext X1
   have E1 := E0.trans (X1.mono E0.size)
   refine Sm.b rfl ?_
   refine Sm.b rfl ?_
   rw [wr (x := x + (hd b x).1.s) (by omega) (by omega), wr (x := x + (hd b x).1.s + 1) (by omega) (by omega), hhd]
   exact IH b g1 j hob E1 (y1.pick (.cons _ (List.Sublist.refl _)))
theorem u5_1 (hD : 20005 ≤ D) (hN : 20000 ≤ N) (S : Shr a a1 a2 a3 T b2 b3 T3) (hw : LV wv iw lw a.ws.length) (hr : LV rv ir lr a.rs.length) {p4 p16 : Nat} {c4 : List Value} (h4 : c4.length = 10) :
  ∀ (L : List Int) (n1 : Nat) (q : Int) (b : Ar) (g : AHeap), Ch (tsz a3) q L a3.top → (∀ x ∈ L, x ∈ T) → L.length < n1 → J a3 T b → obS (fsT a3 T) a3 L b = shA a3 T → Ext h.size h g → Cx h.size g [] (PRow p16 wv rv b :: WRow iw rw lw b :: RRow ir rr lr b :: ⟨p4, p4, 29, true, c4⟩ :: Q) [] →
   SmR h (RSh h) (some (b3, (cntT a3 T : Int) - cntT b3 T3)) (s5_1 hk0 (call Tp Ms D) N n1 (ptr p4 0) (ptr p16 0) (cntT a3 T : Int) q g) := by
 intro L
 induction L with
 | nil =>
  intro n1 q b g hc hL hn j hob E0 y0
  obtain ⟨n1, rfl⟩ : ∃ k, n1 = k + 1 := ⟨n1 - 1, by simp at hn; omega⟩
  obtain rfl : b = shA a3 T := hob
  have eq : q = a3.top := hc
  obtain ⟨hw', hr'⟩ := j.lvs S hw hr
  have rb := S.rb
  have wb := S.wb
  rw [s5_1_eq]
  refine Sm.b rfl ?_
  refine Sm.b (y0.ldO 0 3 rfl rfl) ?_
  refine Sm.b rfl ?_
  refine Sm.cf (decide_eq_false (by rw [j.top]; omega)) ?_
  refine Sm.b (y0.ldON 0 rfl rfl) ?_
  refine Sm.cv rfl (u15 (by omega) S.f1 S.f2 S.f3 j.n.semi j.n.to (by rw [j.rl, S.rl]; omega) hw' hr' g E0 ((y0.front 2 rfl).front 2 rfl)) fun v1 g1 E1 R1 => ?_
  obtain ⟨rfl, l1, rs1, y1⟩ := R1
  have hw3 : LV wv iw lw b3.ws.length := by rw [S.wl2]; exact hw
  have hr3 : LV rv ir lr b3.rs.length := by rw [S.rl2]; exact hr
  refine Sm.sts y1 2 (arCells wv rv b3) rfl (arC hw3 hr3 _) rfl (by simp [arCells]) rfl fun g2 X2 y2 => ?_
  have E2 := E1.trans X2
  refine Sm.b (y2.ldON 2 rfl rfl) ?_
  refine Sm.b (y2.ldON 2 rfl rfl) ?_
  have H2 : ArH g2 wv rv b3 := Cx.arH y2 0 1 rfl rfl hw3 hr3
  refine Sm.cv rfl (u16 (by omega) S.m3 H2) fun v3 g3 X3 R3 => ?_
  obtain rfl : v3 = .int .i64 (cntT b3 T3 : Int) := R3
  have y3 := y2.ext X3
  have E3 := E2.trans (X3.mono E2.size)
  refine Sm.b rfl ?_
  refine Sm.b (agA (y3.ldON 2 rfl rfl) H2.vb) ?_
  refine Sm.ct rfl ?_
  refine Sm.sts y3 3 (arCells wv rv b3) rfl (arC hw3 hr3 _) rfl (by rw [h4]; simp [arCells]) (by unfold splice; simp [h4, arCells]) fun g4 X4 y4 => ?_
  have E4 := E3.trans X4
  refine Sm.b (y4.ldON 3 rfl rfl) ?_
  have c1 := cntT_le (b := a3) (L := T)
  have c2 := cntT_le (b := b3) (L := T3)
  have c3 := S.n3.tl
  have c4 := S.m3.tl
  rw [wr (x := (cntT a3 T : Int) - cntT b3 T3) (by omega) (by omega)]
  refine Sm.ct (S2ai hw3 hr3 b3 _) ?_
  exact Sm.fin E4 ⟨wv, rv, iw, rw, lw, ir, rr, lr, rfl, hw3, hr3, y4.pick (.cons_cons _ (.cons_cons _ (List.nil_sublist _)))⟩
 | cons x L ih =>
  intro n1 q b g hc hL hn j hob E0 y0
  simp only [List.length_cons] at hn
  obtain ⟨n1, rfl⟩ : ∃ k, n1 = k + 1 := ⟨n1 - 1, by omega⟩
  rcases S.n3.nxt hc hL with ⟨hq, L', e, hc', hqT, hL', q1, s1, s2⟩ | ⟨_, e⟩
  case inr => cases e
  cases e
  obtain ⟨hw', hr'⟩ := j.lvs S hw hr
  have W := j.n.w
  have B := j.n.bnd hqT
  have hhd := j.h x hqT
  have half := j.n.half
  have hsm := j.n.semi
  have H0 : ArH g wv rv b := Cx.arH y0 1 2 rfl rfl hw' hr'
  rw [s5_1_eq]
  refine Sm.b rfl ?_
  refine Sm.b (y0.ldO 0 3 rfl rfl) ?_
  refine Sm.b rfl ?_
  refine Sm.ct (decide_eq_true (by rw [j.top]; exact hq)) ?_
  refine Sm.b (y0.ldON 0 rfl rfl) ?_
  refine Sm.cv (m55_w W (by omega) (by omega)) (t55 (by omega) H0 x) fun v1 g1 X1 R1 => ?_
  obtain rfl : v1 = (hd b x).1.v := R1
  have y1 := y0.ext X1
  have E1 := E0.trans (X1.mono E0.size)
  refine Sm.n y1 fun p59 g2 X2 y2 => ?_
  have E2 := E1.trans (X2.mono E1.size)
  refine Sm.sts y2 0 [.int .i64 (hd b x).1.k, .int .i64 (hd b x).1.s, .int .i64 (hd b x).1.n] rfl rfl rfl (by simp) rfl fun g3 X3 y3 => ?_
  have E3 := E2.trans X3
  refine Sm.b rfl ?_
  refine Sm.b (y3.ldO 0 0 rfl rfl) ?_
  refine Sm.b rfl ?_
  refine Sm.b rfl ?_
  refine Sm.b (y3.ldO 0 1 rfl rfl) ?_
  refine Sm.b rfl ?_
  have hk := hd_hok (j.n.oT x hqT).ok
  have Sl := slots_eq (k := (hd b x).1.k) (s := (hd b x).1.s) (n := (hd b x).1.n) hk
  have Ln := slots_len (k := (hd b x).1.k) (s := (hd b x).1.s) (n := (hd b x).1.n) hk
  refine Sm.cv Sl.1 (t92 (by omega) _ _) fun v4 g4 X4 R4 => ?_
  obtain ⟨il, rl, ll, hx, o4, z4⟩ := R4
  have y4 := (y3.pick (.cons _ (List.Sublist.refl _))).add X4 o4 z4
  have E4 := E3.trans (X4.mono E3.size)
  refine u5_2 (c59 := []) (p59 := 0) (L' := L) (x := x) (ls := slots (hd b x).1.k (hd b x).1.s) (by omega) hN S hw hr hx Ln hqT (fun k hk => by rw [hhd] at hk; exact hk) n1 (fun b' g' j' ob' E' y' => ih n1 _ b' g' hc' hL' (by omega) j' ob' E' y') N 0 b g4 (by omega) (Nat.zero_le _) j ?_ E4 y4
  rw [List.drop_zero, hhd]
  exact hob
theorem u5_0 (hD : 20005 ≤ D) (hN : 20000 ≤ N) (S : Shr a a1 a2 a3 T b2 b3 T3) (hw : LV wv iw lw a.ws.length) (hr : LV rv ir lr a.rs.length) {p4 p16 : Nat} {c4 : List Value} (h4 : c4.length = 10) :
  ∀ (n f i : Nat) (b : Ar) (g : AHeap), n < f → i + n = b.rs.length → J a3 T b → obS (fsT a3 T) a3 T (rtS (fsT a3 T) n i b) = shA a3 T → Ext h.size h g → Cx h.size g [] (PRow p16 wv rv b :: WRow iw rw lw b :: RRow ir rr lr b :: ⟨p4, p4, 29, true, c4⟩ :: Q) [] →
   SmR h (RSh h) (some (b3, (cntT a3 T : Int) - cntT b3 T3)) (s5_0 hk0 (call Tp Ms D) N f (ptr p4 0) (ptr p16 0) (cntT a3 T : Int) (i : Int) g) := by
 intro n
 induction n with
 | zero =>
  intro f i b g hf hi j hob E0 y0
  obtain ⟨f, rfl⟩ : ∃ k, f = k + 1 := ⟨f - 1, by omega⟩
  obtain ⟨hw', hr'⟩ := j.lvs S hw hr
  have rb := S.rb
  rw [s5_0_eq]
  refine Sm.b rfl ?_
  refine Sm.b (y0.ldO 0 9 rfl rfl) ?_
  refine Sm.b hr'.len ?_
  refine Sm.b rfl ?_
  refine Sm.cf (decide_eq_false (by omega)) ?_
  have H0 : ArH g wv rv b := Cx.arH y0 1 2 rfl rfl hw' hr'
  have tl := S.n3.tl
  have to := j.n.to
  refine Sm.b (y0.ldON 0 rfl rfl) ?_
  refine Sm.b rfl ?_
  refine Sm.b (y0.ldO 0 2 rfl rfl) ?_
  refine Sm.b rfl ?_
  refine Sm.cv (m88_eq (by omega) j.n.semi) (t88 (by omega) H0 b.to) fun v2 g2 X2 R2 => ?_
  obtain rfl : v2 = .int .i64 (b.to * b.semi + 1) := R2
  have y2 := y0.ext X2
  have E2 := E0.trans (X2.mono E0.size)
  refine Sm.b rfl ?_
  rw [j.to, j.semi]
  exact u5_1 hD hN S hw hr h4 T N _ b g2 S.n3.t (fun _ h => h) (by omega) j hob E2 y2
 | succ n ih =>
  intro f i b g hf hi j hob E0 y0
  obtain ⟨f, rfl⟩ : ∃ k, f = k + 1 := ⟨f - 1, by omega⟩
  obtain ⟨hw', hr'⟩ := j.lvs S hw hr
  have rb := S.rb
  have rl := S.rl
  have jrl := j.rl
  have c : i < b.rs.length := by omega
  rw [s5_0_eq]
  refine Sm.b rfl ?_
  refine Sm.b (y0.ldO 0 9 rfl rfl) ?_
  refine Sm.b hr'.len ?_
  refine Sm.b rfl ?_
  refine Sm.ct (decide_eq_true (by omega)) ?_
  have er : rd b.rs (i : Int) = some b.rs[i] := rd_at c
  have ei : b.rs[i]? = some b.rs[i] := List.getElem?_eq_getElem c
  have ed : b.rs.getD i ⟨0, 0⟩ = b.rs[i] := by rw [List.getD_eq_getElem?_getD, ei]; rfl
  have hm : b.rs[i] ∈ b.rs := List.getElem_mem c
  have hob' : obS (fsT a3 T) a3 T (rtS (fsT a3 T) n (i + 1) { b with rs := b.rs.set i (shV (fsT a3 T) (b.rs.getD i ⟨0, 0⟩)) }) = shA a3 T := hob
  rw [ed] at hob'
  have jn := j.root ei
  generalize b.rs[i] = v at er ei ed hm hob' jn
  obtain ⟨q1, q2, q3⟩ := y0.atG 2 cV cV_len b.rs rfl hr' er
  have k0 := q3 0 _ rfl
  have k1 := q3 1 _ rfl
  rw [Nat.add_zero] at k0
  refine Sm.b rfl ?_
  refine Sm.b (y0.ldO 0 9 rfl rfl) ?_
  refine Sm.b q1 ?_
  refine Sm.b rfl ?_
  refine Sm.b k0 ?_
  refine Sm.b rfl ?_
  rw [wr0 (by omega)]
  by_cases h3 : v.t = 3
  ·refine Sm.ct (beq_iff_eq.2 h3) ?_
   obtain ⟨z1, z2⟩ := j.rt v hm (by rw [h3]; decide)
   rw [kd_nc j.n z1, h3] at z2
   refine Sm.b rfl ?_
   refine Sm.b (y0.ldO 0 9 rfl rfl) ?_
   refine Sm.b (y0.ldON 0 rfl rfl) ?_
   refine Sm.b rfl ?_
   refine Sm.b (y0.ldO 0 9 rfl rfl) ?_
   refine Sm.b q1 ?_
   refine Sm.b rfl ?_
   refine Sm.b k1 ?_
   refine Sm.b rfl ?_
   have H0 : ArH g wv rv b := Cx.arH y0 1 2 rfl rfl hw' hr'
   refine Sm.cv rfl (u17 (by omega) j.n H0 z1 z2) fun v4 g4 X4 R4 => ?_
   obtain rfl : v4 = .int .i64 (fsT b T v.n) := R4
   have y4 := y0.ext X4
   have E4 := E0.trans (X4.mono E0.size)
   rw [j.fs z1 (by rw [← j.h _ z1]; exact z2)]
   refine Sm.b rfl ?_
   refine Sm.b (agA (y4.ldO 0 9 rfl rfl) hr'.vb) ?_
   refine Sm.ct rfl ?_
   refine Sm.b q1 ?_
   refine Sm.b rfl ?_
   obtain ⟨hlr, hrv⟩ := LV.up hr' (by omega)
   subst hlr hrv
   have es : shV (fsT a3 T) v = ⟨v.t, fsT a3 T v.n⟩ := by unfold shV; rw [if_pos h3, h3]
   rw [es] at jn hob'
   refine Sm.sts y4 2 (vcells (b.rs.set i ⟨v.t, fsT a3 T v.n⟩)) (vs := [.int .i64 (fsT a3 T v.n)]) rfl rfl rfl (by rw [vcells_len]; simp; omega) (vcells_set1 b.rs i v _ ei) fun g5 X5 y5 => ?_
   have E5 := E4.trans X5
   exact ih f (i + 1) { b with rs := b.rs.set i ⟨v.t, fsT a3 T v.n⟩ } g5 (by omega) (by show i + 1 + n = (b.rs.set i _).length; rw [List.length_set]; omega) jn hob' E5 y5
  ·refine Sm.cf (beq_eq_false_iff_ne.2 h3) ?_
   have es : b.rs.set i (shV (fsT a3 T) v) = b.rs := by
    unfold shV
    rw [if_neg h3]
    refine List.ext_getElem? fun k => ?_
    by_cases hk : k = i
    ·subst hk
     rw [List.getElem?_set_self c, ei]
    ·rw [List.getElem?_set_ne (by omega)]
   rw [es] at jn hob'
   exact ih f (i + 1) b g (by omega) (by omega) j hob' E0 y0
end
open Go Go.AH Go.AM
section
variable {D N : Nat} {h : AHeap} {iw ir : Nat} {lw lr : Bool} {wv rv : Value} {a a1 a2 a3 b2 b3 : Ar} {T T3 : List Int}
theorem u5_no (hD : 20010 ≤ D) (H : ArH h wv rv a) (hW : Rd h wv iw lw 1 a.ws.length (a.ws.map (Value.int .u64))) (hR : Rd h rv ir lr 2 a.rs.length (vcells a.rs)) (b1 : a.ws.length ≤ 1048576) (b2 : a.rs.length ≤ 1048576) (e : m28 a = some false) :
  SmR h (RSh h) (some (a, 0)) (call Tp Ms D 5 [arV wv rv a] h) := by
 obtain ⟨D, rfl⟩ : ∃ d, D = d + 1 := ⟨D - 1, by omega⟩
 rw [c5, e5]
 have y0 := Cx.start0 h
 have E0 := Ext.refl h.size h
 refine Sm.b H.cells ?_
 refine Sm.n y0 fun p2 g1 X1 y1 => ?_
 have E1 := E0.trans (X1.mono E0.size)
 refine Sm.n y1 fun p4 g2 X2 y2 => ?_
 have E2 := E1.trans (X2.mono E1.size)
 refine Sm.b (y2.ldON 1 rfl rfl) ?_
 refine Sm.cv e (t28 (by omega) (H.ext E2)) fun v3 g3 X3 R3 => ?_
 obtain rfl : v3 = .bool false := R3
 have y3 := y2.ext X3
 have E3 := E2.trans (X3.mono E2.size)
 refine Sm.b rfl ?_
 refine Sm.ct rfl ?_
 refine Sm.b (y3.ldON 1 rfl rfl) ?_
 refine Sm.cv rfl (u14 (by omega) (hW.ext E3) (hR.ext E3) b1 b2) fun v4 g4 X4 R4 => ?_
 obtain ⟨w, r, iw', rw', lw', ir', rr', lr', rfl, hw, hr, z4⟩ := R4
 have y4 := Cx.join y3 X4 z4
 have E4 := E3.trans (X4.mono E3.size)
 refine Sm.sts y4 2 (arCells w r a) rfl (arC hw hr a) rfl (by simp) rfl fun g5 X5 y5 => ?_
 have E5 := E4.trans X5
 refine Sm.b (y5.ldON 2 rfl rfl) ?_
 refine Sm.ct (S2ai hw hr a 0) ?_
 exact Sm.fin E5 ⟨w, r, iw', rw', lw', ir', rr', lr', rfl, hw, hr, y5.pick (.cons_cons _ (.cons_cons _ (List.nil_sublist _)))⟩
theorem u5_ok (hD : 20010 ≤ D) (S : Shr a a1 a2 a3 T b2 b3 T3) (H : ArH h wv rv a) (hW : Rd h wv iw lw 1 a.ws.length (a.ws.map (Value.int .u64))) (hR : Rd h rv ir lr 2 a.rs.length (vcells a.rs)) (e : m28 a = some true) :
  SmR h (RSh h) (some (b3, (cntT a3 T : Int) - cntT b3 T3)) (call Tp Ms D 5 [arV wv rv a] h) := by
 obtain ⟨D, rfl⟩ : ∃ d, D = d + 1 := ⟨D - 1, by omega⟩
 rw [c5, e5]
 have y0 := Cx.start0 h
 have E0 := Ext.refl h.size h
 have rb := S.rb
 have wb := S.wb
 refine Sm.b H.cells ?_
 refine Sm.n y0 fun p2 g1 X1 y1 => ?_
 have E1 := E0.trans (X1.mono E0.size)
 refine Sm.n y1 fun p4 g2 X2 y2 => ?_
 have E2 := E1.trans (X2.mono E1.size)
 refine Sm.b (y2.ldON 1 rfl rfl) ?_
 refine Sm.cv e (t28 (by omega) (H.ext E2)) fun v3 g3 X3 R3 => ?_
 obtain rfl : v3 = .bool true := R3
 have y3 := y2.ext X3
 have E3 := E2.trans (X3.mono E2.size)
 refine Sm.b rfl ?_
 refine Sm.cf rfl ?_
 refine Sm.b (y3.ldON 1 rfl rfl) ?_
 refine Sm.cv rfl (u14 (by omega) (hW.ext E3) (hR.ext E3) (by omega) (by omega)) fun v4 g4 X4 R4 => ?_
 obtain ⟨w, r, iw', rw', lw', ir', rr', lr', rfl, hw, hr, z4⟩ := R4
 have y4 := Cx.join y3 X4 z4
 have E4 := E3.trans (X4.mono E3.size)
 refine Sm.cv rfl (u15 (by omega) S.e1 S.e2 S.e3 S.s1 S.t1 (by omega) hw hr g4 E4 y4) fun v5 g5 E5 R5 => ?_
 obtain ⟨rfl, l5, rs5, y5⟩ := R5
 have hw5 : LV w iw' lw' a3.ws.length := by rw [S.wl]; exact hw
 have hr5 : LV r ir' lr' a3.rs.length := by rw [S.rl]; exact hr
 refine Sm.n y5 fun p16 g6 X6 y6 => ?_
 have E6 := E5.trans (X6.mono E5.size)
 refine Sm.sts y6 0 (arCells w r a3) rfl (arC hw5 hr5 a3) rfl (by simp) rfl fun g7 X7 y7 => ?_
 have E7 := E6.trans X7
 refine Sm.b (y7.ldON 0 rfl rfl) ?_
 have H7 : ArH g7 w r a3 := Cx.arH y7 1 2 rfl rfl hw5 hr5
 refine Sm.cv rfl (u16 (by omega) S.n3 H7) fun v8 g8 X8 R8 => ?_
 obtain rfl : v8 = .int .i64 (cntT a3 T : Int) := R8
 have y8 := y7.ext X8
 have E8 := E7.trans (X8.mono E7.size)
 refine Sm.b rfl ?_
 have rl := S.rl
 exact u5_0 (by omega) (by omega) S hw hr rfl a3.rs.length D 0 a3 g8 (by omega) (by omega) (J.refl S.n3 S.r3) rfl E8 y8
end
open Go Go.AH Go.AM
theorem mset_new {key v : Value} : ∀ {l : List (Value × Value)}, mfind key l = some none → mset key v l = some (l ++ [(key, v)])
 | [], _ => rfl
 | (k, u) :: l, h => by
  unfold mfind at h
  unfold mset
  cases e : keyEq key k with
  | none => rw [e] at h; cases h
  | some c =>
   cases c with
   | true => rw [e] at h; cases h
   | false =>
    rw [e] at h
    dsimp only at h ⊢
    rw [mset_new h]; rfl
theorem keyEq_str (s t : ByteArray) : keyEq (.string s) (.string t) = some (decide (s = t)) := by
 have : keyEq (.string s) (.string t) = some (s == t) := by simp [keyEq]
 rw [this, ba_beq]
theorem mfind_snoc {s t : ByteArray} {v : Value} {r : Option Value} : ∀ {l : List (Value × Value)}, mfind (.string s) l = some r → mfind (.string s) (l ++ [(.string t, v)]) = some (r.or (if s = t then some v else none))
 | [], h => by
  cases h
  show (match keyEq (.string s) (.string t) with | some true => some (some v) | some false => some none | none => none) = _
  rw [keyEq_str]
  by_cases c : s = t
  ·rw [decide_eq_true c, if_pos c]; rfl
  ·rw [decide_eq_false c, if_neg c]; rfl
 | (k, u) :: l, h => by
  rw [List.cons_append]
  unfold mfind at h ⊢
  cases e : keyEq (.string s) k with
  | none => rw [e] at h; cases h
  | some c =>
   cases c with
   | true => rw [e] at h; cases h; rfl
   | false =>
    rw [e] at h
    exact mfind_snoc h
def MInv (b : Ar) (L : List Int) (ents : List (Value × Value)) : Prop := ∀ s, mfind (.string s) ents = some ((L.find? fun q => decide ((hd b q).1.k = 1) && decide (tx b q = s)).map (Value.int .i64))
theorem MInv.skip {b : Ar} {L : List Int} {ents : List (Value × Value)} (m : MInv b L ents) {q : Int} (hk : (hd b q).1.k ≠ 1) : MInv b (L ++ [q]) ents := fun s => by
 rw [m s, List.find?_append, List.find?_cons, decide_eq_false hk, Bool.false_and]
 simp
theorem MInv.had {b : Ar} {L : List Int} {ents : List (Value × Value)} (m : MInv b L ents) {q x : Int} (hx : L.find? (fun z => decide ((hd b z).1.k = 1) && decide (tx b z = tx b q)) = some x) : MInv b (L ++ [q]) ents := fun s => by
 rw [m s, List.find?_append, List.find?_cons]
 by_cases c : tx b q = s
 ·subst c
  rw [hx]; rfl
 ·rw [decide_eq_false c, Bool.and_false]
  simp
theorem MInv.add {b : Ar} {L : List Int} {ents : List (Value × Value)} (m : MInv b L ents) {q : Int} (hk : (hd b q).1.k = 1) (hx : L.find? (fun z => decide ((hd b z).1.k = 1) && decide (tx b z = tx b q)) = none) : MInv b (L ++ [q]) (ents ++ [(.string (tx b q), .int .i64 q)]) := fun s => by
 rw [mfind_snoc (m s), List.find?_append, List.find?_cons, decide_eq_true hk, Bool.true_and]
 by_cases c : tx b q = s
 ·subst c
  rw [hx, if_pos rfl, decide_eq_true rfl]; rfl
 ·rw [decide_eq_false c, if_neg (fun h => c h.symm)]
  cases L.find? (fun q => decide ((hd b q).1.k = 1) && decide (tx b q = s)) <;> rfl
section
variable {D N : Nat} {h : AHeap} {wv rv : Value} {b : Ar} {T : List Int} {pa : Nat}
theorem u28_0 (hD : 20000 ≤ D) (C : Nc b T) (H : ArH h wv rv b) (RA : Row h pa (arCells wv rv b) ∧ pa < h.size) : ∀ (L : List Int) (f : Nat) (q : Int) (l : List Int) (i rt : Nat) (g : AHeap), Ch (tsz b) q L b.top → (∀ x ∈ L, x ∈ T) → L.length < f → l.length + L.length ≤ 8000 → Ext h.size h g → Cx h.size g ((pa, arCells wv rv b) :: []) (⟨i, rt, 3, true, l.map (Value.int .i64)⟩ :: []) [] →
  SmR h (RO h (Value.int .i64) 3) (some (l ++ L)) (s28_0 hk0 (call Tp Ms D) N f (ptr pa 0) (slc i 0 l.length) q g) := by
 intro L
 induction L with
 | nil =>
  intro f q l i rt g hc hL hf hb E0 y0
  obtain ⟨f, rfl⟩ : ∃ k, f = k + 1 := ⟨f - 1, by simp at hf; omega⟩
  have e : q = b.top := hc
  rw [s28_0_eq]
  refine Sm.b rfl ?_
  refine Sm.b rfl ?_
  refine Sm.b (y0.ldF 0 3 rfl rfl) ?_
  refine Sm.b rfl ?_
  refine Sm.cf (decide_eq_false (by omega)) ?_
  rw [List.append_nil]
  exact Sm.fin E0 (Cx.ro y0 0 (Value.int .i64) l rfl (LV.mk i _))
 | cons x L ih =>
  intro f q l i rt g hc hL hf hb E0 y0
  simp only [List.length_cons] at hf hb
  obtain ⟨f, rfl⟩ : ∃ k, f = k + 1 := ⟨f - 1, by omega⟩
  rcases C.nxt hc hL with ⟨hq, L', e, hc', hqT, hL', q1, s1, s2⟩ | ⟨_, e⟩
  case inr => cases e
  cases e
  have W := C.w
  have lo := C.low
  rw [s28_0_eq]
  refine Sm.b rfl ?_
  refine Sm.b rfl ?_
  refine Sm.b (y0.ldF 0 3 rfl rfl) ?_
  refine Sm.b rfl ?_
  refine Sm.ct (decide_eq_true hq) ?_
  refine Sm.ns y0 fun p13 g1 X1 y1 => ?_
  have E1 := E0.trans (X1.mono E0.size)
  have src : Rd g1 (slc p13 0 1) p13 true 1 1 [.int .i64 x] := ⟨LV.mk _ _, rfl, fun _ => y1.rowO 0 rfl⟩
  obtain ⟨j, g2, e2, X2, y2⟩ := y1.app (esz := 1) (bytes := 8) 1 rfl src.src (n' := l.length) (by simp) (by unfold most; omega) (by unfold most; omega)
  have E2 := E1.trans X2
  refine Sm.b e2 ?_
  refine Sm.cv (m72_w W (by omega) (by omega)) (t72 (by omega) (H.ext E2) (y2.rowF 0 rfl) x) fun v3 g3 X3 R3 => ?_
  obtain rfl : v3 = (hd b x).1.v := R3
  have y3 := y2.ext X3
  have E3 := E2.trans (X3.mono E2.size)
  refine Sm.b rfl ?_
  refine Sm.b rfl ?_
  rw [wr (x := (hd b x).1.s + 1) (by omega) (by omega), wr (x := x + ((hd b x).1.s + 1)) (by omega) (by omega), ← Int.add_assoc]
  have := ih f _ (l ++ [x]) j rt g3 hc' hL' (by omega) (by simp; omega) E3 (by rw [List.map_append]; exact y3.pick (.cons _ (List.Sublist.refl _)))
  rw [List.append_assoc, List.length_append] at this
  exact this
theorem u28 (hD : 20001 ≤ D) (C : Nc b T) (H : ArH h wv rv b) (RA : Row h pa (arCells wv rv b) ∧ pa < h.size) : SmR h (RO h (Value.int .i64) 3) (some T) (call Tp Ms D 28 [ptr pa 0] h) := by
 obtain ⟨D, rfl⟩ : ∃ d, D = d + 1 := ⟨D - 1, by omega⟩
 rw [c28, e28]
 have y0 := (Cx.start0 h).addF RA.1 RA.2
 have E0 := Ext.refl h.size h
 have to := C.to
 have tl := C.tl
 refine Sm.ns y0 fun p1 g1 X1 y1 => ?_
 have E1 := E0.trans (X1.mono E0.size)
 refine Sm.b rfl ?_
 refine Sm.b rfl ?_
 refine Sm.b (y1.ldF 0 2 rfl rfl) ?_
 refine Sm.b rfl ?_
 refine Sm.cv (m64_eq (by omega) C.semi) (t64 (by omega) (H.ext E1) (y1.rowF 0 rfl) b.to) fun v2 g2 X2 R2 => ?_
 obtain rfl : v2 = .int .i64 (b.to * b.semi + 1) := R2
 have y2 := y1.ext X2
 have E2 := E1.trans (X2.mono E1.size)
 refine Sm.b rfl ?_
 exact u28_0 (D := D) (N := D) (by omega) C H RA T D _ [] p1 p1 g2 C.t (fun _ h => h) (by omega) (by simp; omega) E2 y2
theorem u35_0 (hD : 20000 ≤ D) (C : Nc b T) (H : ArH h wv rv b) (RA : Row h pa (arCells wv rv b) ∧ pa < h.size) {il rl : Nat} {ll : Bool} {lsv : Value} (hx : LV lsv il ll T.length) : ∀ (f i c : Nat) (g : AHeap), T.length - i < f → i ≤ T.length → c ≤ i → Ext h.size h g → Cx h.size g ((pa, arCells wv rv b) :: []) (⟨il, rl, 3, ll, T.map (Value.int .i64)⟩ :: []) [] →
  SmR h (En (Value.int .i64)) (some ((c + cntT b (T.drop i) : Nat) : Int)) (s35_0 hk0 (call Tp Ms D) N f (ptr pa 0) (c : Int) lsv (T.length : Int) (i : Int) g) := by
 intro f
 induction f with
 | zero => intro _ _ _ h; exact absurd h (Nat.not_lt_zero _)
 | succ f ih =>
  intro i c g hf hi hc E0 y0
  have tl := C.tl
  rw [s35_0_eq]
  by_cases cc : i < T.length
  ·refine Sm.ct (decide_eq_true (by omega)) ?_
   rw [List.drop_eq_getElem_cons cc]
   have er : rd T (i : Int) = some T[i] := rd_at cc
   have hm : T[i] ∈ T := List.getElem_mem cc
   generalize T[i] = x at er hm
   have B := C.bnd hm
   have half := C.half
   have hsm := C.semi
   obtain ⟨q1, q2⟩ := y0.atS 0 (Value.int .i64) T rfl hx er
   refine Sm.b q1 ?_
   refine Sm.b q2 ?_
   refine Sm.b rfl ?_
   refine Sm.cv (m72_w C.w (by omega) (by omega)) (t72 (by omega) (H.ext E0) (y0.rowF 0 rfl) x) fun v3 g3 X3 R3 => ?_
   obtain rfl : v3 = (hd b x).1.v := R3
   have y3 := y0.ext X3
   have E3 := E0.trans (X3.mono E0.size)
   refine Sm.b rfl ?_
   refine Sm.b rfl ?_
   rw [wr0 (k := i) (by omega)]
   unfold cntT
   by_cases hk : (hd b x).1.k = 1
   ·refine Sm.ct (beq_iff_eq.2 hk) ?_
    rw [if_pos hk, wr0 (by omega), ← Nat.add_assoc]
    exact ih (i + 1) (c + 1) g3 (by omega) cc (by omega) E3 y3
   ·refine Sm.cf (beq_eq_false_iff_ne.2 hk) ?_
    rw [if_neg hk, Nat.zero_add]
    exact ih (i + 1) c g3 (by omega) cc (by omega) E3 y3
  ·refine Sm.cf (decide_eq_false (by omega)) ?_
   rw [List.drop_eq_nil_of_le (by omega)]
   exact Sm.fin E0 rfl
theorem u35 (hD : 20002 ≤ D) (C : Nc b T) (H : ArH h wv rv b) (RA : Row h pa (arCells wv rv b) ∧ pa < h.size) : SmR h (En (Value.int .i64)) (some (cntT b T : Int)) (call Tp Ms D 35 [ptr pa 0] h) := by
 obtain ⟨D, rfl⟩ : ∃ d, D = d + 1 := ⟨D - 1, by omega⟩
 rw [c35, e35]
 have tl := C.tl
 refine Sm.cv rfl (u28 (by omega) C H RA) fun v1 g1 X1 R1 => ?_
 obtain ⟨il, rl, ll, hx, o, z⟩ := R1
 have y1 := ((Cx.start0 h).addF RA.1 RA.2).add X1 o z
 refine Sm.b hx.len ?_
 refine Sm.b rfl ?_
 have := u35_0 (D := D) (N := D) (by omega) C H RA hx D 0 0 g1 (by omega) (Nat.zero_le _) (Nat.le_refl _) X1 y1
 rw [List.drop_zero, Nat.zero_add, show ((0 : Nat) : Int) = 0 from rfl] at this
 exact this
end
def RKp {α : Type} (h : AHeap) (c : α → Value) (F : List FRow) (O : List ORow) (M : List MRow) : α → Value → AHeap → Prop := fun r v g => v = c r ∧ Cx h.size g F O M
theorem vbMap (m : Option Nat) : vbeq (.map m) (.map m) = true := by simp [vbeq, vbeq1]
section
variable {D N : Nat} {h : AHeap} {F : List FRow} {Q : List ORow} {M : List MRow} {iw rw ir rr pa pm p20 : Nat} {lw lr : Bool} {wv rv : Value} {b a3 : Ar} {T : List Int} {ents : List (Value × Value)}
theorem u31 (hD : 20005 ≤ D) (j : J a3 T b) (hw : LV wv iw lw b.ws.length) (hr : LV rv ir lr b.rs.length) (mi : MInv a3 T ents) {v : Vl} (hv : v.t = 3 → v.n ∈ T ∧ (hd b v.n).1.k = 1) (g0 : AHeap) (E0 : Ext h.size h g0)
  (y0 : Cx h.size g0 F (⟨p20, p20, 53, true, [.map (some pm)]⟩ :: PRow pa wv rv b :: WRow iw rw lw b :: RRow ir rr lr b :: Q) ((pm, ents) :: M)) :
  SmR h (RKp h Vl.v F (⟨p20, p20, 53, true, [.map (some pm)]⟩ :: PRow pa wv rv b :: WRow iw rw lw b :: RRow ir rr lr b :: Q) ((pm, ents) :: M)) (some (shV (fsT a3 T) v)) (call Tp Ms D 31 [v.v, ptr p20 0, ptr pa 0] g0) := by
 obtain ⟨D, rfl⟩ : ∃ d, D = d + 1 := ⟨D - 1, by omega⟩
 rw [c31, e31]
 refine Sm.b rfl ?_
 refine Sm.n y0 fun p2 g1 X1 y1 => ?_
 have E1 := E0.trans (X1.mono E0.size)
 refine Sm.n y1 fun p4 g2 X2 y2 => ?_
 have E2 := E1.trans (X2.mono E1.size)
 refine Sm.b rfl ?_
 refine Sm.b (y2.ldO 1 0 rfl rfl) ?_
 refine Sm.b rfl ?_
 have fin : ∀ (u : Vl) (g : AHeap), Ext h.size h g → Cx h.size g F (⟨p4, p4, 42, true, [.int .i64 0, .int .i64 0]⟩ :: ⟨p2, p2, 42, true, [.int .i64 u.t, .int .i64 u.n]⟩ :: ⟨p20, p20, 53, true, [.map (some pm)]⟩ :: PRow pa wv rv b :: WRow iw rw lw b :: RRow ir rr lr b :: Q) ((pm, ents) :: M) →
   SmR h (RKp h Vl.v F (⟨p20, p20, 53, true, [.map (some pm)]⟩ :: PRow pa wv rv b :: WRow iw rw lw b :: RRow ir rr lr b :: Q) ((pm, ents) :: M)) (some u) (s31_0 hk0 (call Tp Ms D) D (ptr p2 0) (ptr p4 0) g) := fun u g E y => by
  rw [s31_0_j, s31_0_eq]
  refine Sm.b (y.ldON 1 rfl rfl) ?_
  refine Sm.sts y 0 [.int .i64 u.t, .int .i64 u.n] rfl rfl rfl (by simp) rfl fun g5 X5 y5 => ?_
  refine Sm.b (y5.ldON 0 rfl rfl) ?_
  exact Sm.fin (E.trans X5) ⟨rfl, y5.pick (.cons _ (.cons _ (List.Sublist.refl _)))⟩
 unfold shV
 by_cases h3 : v.t = 3
 ·refine Sm.ct (beq_iff_eq.2 h3) ?_
  rw [if_pos h3]
  obtain ⟨z1, z2⟩ := hv h3
  refine Sm.b (y2.ldO 2 0 rfl rfl) ?_
  refine Sm.b rfl ?_
  refine Sm.b (y2.ldO 1 1 rfl rfl) ?_
  refine Sm.b rfl ?_
  have H2 : ArH g2 wv rv b := Cx.arH y2 4 5 rfl rfl hw hr
  have z3 : (hd a3 v.n).1.k = 1 := by rw [← j.h _ z1]; exact z2
  refine Sm.cv (txt_nc j.n z1 z2).2 (t70 (by omega) H2 (y2.rowO 3 rfl) v.n) fun v3 g3 X3 R3 => ?_
  obtain rfl : v3 = .string (tx b v.n) := R3
  have y3 := y2.ext X3
  have E3 := E2.trans (X3.mono E2.size)
  refine Sm.b rfl ?_
  refine Sm.b (agA (y3.ldO 2 0 rfl rfl) (vbMap _)) ?_
  refine Sm.ct rfl ?_
  have em : aMget g3 (.map (some pm)) (.string (tx b v.n)) (.int .i64 0) false = some (.int .i64 (fsT a3 T v.n)) := by
   have m := (y3.ms _ (List.mem_of_getElem? (show ((pm, ents) :: M)[0]? = some (pm, ents) from rfl))).1
   show ((g3.map pm).bind fun l => _) = _
   have m1 : g3.map pm = some ents := m
   rw [m1, oBs, mi, j.x _ z1 z3, (fsT_in z1 z3).2.2.2]
   rfl
  refine Sm.b em ?_
  refine Sm.b rfl ?_
  refine Sm.b rfl ?_
  refine Sm.sts y3 1 [.int .i64 v.t, .int .i64 (fsT a3 T v.n)] rfl rfl rfl (by simp) rfl fun g4 X4 y4 => ?_
  have := fin ⟨v.t, fsT a3 T v.n⟩ g4 (E3.trans X4) y4
  rw [h3] at this
  exact this
 ·refine Sm.cf (beq_eq_false_iff_ne.2 h3) ?_
  rw [if_neg h3]
  exact fin v g2 E2 y2
theorem callV31 (C : ACall) (v p q : Value) (g : AHeap) : aCallV C (.func (.func 31) (List.toArray []) (List.toArray [p, q])) [v] g = C 31 [v, p, q] g := rfl
end
open Go Go.AH Go.AM
def clo (p20 p8 : Nat) : Value := .func (.func 31) (List.toArray []) (List.toArray [ptr p20 0, ptr p8 0])
def CRow (p20 pm : Nat) : ORow := ⟨p20, p20, 53, true, [.map (some pm)]⟩
def LRow (il rl : Nat) (ll : Bool) (ls : List Int) : ORow := ⟨il, rl, 3, ll, ls.map (Value.int .i64)⟩
section
variable {D N : Nat} {h : AHeap} {Q : List ORow} {iw rw ir rr p8 p4 p20 pm : Nat} {lw lr : Bool} {wv rv : Value} {a a1 a2 a3 b2 b3 : Ar} {T T3 : List Int} {c4 : List Value} {ents : List (Value × Value)}
theorem u7_3 (hD : 20010 ≤ D) (S : Shr a a1 a2 a3 T b2 b3 T3) (mi : MInv a3 T ents) (hw : LV wv iw lw a.ws.length) (hr : LV rv ir lr a.rs.length) {il rl it rt : Nat} {ll lt : Bool} {x : Int} {L' ls : List Int} {lsv tv : Value} (hx : LV lsv il ll ls.length) (hls : ls.length ≤ 256) (hxT : x ∈ T) (hks : ∀ k ∈ ls, k ∈ slots (hd a3 x).1.k (hd a3 x).1.s) (n1 t : Nat)
  (IH : ∀ (b : Ar) (g : AHeap), J a3 T b → obS (fsT a3 T) a3 L' b = shA a3 T → Ext h.size h g → Cx h.size g [] (CRow p20 pm :: PRow p8 wv rv b :: WRow iw rw lw b :: RRow ir rr lr b :: LRow it rt lt T :: ⟨p4, p4, 29, true, c4⟩ :: Q) [(pm, ents)] →
   SmR h (RSh h) (some (b3, (cntT a3 T : Int) - cntT b3 T3)) (s7_2 hk0 (call Tp Ms D) N n1 (ptr p4 0) (ptr p8 0) (clo p20 p8) tv (T.length : Int) (IntKind.i64.wrap ((t : Int) + 1)) g)) :
  ∀ (n2 i : Nat) (b : Ar) (g : AHeap), ls.length - i < n2 → i ≤ ls.length → J a3 T b → obS (fsT a3 T) a3 L' (slS (fsT a3 T) x (ls.drop i) b) = shA a3 T → Ext h.size h g →
   Cx h.size g [] (CRow p20 pm :: PRow p8 wv rv b :: WRow iw rw lw b :: RRow ir rr lr b :: LRow il rl ll ls :: LRow it rt lt T :: ⟨p4, p4, 29, true, c4⟩ :: Q) [(pm, ents)] →
   SmR h (RSh h) (some (b3, (cntT a3 T : Int) - cntT b3 T3)) (s7_3 hk0 (call Tp Ms D) N n1 n2 (ptr p4 0) (ptr p8 0) (clo p20 p8) x tv (T.length : Int) (t : Int) lsv (ls.length : Int) (i : Int) g) := by
 intro n2
 induction n2 with
 | zero => intro _ _ _ h; exact absurd h (Nat.not_lt_zero _)
 | succ n2 ih =>
  intro i b g hf hi j hob E0 y0
  obtain ⟨hw', hr'⟩ := j.lvs S hw hr
  have W := j.n.w
  have B := j.n.bnd hxT
  have hhd := j.h x hxT
  have half := j.n.half
  have hsm := j.n.semi
  have H0 : ArH g wv rv b := Cx.arH y0 2 3 rfl rfl hw' hr'
  rw [s7_3_eq]
  by_cases c : i < ls.length
  ·refine Sm.ct (decide_eq_true (by omega)) ?_
   rw [List.drop_eq_getElem_cons c] at hob
   have er : rd ls (i : Int) = some ls[i] := rd_at c
   have hkm := hks ls[i] (List.getElem_mem c)
   generalize ls[i] = k at er hkm hob
   have hob' : obS (fsT a3 T) a3 L' (slS (fsT a3 T) x (ls.drop (i + 1)) (putA b (x + k) (shV (fsT a3 T) (Go.Proofs.YtnjnggejbpkgoaaGreat.rv b (x + k)).1).n)) = shA a3 T := hob
   have jn := j.slot hxT hkm
   have bk := slots_in (a := b) (j.n.oT x hxT).ok (by rw [hhd]; exact hkm)
   have hvr := (j.n.oT x hxT).sl k (by rw [hhd]; exact hkm)
   obtain ⟨q1, q2⟩ := y0.atS 4 (Value.int .i64) ls rfl hx er
   refine Sm.b q1 ?_
   refine Sm.b q2 ?_
   refine Sm.b rfl ?_
   rw [wr (x := x + k) (by omega) (by omega)]
   refine Sm.cv (m114_w W (by omega) (i := x + k) (by omega) (by omega) hvr) (t114 (by omega) H0 (y0.rowO 1 rfl) (x + k)) fun v2 g2 X2 R2 => ?_
   obtain rfl : v2 = (Go.Proofs.YtnjnggejbpkgoaaGreat.rv b (x + k)).1.v := R2
   have y2 := y0.ext X2
   have E2 := E0.trans (X2.mono E0.size)
   have et := rv_t hvr
   have tb := W _ (rd_mem et)
   have h3n : (Go.Proofs.YtnjnggejbpkgoaaGreat.rv b (x + k)).1.t = 3 → (Go.Proofs.YtnjnggejbpkgoaaGreat.rv b (x + k)).1.n ∈ T ∧ (hd b (Go.Proofs.YtnjnggejbpkgoaaGreat.rv b (x + k)).1.n).1.k = 1 := fun h3 => by
    obtain ⟨z1, z2⟩ := j.n.r x hxT k (by rw [hhd]; exact hkm) (by rw [h3]; decide)
    rw [kd_nc j.n z1, h3] at z2
    exact ⟨z1, z2⟩
   generalize Go.Proofs.YtnjnggejbpkgoaaGreat.rv b (x + k) = rk at *
   rw [show aCallV (call Tp Ms D) (clo p20 p8) [rk.1.v] g2 = call Tp Ms D 31 [rk.1.v, ptr p20 0, ptr p8 0] g2 from rfl]
   refine Sm.cv rfl (u31 (by omega) j hw' hr' mi h3n g2 E2 y2) fun v3 g3 E3 R3 => ?_
   obtain ⟨rfl, y3⟩ := R3
   refine Sm.cv rfl (u33 (by omega) hw' (i := x + k) (shV (fsT a3 T) rk.1) (by omega) (by omega) (by omega) g3 E3 (((y3.front 3 rfl).front 3 rfl).front 3 rfl)) fun v4 g4 E4 R4 => ?_
   rw [setA_put (v := shV (fsT a3 T) rk.1) (by rw [shV_t]; exact et) (by rw [shV_t]; exact tb)] at R4
   obtain ⟨rfl, l4, rs4, y4⟩ := R4
   rw [wr0 (by omega)]
   exact ih (i + 1) _ g4 (by omega) c jn hob' E4 (y4.front 3 rfl)
  ·refine Sm.cf (decide_eq_false (by omega)) ?_
   rw [List.drop_eq_nil_of_le (by omega)] at hob
   exact IH b g j hob E0 (y0.pick (.cons_cons _ (.cons_cons _ (.cons_cons _ (.cons_cons _ (.cons _ (List.Sublist.refl _)))))))
theorem u7_2 (hD : 20010 ≤ D) (hN : 20000 ≤ N) (S : Shr a a1 a2 a3 T b2 b3 T3) (mi : MInv a3 T ents) (hw : LV wv iw lw a.ws.length) (hr : LV rv ir lr a.rs.length) (h4 : c4.length = 10) {it rt : Nat} {lt : Bool} {tv : Value} (ht : LV tv it lt T.length) :
  ∀ (n1 i : Nat) (b : Ar) (g : AHeap), T.length - i < n1 → i ≤ T.length → J a3 T b → obS (fsT a3 T) a3 (T.drop i) b = shA a3 T → Ext h.size h g → Cx h.size g [] (CRow p20 pm :: PRow p8 wv rv b :: WRow iw rw lw b :: RRow ir rr lr b :: LRow it rt lt T :: ⟨p4, p4, 29, true, c4⟩ :: Q) [(pm, ents)] →
   SmR h (RSh h) (some (b3, (cntT a3 T : Int) - cntT b3 T3)) (s7_2 hk0 (call Tp Ms D) N n1 (ptr p4 0) (ptr p8 0) (clo p20 p8) tv (T.length : Int) (i : Int) g) := by
 intro n1
 induction n1 with
 | zero => intro _ _ _ h; exact absurd h (Nat.not_lt_zero _)
 | succ n1 ih =>
  intro i b g hf hi j hob E0 y0
  obtain ⟨hw', hr'⟩ := j.lvs S hw hr
  have rb := S.rb
  have wb := S.wb
  have tl := S.n3.tl
  have jwl := j.wl
  have jrl := j.rl
  have wl := S.wl
  have rl := S.rl
  have H0 : ArH g wv rv b := Cx.arH y0 2 3 rfl rfl hw' hr'
  rw [s7_2_eq]
  by_cases c : i < T.length
  ·refine Sm.ct (decide_eq_true (by omega)) ?_
   rw [List.drop_eq_getElem_cons c] at hob
   have er : rd T (i : Int) = some T[i] := rd_at c
   have hxT : T[i] ∈ T := List.getElem_mem c
   generalize T[i] = x at er hxT hob
   have W := j.n.w
   have B := j.n.bnd hxT
   have hhd := j.h x hxT
   have half := j.n.half
   have hsm := j.n.semi
   obtain ⟨q1, q2⟩ := y0.atS 4 (Value.int .i64) T rfl ht er
   refine Sm.b q1 ?_
   refine Sm.b q2 ?_
   refine Sm.b rfl ?_
   refine Sm.cv (m72_w W (by omega) (by omega)) (t72 (by omega) H0 (y0.rowO 1 rfl) x) fun v1 g1 X1 R1 => ?_
   obtain rfl : v1 = (hd b x).1.v := R1
   have y1 := y0.ext X1
   have E1 := E0.trans (X1.mono E0.size)
   refine Sm.n y1 fun p67 g2 X2 y2 => ?_
   have E2 := E1.trans (X2.mono E1.size)
   refine Sm.sts y2 0 [.int .i64 (hd b x).1.k, .int .i64 (hd b x).1.s, .int .i64 (hd b x).1.n] rfl rfl rfl (by simp) rfl fun g3 X3 y3 => ?_
   have E3 := E2.trans X3
   refine Sm.b rfl ?_
   refine Sm.b (y3.ldO 0 0 rfl rfl) ?_
   refine Sm.b rfl ?_
   refine Sm.b rfl ?_
   refine Sm.b (y3.ldO 0 1 rfl rfl) ?_
   refine Sm.b rfl ?_
   have hk := hd_hok (j.n.oT x hxT).ok
   have Sl := slots_eq (k := (hd b x).1.k) (s := (hd b x).1.s) (n := (hd b x).1.n) hk
   have Ln := slots_len (k := (hd b x).1.k) (s := (hd b x).1.s) (n := (hd b x).1.n) hk
   refine Sm.cv Sl.2.1 (t113 (by omega) _ _) fun v4 g4 X4 R4 => ?_
   obtain ⟨il, rl, ll, hx, o4, z4⟩ := R4
   have y4 := (y3.pick (.cons _ (List.Sublist.refl _))).add X4 o4 z4
   have E4 := E3.trans (X4.mono E3.size)
   refine Sm.b hx.len ?_
   refine Sm.b rfl ?_
   refine u7_3 (N := N) (L' := T.drop (i + 1)) (x := x) (ls := slots (hd b x).1.k (hd b x).1.s) (it := it) (rt := rt) (lt := lt) (tv := tv) hD S mi hw hr hx Ln hxT (fun k hk => by rw [hhd] at hk; exact hk) n1 i (fun b' g' j' ob' E' y' => ?_) N 0 b g4 (by omega) (Nat.zero_le _) j ?_ E4 ((((y4.front 4 rfl).front 4 rfl).front 4 rfl).front 4 rfl)
   ·rw [wr0 (by omega)]
    exact ih (i + 1) b' g' (by omega) c j' ob' E' y'
   ·rw [List.drop_zero, hhd]
    exact hob
  ·refine Sm.cf (decide_eq_false (by omega)) ?_
   rw [List.drop_eq_nil_of_le (by omega)] at hob
   obtain rfl : b = shA a3 T := hob
   refine Sm.cv rfl (u35 (by omega) j.n H0 (y0.rowO 1 rfl)) fun v1 g1 X1 R1 => ?_
   obtain rfl : v1 = .int .i64 (cntT (shA a3 T) T : Int) := R1
   rw [j.cnt]
   have y1 := y0.ext X1
   have E1 := E0.trans (X1.mono E0.size)
   refine Sm.b rfl ?_
   refine Sm.cv rfl (u27 (by omega) S.f1 S.f2 S.f3 j.n.semi j.n.to (by omega) (by omega) hw' hr' g1 E1 (((y1.front 3 rfl).front 3 rfl).front 3 rfl)) fun v2 g2 E2 R2 => ?_
   obtain ⟨rfl, l2, rs2, y2⟩ := R2
   have hw3 : LV wv iw lw b3.ws.length := by rw [S.wl2]; exact hw
   have hr3 : LV rv ir lr b3.rs.length := by rw [S.rl2]; exact hr
   have H2 : ArH g2 wv rv b3 := Cx.arH y2 1 2 rfl rfl hw3 hr3
   refine Sm.b (y2.ldON 0 rfl rfl) ?_
   refine Sm.cv rfl (u35 (by omega) S.m3 H2 (y2.rowO 0 rfl)) fun v3 g3 X3 R3 => ?_
   obtain rfl : v3 = .int .i64 (cntT b3 T3 : Int) := R3
   have y3 := y2.ext X3
   have E3 := E2.trans (X3.mono E2.size)
   refine Sm.b rfl ?_
   refine Sm.b (agA (y3.ldON 0 rfl rfl) H2.vb) ?_
   refine Sm.ct rfl ?_
   refine Sm.sts y3 5 (arCells wv rv b3) rfl (arC hw3 hr3 _) rfl (by rw [h4]; simp [arCells]) (by unfold splice; simp [h4, arCells]) fun g4 X4 y4 => ?_
   have E4 := E3.trans X4
   refine Sm.b (y4.ldON 5 rfl rfl) ?_
   have c1 := cntT_le (b := a3) (L := T)
   have c2 := cntT_le (b := b3) (L := T3)
   have c4 := S.m3.tl
   rw [wr (x := (cntT a3 T : Int) - cntT b3 T3) (by omega) (by omega)]
   refine Sm.ct (S2ai hw3 hr3 b3 _) ?_
   exact Sm.fin E4 ⟨wv, rv, iw, rw, lw, ir, rr, lr, rfl, hw3, hr3, (y4.pick (O' := _ :: _ :: []) (.cons _ (.cons_cons _ (.cons_cons _ (List.nil_sublist _))))).pickM (List.nil_sublist _)⟩
theorem u7_1 (hD : 20010 ≤ D) (hN : 20000 ≤ N) (S : Shr a a1 a2 a3 T b2 b3 T3) (mi : MInv a3 T ents) (hw : LV wv iw lw a.ws.length) (hr : LV rv ir lr a.rs.length) (h4 : c4.length = 10) :
  ∀ (n f i : Nat) (b : Ar) (g : AHeap), n < f → i + n = b.rs.length → J a3 T b → obS (fsT a3 T) a3 T (rtS (fsT a3 T) n i b) = shA a3 T → Ext h.size h g → Cx h.size g [] (CRow p20 pm :: PRow p8 wv rv b :: WRow iw rw lw b :: RRow ir rr lr b :: ⟨p4, p4, 29, true, c4⟩ :: Q) [(pm, ents)] →
   SmR h (RSh h) (some (b3, (cntT a3 T : Int) - cntT b3 T3)) (s7_1 hk0 (call Tp Ms D) N f (ptr p4 0) (ptr p8 0) (clo p20 p8) rv (a3.rs.length : Int) (i : Int) g) := by
 intro n
 induction n with
 | zero =>
  intro f i b g hf hi j hob E0 y0
  obtain ⟨f, rfl⟩ : ∃ k, f = k + 1 := ⟨f - 1, by omega⟩
  obtain ⟨hw', hr'⟩ := j.lvs S hw hr
  have jrl := j.rl
  have tl := S.n3.tl
  rw [s7_1_eq]
  refine Sm.cf (decide_eq_false (by omega)) ?_
  have H0 : ArH g wv rv b := Cx.arH y0 2 3 rfl rfl hw' hr'
  refine Sm.cv rfl (u28 (by omega) j.n H0 (y0.rowO 1 rfl)) fun v1 g1 X1 R1 => ?_
  obtain ⟨it, rt, lt, ht, o1, z1⟩ := R1
  have y1 := y0.add X1 o1 z1
  have E1 := E0.trans (X1.mono E0.size)
  refine Sm.b ht.len ?_
  refine Sm.b rfl ?_
  have := u7_2 (D := D) (N := N) (h := h) (Q := Q) (iw := iw) (rw := rw) (ir := ir) (rr := rr) (lw := lw) (lr := lr) (p8 := p8) (p4 := p4) (p20 := p20) (pm := pm) hD hN S mi hw hr h4 ht N 0 b g1 (by omega) (Nat.zero_le _) j hob E1 ((((y1.front 4 rfl).front 4 rfl).front 4 rfl).front 4 rfl)
  exact this
 | succ n ih =>
  intro f i b g hf hi j hob E0 y0
  obtain ⟨f, rfl⟩ : ∃ k, f = k + 1 := ⟨f - 1, by omega⟩
  obtain ⟨hw', hr'⟩ := j.lvs S hw hr
  have rb := S.rb
  have rl := S.rl
  have jrl := j.rl
  have c : i < b.rs.length := by omega
  rw [s7_1_eq]
  refine Sm.ct (decide_eq_true (by omega)) ?_
  have er : rd b.rs (i : Int) = some b.rs[i] := rd_at c
  have ei : b.rs[i]? = some b.rs[i] := List.getElem?_eq_getElem c
  have ed : b.rs.getD i ⟨0, 0⟩ = b.rs[i] := by rw [List.getD_eq_getElem?_getD, ei]; rfl
  have hm : b.rs[i] ∈ b.rs := List.getElem_mem c
  have hob' : obS (fsT a3 T) a3 T (rtS (fsT a3 T) n (i + 1) { b with rs := b.rs.set i (shV (fsT a3 T) (b.rs.getD i ⟨0, 0⟩)) }) = shA a3 T := hob
  rw [ed] at hob'
  have jn := j.root ei
  generalize b.rs[i] = v at er ei ed hm hob' jn
  obtain ⟨q1, q2, _⟩ := y0.atG 3 cV cV_len b.rs rfl hr' er
  refine Sm.b q1 ?_
  refine Sm.b q2 ?_
  refine Sm.n y0 fun p49 g1 X1 y1 => ?_
  have E1 := E0.trans (X1.mono E0.size)
  refine Sm.sts y1 0 [.int .i64 v.t, .int .i64 v.n] rfl rfl rfl (by simp) rfl fun g2 X2 y2 => ?_
  have E2 := E1.trans X2
  refine Sm.b rfl ?_
  refine Sm.b (y2.ldO 2 9 rfl rfl) ?_
  refine Sm.b (y2.ldON 0 rfl rfl) ?_
  rw [show aCallV (call Tp Ms D) (clo p20 p8) [Value.agg (List.toArray [.int .i64 v.t, .int .i64 v.n])] g2 = call Tp Ms D 31 [v.v, ptr p20 0, ptr p8 0] g2 from rfl]
  refine Sm.cv rfl (u31 (by omega) j hw' hr' mi (fun h3 => by
   obtain ⟨z1, z2⟩ := j.rt v hm (by rw [h3]; decide)
   rw [kd_nc j.n z1, h3] at z2
   exact ⟨z1, z2⟩) g2 E2 (y2.pick (.cons _ (List.Sublist.refl _)))) fun v3 g3 E3 R3 => ?_
  obtain ⟨rfl, y3⟩ := R3
  refine Sm.b (agA (y3.ldO 1 9 rfl rfl) hr'.vb) ?_
  refine Sm.ct rfl ?_
  refine Sm.b q1 ?_
  obtain ⟨hlr, hrv⟩ := LV.up hr' (by omega)
  subst hlr hrv
  refine Sm.sts y3 3 (vcells (b.rs.set i (shV (fsT a3 T) v))) (vs := [.int .i64 (shV (fsT a3 T) v).t, .int .i64 (shV (fsT a3 T) v).n]) rfl rfl rfl (by rw [vcells_len]; simp; omega) (vcells_set b.rs i _ c) fun g5 X5 y5 => ?_
  have E5 := E3.trans X5
  rw [wr0 (by omega)]
  exact ih f (i + 1) { b with rs := b.rs.set i (shV (fsT a3 T) v) } g5 (by omega) (by show i + 1 + n = (b.rs.set i _).length; rw [List.length_set]; omega) jn hob' E5 y5
end
open Go Go.AH Go.AM
section
variable {D N : Nat} {h : AHeap} {Q : List ORow} {iw rw ir rr p8 p4 p20 pm : Nat} {lw lr : Bool} {wv rv : Value} {a a1 a2 a3 b2 b3 : Ar} {T T3 : List Int} {c4 : List Value}
theorem take_snoc {T : List Int} {i : Nat} (c : i < T.length) : T.take (i + 1) = T.take i ++ [T[i]] := by
 rw [List.take_add_one, List.getElem?_eq_getElem c]; rfl
theorem u7_0 (hD : 20010 ≤ D) (hN : 20000 ≤ N) (S : Shr a a1 a2 a3 T b2 b3 T3) (hw : LV wv iw lw a.ws.length) (hr : LV rv ir lr a.rs.length) (h4 : c4.length = 10) {it rt : Nat} {lt : Bool} {tv : Value} (ht : LV tv it lt T.length) :
  ∀ (f i : Nat) (ents : List (Value × Value)) (g : AHeap), T.length - i < f → i ≤ T.length → MInv a3 (T.take i) ents → Ext h.size h g → Cx h.size g [] (CRow p20 pm :: PRow p8 wv rv a3 :: WRow iw rw lw a3 :: RRow ir rr lr a3 :: LRow it rt lt T :: ⟨p4, p4, 29, true, c4⟩ :: Q) [(pm, ents)] →
   SmR h (RSh h) (some (b3, (cntT a3 T : Int) - cntT b3 T3)) (s7_0 hk0 (call Tp Ms D) N f (ptr p4 0) (ptr p8 0) (ptr p20 0) tv (T.length : Int) (i : Int) g) := by
 intro f
 induction f with
 | zero => intro _ _ _ h; exact absurd h (Nat.not_lt_zero _)
 | succ f ih =>
  intro i ents g hf hi mi E0 y0
  have j := J.refl S.n3 S.r3
  obtain ⟨hw', hr'⟩ := j.lvs S hw hr
  have tl := S.n3.tl
  have H0 : ArH g wv rv a3 := Cx.arH y0 2 3 rfl rfl hw' hr'
  rw [s7_0_eq]
  by_cases c : i < T.length
  ·refine Sm.ct (decide_eq_true (by omega)) ?_
   have er : rd T (i : Int) = some T[i] := rd_at c
   have hxT : T[i] ∈ T := List.getElem_mem c
   have tk := take_snoc c
   generalize T[i] = x at er hxT tk
   have W := j.n.w
   have B := j.n.bnd hxT
   have half := j.n.half
   have hsm := j.n.semi
   obtain ⟨q1, q2⟩ := y0.atS 4 (Value.int .i64) T rfl ht er
   refine Sm.b q1 ?_
   refine Sm.b q2 ?_
   refine Sm.b rfl ?_
   refine Sm.cv (m72_w W (by omega) (by omega)) (t72 (by omega) H0 (y0.rowO 1 rfl) x) fun v1 g1 X1 R1 => ?_
   obtain rfl : v1 = (hd a3 x).1.v := R1
   have y1 := y0.ext X1
   have E1 := E0.trans (X1.mono E0.size)
   refine Sm.b rfl ?_
   refine Sm.b rfl ?_
   rw [wr0 (k := i) (by omega)]
   by_cases hk : (hd a3 x).1.k = 1
   ·refine Sm.ct (beq_iff_eq.2 hk) ?_
    have H1 : ArH g1 wv rv a3 := Cx.arH y1 2 3 rfl rfl hw' hr'
    refine Sm.cv (txt_nc j.n hxT hk).2 (t70 (by omega) H1 (y1.rowO 1 rfl) x) fun v2 g2 X2 R2 => ?_
    obtain rfl : v2 = .string (tx a3 x) := R2
    have y2 := y1.ext X2
    have E2 := E1.trans (X2.mono E1.size)
    refine Sm.b rfl ?_
    refine Sm.b (y2.ldO 0 0 rfl rfl) ?_
    have m1 : g2.map pm = some ents := (y2.ms _ (List.mem_of_getElem? (show [(pm, ents)][0]? = some (pm, ents) from rfl))).1
    cases ef : (T.take i).find? (fun q => decide ((hd a3 q).1.k = 1) && decide (tx a3 q = tx a3 x)) with
    | some z =>
     have em : aMget g2 (.map (some pm)) (.string (tx a3 x)) (.int .i64 0) true = some (.tuple #[.int .i64 z, .bool true]) := by
      show ((g2.map pm).bind fun l => _) = _
      rw [m1, oBs, mi, ef]
      rfl
     refine Sm.b em ?_
     refine Sm.b rfl ?_
     refine Sm.b rfl ?_
     refine Sm.b rfl ?_
     refine Sm.b rfl ?_
     refine Sm.cf rfl ?_
     exact ih (i + 1) ents g2 (by omega) c (by rw [tk]; exact mi.had ef) E2 y2
    | none =>
     have em : aMget g2 (.map (some pm)) (.string (tx a3 x)) (.int .i64 0) true = some (.tuple #[.int .i64 0, .bool false]) := by
      show ((g2.map pm).bind fun l => _) = _
      rw [m1, oBs, mi, ef]
      rfl
     refine Sm.b em ?_
     refine Sm.b rfl ?_
     refine Sm.b rfl ?_
     refine Sm.b rfl ?_
     refine Sm.b rfl ?_
     refine Sm.ct rfl ?_
     refine Sm.b (y2.ldO 0 0 rfl rfl) ?_
     have hm : mfind (.string (tx a3 x)) ents = some none := by rw [mi, ef]; rfl
     obtain ⟨g3, e3, X3, y3⟩ := y2.msetE 0 rfl (key := .string (tx a3 x)) (v := .int .i64 x) rfl (mset_new hm)
     refine Sm.b e3 ?_
     exact ih (i + 1) _ g3 (by omega) c (by rw [tk]; exact mi.add hk ef) (E2.trans X3) y3
   ·refine Sm.cf (beq_eq_false_iff_ne.2 hk) ?_
    exact ih (i + 1) ents g1 (by omega) c (by rw [tk]; exact mi.skip hk) E1 y1
  ·refine Sm.cf (decide_eq_false (by omega)) ?_
   refine Sm.b (show aFn 31 [] [ptr p20 0, ptr p8 0] = some (clo p20 p8) from rfl) ?_
   refine Sm.b rfl ?_
   refine Sm.b (y0.ldO 1 9 rfl rfl) ?_
   refine Sm.b hr'.len ?_
   refine Sm.b rfl ?_
   rw [List.take_of_length_le (by omega)] at mi
   have rl := S.rl
   have rb := S.rb
   exact u7_1 hD hN S mi hw hr h4 a3.rs.length N 0 a3 g (by omega) (by omega) j rfl E0 (y0.pick (.cons_cons _ (.cons_cons _ (.cons_cons _ (.cons_cons _ (.cons _ (List.Sublist.refl _)))))))
theorem u56 (hD : 1 ≤ D) {l : List Int} (hW : Rd h wv iw lw 1 l.length (l.map (Value.int .u64))) (b1 : l.length ≤ 1048576) : SmR h (RO h (Value.int .u64) 74) (some l) (call Tp Ms D 56 [wv] h) := by
 obtain ⟨D, rfl⟩ : ∃ d, D = d + 1 := ⟨D - 1, by omega⟩
 rw [c56, e56]
 have y0 := Cx.start0 h
 obtain ⟨i, lv, v', g2, e2, hv, X2, y2⟩ := Cx.appN y0 (esz := 1) (bytes := 8) (t := 74) hW.src (by simp) b1 (by omega)
 refine Sm.b e2 ?_
 exact Sm.fin X2 (Cx.ro y2 0 (Value.int .u64) l rfl hv)
theorem u25 (hD : 2 ≤ D) (hW : Rd h wv iw lw 1 a.ws.length (a.ws.map (Value.int .u64))) (hR : Rd h rv ir lr 2 a.rs.length (vcells a.rs)) (b1 : a.ws.length ≤ 1048576) (b2 : a.rs.length ≤ 1048576) :
  SmR h (RCp h) (some a) (call Tp Ms D 25 [arV wv rv a] h) := by
 obtain ⟨D, rfl⟩ : ∃ d, D = d + 1 := ⟨D - 1, by omega⟩
 rw [c25, e25]
 have y0 := Cx.start0 h
 have E0 := Ext.refl h.size h
 refine Sm.b (arC hW.1 hR.1 a) ?_
 refine Sm.n y0 fun p2 g1 X1 y1 => ?_
 have E1 := E0.trans (X1.mono E0.size)
 refine Sm.n y1 fun p4 g2 X2 y2 => ?_
 have E2 := E1.trans (X2.mono E1.size)
 refine Sm.b rfl ?_
 refine Sm.b (y2.ldO 1 0 rfl rfl) ?_
 refine Sm.cv rfl (u56 (by omega) (hW.ext E2) b1) fun v3 g3 X3 R3 => ?_
 obtain ⟨i3, q3, l3, h3, o3, z3⟩ := R3
 have y3 := y2.add X3 o3 z3
 have E3 := E2.trans (X3.mono E2.size)
 refine Sm.b rfl ?_
 refine Sm.sts y3 2 (arCells v3 rv a) rfl (LV.cells h3) rfl (by simp [arCells]) rfl fun g4 X4 y4 => ?_
 have E4 := E3.trans X4
 refine Sm.b rfl ?_
 refine Sm.b (y4.ldO 2 9 rfl rfl) ?_
 obtain ⟨j, l6, v6, g6, e6, h6, X6, y6⟩ := Cx.appN y4 (esz := 2) (bytes := 16) (t := 42) (hR.ext E4).src (vcells_len _) b2 (by omega)
 have E6 := E4.trans (X6.mono E4.size)
 refine Sm.b e6 ?_
 refine Sm.b rfl ?_
 refine Sm.sts y6 3 (arCells v3 v6 a) (vs := [v6]) rfl (LV.cells h6) rfl (by simp [arCells]) rfl fun g7 X7 y7 => ?_
 have E7 := E6.trans X7
 refine Sm.b (y7.ldON 3 rfl rfl) ?_
 refine Sm.sts y7 2 (arCells v3 v6 a) rfl (arC h3 h6 a) rfl (by simp) rfl fun g8 X8 y8 => ?_
 have E8 := E7.trans X8
 refine Sm.b (y8.ldON 2 rfl rfl) ?_
 refine Sm.fin E8 ⟨v3, v6, i3, q3, l3, j, j, l6, rfl, h3, h6, ?_⟩
 exact (y8.front 1 rfl).pick (O' := _ :: _ :: []) (.cons_cons _ (.cons_cons _ (List.nil_sublist _)))
theorem u7_no (hD : 20010 ≤ D) (H : ArH h wv rv a) (hW : Rd h wv iw lw 1 a.ws.length (a.ws.map (Value.int .u64))) (hR : Rd h rv ir lr 2 a.rs.length (vcells a.rs)) (b1 : a.ws.length ≤ 1048576) (b2 : a.rs.length ≤ 1048576) (e : m33 a = some false) :
  SmR h (RSh h) (some (a, 0)) (call Tp Ms D 7 [arV wv rv a] h) := by
 obtain ⟨D, rfl⟩ : ∃ d, D = d + 1 := ⟨D - 1, by omega⟩
 rw [c7, e7]
 have y0 := Cx.start0 h
 have E0 := Ext.refl h.size h
 refine Sm.b H.cells ?_
 refine Sm.n y0 fun p2 g1 X1 y1 => ?_
 have E1 := E0.trans (X1.mono E0.size)
 refine Sm.n y1 fun p4 g2 X2 y2 => ?_
 have E2 := E1.trans (X2.mono E1.size)
 refine Sm.b (y2.ldON 1 rfl rfl) ?_
 refine Sm.cv rfl (u25 (by omega) (hW.ext E2) (hR.ext E2) b1 b2) fun v4 g4 X4 R4 => ?_
 obtain ⟨w, r, iw', rw', lw', ir', rr', lr', rfl, hw, hr, z4⟩ := R4
 have y4 := Cx.join y2 X4 z4
 have E4 := E2.trans (X4.mono E2.size)
 refine Sm.n y4 fun p8 g5 X5 y5 => ?_
 have E5 := E4.trans (X5.mono E4.size)
 refine Sm.sts y5 0 (arCells w r a) rfl (arC hw hr a) rfl (by simp) rfl fun g6 X6 y6 => ?_
 have E6 := E5.trans X6
 refine Sm.b (y6.ldON 4 rfl rfl) ?_
 refine Sm.cv e (t33 (by omega) (H.ext E6)) fun v7 g7 X7 R7 => ?_
 obtain rfl : v7 = .bool false := R7
 have y7 := y6.ext X7
 have E7 := E6.trans (X7.mono E6.size)
 refine Sm.b rfl ?_
 refine Sm.ct rfl ?_
 refine Sm.b (y7.ldON 0 rfl rfl) ?_
 refine Sm.sts y7 3 (arCells w r a) rfl (arC hw hr a) rfl (by simp) rfl fun g8 X8 y8 => ?_
 have E8 := E7.trans X8
 refine Sm.b (y8.ldON 3 rfl rfl) ?_
 refine Sm.ct (S2ai hw hr a 0) ?_
 exact Sm.fin E8 ⟨w, r, iw', rw', lw', ir', rr', lr', rfl, hw, hr, y8.pick (.cons _ (.cons_cons _ (.cons_cons _ (List.nil_sublist _))))⟩
theorem u7_ok (hD : 20020 ≤ D) (S : Shr a a1 a2 a3 T b2 b3 T3) (H : ArH h wv rv a) (hW : Rd h wv iw lw 1 a.ws.length (a.ws.map (Value.int .u64))) (hR : Rd h rv ir lr 2 a.rs.length (vcells a.rs)) (e : m33 a = some true) :
  SmR h (RSh h) (some (b3, (cntT a3 T : Int) - cntT b3 T3)) (call Tp Ms D 7 [arV wv rv a] h) := by
 obtain ⟨D, rfl⟩ : ∃ d, D = d + 1 := ⟨D - 1, by omega⟩
 rw [c7, e7]
 have y0 := Cx.start0 h
 have E0 := Ext.refl h.size h
 have rb := S.rb
 have wb := S.wb
 have rl := S.rl
 have tl := S.n3.tl
 refine Sm.b H.cells ?_
 refine Sm.n y0 fun p2 g1 X1 y1 => ?_
 have E1 := E0.trans (X1.mono E0.size)
 refine Sm.n y1 fun p4 g2 X2 y2 => ?_
 have E2 := E1.trans (X2.mono E1.size)
 refine Sm.b (y2.ldON 1 rfl rfl) ?_
 refine Sm.cv rfl (u25 (by omega) (hW.ext E2) (hR.ext E2) (by omega) (by omega)) fun v4 g4 X4 R4 => ?_
 obtain ⟨w, r, iw', rw', lw', ir', rr', lr', rfl, hw, hr, z4⟩ := R4
 have y4 := Cx.join y2 X4 z4
 have E4 := E2.trans (X4.mono E2.size)
 refine Sm.n y4 fun p8 g5 X5 y5 => ?_
 have E5 := E4.trans (X5.mono E4.size)
 refine Sm.sts y5 0 (arCells w r a) rfl (arC hw hr a) rfl (by simp) rfl fun g6 X6 y6 => ?_
 have E6 := E5.trans X6
 refine Sm.b (y6.ldON 4 rfl rfl) ?_
 refine Sm.cv e (t33 (by omega) (H.ext E6)) fun v7 g7 X7 R7 => ?_
 obtain rfl : v7 = .bool true := R7
 have y7 := y6.ext X7
 have E7 := E6.trans (X7.mono E6.size)
 refine Sm.b rfl ?_
 refine Sm.cf rfl ?_
 refine Sm.cv rfl (u27 (by omega) S.e1 S.e2 S.e3 S.s1 S.t1 (by omega) (by omega) hw hr g7 E7 y7) fun v8 g8 E8 R8 => ?_
 obtain ⟨rfl, l8, rs8, y8⟩ := R8
 have hw3 : LV w iw' lw' a3.ws.length := by rw [S.wl]; exact hw
 have hr3 : LV r ir' lr' a3.rs.length := by rw [S.rl]; exact hr
 refine Sm.nM y8 fun pm g9 X9 y9 => ?_
 have E9 := E8.trans (X9.mono E8.size)
 refine Sm.n y9 fun p20 g10 X10 y10 => ?_
 have E10 := E9.trans (X10.mono E9.size)
 refine Sm.sts y10 0 [.map (some pm)] rfl rfl rfl (by simp) rfl fun g11 X11 y11 => ?_
 have E11 := E10.trans X11
 have H11 : ArH g11 w r a3 := Cx.arH y11 2 3 rfl rfl hw3 hr3
 refine Sm.cv rfl (u28 (by omega) S.n3 H11 (y11.rowO 1 rfl)) fun v12 g12 X12 R12 => ?_
 obtain ⟨it, rt, lt, ht, o12, z12⟩ := R12
 have y12 := y11.add X12 o12 z12
 have E12 := E11.trans (X12.mono E11.size)
 refine Sm.b ht.len ?_
 refine Sm.b rfl ?_
 exact u7_0 (D := D) (N := D) (by omega) (by omega) S hw hr rfl ht D 0 [] g12 (by omega) (Nat.zero_le _) (fun s => rfl) E12 ((((y12.front 4 rfl).front 4 rfl).front 4 rfl).front 4 rfl)
end
open Go Go.AH Go.AM
def mw (k n : Nat) : List Int := (List.range n).map fun j => ((k + j : Nat) : Int)
def mv (k n : Nat) : List Vl := (List.range n).map fun j => ⟨((k + 2 * j : Nat) : Int), ((k + 2 * j + 1 : Nat) : Int)⟩
theorem mw_len (k n : Nat) : (mw k n).length = n := by simp [mw]
theorem mv_len (k n : Nat) : (mv k n).length = n := by simp [mv]
theorem mw_succ (k n : Nat) : mw k (n + 1) = mw k n ++ [((k + n : Nat) : Int)] := by simp [mw, List.range_succ]
theorem mv_succ (k n : Nat) : mv k (n + 1) = mv k n ++ [⟨((k + 2 * n : Nat) : Int), ((k + 2 * n + 1 : Nat) : Int)⟩] := by simp [mv, List.range_succ]
theorem mw_at {k n j : Nat} (h : j < n) : rd (mw k n) (j : Int) = some ((k + j : Nat) : Int) := by
 have := rd_at (xs := mw k n) (i := j) (by rw [mw_len]; exact h)
 rw [this]; simp [mw]
theorem mv_at {k n j : Nat} (h : j < n) : rd (mv k n) (j : Int) = some ⟨((k + 2 * j : Nat) : Int), ((k + 2 * j + 1 : Nat) : Int)⟩ := by
 have := rd_at (xs := mv k n) (i := j) (by rw [mv_len]; exact h)
 rw [this]; simp [mv]
theorem splice_mid {A R : List Value} {n : Nat} {x vs : List Value} (h : A.length = n) (hx : vs.length = x.length) : splice (A ++ (x ++ R)) n vs = A ++ (vs ++ R) := by
 subst h
 unfold splice
 rw [List.take_left, ← List.drop_drop, List.drop_left, hx, List.drop_left, List.append_assoc]
theorem vcells_app (l m : List Vl) : vcells (l ++ m) = vcells l ++ vcells m := by simp [vcells]
def mkA (a : Ar) : Ar := { a with ws := mw 1 a.ws.length, rs := mv (1 + a.ws.length) a.rs.length }
section
variable {D N : Nat} {h : AHeap} {F : List FRow} {Q : List ORow} {M : List MRow} {i rt iw rw ir rr n k : Nat} {lv lw lr : Bool} {wv rv : Value} {a : Ar}
theorem u38_0 (hv : LV wv i lv n) (hn : n ≤ 2000000) (hk : k ≤ 1000000) : ∀ (f j : Nat) (R : List Value) (g : AHeap) (_ : n - j < f) (_ : j + R.length = n) (_ : Ext h.size h g) (_ : Cx h.size g F (⟨i, rt, 74, lv, (mw k j).map (Value.int .u64) ++ R⟩ :: Q) M),
   SmR h (fun (r : Int) v g => v = .int .i64 r ∧ Cx h.size g F (⟨i, rt, 74, lv, (mw k n).map (Value.int .u64)⟩ :: Q) M) (some ((k + n : Nat) : Int)) (s38_0 hk0 (call Tp Ms D) N f wv ((k + j : Nat) : Int) (j : Int) g) := by
 intro f
 induction f with
 | zero => intro _ _ _ h; exact absurd h (Nat.not_lt_zero _)
 | succ f ih =>
  intro j R g hf hj E0 y0
  rw [s38_0_eq]
  refine Sm.b hv.len ?_
  refine Sm.b rfl ?_
  by_cases c : j < n
  ·refine Sm.ct (decide_eq_true (by omega)) ?_
   rcases hv with ⟨hl, rfl⟩ | ⟨_, _, hz⟩
   ·subst hl
    cases R with
    | nil => simp at hj; omega
    | cons x R =>
    refine Sm.b (show aIdx (slc i 0 n) (.int .i64 (j : Int)) 1 = some (ptr i j) by simp [aIdx, slc, c]) ?_
    have eu : IntKind.u64.wrap ((k + j : Nat) : Int) = ((k + j : Nat) : Int) := wu (by omega) (by omega)
    rw [eu]
    refine Sm.sts y0 0 ((mw k (j + 1)).map (Value.int .u64) ++ R) (vs := [.int .u64 ((k + j : Nat) : Int)]) rfl rfl rfl (by simp [mw_len]) (by
     rw [mw_succ, List.map_append, List.append_assoc]
     exact splice_mid (x := [x]) (by simp [mw_len]) rfl) fun g1 X1 y1 => ?_
    have E1 := E0.trans X1
    rw [wr0 (by omega), wr0 (by omega), show k + j + 1 = k + (j + 1) by omega]
    exact ih (j + 1) R g1 (by omega) (by simp only [List.length_cons] at hj; omega) E1 y1
   ·omega
  ·refine Sm.cf (decide_eq_false (by omega)) ?_
   have : j = n := by omega
   subst this
   have : R = [] := List.length_eq_zero_iff.1 (by omega)
   subst this
   rw [List.append_nil] at y0
   exact Sm.fin E0 ⟨rfl, y0⟩
theorem u38 (hD : 2000002 ≤ D) (hv : LV wv i lv n) (hn : n ≤ 2000000) (hk : k ≤ 1000000) (cs : List Value) (hc : cs.length = n) (g : AHeap) (E0 : Ext h.size h g) (y0 : Cx h.size g F (⟨i, rt, 74, lv, cs⟩ :: Q) M) :
  SmR h (fun (r : Int) v g => v = .int .i64 r ∧ Cx h.size g F (⟨i, rt, 74, lv, (mw k n).map (Value.int .u64)⟩ :: Q) M) (some ((k + n : Nat) : Int)) (call Tp Ms D 38 [wv, .int .i64 (k : Int)] g) := by
 obtain ⟨D, rfl⟩ : ∃ d, D = d + 1 := ⟨D - 1, by omega⟩
 rw [c38, e38]
 exact u38_0 (D := D) (N := D) hv hn hk D 0 cs g (by omega) (by omega) E0 y0
theorem u39_0 (hv : LV wv i lv n) (hn : n ≤ 2000000) (hk : k ≤ 3000000) : ∀ (f j : Nat) (R : List Value) (g : AHeap) (_ : n - j < f) (_ : 2 * j + R.length = 2 * n) (_ : Ext h.size h g) (_ : Cx h.size g F (⟨i, rt, 42, lv, vcells (mv k j) ++ R⟩ :: Q) M),
   SmR h (fun (r : Int) v g => v = .int .i64 r ∧ Cx h.size g F (⟨i, rt, 42, lv, vcells (mv k n)⟩ :: Q) M) (some ((k + 2 * n : Nat) : Int)) (s39_0 hk0 (call Tp Ms D) N f wv ((k + 2 * j : Nat) : Int) (j : Int) g) := by
 intro f
 induction f with
 | zero => intro _ _ _ h; exact absurd h (Nat.not_lt_zero _)
 | succ f ih =>
  intro j R g hf hj E0 y0
  rw [s39_0_eq]
  refine Sm.b hv.len ?_
  refine Sm.b rfl ?_
  by_cases c : j < n
  ·refine Sm.ct (decide_eq_true (by omega)) ?_
   rcases hv with ⟨hl, rfl⟩ | ⟨_, _, hz⟩
   ·subst hl
    match R, hj with
    | [], hj => simp at hj; omega
    | [_], hj => simp at hj; omega
    | x :: z :: R, hj =>
    have ix : aIdx (slc i 0 n) (.int .i64 (j : Int)) 2 = some (ptr i (j * 2)) := by simp [aIdx, slc, c]
    have hvl : (vcells (mv k j)).length = j * 2 := by rw [vcells_len, mv_len]
    refine Sm.b ix ?_
    refine Sm.b rfl ?_
    refine Sm.sts y0 0 (off := j * 2 + 0) (vcells (mv k j) ++ ([Value.int .i64 ((k + 2 * j : Nat) : Int)] ++ z :: R)) (vs := [.int .i64 ((k + 2 * j : Nat) : Int)]) rfl rfl rfl (by simp [hvl]) (splice_mid (x := [x]) (vs := [.int .i64 ((k + 2 * j : Nat) : Int)]) (R := z :: R) hvl rfl) fun g1 X1 y1 => ?_
    have E1 := E0.trans X1
    refine Sm.b ix ?_
    refine Sm.b rfl ?_
    rw [wr0 (by omega), wr0 (by omega), wr0 (by omega)]
    refine Sm.sts y1 0 (off := j * 2 + 1) (vcells (mv k (j + 1)) ++ R) (vs := [.int .i64 ((k + 2 * j + 1 : Nat) : Int)]) rfl rfl rfl (by simp [hvl]; omega) (by
     rw [mv_succ, vcells_app, List.append_assoc, ← List.append_assoc (vcells (mv k j)) [_] (z :: R), show z :: R = [z] ++ R from rfl, splice_mid (x := [z]) (vs := [.int .i64 ((k + 2 * j + 1 : Nat) : Int)]) (by simp [hvl]) rfl]
     simp [vcells]) fun g2 X2 y2 => ?_
    have E2 := E1.trans X2
    rw [show k + 2 * j + 1 + 1 = k + 2 * (j + 1) by omega]
    exact ih (j + 1) R g2 (by omega) (by simp only [List.length_cons] at hj; omega) E2 y2
   ·omega
  ·refine Sm.cf (decide_eq_false (by omega)) ?_
   have : j = n := by omega
   subst this
   have : R = [] := List.length_eq_zero_iff.1 (by omega)
   subst this
   rw [List.append_nil] at y0
   exact Sm.fin E0 ⟨rfl, y0⟩
theorem u39 (hD : 2000002 ≤ D) (hv : LV wv i lv n) (hn : n ≤ 2000000) (hk : k ≤ 3000000) (cs : List Value) (hc : cs.length = 2 * n) (g : AHeap) (E0 : Ext h.size h g) (y0 : Cx h.size g F (⟨i, rt, 42, lv, cs⟩ :: Q) M) :
  SmR h (fun (r : Int) v g => v = .int .i64 r ∧ Cx h.size g F (⟨i, rt, 42, lv, vcells (mv k n)⟩ :: Q) M) (some ((k + 2 * n : Nat) : Int)) (call Tp Ms D 39 [wv, .int .i64 (k : Int)] g) := by
 obtain ⟨D, rfl⟩ : ∃ d, D = d + 1 := ⟨D - 1, by omega⟩
 rw [c39, e39]
 exact u39_0 (D := D) (N := D) hv hn hk D 0 cs g (by omega) (by omega) E0 y0
theorem u9 (hD : 2000003 ≤ D) (hw : LV wv iw lw a.ws.length) (hr : LV rv ir lr a.rs.length) (h1 : a.ws.length ≤ 2000000) (h2 : a.rs.length ≤ 2000000) (g : AHeap) (E0 : Ext h.size h g) (y0 : Cx h.size g F (WRow iw rw lw a :: RRow ir rr lr a :: Q) M) :
  SmR h (fun (r : Int) v g => v = .int .i64 r ∧ Cx h.size g F (WRow iw rw lw (mkA a) :: RRow ir rr lr (mkA a) :: Q) M) (some ((1 + a.ws.length + 2 * a.rs.length : Nat) : Int)) (call Tp Ms D 9 [arV wv rv a, .int .i64 1] g) := by
 obtain ⟨D, rfl⟩ : ∃ d, D = d + 1 := ⟨D - 1, by omega⟩
 rw [c9, e9]
 refine Sm.b (arC hw hr a) ?_
 refine Sm.n y0 fun p1 g1 X1 y1 => ?_
 have E1 := E0.trans (X1.mono E0.size)
 refine Sm.b rfl ?_
 refine Sm.b (y1.ldO 0 0 rfl rfl) ?_
 refine Sm.cv rfl (u38 (k := 1) (by omega) hw h1 (by omega) _ (by simp) g1 E1 (y1.front 1 rfl)) fun v2 g2 E2 R2 => ?_
 obtain ⟨rfl, y2⟩ := R2
 refine Sm.b rfl ?_
 refine Sm.b rfl ?_
 refine Sm.b (y2.ldO 1 9 rfl rfl) ?_
 refine Sm.cv rfl (u39 (k := 1 + a.ws.length) (by omega) hr h2 (by omega) _ (by rw [vcells_len]; omega) g2 E2 (y2.front 2 rfl)) fun v3 g3 E3 R3 => ?_
 obtain ⟨rfl, y3⟩ := R3
 refine Sm.b rfl ?_
 exact Sm.fin E3 ⟨rfl, (y3.front 1 rfl).pick (.cons_cons _ (.cons_cons _ (.cons _ (List.Sublist.refl _))))⟩
theorem u40_0 (hv : SlI .u64 h wv (mw k n)) (hn : n ≤ 2000000) (hk : k ≤ 1000000) : ∀ (f j : Nat) (_ : n - j < f) (_ : j ≤ n),
   SmR h (En (Value.int .i64)) (some ((k + n : Nat) : Int)) (s40_0 hk0 (call Tp Ms D) N f wv ((k + j : Nat) : Int) (j : Int) h) := by
 intro f
 induction f with
 | zero => intro _ h; exact absurd h (Nat.not_lt_zero _)
 | succ f ih =>
  intro j hf hj
  rw [s40_0_eq]
  refine Sm.b hv.len ?_
  refine Sm.b rfl ?_
  rw [mw_len]
  by_cases c : j < n
  ·refine Sm.ct (decide_eq_true (by omega)) ?_
   obtain ⟨p, q1, q2⟩ := hv.at (mw_at c)
   refine Sm.b q1 ?_
   refine Sm.b (q2 h (Ext.refl _ _)) ?_
   refine Sm.b rfl ?_
   have eu : IntKind.u64.wrap ((k + j : Nat) : Int) = ((k + j : Nat) : Int) := wu (by omega) (by omega)
   refine Sm.cf (by rw [eu]; exact bne_self_eq_false _) ?_
   rw [wr0 (by omega), wr0 (by omega), show k + j + 1 = k + (j + 1) by omega]
   exact ih (j + 1) (by omega) c
  ·refine Sm.cf (decide_eq_false (by omega)) ?_
   have : j = n := by omega
   subst this
   exact Sm.fin (Ext.refl _ _) rfl
theorem u40 (hD : 2000002 ≤ D) (hv : SlI .u64 h wv (mw k n)) (hn : n ≤ 2000000) (hk : k ≤ 1000000) : SmR h (En (Value.int .i64)) (some ((k + n : Nat) : Int)) (call Tp Ms D 40 [wv, .int .i64 (k : Int)] h) := by
 obtain ⟨D, rfl⟩ : ∃ d, D = d + 1 := ⟨D - 1, by omega⟩
 rw [c40, e40]
 exact u40_0 (D := D) (N := D) hv hn hk D 0 (by omega) (Nat.zero_le _)
theorem u41_0 (hv : SlV h wv (mv k n)) (hn : n ≤ 2000000) (hk : k ≤ 3000000) : ∀ (f j : Nat) (_ : n - j < f) (_ : j ≤ n),
   SmR h (En (Value.int .i64)) (some ((k + 2 * n : Nat) : Int)) (s41_0 hk0 (call Tp Ms D) N f wv ((k + 2 * j : Nat) : Int) (j : Int) h) := by
 intro f
 induction f with
 | zero => intro _ h; exact absurd h (Nat.not_lt_zero _)
 | succ f ih =>
  intro j hf hj
  rw [s41_0_eq]
  refine Sm.b hv.len ?_
  refine Sm.b rfl ?_
  rw [mv_len]
  by_cases c : j < n
  ·refine Sm.ct (decide_eq_true (by omega)) ?_
   obtain ⟨i, o, q1, q2⟩ := hv.at (mv_at c)
   obtain ⟨_, q3, q4⟩ := q2 h (Ext.refl _ _)
   refine Sm.b q1 ?_
   refine Sm.b rfl ?_
   refine Sm.b q3 ?_
   refine Sm.b rfl ?_
   refine Sm.cf (bne_self_eq_false _) ?_
   refine Sm.b q1 ?_
   refine Sm.b rfl ?_
   refine Sm.b q4 ?_
   refine Sm.b rfl ?_
   rw [wr0 (by omega), wr0 (by omega), wr0 (by omega)]
   refine Sm.cf (bne_self_eq_false _) ?_
   rw [show k + 2 * j + 1 + 1 = k + 2 * (j + 1) by omega]
   exact ih (j + 1) (by omega) c
  ·refine Sm.cf (decide_eq_false (by omega)) ?_
   have : j = n := by omega
   subst this
   exact Sm.fin (Ext.refl _ _) rfl
theorem u41 (hD : 2000002 ≤ D) (hv : SlV h wv (mv k n)) (hn : n ≤ 2000000) (hk : k ≤ 3000000) : SmR h (En (Value.int .i64)) (some ((k + 2 * n : Nat) : Int)) (call Tp Ms D 41 [wv, .int .i64 (k : Int)] h) := by
 obtain ⟨D, rfl⟩ : ∃ d, D = d + 1 := ⟨D - 1, by omega⟩
 rw [c41, e41]
 exact u41_0 (D := D) (N := D) hv hn hk D 0 (by omega) (Nat.zero_le _)
theorem u10 (hD : 2000003 ≤ D) (H : ArH h wv rv (mkA a)) (h1 : a.ws.length ≤ 2000000) (h2 : a.rs.length ≤ 2000000) : SmR h (En (Value.int .i64)) (some ((1 + a.ws.length + 2 * a.rs.length : Nat) : Int)) (call Tp Ms D 10 [arV wv rv (mkA a), .int .i64 1] h) := by
 obtain ⟨D, rfl⟩ : ∃ d, D = d + 1 := ⟨D - 1, by omega⟩
 rw [c10, e10]
 have y0 := Cx.start0 h
 have E0 := Ext.refl h.size h
 refine Sm.b H.cells ?_
 refine Sm.n y0 fun p1 g1 X1 y1 => ?_
 have E1 := E0.trans (X1.mono E0.size)
 refine Sm.b rfl ?_
 refine Sm.b (y1.ldO 0 0 rfl rfl) ?_
 refine Sm.cv rfl (u40 (k := 1) (n := a.ws.length) (by omega) (H.w.ext E1) h1 (by omega)) fun v2 g2 X2 R2 => ?_
 obtain rfl : v2 = .int .i64 ((1 + a.ws.length : Nat) : Int) := R2
 have y2 := y1.ext X2
 have E2 := E1.trans (X2.mono E1.size)
 refine Sm.b rfl ?_
 refine Sm.cf (decide_eq_false (by omega)) ?_
 refine Sm.b rfl ?_
 refine Sm.b (y2.ldO 0 9 rfl rfl) ?_
 refine Sm.cv rfl (u41 (k := 1 + a.ws.length) (n := a.rs.length) (by omega) (H.r.ext E2) h2 (by omega)) fun v3 g3 X3 R3 => ?_
 obtain rfl : v3 = .int .i64 ((1 + a.ws.length + 2 * a.rs.length : Nat) : Int) := R3
 have E3 := E2.trans (X3.mono E2.size)
 refine Sm.b rfl ?_
 refine Sm.cf (decide_eq_false (by omega)) ?_
 exact Sm.fin E3 rfl
end
open Go Go.AH Go.AM
theorem sz6 (a : Ar) (h1 : a.ws.length ≤ 9223372036854775807) (h2 : a.rs.length ≤ 9223372036854775807) : ∃ n, m6 a 1048576 = some n ∧ (decide (n < 0) = false → a.ws.length + a.rs.length ≤ 1048576) := by
 unfold m6 m26
 rw [wr (by omega) (by omega)]
 by_cases c1 : (1048576 - (a.ws.length : Int)) < 0
 ·rw [decide_eq_true c1, cond_true, oBs]
  exact ⟨-1, rfl, fun h => by simp at h⟩
 ·rw [decide_eq_false c1, cond_false, oBs, decide_eq_false c1, cond_false]
  unfold m27
  rw [wr (by omega) (by omega)]
  by_cases c2 : (1048576 - (a.ws.length : Int) - (a.rs.length : Int)) < 0
  ·rw [decide_eq_true c2, cond_true, oBs]
   exact ⟨-1, rfl, fun h => by simp at h⟩
  ·rw [decide_eq_false c2, cond_false, oBs, decide_eq_false c2, cond_false]
   exact ⟨_, rfl, fun _ => by omega⟩
open Go Go.AH Go.AM
theorem Cx.rd {b : Nat} {g : AHeap} {F : List FRow} {O : List ORow} {M : List MRow} (y : Cx b g F O M) (n : Nat) {i rt esz m : Nat} {t : TypeId} {lv : Bool} {cs : List Value} {v : Value} (e : O[n]? = some ⟨i, rt, t, lv, cs⟩) (hv : LV v i lv m) (hl : cs.length = m * esz) : Rd g v i lv esz m cs :=
 ⟨hv, hl, fun h => by subst h; exact y.rowO n e⟩
def Both (a r : Ar) (n : Int) : Prop := r.ws.length < 2000000 ∧ r.rs.length < 2000000 ∧
 (∀ (D : Nat) (h : AHeap) (wv rv : Value) (iw ir : Nat) (lw lr : Bool), 20030 ≤ D → ArH h wv rv a → Rd h wv iw lw 1 a.ws.length (a.ws.map (Value.int .u64)) → Rd h rv ir lr 2 a.rs.length (vcells a.rs) → SmR h (RSh h) (some (r, n)) (call Tp Ms D 5 [arV wv rv a] h)) ∧
 (∀ (D : Nat) (h : AHeap) (wv rv : Value) (iw ir : Nat) (lw lr : Bool), 20030 ≤ D → ArH h wv rv a → Rd h wv iw lw 1 a.ws.length (a.ws.map (Value.int .u64)) → Rd h rv ir lr 2 a.rs.length (vcells a.rs) → SmR h (RSh h) (some (r, n)) (call Tp Ms D 7 [arV wv rv a] h))
theorem both_ok {a : Ar} (I : ArI a) (h : a.ws.length + a.rs.length ≤ 1048576) : ∃ r n, Both a r n := by
 rcases arena I with ⟨h1, h2⟩ | ⟨h1, h2, M, K, A, _, R⟩
 ·exact ⟨a, 0, by omega, by omega, fun D h wv rv iw ir lw lr hD H hW hR => u5_no (by omega) H hW hR (by omega) (by omega) h1, fun D h wv rv iw ir lw lr hD H hW hR => u7_no (by omega) H hW hR (by omega) (by omega) h2⟩
 ·obtain ⟨a1, a2, a3, T, b2, b3, T3, S⟩ := shr_ok K I A R
  have e1 := S.rl2
  have e2 := S.wl2
  have e3 := S.rb
  have e4 := S.wb
  exact ⟨b3, _, by omega, by omega, fun D h wv rv iw ir lw lr hD H hW hR => u5_ok (by omega) S H hW hR h1, fun D h wv rv iw ir lw lr hD H hW hR => u7_ok (by omega) S H hW hR h2⟩
theorem law3 {D : Nat} {h : AHeap} (hD : 3000020 ≤ D) {wv rv : Value} {a : Ar} (H : ArH h wv rv a) (h1 : a.ws.length ≤ 9223372036854775807) (h2 : a.rs.length ≤ 9223372036854775807)
  (K : a.ws.length + a.rs.length ≤ 1048576 → ∃ r n, Both a r n) : SmR h (En Value.bool) (some true) (call Tp Ms D 3 [arV wv rv a] h) := by
 obtain ⟨D, rfl⟩ : ∃ d, D = d + 1 := ⟨D - 1, by omega⟩
 rw [c3, e3]
 have y0 := Cx.start0 h
 have E0 := Ext.refl h.size h
 refine Sm.b H.cells ?_
 refine Sm.n y0 fun p1 g1 X1 y1 => ?_
 have E1 := E0.trans (X1.mono E0.size)
 refine Sm.b (y1.ldON 0 rfl rfl) ?_
 obtain ⟨n, hn, hs⟩ := sz6 a h1 h2
 refine Sm.cv hn (t6 (by omega) (H.ext E1) 1048576) fun v2 g2 X2 R2 => ?_
 obtain rfl : v2 = .int .i64 n := R2
 have y2 := y1.ext X2
 have E2 := E1.trans (X2.mono E1.size)
 refine Sm.b rfl ?_
 cases hc : decide (n < 0) with
 | true => exact Sm.ct rfl (Sm.fin E2 rfl)
 | false =>
 have hl := hs hc
 obtain ⟨r, m, br1, br2, B5, B7⟩ := K hl
 have q8 := copy8 a (by omega) (by omega)
 have s8 := same10 a (by omega) (by omega)
 have sr := same10 r br1 br2
 refine Sm.cf rfl ?_
 refine Sm.b (y2.ldON 0 rfl rfl) ?_
 refine Sm.cv q8 (t8o (by omega) (H.ext E2)) fun v3 g3 X3 R3 => ?_
 obtain ⟨wv3, rv3, iw3, rw3, lw3, ir3, rr3, rfl, H3, hw3, rfl, z3⟩ := R3
 have y3 := Cx.join y2 X3 z3
 have E3 := E2.trans (X3.mono E2.size)
 refine Sm.cv rfl (B5 D g3 _ _ _ _ _ _ (by omega) H3 (Cx.rd y3 0 rfl hw3 (by simp)) (Cx.rd y3 1 rfl (LV.mk ir3 _) (vcells_len _))) fun v4 g4 X4 R4 => ?_
 obtain ⟨w4, r4, iw4, rw4, lw4, ir4, rr4, lr4, rfl, hw4, hr4, z4⟩ := R4
 have y4 := Cx.join y3 X4 z4
 have E4 := E3.trans (X4.mono E3.size)
 refine Sm.b rfl ?_
 refine Sm.b rfl ?_
 refine Sm.b rfl ?_
 refine Sm.n y4 fun p13 g5 X5 y5 => ?_
 have E5 := E4.trans (X5.mono E4.size)
 refine Sm.sts y5 0 (arCells w4 r4 r) rfl (arC hw4 hr4 r) rfl (by simp) rfl fun g6 X6 y6 => ?_
 have E6 := E5.trans X6
 refine Sm.b (y6.ldON 5 rfl rfl) ?_
 refine Sm.cv q8 (t8o (by omega) (H.ext E6)) fun v7 g7 X7 R7 => ?_
 obtain ⟨wv5, rv5, iw5, rw5, lw5, ir5, rr5, rfl, H5, hw5, rfl, z7⟩ := R7
 have y7 := Cx.join y6 X7 z7
 have E7 := E6.trans (X7.mono E6.size)
 refine Sm.n y7 fun p18 g8 X8 y8 => ?_
 have E8 := E7.trans (X8.mono E7.size)
 refine Sm.sts y8 0 (arCells wv5 (slc ir5 0 a.rs.length) a) rfl H5.cells rfl (by simp) rfl fun g9 X9 y9 => ?_
 have E9 := E8.trans X9
 refine Sm.b (y9.ldON 0 rfl rfl) ?_
 have H9 : ArH g9 wv5 (slc ir5 0 a.rs.length) a := Cx.arH y9 1 2 rfl rfl hw5 (LV.mk ir5 _)
 refine Sm.cv rfl (B7 D g9 _ _ _ _ _ _ (by omega) H9 (Cx.rd y9 1 rfl hw5 (by simp)) (Cx.rd y9 2 rfl (LV.mk ir5 _) (vcells_len _))) fun v10 g10 X10 R10 => ?_
 obtain ⟨w6, r6, iw6, rw6, lw6, ir6, rr6, lr6, rfl, hw6, hr6, z10⟩ := R10
 have y10 := Cx.join y9 X10 z10
 have E10 := E9.trans (X10.mono E9.size)
 refine Sm.b rfl ?_
 refine Sm.b rfl ?_
 refine Sm.b rfl ?_
 refine Sm.n y10 fun p26 g11 X11 y11 => ?_
 have E11 := E10.trans (X11.mono E10.size)
 refine Sm.sts y11 0 (arCells w6 r6 r) rfl (arC hw6 hr6 r) rfl (by simp) rfl fun g12 X12 y12 => ?_
 have E12 := E11.trans X12
 refine Sm.b (y12.ldON 0 rfl rfl) ?_
 refine Sm.b (y12.ldON 6 rfl rfl) ?_
 have H12 : ArH g12 w6 r6 r := Cx.arH y12 1 2 rfl rfl hw6 hr6
 have G12 : ArH g12 w4 r4 r := Cx.arH y12 7 8 rfl rfl hw4 hr4
 refine Sm.cv sr (t10 (by omega) H12 G12) fun v13 g13 X13 R13 => ?_
 obtain rfl : v13 = .bool true := R13
 have y13 := y12.ext X13
 have E13 := E12.trans (X13.mono E12.size)
 refine Sm.b rfl ?_
 refine Sm.cf rfl ?_
 rw [show (m != m) = false from bne_self_eq_false m, s3_0_j, s3_0_eq]
 refine Sm.cf rfl ?_
 rw [s3_1_j, s3_1_eq]
 refine Sm.b (y13.ldON 3 rfl rfl) ?_
 refine Sm.b (y13.ldON 11 rfl rfl) ?_
 refine Sm.cv q8 (t8 (by omega) (H.ext E13)) fun v14 g14 X14 R14 => ?_
 obtain ⟨wv14, rv14, rfl, H14⟩ := R14
 have y14 := y13.ext X14
 have E14 := E13.trans (X14.mono E13.size)
 refine Sm.b (agA (y14.ldON 3 rfl rfl) H5.vb) ?_
 refine Sm.ct rfl ?_
 have G14 : ArH g14 wv5 (slc ir5 0 a.rs.length) a := Cx.arH y14 4 5 rfl rfl hw5 (LV.mk ir5 _)
 refine Sm.cv s8 (t10 (by omega) G14 H14) fun v15 g15 X15 R15 => ?_
 obtain rfl : v15 = .bool true := R15
 have y15 := y14.ext X15
 have E15 := E14.trans (X15.mono E14.size)
 refine Sm.b rfl ?_
 refine Sm.cf rfl ?_
 refine Sm.b (y15.ldON 3 rfl rfl) ?_
 refine Sm.cv rfl (t14 (by omega) hw5 (by omega) (by omega) g15 E15 ((y15.front 5 rfl).front 5 rfl)) fun v16 g16 E16 R16 => ?_
 obtain ⟨rfl, y16⟩ := R16
 refine Sm.b rfl ?_
 refine Sm.cf (decide_eq_false (by omega)) ?_
 refine Sm.b (y16.ldON 0 rfl rfl) ?_
 refine Sm.b (y16.ldON 4 rfl rfl) ?_
 have H16 : ArH g16 w6 r6 r := Cx.arH y16 1 2 rfl rfl hw6 hr6
 have G16 : ArH g16 w4 r4 r := Cx.arH y16 5 6 rfl rfl hw4 hr4
 refine Sm.cv sr (t10 (by omega) H16 G16) fun v17 g17 X17 R17 => ?_
 obtain rfl : v17 = .bool true := R17
 have y17 := y16.ext X17
 have E17 := E16.trans (X17.mono E16.size)
 refine Sm.b rfl ?_
 refine Sm.cf rfl ?_
 rw [show (m != m) = false from bne_self_eq_false m, s3_2_j, s3_2_eq]
 refine Sm.cf rfl ?_
 rw [s3_3_j, s3_3_eq]
 refine Sm.b (y17.ldON 0 rfl rfl) ?_
 refine Sm.cv rfl (u9 (a := r) (by omega) hw6 hr6 (by omega) (by omega) g17 E17 ((y17.front 2 rfl).front 2 rfl)) fun v18 g18 E18 R18 => ?_
 obtain ⟨rfl, y18⟩ := R18
 refine Sm.b rfl ?_
 refine Sm.b (y18.ldON 2 rfl rfl) ?_
 have hw6' : LV w6 iw6 lw6 (mkA r).ws.length := by show LV w6 iw6 lw6 (mw _ _).length; rw [mw_len]; exact hw6
 have hr6' : LV r6 ir6 lr6 (mkA r).rs.length := by show LV r6 ir6 lr6 (mv _ _).length; rw [mv_len]; exact hr6
 have H18 : ArH g18 w6 r6 (mkA r) := Cx.arH y18 0 1 rfl rfl hw6' hr6'
 refine Sm.cv rfl (u10 (by omega) H18 (by omega) (by omega)) fun v19 g19 X19 R19 => ?_
 obtain rfl : v19 = .int .i64 ((1 + r.ws.length + 2 * r.rs.length : Nat) : Int) := R19
 have y19 := y18.ext X19
 have E19 := E18.trans (X19.mono E18.size)
 refine Sm.b rfl ?_
 refine Sm.cf (decide_eq_false (by omega)) ?_
 refine Sm.cf (bne_self_eq_false _) ?_
 refine Sm.b (y19.ldON 9 rfl rfl) ?_
 refine Sm.cv q8 (t8o (by omega) (H.ext E19)) fun v20 g20 X20 R20 => ?_
 obtain ⟨wv7, rv7, iw7, rw7, lw7, ir7, rr7, rfl, H7, hw7, rfl, z20⟩ := R20
 have y20 := Cx.join y19 X20 z20
 have E20 := E19.trans (X20.mono E19.size)
 refine Sm.cv rfl (B7 D g20 _ _ _ _ _ _ (by omega) H7 (Cx.rd y20 0 rfl hw7 (by simp)) (Cx.rd y20 1 rfl (LV.mk ir7 _) (vcells_len _))) fun v21 g21 X21 R21 => ?_
 obtain ⟨w8, r8, iw8, rw8, lw8, ir8, rr8, lr8, rfl, hw8, hr8, z21⟩ := R21
 have y21 := Cx.join y20 X21 z21
 have E21 := E20.trans (X21.mono E20.size)
 refine Sm.b rfl ?_
 refine Sm.b rfl ?_
 refine Sm.b rfl ?_
 refine Sm.n y21 fun p59 g22 X22 y22 => ?_
 have E22 := E21.trans (X22.mono E21.size)
 refine Sm.sts y22 0 (arCells w8 r8 r) rfl (arC hw8 hr8 r) rfl (by simp) rfl fun g23 X23 y23 => ?_
 have E23 := E22.trans X23
 refine Sm.b (y23.ldON 0 rfl rfl) ?_
 refine Sm.b (y23.ldON 9 rfl rfl) ?_
 have H23 : ArH g23 w8 r8 r := Cx.arH y23 1 2 rfl rfl hw8 hr8
 have G23 : ArH g23 w4 r4 r := Cx.arH y23 10 11 rfl rfl hw4 hr4
 refine Sm.cv sr (t10 (by omega) H23 G23) fun v24 g24 X24 R24 => ?_
 obtain rfl : v24 = .bool true := R24
 have y24 := y23.ext X24
 have E24 := E23.trans (X24.mono E23.size)
 refine Sm.b rfl ?_
 refine Sm.cf rfl ?_
 rw [show (m != m) = false from bne_self_eq_false m, s3_4_j, s3_4_eq]
 refine Sm.cf rfl ?_
 rw [s3_5_j, s3_5_eq]
 refine Sm.b (y24.ldON 7 rfl rfl) ?_
 have H24 : ArH g24 w6 r6 (mkA r) := Cx.arH y24 5 6 rfl rfl hw6' hr6'
 refine Sm.cv rfl (u10 (by omega) H24 (by omega) (by omega)) fun v25 g25 X25 R25 => ?_
 obtain rfl : v25 = .int .i64 ((1 + r.ws.length + 2 * r.rs.length : Nat) : Int) := R25
 have E25 := E24.trans (X25.mono E24.size)
 refine Sm.b rfl ?_
 refine Sm.cf (decide_eq_false (by omega)) ?_
 refine Sm.cf (bne_self_eq_false _) ?_
 exact Sm.fin E25 rfl
open Go Go.ChangeShapes Go.WideShapes Go.ChangeAt Go.RowKit Go.ChangeMaps Go.AH Go.AM
set_option maxRecDepth 100000 in
theorem shareLifted (hAH : ∀ (wv rv : Value) (a : Ar) (h : AHeap), ArH h wv rv a → ArI a → a.ws.length ≤ maxLen → a.rs.length ≤ maxLen → ∃ d h', call Tp Ms d 3 [arV wv rv a] h = some (.bool true, h')) (os : Os) (started : os.Started) (H : Type) (enc : TypeId × Value → H) :
  ReturnsInHanded {} Tryz.checked os 3 .any (Rows.fnExactShareSpec.pre6 enc Tp Tryz.f3 Rows.fnExactShareRow.domain false) (Rows.fnExactShareSpec.post enc Tp Tryz.f3 false true false false) := by
 refine returnsInHanded_of_change (C := Tryz.checked) own started (by kernel_rfl) (by kernel_rfl)
  (ChangeSpec.witness6 (enc := enc) (C := Tryz.checked) false ⟨#[], #[.agg #[.slice none 0 0, .int .i64 0, .int .i64 0, .int .i64 0, .bool false, .int .i64 0, .int .i64 0, .int .i64 0, .int .i64 0, .slice none 0 0]], []⟩ 8 (by kernel_rfl) (by kernel_rfl) (by kernel_rfl) (by kernel_rfl)) ?_
 intro W base args ds gs before hval0 hW _ _
 have hval : ∀ (j : Nat) t v, Tryz.f3.params[j]? = some t → args[j]? = some v → Value.okWide Tp W .any base t v := hval0
 have hW' := hW
 obtain ⟨p, q, hA0, hV, rfl, hfz, hnd⟩ := hW
 have hA : DataW.TrodAll enc Tp W 0 (fun _ => true) true Tryz.f3.params.toList args.toList ds p := hA0
 have hp3 : Tryz.f3.params = #[25] := by kernel_rfl
 rw [hp3] at hA hval
 obtain ⟨v0, vs0, d0, ds0, p0, q0, hargs, rfl, rfl, h0, r0⟩ := trodAll_cons hA
 obtain ⟨rfl, rfl, rfl⟩ := trodAll_nil r0
 obtain rfl : args = #[v0] := by cases args; simp_all
 obtain ⟨rfl, rfl⟩ := trodVars_none hV
 have hagg : ∃ cs, v0 = .agg cs := by
  have := hval 0 25 v0 rfl rfl
  unfold Value.okWide at this
  rw [uArena] at this
  obtain ⟨cs, e, _⟩ := this
  exact ⟨cs, e⟩
 obtain ⟨cs, hcs⟩ := hagg
 obtain ⟨wv, rv, a, hv, hN⟩ := open_arena hcs h0
 obtain ⟨ah, ι, wa, ra, HR, hs, hr, hk⟩ := start_arena hN
 obtain ⟨hb1, hb2⟩ := hN.len
 obtain ⟨d, h', he⟩ := hAH wa ra a ah hk hN.ari hb1 hb2
 simp only [List.append_nil] at hW'
 have h0k := h0
 have hlt : ∀ x ∈ p0, x.block < W.heap.size := fun x hx => by simpa using hW'.lt x (by simpa using hx)
 have hrel : VR ι (arV wa ra a) v0 := by
  rw [hv]
  exact .s2 (.agg (.cons (.s0 hs) (.cons (.s0 (.int _ _)) (.cons (.s0 (.int _ _)) (.cons (.s0 (.int _ _)) (.cons (.s0 (.bool _)) (.cons (.s0 (.int _ _)) (.cons (.s0 (.int _ _)) (.cons (.s0 (.int _ _)) (.cons (.s0 (.int _ _)) (.cons (.s0 hr) .nil)))))))))))
 refine (law_calls mixed fnOk he (args' := #[v0]) (.cons hrel .nil) HR).mono fun e W' ⟨he, hbel⟩ => ?_
 subst he
 exact ⟨_, rfl, post_below (pa := p0) (pv := []) hW' (fun _ _ _ => (trodAll_cons_mk (shut_bool uBool _) trodAll_mk0)) (fun sp hsp => by
  have := trodAll_cons_mk (WideElems.Trod_stays laid rArena tArena h0k (fun x hx => hbel.same (hlt x hx)) (fun x hx => hsp x (by simpa using hx))) (trodAll_mk0 (enc := enc) (P := Tp) (w := W') (base := 0) (spare := sp) (held := true))
  rw [List.append_nil] at this
  exact this) (fun _ _ => rfl) hbel⟩
end Go.Proofs.YtnjnggejbpkgoaaGreat
