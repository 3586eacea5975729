import Derived.Test.YtnjnggejbpkgoaaGreatXAP
import Derived.Test.YtnjnggejbpkgoaaGreatXAO
import Derived.Laws.Strings
set_option linter.unusedSimpArgs false
set_option linter.unusedVariables false
/- A cycle goes on (the reference). -/
namespace Go.Proofs.YtnjnggejbpkgoaaGreat
open Go Go.AH Go.AM
theorem u81 {D : Nat} {g : AHeap} (hD : 1 ≤ D) {wv rv : Value} (a : Ar) {iw n ir m : Nat} {lw lr : Bool} (hw : LV wv iw lw n) (hr : LV rv ir lr m) : SmR g (En fun b : Ar => arV wv rv b) (some (overP a)) (call Tp Ms D 81 [arV wv rv a] g) := by
 obtain ⟨D, rfl⟩ : ∃ d, D = d + 1 := ⟨D - 1, by omega⟩
 rw [c81, e81]
 have y0 := Cx.start0 g
 have E0 := Ext.refl g.size g
 refine Sm.b (arC hw hr a) ?_
 refine Sm.n y0 fun p2 g1 X1 y1 => ?_
 have E1 := E0.trans (X1.mono E0.size)
 refine Sm.n y1 fun p4 g2 X2 y2 => ?_
 have E2 := E1.trans (X2.mono E1.size)
 have fin : ∀ (b : Ar) (g3 : AHeap), Ext g.size g g3 → Cx g.size g3 [] (⟨p4, p4, 29, true, [.slice none 0 0, .int .i64 0, .int .i64 0, .int .i64 0, .bool false, .int .i64 0, .int .i64 0, .int .i64 0, .int .i64 0, .slice none 0 0]⟩ :: ⟨p2, p2, 29, true, arCells wv rv b⟩ :: []) [] →
   SmR g (En fun b : Ar => arV wv rv b) (some b) (s81_1 hk0 (call Tp Ms D) D (ptr p2 0) (ptr p4 0) g3) := fun b g3 E3 y3 => by
  rw [s81_1_j, s81_1_eq]
  refine Sm.b (y3.ldON 1 rfl rfl) ?_
  refine Sm.sts y3 0 (arCells wv rv b) rfl (arC hw hr b) rfl (by simp) rfl fun g4 X4 y4 => ?_
  refine Sm.b (y4.ldON 0 rfl rfl) ?_
  exact Sm.fin (E3.trans X4) rfl
 refine Sm.b rfl ?_
 refine Sm.b (y2.ldO 1 4 rfl rfl) ?_
 refine Sm.b rfl ?_
 unfold overP
 by_cases hc : a.cyc = true
 ·refine Sm.ct hc ?_
  refine Sm.b rfl ?_
  refine Sm.b (y2.ldO 1 5 rfl rfl) ?_
  refine Sm.b rfl ?_
  refine Sm.b rfl ?_
  refine Sm.b (y2.ldO 1 3 rfl rfl) ?_
  refine Sm.b rfl ?_
  by_cases hs : a.scan = a.top
  ·rw [if_pos ⟨hc, hs⟩, beq_iff_eq.2 hs, s81_0_j, s81_0_eq]
   refine Sm.ct rfl ?_
   refine Sm.b rfl ?_
   refine Sm.sts y2 1 (arCells wv rv { a with cyc := false }) (vs := [.bool false]) rfl rfl rfl (by simp [arCells]) rfl fun g3 X3 y3 => ?_
   have E3 := E2.trans X3
   refine Sm.b rfl ?_
   refine Sm.sts y3 1 (arCells wv rv { a with cyc := false, scan := 0 }) (vs := [.int .i64 0]) rfl rfl rfl (by simp [arCells]) rfl fun g4 X4 y4 => ?_
   have E4 := E3.trans X4
   refine Sm.b rfl ?_
   refine Sm.sts y4 1 (arCells wv rv { a with cyc := false, scan := 0, old := 0 }) (vs := [.int .i64 0]) rfl rfl rfl (by simp [arCells]) rfl fun g5 X5 y5 => ?_
   have E5 := E4.trans X5
   refine Sm.b rfl ?_
   refine Sm.sts y5 1 (arCells wv rv { a with cyc := false, scan := 0, old := 0, cop := 0 }) (vs := [.int .i64 0]) rfl rfl rfl (by simp [arCells]) rfl fun g6 X6 y6 => ?_
   have E6 := E5.trans X6
   exact fin { a with cyc := false, scan := 0, old := 0, cop := 0 } g6 E6 y6
  ·rw [if_neg (fun x => hs x.2), beq_eq_false_iff_ne.2 hs, s81_0_j, s81_0_eq]
   refine Sm.cf rfl ?_
   exact fin a g2 E2 y2
 ·rw [if_neg (fun x => hc x.1)]
  refine Sm.cf (by rw [Bool.not_eq_true] at hc; exact hc) ?_
  rw [s81_0_j, s81_0_eq]
  refine Sm.cf rfl ?_
  exact fin a g2 E2 y2
def RAI (h : AHeap) (wv rv : Value) (iw rw : Nat) (lw : Bool) (ir rr : Nat) (lr : Bool) (n : Nat) (rs : List Vl) (F : List FRow) (Q : List ORow) (M : List MRow) : Ar × Nat → Value → AHeap → Prop :=
 fun r v g => v = .tuple (List.toArray [arV wv rv r.1, .int .i64 (r.2 : Int)]) ∧ r.1.ws.length = n ∧ r.1.rs = rs ∧ Cx h.size g F (WRow iw rw lw r.1 :: RRow ir rr lr r.1 :: Q) M
theorem S2ai {wv rv : Value} {iw n ir m : Nat} {lw lr : Bool} (hw : LV wv iw lw n) (hr : LV rv ir lr m) (a : Ar) (k : Int) : List.all [arV wv rv a, .int .i64 k] isS2 = true := by
 rcases hw with ⟨_, rfl⟩ | ⟨_, rfl, _⟩ <;> rcases hr with ⟨_, rfl⟩ | ⟨_, rfl, _⟩ <;> rfl
theorem WRow_ws {iw rw : Nat} {lw : Bool} {a b : Ar} (h : b.ws = a.ws) : WRow iw rw lw b = WRow iw rw lw a := by unfold WRow; rw [h]
theorem RRow_rs {iw rw : Nat} {lw : Bool} {a b : Ar} (h : b.rs = a.rs) : RRow iw rw lw b = RRow iw rw lw a := by unfold RRow; rw [h]
theorem over_rs (a : Ar) : (overP a).rs = a.rs := (over_fe a).rs
section
variable {D N : Nat} {h : AHeap} {F : List FRow} {Q : List ORow} {M : List MRow} {iw rw ir rr : Nat} {lw lr : Bool} {wv rv : Value}
theorem u80_2 (hD : 20001 ≤ D) {n : Nat} {rs : List Vl} (hw : LV wv iw lw n) (hr : LV rv ir lr rs.length) {p2 p4 p20 il rl : Nat} {ll : Bool} {c4 : List Value} (hd0 : Hd) (ls : List Int) {lsv : Value} (hx : LV lsv il ll ls.length) (hll : ls.length ≤ 256) (sc : Int) (d n1 f : Nat)
  (IH : ∀ (a : Ar) (g : AHeap), a.ws.length = n → a.rs = rs → Ext h.size h g → Cx h.size g F (⟨p4, p4, 29, true, c4⟩ :: ⟨p2, p2, 29, true, arCells wv rv a⟩ :: WRow iw rw lw a :: RRow ir rr lr a :: Q) M →
   SmR h (RAI h wv rv iw rw lw ir rr lr n rs F Q M) (stepP f a (d + 1)) (s80_0 hk0 (call Tp Ms D) N n1 8000 (ptr p2 0) (ptr p4 0) ((d + 1 : Nat) : Int) g)) (hs : 0 ≤ sc ∧ sc ≤ 8000) (hd1 : 0 ≤ hd0.s ∧ hd0.s ≤ 256) (hdd : d ≤ 8000) :
  ∀ (n2 i : Nat) (a : Ar) (g : AHeap), ls.length - i < n2 → i ≤ ls.length → a.ws.length = n → a.rs = rs → Ext h.size h g →
   Cx h.size g F (⟨il, rl, 3, ll, ls.map (Value.int .i64)⟩ :: ⟨p20, p20, 44, true, [.int .i64 hd0.k, .int .i64 hd0.s, .int .i64 hd0.n]⟩ :: ⟨p4, p4, 29, true, c4⟩ :: ⟨p2, p2, 29, true, arCells wv rv a⟩ :: WRow iw rw lw a :: RRow ir rr lr a :: Q) M →
   SmR h (RAI h wv rv iw rw lw ir rr lr n rs F Q M) ((slotsP (ls.drop i) a).bind fun a' => if a'.scan = sc then stepP f (overP { a' with scan := sc + hd0.s + 1 }) (d + 1) else none) (s80_2 hk0 (call Tp Ms D) N n1 n2 8000 (ptr p2 0) (ptr p4 0) (d : Int) (ptr p20 0) lsv (i : Int) g) := by
 intro n2
 induction n2 with
 | zero => intro _ _ _ h; exact absurd h (Nat.not_lt_zero _)
 | succ n2 ih =>
  intro i a g hf hi hn hrs E0 y0
  rw [s80_2_eq]
  refine Sm.b hx.len ?_
  refine Sm.b rfl ?_
  have hw' : LV wv iw lw a.ws.length := by rw [hn]; exact hw
  have hr' : LV rv ir lr a.rs.length := by rw [hrs]; exact hr
  by_cases c : i < ls.length
  ·refine Sm.ct (decide_eq_true (by omega)) ?_
   rw [List.drop_eq_getElem_cons c]
   show SmR h _ (((slotP a ls[i]).bind fun a' => slotsP (ls.drop (i + 1)) a').bind _) _
   rw [Option.bind_assoc]
   have er : rd ls (i : Int) = some ls[i] := rd_at c
   generalize ls[i] = k at er
   unfold slotP
   by_cases G : Gs a k
   case neg => rw [if_pos G]; exact Sm.none
   rw [if_neg (fun x => x G)]
   obtain ⟨W, hl, s0, k1, k3, hb, hv⟩ := G
   refine Sm.b rfl ?_
   refine Sm.b (y0.ldO 3 0 rfl rfl) ?_
   refine Sm.b rfl ?_
   refine Sm.b (y0.ldO 3 5 rfl rfl) ?_
   refine Sm.b rfl ?_
   obtain ⟨a1, a2⟩ := y0.atS 0 (Value.int .i64) ls rfl hx er
   refine Sm.b a1 ?_
   refine Sm.b a2 ?_
   refine Sm.b rfl ?_
   refine Sm.n y0 fun p40 g1 X1 y1 => ?_
   have E1 := E0.trans (X1.mono E0.size)
   have H1 : ArH g1 wv rv a := Cx.arH y1 5 6 rfl rfl hw' hr'
   have e93 : m93 a.ws (IntKind.i64.wrap (a.scan + k)) = some (Go.Proofs.YtnjnggejbpkgoaaGreat.rv a (a.scan + k)) := by
    rw [wr (by omega) (by omega)]
    exact m93_rv (a := ⟨a.ws, 0, 0, 0, false, 0, 0, 0, 0, []⟩) W.ari hl (by omega) hb
   refine Sm.cv e93 (t93 (by omega) H1.w _) fun v2 g2 X2 R2 => ?_
   obtain rfl : v2 = eVB (Go.Proofs.YtnjnggejbpkgoaaGreat.rv a (a.scan + k)) := R2
   have y2 := y1.ext X2
   have E2 := E1.trans (X2.mono E1.size)
   refine Sm.b rfl ?_
   refine Sm.b rfl ?_
   refine Sm.b rfl ?_
   generalize Go.Proofs.YtnjnggejbpkgoaaGreat.rv a (a.scan + k) = rk at *
   refine Sm.sts y2 0 [.int .i64 rk.1.t, .int .i64 rk.1.n] rfl rfl rfl (by simp) rfl fun g3 X3 y3 => ?_
   have E3 := E2.trans X3
   refine Sm.b (y3.ldON 4 rfl rfl) ?_
   refine Sm.b (y3.ldON 0 rfl rfl) ?_
   rw [Option.bind_assoc]
   refine Sm.cr (u82 (by omega) hw' hr' rk.1 g3 E3 ((y3.front 6 rfl).front 6 rfl)) fun r4 v4 g4 e4 E4 R4 => ?_
   obtain ⟨rfl, l4, rs4, y4⟩ := R4
   by_cases GW : Gw a r4.1 k r4.2
   case neg => rw [if_neg GW]; exact Sm.none
   rw [if_pos GW, oBs]
   obtain ⟨b1, b2, b3, b4⟩ := GW
   have hw4 : LV wv iw lw r4.1.ws.length := by rw [l4]; exact hw'
   have hr4 : LV rv ir lr r4.1.rs.length := by rw [rs4]; exact hr'
   refine Sm.b rfl ?_
   refine Sm.b rfl ?_
   refine Sm.n y4 fun p52 g5 X5 y5 => ?_
   have E5 := E4.trans (X5.mono E4.size)
   refine Sm.n y5 fun p54 g6 X6 y6 => ?_
   have E6 := E5.trans (X6.mono E5.size)
   refine Sm.sts y6 1 (arCells wv rv r4.1) rfl (arC hw4 hr4 r4.1) rfl (by simp) rfl fun g7 X7 y7 => ?_
   have E7 := E6.trans X7
   refine Sm.sts y7 0 [.int .i64 r4.2.t, .int .i64 r4.2.n] rfl rfl rfl (by simp) rfl fun g8 X8 y8 => ?_
   have E8 := E7.trans X8
   refine Sm.b (y8.ldON 1 rfl rfl) ?_
   refine Sm.sts y8 8 (arCells wv rv r4.1) rfl (arC hw4 hr4 r4.1) rfl (by simp [arCells]) rfl fun g9 X9 y9 => ?_
   have E9 := E8.trans X9
   refine Sm.b rfl ?_
   refine Sm.b (y9.ldO 8 0 rfl rfl) ?_
   refine Sm.b rfl ?_
   refine Sm.b (y9.ldO 8 5 rfl rfl) ?_
   refine Sm.b rfl ?_
   obtain ⟨a3, a4⟩ := y9.atS 5 (Value.int .i64) ls rfl hx er
   refine Sm.b a3 ?_
   refine Sm.b a4 ?_
   refine Sm.b rfl ?_
   refine Sm.b rfl ?_
   refine Sm.b (y9.ldO 0 1 rfl rfl) ?_
   refine Sm.b rfl ?_
   rw [b1, wr (x := a.scan + k) (by omega) (by omega), wr (x := a.scan + k + 1) (by omega) (by omega)]
   obtain ⟨hlw, hwv⟩ := LV.up hw4 (by omega)
   subst hlw hwv
   refine Sm.b (show aIdx (slc iw 0 r4.1.ws.length) (.int .i64 (a.scan + k + 1)) 1 = some (ptr iw (a.scan + k + 1).toNat) by
    simp only [aIdx, slc]
    rw [if_pos (by omega)]; simp) ?_
   refine Sm.sts y9 2 ((putA r4.1 (a.scan + k) r4.2.n).ws.map (Value.int .u64)) (vs := [.int .u64 (IntKind.u64.wrap r4.2.n)]) rfl rfl rfl (by simp; omega) (by
    exact map_set (by omega)) fun g10 X10 y10 => ?_
   have E10 := E9.trans X10
   rw [wr0 (by omega)]
   have y11 := y10.pick (O' := _ :: _ :: _ :: _ :: _ :: _ :: Q) (.cons _ (.cons _ (.cons_cons _ (.cons_cons _ (.cons _ (.cons_cons _ (.cons_cons _ (.cons_cons _ (.cons_cons _ (List.Sublist.refl _))))))))))
   have y12 := (((y11.front 5 rfl).front 5 rfl).front 5 rfl).front 5 rfl
   exact ih (i + 1) (putA r4.1 (a.scan + k) r4.2.n) g10 (by omega) c (by simp [putA]; omega) (by show r4.1.rs = rs; rw [rs4, hrs]) E10 y12
  ·refine Sm.cf (decide_eq_false (by omega)) ?_
   rw [List.drop_of_length_le (by omega)]
   show SmR h _ ((some a).bind _) _
   rw [oBs]
   by_cases hsc : a.scan = sc
   case neg => rw [if_neg hsc]; exact Sm.none
   rw [if_pos hsc]
   subst hsc
   refine Sm.b rfl ?_
   refine Sm.b (y0.ldO 3 5 rfl rfl) ?_
   refine Sm.b rfl ?_
   refine Sm.b rfl ?_
   refine Sm.b (y0.ldO 1 1 rfl rfl) ?_
   refine Sm.b rfl ?_
   refine Sm.b rfl ?_
   rw [wr (x := a.scan + hd0.s) (by omega) (by omega), wr (x := a.scan + hd0.s + 1) (by omega) (by omega)]
   refine Sm.sts y0 3 (arCells wv rv { a with scan := a.scan + hd0.s + 1 }) (vs := [.int .i64 (a.scan + hd0.s + 1)]) rfl rfl rfl (by simp [arCells]) rfl fun g1 X1 y1 => ?_
   have E1 := E0.trans X1
   refine Sm.b (y1.ldON 3 rfl rfl) ?_
   refine Sm.cv rfl (u81 (by omega) { a with scan := a.scan + hd0.s + 1 } hw' hr') fun v2 g2 X2 R2 => ?_
   obtain rfl : v2 = arV wv rv (overP { a with scan := a.scan + hd0.s + 1 }) := R2
   have y2 := y1.ext X2
   have E2 := E1.trans (X2.mono E1.size)
   refine Sm.sts y2 3 (arCells wv rv (overP { a with scan := a.scan + hd0.s + 1 })) rfl (arC hw' hr' _) rfl (by simp [arCells]) rfl fun g3 X3 y3 => ?_
   have E3 := E2.trans X3
   rw [wr0 (by omega)]
   refine IH (overP { a with scan := a.scan + hd0.s + 1 }) g3 (by rw [over_ws]; exact hn) (by rw [over_rs]; exact hrs) E3 ?_
   have y4 := y3.pick (O' := _ :: _ :: _ :: _ :: Q) (.cons _ (.cons _ (.cons_cons _ (.cons_cons _ (.cons_cons _ (.cons_cons _ (List.Sublist.refl _)))))))
   rw [WRow_ws (a := a) (by rw [over_ws]), RRow_rs (a := a) (by rw [over_rs])]
   exact y4
end
open Go Go.AH Go.AM
def RA1 (h : AHeap) (wv rv : Value) (iw rw : Nat) (lw : Bool) (ir rr : Nat) (lr : Bool) (n m : Nat) (F : List FRow) (Q : List ORow) (M : List MRow) : Ar → Value → AHeap → Prop :=
 fun r v g => v = arV wv rv r ∧ r.ws.length = n ∧ r.rs.length = m ∧ Cx h.size g F (WRow iw rw lw r :: RRow ir rr lr r :: Q) M
section
variable {D N : Nat} {h : AHeap} {F : List FRow} {Q : List ORow} {M : List MRow} {iw rw ir rr : Nat} {lw lr : Bool} {wv rv : Value}
theorem u80_0 (hD : 20001 ≤ D) (hN : 20000 ≤ N) {n : Nat} {rs : List Vl} (hw : LV wv iw lw n) (hr : LV rv ir lr rs.length) {p2 p4 : Nat} {c4 : List Value} (h4 : c4.length = 10) :
  ∀ (f n1 : Nat) (_ : f ≤ n1) (a : Ar) (d : Nat) (g : AHeap) (_ : a.ws.length = n) (_ : a.rs = rs) (_ : Ext h.size h g) (_ : Cx h.size g F (⟨p4, p4, 29, true, c4⟩ :: ⟨p2, p2, 29, true, arCells wv rv a⟩ :: WRow iw rw lw a :: RRow ir rr lr a :: Q) M),
   SmR h (RAI h wv rv iw rw lw ir rr lr n rs F Q M) (stepP f a d) (s80_0 hk0 (call Tp Ms D) N n1 8000 (ptr p2 0) (ptr p4 0) (d : Int) g) := by
 intro f
 induction f with
 | zero => intros; exact Sm.none
 | succ f ih =>
  intro n1 hf a d g hn hrs E0 y0
  obtain ⟨n1, rfl⟩ : ∃ k, n1 = k + 1 := ⟨n1 - 1, by omega⟩
  have hw' : LV wv iw lw a.ws.length := by rw [hn]; exact hw
  have hr' : LV rv ir lr a.rs.length := by rw [hrs]; exact hr
  rw [s80_0_eq, stepP]
  refine Sm.b rfl ?_
  refine Sm.b (y0.ldO 1 4 rfl rfl) ?_
  refine Sm.b rfl ?_
  by_cases hc : a.cyc = true
  ·rw [if_pos hc]
   refine Sm.ct hc ?_
   by_cases G : Gh a d
   case neg => rw [if_pos G]; exact Sm.none
   rw [if_neg (fun x => x G)]
   obtain ⟨W, d8, _, hl, s0, s1, ok⟩ := G
   refine Sm.ct (decide_eq_true (by omega)) ?_
   rw [s80_1_j, s80_1_eq]
   refine Sm.b (y0.ldON 1 rfl rfl) ?_
   refine Sm.b rfl ?_
   refine Sm.b (y0.ldO 1 5 rfl rfl) ?_
   refine Sm.b rfl ?_
   have H0 : ArH g wv rv a := Cx.arH y0 2 3 rfl rfl hw' hr'
   refine Sm.cv (m55_w W s0 s1) (t55 (by omega) H0 a.scan) fun v1 g1 X1 R1 => ?_
   obtain rfl : v1 = (hd a a.scan).1.v := R1
   have y1 := y0.ext X1
   have E1 := E0.trans (X1.mono E0.size)
   refine Sm.n y1 fun p20 g2 X2 y2 => ?_
   have E2 := E1.trans (X2.mono E1.size)
   refine Sm.sts y2 0 [.int .i64 (hd a a.scan).1.k, .int .i64 (hd a a.scan).1.s, .int .i64 (hd a a.scan).1.n] rfl rfl rfl (by simp) rfl fun g3 X3 y3 => ?_
   have E3 := E2.trans X3
   refine Sm.b rfl ?_
   refine Sm.b (y3.ldO 0 0 rfl rfl) ?_
   refine Sm.b rfl ?_
   refine Sm.b rfl ?_
   refine Sm.b (y3.ldO 0 1 rfl rfl) ?_
   refine Sm.b rfl ?_
   have hk := hd_hok ok
   have S := slots_eq (k := (hd a a.scan).1.k) (s := (hd a a.scan).1.s) (n := (hd a a.scan).1.n) hk
   have L := slots_len (k := (hd a a.scan).1.k) (s := (hd a a.scan).1.s) (n := (hd a a.scan).1.n) hk
   have hs := hok_s hk
   refine Sm.cv S.1 (t92 (by omega) _ _) fun v4 g4 X4 R4 => ?_
   obtain ⟨il, rl, ll, hx, o4, z4⟩ := R4
   have y4 := y3.add X4 o4 z4
   have E4 := E3.trans (X4.mono E3.size)
   have := u80_2 (D := D) (N := N) (h := h) (F := F) (Q := Q) (M := M) (p4 := p4) (c4 := c4) hD hw hr (hd a a.scan).1 (slots (hd a a.scan).1.k (hd a a.scan).1.s) hx L a.scan d n1 f
    (fun b g' hb hbr E y => ih n1 (by omega) b (d + 1) g' hb hbr E y) (by omega) (by omega) (by omega) N 0 a g4 (by omega) (Nat.zero_le _) hn hrs E4 y4
   rw [List.drop_zero] at this
   exact this
  ·rw [if_neg hc]
   refine Sm.cf (by rw [Bool.not_eq_true] at hc; exact hc) ?_
   refine Sm.b (y0.ldON 1 rfl rfl) ?_
   refine Sm.sts y0 0 (arCells wv rv a) rfl (arC hw' hr' a) rfl (by rw [h4]; simp [arCells]) (by unfold splice; simp [h4, arCells]) fun g1 X1 y1 => ?_
   have E1 := E0.trans X1
   refine Sm.b (y1.ldON 0 rfl rfl) ?_
   refine Sm.ct (S2ai hw' hr' a _) ?_
   exact Sm.fin E1 ⟨rfl, hn, hrs, y1.pick (.cons _ (.cons _ (List.Sublist.refl _)))⟩
theorem u80 (hD : 20002 ≤ D) {a : Ar} (hw : LV wv iw lw a.ws.length) (hr : LV rv ir lr a.rs.length) (g0 : AHeap) (E0 : Ext h.size h g0) (y0 : Cx h.size g0 F (WRow iw rw lw a :: RRow ir rr lr a :: Q) M) :
  SmR h (RAI h wv rv iw rw lw ir rr lr a.ws.length a.rs F Q M) (stepP 20000 a 0) (call Tp Ms D 80 [arV wv rv a, .int .i64 8000] g0) := by
 obtain ⟨D, rfl⟩ : ∃ d, D = d + 1 := ⟨D - 1, by omega⟩
 rw [c80, e80]
 refine Sm.b (arC hw hr a) ?_
 refine Sm.n y0 fun p2 g1 X1 y1 => ?_
 have E1 := E0.trans (X1.mono E0.size)
 refine Sm.n y1 fun p4 g2 X2 y2 => ?_
 have E2 := E1.trans (X2.mono E1.size)
 exact u80_0 (by omega) (by omega) hw hr rfl 20000 D (by omega) a 0 g2 rfl rfl E2 y2
theorem u50 (hD : 20003 ≤ D) {a : Ar} (hw : LV wv iw lw a.ws.length) (hr : LV rv ir lr a.rs.length) (g0 : AHeap) (E0 : Ext h.size h g0) (y0 : Cx h.size g0 F (WRow iw rw lw a :: RRow ir rr lr a :: Q) M) :
  SmR h (RAI h wv rv iw rw lw ir rr lr a.ws.length a.rs F Q M) (stepP 20000 (overP a) 0) (call Tp Ms D 50 [arV wv rv a] g0) := by
 obtain ⟨D, rfl⟩ : ∃ d, D = d + 1 := ⟨D - 1, by omega⟩
 rw [c50, e50]
 refine Sm.b (arC hw hr a) ?_
 refine Sm.n y0 fun p2 g1 X1 y1 => ?_
 have E1 := E0.trans (X1.mono E0.size)
 refine Sm.n y1 fun p4 g2 X2 y2 => ?_
 have E2 := E1.trans (X2.mono E1.size)
 refine Sm.b (y2.ldON 1 rfl rfl) ?_
 refine Sm.cv rfl (u81 (by omega) a hw hr) fun v3 g3 X3 R3 => ?_
 obtain rfl : v3 = arV wv rv (overP a) := R3
 have y3 := y2.ext X3
 have E3 := E2.trans (X3.mono E2.size)
 have hw' : LV wv iw lw (overP a).ws.length := by rw [over_ws]; exact hw
 have hr' : LV rv ir lr (overP a).rs.length := by rw [over_rs]; exact hr
 have y3' : Cx h.size g3 F (WRow iw rw lw (overP a) :: RRow ir rr lr (overP a) :: ⟨p4, p4, 29, true, [.slice none 0 0, .int .i64 0, .int .i64 0, .int .i64 0, .bool false, .int .i64 0, .int .i64 0, .int .i64 0, .int .i64 0, .slice none 0 0]⟩ :: ⟨p2, p2, 29, true, arCells wv rv a⟩ :: Q) M := by
  rw [WRow_ws (a := a) (by rw [over_ws]), RRow_rs (a := a) (by rw [over_rs])]
  exact (y3.front 3 rfl).front 3 rfl
 intro r er
 obtain ⟨v4, g4, e4, E4, R4⟩ := u80 (D := D) (by omega) hw' hr' g3 E3 y3' r er
 obtain ⟨rfl, l4, rs4, y4⟩ := R4
 rw [over_ws] at l4
 rw [over_rs] at rs4
 have hw4 : LV wv iw lw r.1.ws.length := by rw [l4]; exact hw
 have hr4 : LV rv ir lr r.1.rs.length := by rw [rs4]; exact hr
 rw [e4]
 suffices hS : SmR h (RAI h wv rv iw rw lw ir rr lr a.ws.length a.rs F Q M) (some r) _ from hS r rfl
 refine Sm.b rfl ?_
 refine Sm.b rfl ?_
 refine Sm.b rfl ?_
 refine Sm.b rfl ?_
 refine Sm.sts y4 2 (arCells wv rv r.1) rfl (arC hw4 hr4 r.1) rfl (by simp) rfl fun g5 X5 y5 => ?_
 have E5 := E4.trans X5
 refine Sm.b (y5.ldON 2 rfl rfl) ?_
 refine Sm.ct (S2ai hw4 hr4 r.1 _) ?_
 exact Sm.fin E5 ⟨rfl, l4, rs4, y5.pick (.cons_cons _ (.cons_cons _ (.cons _ (.cons _ (List.Sublist.refl _)))))⟩
end
open Go Go.AH Go.AM
def cV (x : Vl) : List Value := [.int .i64 x.t, .int .i64 x.n]
theorem cV_len (x : Vl) : (cV x).length = 2 := rfl
theorem LV.nz {v : Value} {i n : Nat} {l : Bool} (h : LV v i l n) (hn : 0 < n) : l = true ∧ v = slc i 0 n := LV.up h hn
section
variable {D N : Nat} {h : AHeap} {F : List FRow} {Q : List ORow} {M : List MRow} {iw rw ir rr : Nat} {lw lr : Bool} {wv rv : Value}
theorem u51_0 (hD : 20001 ≤ D) {n m : Nat} (hm : m ≤ 2000) (hw : LV wv iw lw n) (hr : LV rv ir lr m) {p2 p4 : Nat} {c4 : List Value} (h4 : c4.length = 10) :
  ∀ (f n1 : Nat) (_ : f ≤ n1) (i : Nat) (a : Ar) (g : AHeap) (_ : a.ws.length = n) (_ : a.rs.length = m) (_ : Ext h.size h g) (_ : Cx h.size g F (⟨p4, p4, 29, true, c4⟩ :: ⟨p2, p2, 29, true, arCells wv rv a⟩ :: WRow iw rw lw a :: RRow ir rr lr a :: Q) M),
   SmR h (RA1 h wv rv iw rw lw ir rr lr n m F Q M) (rootsP f i a) (s51_0 hk0 (call Tp Ms D) N n1 (ptr p2 0) (ptr p4 0) (i : Int) g) := by
 intro f
 induction f with
 | zero => intros; exact Sm.none
 | succ f ih =>
  intro n1 hf i a g hn hrs E0 y0
  obtain ⟨n1, rfl⟩ : ∃ k, n1 = k + 1 := ⟨n1 - 1, by omega⟩
  have hw' : LV wv iw lw a.ws.length := by rw [hn]; exact hw
  have hr' : LV rv ir lr a.rs.length := by rw [hrs]; exact hr
  rw [s51_0_eq, rootsP]
  refine Sm.b rfl ?_
  refine Sm.b (y0.ldO 1 9 rfl rfl) ?_
  refine Sm.b hr'.len ?_
  refine Sm.b rfl ?_
  by_cases c : i < a.rs.length
  ·rw [dif_pos c]
   refine Sm.ct (decide_eq_true (by omega)) ?_
   refine Sm.b (y0.ldON 1 rfl rfl) ?_
   refine Sm.b rfl ?_
   refine Sm.b (y0.ldO 1 9 rfl rfl) ?_
   have er : rd a.rs (i : Int) = some a.rs[i] := rd_at c
   generalize a.rs[i] = v at er
   obtain ⟨a1, a2, _⟩ := y0.atG 3 cV cV_len a.rs rfl hr' er
   refine Sm.b a1 ?_
   refine Sm.b a2 ?_
   refine Sm.n y0 fun p42 g1 X1 y1 => ?_
   have E1 := E0.trans (X1.mono E0.size)
   refine Sm.n y1 fun p44 g2 X2 y2 => ?_
   have E2 := E1.trans (X2.mono E1.size)
   refine Sm.cr (u82 (by omega) hw' hr' v g2 E2 ((y2.front 5 rfl).front 5 rfl)) fun r3 v3 g3 e3 E3 R3 => ?_
   obtain ⟨rfl, l3, rs3, y3⟩ := R3
   by_cases GW : r3.1.rs = a.rs
   case neg => rw [if_neg GW]; exact Sm.none
   rw [if_pos GW]
   have hw3 : LV wv iw lw r3.1.ws.length := by rw [l3]; exact hw'
   have hr3 : LV rv ir lr r3.1.rs.length := by rw [rs3]; exact hr'
   refine Sm.b rfl ?_
   refine Sm.b rfl ?_
   refine Sm.sts y3 3 (arCells wv rv r3.1) rfl (arC hw3 hr3 r3.1) rfl (by simp) rfl fun g4 X4 y4 => ?_
   have E4 := E3.trans X4
   refine Sm.sts y4 2 [.int .i64 r3.2.t, .int .i64 r3.2.n] rfl rfl rfl (by simp) rfl fun g5 X5 y5 => ?_
   have E5 := E4.trans X5
   refine Sm.b (y5.ldON 3 rfl rfl) ?_
   refine Sm.sts y5 5 (arCells wv rv r3.1) rfl (arC hw3 hr3 r3.1) rfl (by simp [arCells]) rfl fun g6 X6 y6 => ?_
   have E6 := E5.trans X6
   refine Sm.b rfl ?_
   refine Sm.b (y6.ldO 5 9 rfl rfl) ?_
   refine Sm.b (y6.ldON 2 rfl rfl) ?_
   have c3 : i < r3.1.rs.length := by rw [GW]; exact c
   obtain ⟨hlr, hrv⟩ := LV.up hr3 (by omega)
   subst hlr hrv
   refine Sm.b (show aIdx (slc ir 0 r3.1.rs.length) (.int .i64 (i : Int)) 2 = some (ptr ir (i * 2)) by
    simp only [aIdx, slc]
    rw [if_pos (by omega)]; simp) ?_
   refine Sm.sts y6 1 (vcells (r3.1.rs.set i r3.2)) (vs := [.int .i64 r3.2.t, .int .i64 r3.2.n]) rfl rfl rfl (by rw [vcells_len]; omega) (vcells_set _ _ _ c3) fun g7 X7 y7 => ?_
   have E7 := E6.trans X7
   rw [wr0 (by omega)]
   have y8 := y7.pick (O' := _ :: _ :: _ :: _ :: Q) (.cons_cons _ (.cons_cons _ (.cons _ (.cons _ (.cons_cons _ (.cons_cons _ (List.Sublist.refl _)))))))
   refine ih n1 (by omega) (i + 1) { r3.1 with rs := r3.1.rs.set i r3.2 } g7 (by rw [← hn]; exact l3) (by show (r3.1.rs.set i r3.2).length = m; rw [List.length_set, rs3]; exact hrs) E7 ?_
   exact (y8.front 3 rfl).front 3 rfl
  ·rw [dif_neg c]
   refine Sm.cf (decide_eq_false (by omega)) ?_
   refine Sm.b (y0.ldON 1 rfl rfl) ?_
   refine Sm.cv rfl (u81 (by omega) a hw' hr') fun v3 g3 X3 R3 => ?_
   obtain rfl : v3 = arV wv rv (overP a) := R3
   have y3 := y0.ext X3
   have E3 := E0.trans (X3.mono E0.size)
   refine Sm.sts y3 0 (arCells wv rv (overP a)) rfl (arC hw' hr' _) rfl (by rw [h4]; simp [arCells]) (by unfold splice; simp [h4, arCells]) fun g4 X4 y4 => ?_
   have E4 := E3.trans X4
   refine Sm.b (y4.ldON 0 rfl rfl) ?_
   refine Sm.fin E4 ⟨rfl, by rw [over_ws]; exact hn, by rw [over_rs]; exact hrs, ?_⟩
   rw [WRow_ws (a := a) (by rw [over_ws]), RRow_rs (a := a) (by rw [over_rs])]
   exact y4.pick (.cons _ (.cons _ (List.Sublist.refl _)))
theorem u51 (hD : 20002 ≤ D) {a : Ar} (hs : 256 ≤ a.semi ∧ a.semi ≤ 4000) (hto : a.to = 0 ∨ a.to = 1) (hrl : a.rs.length ≤ 2000) (hw : LV wv iw lw a.ws.length) (hr : LV rv ir lr a.rs.length) (g0 : AHeap) (E0 : Ext h.size h g0) (y0 : Cx h.size g0 F (WRow iw rw lw a :: RRow ir rr lr a :: Q) M) :
  SmR h (RA1 h wv rv iw rw lw ir rr lr a.ws.length a.rs.length F Q M) (flipP a) (call Tp Ms D 51 [arV wv rv a] g0) := by
 obtain ⟨D, rfl⟩ : ∃ d, D = d + 1 := ⟨D - 1, by omega⟩
 rw [c51, e51]
 have b1 := mulB (t := 1 - a.to) (by omega) hs
 refine Sm.b (arC hw hr a) ?_
 refine Sm.n y0 fun p2 g1 X1 y1 => ?_
 have E1 := E0.trans (X1.mono E0.size)
 refine Sm.n y1 fun p4 g2 X2 y2 => ?_
 have E2 := E1.trans (X2.mono E1.size)
 refine Sm.b rfl ?_
 refine Sm.b (y2.ldO 1 3 rfl rfl) ?_
 refine Sm.b rfl ?_
 refine Sm.b rfl ?_
 refine Sm.sts y2 1 (arCells wv rv { a with old := a.top }) (vs := [.int .i64 a.top]) rfl rfl rfl (by simp [arCells]) rfl fun g3 X3 y3 => ?_
 have E3 := E2.trans X3
 refine Sm.b rfl ?_
 refine Sm.b (y3.ldO 1 2 rfl rfl) ?_
 refine Sm.b rfl ?_
 refine Sm.b rfl ?_
 show SmR h _ _ ((aSt g3 (ptr p2 2) (.int .i64 (IntKind.i64.wrap (1 - a.to))) 1).bind _)
 rw [wr (x := 1 - a.to) (by omega) (by omega)]
 refine Sm.sts y3 1 (arCells wv rv { a with old := a.top, to := 1 - a.to }) (vs := [.int .i64 (1 - a.to)]) rfl rfl rfl (by simp [arCells]) rfl fun g4 X4 y4 => ?_
 have E4 := E3.trans X4
 refine Sm.b (y4.ldON 1 rfl rfl) ?_
 refine Sm.b rfl ?_
 refine Sm.b (y4.ldO 1 2 rfl rfl) ?_
 refine Sm.b rfl ?_
 have H4 : ArH g4 wv rv { a with old := a.top, to := 1 - a.to } := Cx.arH y4 2 3 rfl rfl hw hr
 have e88 : m88 { a with old := a.top, to := 1 - a.to } (1 - a.to) = some ((1 - a.to) * a.semi + 1) := m88_eq (a := { a with old := a.top, to := 1 - a.to }) (by omega) hs
 refine Sm.cv e88 (t88 (by omega) H4 _) fun v5 g5 X5 R5 => ?_
 obtain rfl : v5 = .int .i64 ((1 - a.to) * a.semi + 1) := R5
 have y5 := y4.ext X5
 have E5 := E4.trans (X5.mono E4.size)
 refine Sm.b rfl ?_
 refine Sm.b rfl ?_
 refine Sm.sts y5 1 (arCells wv rv { a with old := a.top, to := 1 - a.to, top := (1 - a.to) * a.semi + 1 }) (vs := [.int .i64 ((1 - a.to) * a.semi + 1)]) rfl rfl rfl (by simp [arCells]) rfl fun g6 X6 y6 => ?_
 have E6 := E5.trans X6
 refine Sm.b rfl ?_
 refine Sm.b (y6.ldO 1 3 rfl rfl) ?_
 refine Sm.b rfl ?_
 refine Sm.b rfl ?_
 refine Sm.sts y6 1 (arCells wv rv { a with old := a.top, to := 1 - a.to, top := (1 - a.to) * a.semi + 1, scan := (1 - a.to) * a.semi + 1 }) (vs := [.int .i64 ((1 - a.to) * a.semi + 1)]) rfl rfl rfl (by simp [arCells]) rfl fun g7 X7 y7 => ?_
 have E7 := E6.trans X7
 refine Sm.b rfl ?_
 refine Sm.sts y7 1 (arCells wv rv { a with old := a.top, to := 1 - a.to, top := (1 - a.to) * a.semi + 1, scan := (1 - a.to) * a.semi + 1, cop := 0 }) (vs := [.int .i64 0]) rfl rfl rfl (by simp [arCells]) rfl fun g8 X8 y8 => ?_
 have E8 := E7.trans X8
 refine Sm.b rfl ?_
 refine Sm.sts y8 1 (arCells wv rv (flp a)) (vs := [.bool true]) rfl rfl rfl (by simp [arCells]) rfl fun g9 X9 y9 => ?_
 have E9 := E8.trans X9
 exact u51_0 (by omega) hrl hw hr rfl 20000 D (by omega) 0 (flp a) g9 rfl rfl E9 y9
theorem fin_step {a a1 : Ar} (e : finP a = some a1) : ∃ d, stepP 20000 (overP a) 0 = some (a1, d) := by
 unfold finP at e
 cases e2 : stepP 20000 (overP a) 0 with
 | none => rw [e2] at e; cases e
 | some r =>
  rw [e2] at e
  cases e
  exact ⟨r.2, rfl⟩
theorem u15 (hD : 20004 ≤ D) {a a1 a2 a3 : Ar} (e1 : finP a = some a1) (e2 : flipP a1 = some a2) (e3 : finP a2 = some a3) (hs : 256 ≤ a1.semi ∧ a1.semi ≤ 4000) (hto : a1.to = 0 ∨ a1.to = 1) (hrl : a.rs.length ≤ 2000) (hw : LV wv iw lw a.ws.length) (hr : LV rv ir lr a.rs.length) (g0 : AHeap) (E0 : Ext h.size h g0) (y0 : Cx h.size g0 F (WRow iw rw lw a :: RRow ir rr lr a :: Q) M) :
  SmR h (RA1 h wv rv iw rw lw ir rr lr a.ws.length a.rs.length F Q M) (some a3) (call Tp Ms D 15 [arV wv rv a] g0) := by
 obtain ⟨D, rfl⟩ : ∃ d, D = d + 1 := ⟨D - 1, by omega⟩
 rw [c15, e15]
 obtain ⟨d1, k1⟩ := fin_step e1
 obtain ⟨d3, k3⟩ := fin_step e3
 refine Sm.b (arC hw hr a) ?_
 refine Sm.n y0 fun p2 g1 X1 y1 => ?_
 have E1 := E0.trans (X1.mono E0.size)
 refine Sm.n y1 fun p4 g2 X2 y2 => ?_
 have E2 := E1.trans (X2.mono E1.size)
 refine Sm.b (y2.ldON 1 rfl rfl) ?_
 refine Sm.cv k1 (u50 (by omega) hw hr g2 E2 ((y2.front 3 rfl).front 3 rfl)) fun v3 g3 E3 R3 => ?_
 obtain ⟨rfl, l3, rs3, y3⟩ := R3
 have hw3 : LV wv iw lw a1.ws.length := by rw [show a1.ws.length = a.ws.length from l3]; exact hw
 have hr3 : LV rv ir lr a1.rs.length := by rw [show a1.rs = a.rs from rs3]; exact hr
 refine Sm.b rfl ?_
 refine Sm.b rfl ?_
 refine Sm.b rfl ?_
 refine Sm.sts y3 3 (arCells wv rv a1) rfl (arC hw3 hr3 a1) rfl (by simp [arCells]) rfl fun g4 X4 y4 => ?_
 have E4 := E3.trans X4
 refine Sm.b (y4.ldON 3 rfl rfl) ?_
 refine Sm.cv e2 (u51 (by omega) hs hto (by rw [show a1.rs = a.rs from rs3]; exact hrl) hw3 hr3 g4 E4 y4) fun v5 g5 E5 R5 => ?_
 obtain ⟨rfl, l5, rs5, y5⟩ := R5
 have hw5 : LV wv iw lw a2.ws.length := by rw [l5]; exact hw3
 have hr5 : LV rv ir lr a2.rs.length := by rw [rs5]; exact hr3
 refine Sm.sts y5 3 (arCells wv rv a2) rfl (arC hw5 hr5 a2) rfl (by simp [arCells]) rfl fun g6 X6 y6 => ?_
 have E6 := E5.trans X6
 refine Sm.b (y6.ldON 3 rfl rfl) ?_
 refine Sm.cv k3 (u50 (by omega) hw5 hr5 g6 E6 y6) fun v7 g7 E7 R7 => ?_
 obtain ⟨rfl, l7, rs7, y7⟩ := R7
 have hw7 : LV wv iw lw a3.ws.length := by rw [show a3.ws.length = a2.ws.length from l7]; exact hw5
 have hr7 : LV rv ir lr a3.rs.length := by rw [show a3.rs = a2.rs from rs7]; exact hr5
 refine Sm.b rfl ?_
 refine Sm.b rfl ?_
 refine Sm.b rfl ?_
 refine Sm.sts y7 3 (arCells wv rv a3) rfl (arC hw7 hr7 a3) rfl (by simp [arCells]) rfl fun g8 X8 y8 => ?_
 have E8 := E7.trans X8
 refine Sm.b (y8.ldON 3 rfl rfl) ?_
 refine Sm.sts y8 2 (arCells wv rv a3) rfl (arC hw7 hr7 a3) rfl (by simp [arCells]) rfl fun g9 X9 y9 => ?_
 have E9 := E8.trans X9
 refine Sm.b (y9.ldON 2 rfl rfl) ?_
 refine Sm.fin E9 ⟨rfl, ?_, ?_, y9.pick (.cons_cons _ (.cons_cons _ (.cons _ (.cons _ (List.Sublist.refl _)))))⟩
 ·rw [show a3.ws.length = a2.ws.length from l7, l5, show a1.ws.length = a.ws.length from l3]
 ·rw [show a3.rs = a2.rs from rs7, rs5, show a1.rs = a.rs from rs3]
end
open Go Go.AH Go.AM
theorem ba_list {a b : ByteArray} (h : a.toList = b.toList) : a = b := by
 rw [ByteArray.toList_eq, ByteArray.toList_eq] at h
 cases a; cases b
 exact congrArg ByteArray.mk (Array.ext' h)
theorem ba_toList (a b : ByteArray) : (a.toList == b.toList) = decide (a = b) := by
 by_cases h : a = b
 ·subst h; simp
 ·rw [decide_eq_false h]
  exact beq_eq_false_iff_ne.2 fun e => h (ba_list e)
theorem ba_beq (a b : ByteArray) : (a == b) = decide (a = b) := by
 obtain ⟨a⟩ := a
 obtain ⟨b⟩ := b
 by_cases h : a = b
 ·subst h
  rw [decide_eq_true rfl]
  simp [BEq.beq, ByteArray.beq]
  exact Array.isEqv_self _
 ·rw [decide_eq_false (fun e => h (ByteArray.mk.inj e))]
  cases e : ((⟨a⟩ : ByteArray) == ⟨b⟩) with
  | false => rfl
  | true =>
   have e' : (a == b) = true := e
   exact absurd (eq_of_beq e') h
noncomputable def tx (a : Ar) (q : Int) : ByteArray := (m60 a q).getD ⟨#[]⟩
section
variable {b : Ar} {T : List Int}
theorem Nc.bnd (C : Nc b T) {x : Int} (h : x ∈ T) : 1 ≤ x ∧ 1 ≤ (hd b x).1.s ∧ x + (hd b x).1.s + 1 ≤ b.top ∧ b.top ≤ b.ws.length ∧ (b.ws.length : Int) ≤ 8000 ∧ b.to * b.semi + 1 ≤ x := by
 have m := C.t.mem h
 have hh := C.half
 have h1 := C.top
 have h2 := C.len
 have h3 := C.semi
 unfold tsz at m
 omega
theorem txt_nc (C : Nc b T) {q : Int} (hq : q ∈ T) (hk : (hd b q).1.k = 1) : m60 b q = some (tx b q) ∧ m70 b q = some (tx b q) := by
 have B := C.bnd hq
 have O := C.oT q hq
 obtain ⟨w, e, hw, he⟩ := O.tx hk
 have em : (mkL (IntKind.i64.wrap w) (0 : Int)) = some (List.replicate (IntKind.i64.wrap w).toNat 0) := by
  unfold mkL
  rw [if_pos ⟨hw.1, by omega⟩]
 obtain ⟨s, s1, s2, s3⟩ := txt_loop (a := b) (by omega) (q := q) (by omega) 20000 (IntKind.i64.wrap w) (List.replicate (IntKind.i64.wrap w).toNat 0) 0 (by simp; omega) hw.2 (Int.le_refl _) hw.1 (by omega) (by omega)
 have e60 : m60 b q = some s := by
  unfold m60
  rw [m95_eq, wr (x := q + 1) (by omega) (by omega), e, oBs, oBs, em, oBs]
  exact s1
 have e70 : m70 b q = some s := by
  unfold m70
  rw [wr (x := q + 1) (by omega) (by omega), e, oBs, em, oBs, List.length_replicate, show (((IntKind.i64.wrap w).toNat : Nat) : Int) = IntKind.i64.wrap w by omega]
  exact s2
 have et : tx b q = s := by unfold tx; rw [e60]; rfl
 rw [et]
 exact ⟨e60, e70⟩
theorem mS60_same {a a' : Ar} {q s : Int} (h : Same a.ws a'.ws q q s) (hq : 0 ≤ q ∧ q ≤ 8000) : ∀ (f : Nat) (n : Int) (l : List Int) (i : Int), 0 ≤ i → n ≤ 160 → n ≤ 8 * (s - 1) → mS60_0 a' f q n l i = mS60_0 a f q n l i
 | 0, _, _, _, _, _, _ => rfl
 | f + 1, n, l, i, h0, hn, hs => by
  rw [mS60_0, mS60_0]
  by_cases c : i < n
  ·have e1 : Int.tdiv i 8 = i / 8 := Int.tdiv_eq_ediv_of_nonneg h0
   have er : rd a'.ws (q + 2 + i / 8) = rd a.ws (q + 2 + i / 8) := by
    have := h (2 + i / 8) (by omega) (by omega)
    rw [← Int.add_assoc] at this
    exact this
   rw [decide_eq_true c, cond_true, cond_true, e1, wr (x := q + 2) (by omega) (by omega), wr (x := i / 8) (by omega) (by omega), wr (x := q + 2 + i / 8) (by omega) (by omega), er]
   congr 1; funext w
   congr 1; funext w3
   congr 1; funext l4
   rw [wr (x := i + 1) (by omega) (by omega)]
   exact mS60_same h hq f n l4 (i + 1) (by omega) hn hs
  ·rw [decide_eq_false c, cond_false, cond_false]
theorem m60_same {a a' : Ar} {q : Int} (O : Ob a q) (hk : (hd a q).1.k = 1) (h : Same a.ws a'.ws q q (hd a q).1.s) (hq : 0 ≤ q ∧ q ≤ 8000) : m60 a' q = m60 a q := by
 obtain ⟨w, e, hw, he⟩ := O.tx hk
 have e' : rd a'.ws (q + 1) = some w := by rw [h 1 (by omega) (by omega)]; exact e
 unfold m60
 rw [m95_eq, m95_eq, wr (x := q + 1) (by omega) (by omega), e, e', oBs, oBs, oBs]
 congr 1; funext l
 exact mS60_same h hq 20000 _ l 0 (Int.le_refl _) hw.2 (by omega)
theorem Nc.cy (C : Nc b T) {x : Int} (hx : x ∈ T) : ∃ L1 L2, T = L1 ++ x :: L2 ∧ Cy { b with cyc := true, scan := x, old := (1 - b.to) * b.semi + 1, cop := 0 } L1 (x :: L2) [] := by
 obtain ⟨L1, L2, e, c1, c2⟩ := C.t.split hx
 have hh := C.half
 have hs := C.semi
 have htop := C.top
 refine ⟨L1, L2, e, C.w, C.semi, C.len, C.to, rfl, c1, c2, rfl, C.top, ?_, fun y hy => (C.oT y (by rw [e]; exact List.mem_append.2 hy)).same (fun i _ _ => rfl), fun y hy => (by cases hy), ?_, ?_, fun y hy k hk hne => ?_, fun y hy k hk hne => ?_, fun y hy => (by cases hy)⟩
 ·show (1 - b.to) * b.semi + 1 ≤ (2 - b.to) * b.semi
  omega
 ·show (0 : Int) ≤ (b.to + 1) * b.semi - b.top
  omega
 ·show 0 ≤ (0 : Int) ∧ (0 : Int) + 0 ≤ 8000
  omega
 ·obtain ⟨q1, q2⟩ := C.r y (by rw [e]; exact List.mem_append_left _ hy) k hk hne
  exact ⟨by rw [e] at q1; exact List.mem_append.1 q1, q2⟩
 ·obtain ⟨q1, q2⟩ := C.r y (by rw [e]; exact List.mem_append_right _ hy) k hk hne
  exact ⟨.inl (by rw [e] at q1; exact List.mem_append.1 q1), q2⟩
theorem kd_nc (C : Nc b T) {n : Int} (h : n ∈ T) : kd b n = (hd b n).1.k := by
 have e1 : tg b n = n := by unfold tg; rw [hd_fw (C.oT n h).ok]; rfl
 unfold kd
 rw [e1]
theorem Nc.put (C : Nc b T) {x k m : Int} (hx : x ∈ T) (hk : k ∈ slots (hd b x).1.k (hd b x).1.s) (ht : (rv b (x + k)).1.t = 3) (hm : m ∈ T) (hm1 : (hd b m).1.k = 1) :
  Nc (putA b (x + k) m) T ∧ (∀ q ∈ T, hd (putA b (x + k) m) q = hd b q) ∧ (∀ q ∈ T, (hd b q).1.k = 1 → tx (putA b (x + k) m) q = tx b q) ∧ (∀ q ∈ T, ∀ j ∈ slots (hd b q).1.k (hd b q).1.s, ¬ (q = x ∧ j = k) → rv (putA b (x + k) m) (q + j) = rv b (q + j)) := by
 obtain ⟨L1, L2, e, K⟩ := C.cy hx
 have B := C.bnd hx
 have O := C.oT x hx
 have bk := slots_in O.ok hk
 have mT : ∀ {y}, y ∈ T ↔ y ∈ L1 ∨ y ∈ x :: L2 := fun {y} => by rw [e]; exact List.mem_append
 have hkind : kindOf (rv b (x + k)).1.t ≠ 0 := by rw [ht]; decide
 have hv : VT { b with cyc := true, scan := x, old := (1 - b.to) * b.semi + 1, cop := 0 } L1 (x :: L2) ⟨(rv b (x + k)).1.t, m⟩ := fun _ => by
  refine ⟨mT.1 hm, ?_⟩
  show kd b m = kindOf (rv b (x + k)).1.t
  rw [kd_nc C hm, hm1, ht]; rfl
 obtain ⟨P, h2, r2, o2, k2⟩ := K.put (k := k) (n := m) hk hkind hv
 have E := put_hd (a := b) (n := m) (x := x) (k := k) (by omega) bk.1 (by omega)
 have SS : ∀ q ∈ T, q ≠ x → Same b.ws (putA b (x + k) m).ws q q (hd b q).1.s := fun q hq hne i i0 i1 => by
  have ap := C.t.apart hq hx hne
  unfold tsz at ap
  exact E (q + i) (by omega)
 have hh : ∀ q ∈ T, hd (putA b (x + k) m) q = hd b q := fun q hq => by
  by_cases eq : q = x
  ·rw [eq]; exact h2
  ·exact (SS q hq eq).hd (by have := C.bnd hq; omega)
 refine ⟨?_, hh, fun q hq hk1 => ?_, fun q hq j hj hne => ?_⟩
 ·have PT := P.t1.app P.t2
  rw [← e] at PT
  refine ⟨P.w, C.semi, P.len, C.to, C.cyc, PT, C.top, fun y hy => (P.oT y (mT.1 hy)).same (fun i _ _ => rfl), fun y hy j hj hne => ?_⟩
  rcases mT.1 hy with h | h
  ·obtain ⟨q1, q2⟩ := P.r1 y h j hj hne
   exact ⟨mT.2 q1, q2⟩
  ·obtain ⟨q1, q2⟩ := P.r2 y h j hj hne
   exact ⟨mT.2 (q1.elim id (fun h => by cases h)), q2⟩
 ·have hne : q ≠ x := fun eq => by
   rw [eq] at hk1
   rw [hk1] at hk
   exact (slots_1 hk).elim
  have B2 := C.bnd hq
  unfold tx
  rw [m60_same (C.oT q hq) hk1 (SS q hq hne) (by omega)]
 ·by_cases eq : q = x
  ·subst eq
   exact o2 j hj (fun e2 => hne ⟨rfl, e2⟩)
  ·have bj := slots_in (C.oT q hq).ok hj
   exact (SS q hq eq).rv (by omega) bj.2
end
open Go Go.AH Go.AM
theorem Ch.cnt {sz : Int → Int} : ∀ {L : List Int} {p e : Int}, Ch sz p L e → 2 * (L.length : Int) ≤ e - p
 | [], p, e, h => by have h' : p = e := h; subst h'; simp
 | x :: L, p, e, h => by
  obtain ⟨h1, h2, h3⟩ := h
  have := h3.cnt
  simp only [List.length_cons]
  omega
theorem find_congr {P Q : Int → Bool} : ∀ {L : List Int}, (∀ x ∈ L, P x = Q x) → L.find? P = L.find? Q
 | [], _ => rfl
 | x :: L, h => by
  rw [List.find?_cons, List.find?_cons, h x (by simp), find_congr fun y hy => h y (by simp [hy])]
noncomputable def fsT (b : Ar) (T : List Int) (p : Int) : Int := (T.find? fun q => decide ((hd b q).1.k = 1) && decide (tx b q = tx b p)).getD p
def shV (f : Int → Int) (v : Vl) : Vl := if v.t = 3 then ⟨3, f v.n⟩ else v
theorem shV_t (f : Int → Int) (v : Vl) : (shV f v).t = v.t := by
 unfold shV
 by_cases h : v.t = 3
 ·rw [if_pos h]; exact h.symm
 ·rw [if_neg h]
def cntT (b : Ar) : List Int → Nat
 | [] => 0
 | q :: L => (if (hd b q).1.k = 1 then 1 else 0) + cntT b L
theorem cntT_congr {b b' : Ar} : ∀ {L : List Int}, (∀ q ∈ L, hd b' q = hd b q) → cntT b' L = cntT b L
 | [], _ => rfl
 | q :: L, h => by
  unfold cntT
  rw [h q (by simp), cntT_congr fun y hy => h y (by simp [hy])]
theorem cntT_le {b : Ar} : ∀ {L : List Int}, cntT b L ≤ L.length
 | [] => Nat.le_refl _
 | q :: L => by
  have := cntT_le (b := b) (L := L)
  unfold cntT
  split <;> simp only [List.length_cons] <;> omega
theorem fsT_in {b : Ar} {T : List Int} {p : Int} (hp : p ∈ T) (hk : (hd b p).1.k = 1) : fsT b T p ∈ T ∧ (hd b (fsT b T p)).1.k = 1 ∧ tx b (fsT b T p) = tx b p ∧ T.find? (fun q => decide ((hd b q).1.k = 1) && decide (tx b q = tx b p)) = some (fsT b T p) := by
 unfold fsT
 cases e : T.find? (fun q => decide ((hd b q).1.k = 1) && decide (tx b q = tx b p)) with
 | none =>
  have := List.find?_eq_none.1 e p hp
  simp [hk] at this
 | some q =>
  have h1 := List.mem_of_find?_eq_some e
  have h2 := List.find?_some e
  simp at h2
  exact ⟨h1, h2.1, h2.2, rfl⟩
structure J (b0 : Ar) (T : List Int) (b : Ar) : Prop where
 n : Nc b T
 h : ∀ q ∈ T, hd b q = hd b0 q
 x : ∀ q ∈ T, (hd b0 q).1.k = 1 → tx b q = tx b0 q
 semi : b.semi = b0.semi
 to : b.to = b0.to
 top : b.top = b0.top
 ser : b.ser = b0.ser
 rl : b.rs.length = b0.rs.length
 wl : b.ws.length = b0.ws.length
 rt : RtT b (fun n => n ∈ T)
section
variable {b b0 : Ar} {T : List Int}
theorem J.refl (C : Nc b0 T) (R : RtT b0 (fun n => n ∈ T)) : J b0 T b0 := ⟨C, fun _ _ => rfl, fun _ _ _ => rfl, rfl, rfl, rfl, rfl, rfl, rfl, R⟩
theorem J.fs (j : J b0 T b) {p : Int} (hp : p ∈ T) (hk : (hd b0 p).1.k = 1) : fsT b T p = fsT b0 T p := by
 unfold fsT
 rw [find_congr (Q := fun q => decide ((hd b0 q).1.k = 1) && decide (tx b0 q = tx b0 p)) fun q hq => ?_]
 rw [j.h q hq, j.x p hp hk]
 by_cases c : (hd b0 q).1.k = 1
 ·rw [j.x q hq c]
 ·rw [decide_eq_false c, Bool.false_and, Bool.false_and]
theorem J.cnt (j : J b0 T b) : cntT b T = cntT b0 T := cntT_congr j.h
theorem tx_rs (C : Nc b T) {q : Int} (hq : q ∈ T) (hk : (hd b q).1.k = 1) (r : List Vl) : tx { b with rs := r } q = tx b q := by
 have B := C.bnd hq
 unfold tx
 rw [m60_same (a := b) (a' := { b with rs := r }) (C.oT q hq) hk (fun i _ _ => rfl) (by have := C.half; have := C.semi; omega)]
theorem J.root (j : J b0 T b) {i : Nat} {v : Vl} (e : b.rs[i]? = some v) : J b0 T { b with rs := b.rs.set i (shV (fsT b0 T) v) } := by
 refine ⟨j.n.of rfl rfl rfl j.n.cyc rfl, fun q hq => (hd_same rfl).trans (j.h q hq), fun q hq hk => (tx_rs j.n hq (by rw [j.h q hq]; exact hk) _).trans (j.x q hq hk), j.semi, j.to, j.top, j.ser, by rw [← j.rl]; exact List.length_set .., j.wl, fun u hu hk => ?_⟩
 have hu' : u ∈ b.rs ∨ u = shV (fsT b0 T) v := List.mem_or_eq_of_mem_set hu
 rcases hu' with h | h
 ·exact j.rt u h hk
 ·subst h
  unfold shV at hk ⊢
  by_cases c : v.t = 3
  ·rw [if_pos c] at hk ⊢
   obtain ⟨q1, q2⟩ := j.rt v (List.mem_of_getElem? e) (by rw [c]; decide)
   rw [kd_nc j.n q1, c, j.h _ q1] at q2
   obtain ⟨f1, f2, _⟩ := fsT_in (b := b0) q1 q2
   refine ⟨f1, ?_⟩
   show kd b (fsT b0 T v.n) = _
   rw [kd_nc j.n f1, j.h _ f1, f2]
   exact (by decide : (1 : Int) = kindOf 3)
  ·rw [if_neg c] at hk ⊢
   exact j.rt v (List.mem_of_getElem? e) hk
theorem J.slot (j : J b0 T b) {x k : Int} (hx : x ∈ T) (hk : k ∈ slots (hd b0 x).1.k (hd b0 x).1.s) : J b0 T (putA b (x + k) (shV (fsT b0 T) (rv b (x + k)).1).n) := by
 have hk' : k ∈ slots (hd b x).1.k (hd b x).1.s := by rw [j.h x hx]; exact hk
 have O := j.n.oT x hx
 have B := j.n.bnd hx
 have bk := slots_in O.ok hk'
 unfold shV
 by_cases c : (rv b (x + k)).1.t = 3
 ·rw [if_pos c]
  obtain ⟨q1, q2⟩ := j.n.r x hx k hk' (by rw [c]; decide)
  rw [kd_nc j.n q1, c, j.h _ q1] at q2
  obtain ⟨f1, f2, _⟩ := fsT_in (b := b0) q1 q2
  obtain ⟨P, h2, t2, o2⟩ := j.n.put hx hk' c f1 (by rw [j.h _ f1]; exact f2)
  refine ⟨P, fun q hq => by rw [h2 q hq]; exact j.h q hq, fun q hq hk1 => by rw [t2 q hq (by rw [j.h q hq]; exact hk1)]; exact j.x q hq hk1, j.semi, j.to, j.top, j.ser, j.rl, by rw [← j.wl]; exact List.length_set .., fun u hu hku => ?_⟩
  obtain ⟨r1, r2⟩ := j.rt u hu hku
  rw [kd_nc j.n r1] at r2
  exact ⟨r1, by rw [kd_nc P r1, h2 _ r1]; exact r2⟩
 ·rw [if_neg c, putA_same j.n.w (by omega) (O.sl k hk')]
  exact j
def rtS (f : Int → Int) : Nat → Nat → Ar → Ar
 | 0, _, b => b
 | n + 1, i, b => rtS f n (i + 1) { b with rs := b.rs.set i (shV f (b.rs.getD i ⟨0, 0⟩)) }
def slS (f : Int → Int) (x : Int) : List Int → Ar → Ar
 | [], b => b
 | k :: ks, b => slS f x ks (putA b (x + k) (shV f (rv b (x + k)).1).n)
def obS (f : Int → Int) (b0 : Ar) : List Int → Ar → Ar
 | [], b => b
 | x :: L, b => obS f b0 L (slS f x (slots (hd b0 x).1.k (hd b0 x).1.s) b)
theorem J.rtS : ∀ (n i : Nat) (b : Ar), J b0 T b → i + n ≤ b.rs.length → J b0 T (Go.Proofs.YtnjnggejbpkgoaaGreat.rtS (fsT b0 T) n i b)
 | 0, _, _, j, _ => j
 | n + 1, i, b, j, h => by
  have hi : i < b.rs.length := by omega
  refine J.rtS n (i + 1) _ (j.root ?_) (by show i + 1 + n ≤ (b.rs.set i _).length; rw [List.length_set]; omega)
  rw [List.getD_eq_getElem?_getD, List.getElem?_eq_getElem hi]; rfl
theorem J.slS {x : Int} (hx : x ∈ T) : ∀ (ks : List Int) (b : Ar), J b0 T b → (∀ k ∈ ks, k ∈ slots (hd b0 x).1.k (hd b0 x).1.s) → J b0 T (Go.Proofs.YtnjnggejbpkgoaaGreat.slS (fsT b0 T) x ks b)
 | [], _, j, _ => j
 | k :: ks, b, j, h => J.slS hx ks _ (j.slot hx (h k (by simp))) fun k' hk' => h k' (by simp [hk'])
theorem J.obS : ∀ (L : List Int) (b : Ar), J b0 T b → (∀ x ∈ L, x ∈ T) → J b0 T (Go.Proofs.YtnjnggejbpkgoaaGreat.obS (fsT b0 T) b0 L b)
 | [], _, j, _ => j
 | x :: L, b, j, h => J.obS L _ (J.slS (h x (by simp)) _ b j fun k hk => hk) fun y hy => h y (by simp [hy])
noncomputable def shA (b0 : Ar) (T : List Int) : Ar := obS (fsT b0 T) b0 T (rtS (fsT b0 T) b0.rs.length 0 b0)
theorem shA_j (C : Nc b0 T) (R : RtT b0 (fun n => n ∈ T)) : J b0 T (shA b0 T) :=
 J.obS T _ (J.rtS _ 0 b0 (J.refl C R) (by omega)) fun _ h => h
end
structure Shr (a a1 a2 a3 : Ar) (T : List Int) (b2 b3 : Ar) (T3 : List Int) : Prop where
 e1 : finP a = some a1
 e2 : flipP a1 = some a2
 e3 : finP a2 = some a3
 s1 : 256 ≤ a1.semi ∧ a1.semi ≤ 4000
 t1 : a1.to = 0 ∨ a1.to = 1
 n3 : Nc a3 T
 r3 : RtT a3 (fun n => n ∈ T)
 f1 : finP (shA a3 T) = some (shA a3 T)
 f2 : flipP (shA a3 T) = some b2
 f3 : finP b2 = some b3
 m3 : Nc b3 T3
 k3 : RtT b3 (fun n => n ∈ T3)
 rl : a3.rs.length = a.rs.length
 wl : a3.ws.length = a.ws.length
 rl2 : b3.rs.length = a.rs.length
 wl2 : b3.ws.length = a.ws.length
 rb : a.rs.length ≤ 24
 wb : 512 ≤ a.ws.length ∧ a.ws.length ≤ 8000
theorem shr_ok {a : Ar} {M : List Int} (K : Mk a M) (I : ArI a) (A : All M (objR a M) 0) (R : a.rs.all (rok a M) = true) : ∃ a1 a2 a3 T b2 b3 T3, Shr a a1 a2 a3 T b2 b3 T3 := by
 have hr := K.num.roots
 have key : ∃ a1 a2 a3 T, finP a = some a1 ∧ flipP a1 = some a2 ∧ finP a2 = some a3 ∧ (256 ≤ a1.semi ∧ a1.semi ≤ 4000) ∧ (a1.to = 0 ∨ a1.to = 1) ∧ Nc a3 T ∧ RtT a3 (fun n => n ∈ T) ∧ a3.rs.length = a.rs.length ∧ a3.ws.length = a.ws.length := by
  rcases arena_ch K I A R with ⟨T, N, RT⟩ | ⟨T1, T2, F, C, RT⟩
  ·obtain ⟨a2, a3, T', e2, e1003, N3, R3, s1, s2, s3, s4⟩ := coll_nc N RT (by omega)
   exact ⟨a, a2, a3, T', fin_nc N, e2, e1003, N.semi, N.to, N3, R3, s3, s4⟩
  ·obtain ⟨a1, T, e1, N1, fe, k⟩ := fin_cy C
   obtain ⟨a2, a3, T', e2, e1003, N3, R3, s1, s2, s3, s4⟩ := coll_nc N1 (fun v hv hk => by
    rw [fe.rs] at hv
    obtain ⟨q1, q2⟩ := RT v hv hk
    obtain ⟨r1, r2⟩ := k v.n q1
    exact ⟨r1, by rw [r2]; exact q2⟩) (by rw [fe.rs]; omega)
   exact ⟨a1, a2, a3, T', e1, e2, e1003, N1.semi, N1.to, N3, R3, by rw [s3, fe.rs], s4.trans fe.len⟩
 obtain ⟨a1, a2, a3, T, e1, e2, e1003, s1, t1, N3, R3, l1, l2⟩ := key
 have j := shA_j N3 R3
 obtain ⟨b2, b3, T3, f2, f3, M3, K3, _, _, q1, q2⟩ := coll_nc j.n j.rt (by rw [j.rl]; omega)
 have hl := N3.len
 have hs := N3.semi
 exact ⟨a1, a2, a3, T, b2, b3, T3, e1, e2, e1003, s1, t1, N3, R3, fin_nc j.n, f2, f3, M3, K3, l1, l2, by rw [q1, j.rl, l1], by rw [q2, j.wl, l2], by omega, by omega, by omega⟩
open Go Go.AH Go.AM
section
variable {b : Ar} {T : List Int}
theorem Nc.tl (C : Nc b T) : (T.length : Int) ≤ 2000 := by
 have := C.t.cnt
 have := C.half
 have := C.semi
 have := C.top
 omega
theorem Nc.low (C : Nc b T) : 1 ≤ b.to * b.semi + 1 ∧ b.top ≤ 8000 ∧ b.top ≤ b.ws.length := by
 have := C.half
 have := C.semi
 have := C.top
 have := C.len
 omega
theorem Nc.nxt (C : Nc b T) {q : Int} {L : List Int} (h : Ch (tsz b) q L b.top) (hL : ∀ x ∈ L, x ∈ T) : (q < b.top ∧ ∃ L', L = q :: L' ∧ Ch (tsz b) (q + (hd b q).1.s + 1) L' b.top ∧ q ∈ T ∧ (∀ x ∈ L', x ∈ T) ∧ 1 ≤ q ∧ 1 ≤ (hd b q).1.s ∧ q + (hd b q).1.s + 1 ≤ b.top) ∨ (q = b.top ∧ L = []) := by
 cases L with
 | nil => exact .inr ⟨h, rfl⟩
 | cons x L =>
  obtain ⟨h1, h2, h3⟩ := h
  subst h1
  have B := C.bnd (hL x (by simp))
  have := C.low
  have := C.half
  have := C.semi
  exact .inl ⟨by omega, L, rfl, h3, hL x (by simp), fun y hy => hL y (by simp [hy]), by omega, by omega, by omega⟩
end
section
variable {D N : Nat} {h : AHeap} {wv rv : Value} {b : Ar} {T : List Int}
theorem u16_0 (hD : 20000 ≤ D) (C : Nc b T) (H : ArH h wv rv b) {p2 : Nat} : ∀ (L : List Int) (f : Nat) (q : Int) (c : Nat) (g : AHeap), Ch (tsz b) q L b.top → (∀ x ∈ L, x ∈ T) → L.length < f → c + L.length ≤ 8000 → Ext h.size h g → Cx h.size g [] (⟨p2, p2, 29, true, arCells wv rv b⟩ :: []) [] →
  SmR h (En (Value.int .i64)) (some ((c + cntT b L : Nat) : Int)) (s16_0 hk0 (call Tp Ms D) N f (ptr p2 0) (c : Int) q g) := by
 intro L
 induction L with
 | nil =>
  intro f q c g hc hL hf hb E0 y0
  obtain ⟨f, rfl⟩ : ∃ k, f = k + 1 := ⟨f - 1, by simp at hf; omega⟩
  have e : q = b.top := hc
  rw [s16_0_eq]
  refine Sm.b rfl ?_
  refine Sm.b (y0.ldO 0 3 rfl rfl) ?_
  refine Sm.b rfl ?_
  refine Sm.cf (decide_eq_false (by omega)) ?_
  exact Sm.fin E0 rfl
 | cons x L ih =>
  intro f q c g hc hL hf hb E0 y0
  simp only [List.length_cons] at hf hb
  obtain ⟨f, rfl⟩ : ∃ k, f = k + 1 := ⟨f - 1, by omega⟩
  rcases C.nxt hc hL with ⟨hq, L', e, hc', hqT, hL', q1, s1, s2⟩ | ⟨_, e⟩
  case inr => cases e
  cases e
  have W := C.w
  have lo := C.low
  rw [s16_0_eq]
  refine Sm.b rfl ?_
  refine Sm.b (y0.ldO 0 3 rfl rfl) ?_
  refine Sm.b rfl ?_
  refine Sm.ct (decide_eq_true hq) ?_
  refine Sm.b (y0.ldON 0 rfl rfl) ?_
  refine Sm.cv (m55_w W (by omega) (by omega)) (t55 (by omega) (H.ext E0) x) fun v1 g1 X1 R1 => ?_
  obtain rfl : v1 = (hd b x).1.v := R1
  have y1 := y0.ext X1
  have E1 := E0.trans (X1.mono E0.size)
  refine Sm.b rfl ?_
  refine Sm.b rfl ?_
  have go : ∀ (c' : Nat), c' + L.length ≤ 8000 → SmR h (En (Value.int .i64)) (some ((c' + cntT b L : Nat) : Int)) (s16_1 hk0 (call Tp Ms D) N f (ptr p2 0) (c' : Int) x g1) := fun c' hc1 => by
   rw [s16_1_j, s16_1_eq]
   refine Sm.b (y1.ldON 0 rfl rfl) ?_
   refine Sm.cv (m55_w W (by omega) (by omega)) (t55 (by omega) (H.ext E1) x) fun v2 g2 X2 R2 => ?_
   obtain rfl : v2 = (hd b x).1.v := R2
   have y2 := y1.ext X2
   have E2 := E1.trans (X2.mono E1.size)
   refine Sm.b rfl ?_
   refine Sm.b rfl ?_
   rw [wr (x := x + (hd b x).1.s) (by omega) (by omega), wr (x := x + (hd b x).1.s + 1) (by omega) (by omega)]
   exact ih f _ c' g2 hc' hL' (by omega) hc1 E2 y2
  unfold cntT
  by_cases hk : (hd b x).1.k = 1
  ·refine Sm.ct (beq_iff_eq.2 hk) ?_
   rw [if_pos hk, wr0 (by omega), ← Nat.add_assoc]
   exact go (c + 1) (by omega)
  ·refine Sm.cf (beq_eq_false_iff_ne.2 hk) ?_
   rw [if_neg hk, Nat.zero_add]
   exact go c (by omega)
theorem u16 (hD : 20001 ≤ D) (C : Nc b T) (H : ArH h wv rv b) : SmR h (En (Value.int .i64)) (some (cntT b T : Int)) (call Tp Ms D 16 [arV wv rv b] h) := by
 obtain ⟨D, rfl⟩ : ∃ d, D = d + 1 := ⟨D - 1, by omega⟩
 rw [c16, e16]
 have y0 := Cx.start0 h
 have E0 := Ext.refl h.size h
 have to := C.to
 have tl := C.tl
 refine Sm.b H.cells ?_
 refine Sm.n y0 fun p2 g1 X1 y1 => ?_
 have E1 := E0.trans (X1.mono E0.size)
 refine Sm.b (y1.ldON 0 rfl rfl) ?_
 refine Sm.b rfl ?_
 refine Sm.b (y1.ldO 0 2 rfl rfl) ?_
 refine Sm.b rfl ?_
 refine Sm.cv (m88_eq (by omega) C.semi) (t88 (by omega) (H.ext E1) b.to) fun v2 g2 X2 R2 => ?_
 obtain rfl : v2 = .int .i64 (b.to * b.semi + 1) := R2
 have y2 := y1.ext X2
 have E2 := E1.trans (X2.mono E1.size)
 refine Sm.b rfl ?_
 have := u16_0 (D := D) (N := D) (by omega) C H T D _ 0 g2 C.t (fun _ h => h) (by omega) (by omega) E2 y2
 rw [Nat.zero_add, show ((0 : Nat) : Int) = 0 from rfl] at this
 exact this
def mtx (b : Ar) (p q : Int) : Prop := (hd b q).1.k = 1 ∧ tx b q = tx b p
theorem u17_0 (hD : 20001 ≤ D) (C : Nc b T) (H : ArH h wv rv b) {p2 : Nat} {p : Int} (hk : (hd b p).1.k = 1) : ∀ (L : List Int) (f : Nat) (q : Int) (g : AHeap), Ch (tsz b) q L b.top → (∀ x ∈ L, x ∈ T) → p ∈ L → L.length < f → Ext h.size h g → Cx h.size g [] (⟨p2, p2, 29, true, arCells wv rv b⟩ :: []) [] →
  SmR h (En (Value.int .i64)) (some ((L.find? fun q => decide ((hd b q).1.k = 1) && decide (tx b q = tx b p)).getD p)) (s17_0 hk0 (call Tp Ms D) N f p (ptr p2 0) (tx b p) q g) := by
 intro L
 induction L with
 | nil => intro f q g hc hL hp; cases hp
 | cons x L ih =>
  intro f q g hc hL hp hf E0 y0
  simp only [List.length_cons] at hf
  obtain ⟨f, rfl⟩ : ∃ k, f = k + 1 := ⟨f - 1, by omega⟩
  have mm := hc.mem hp
  rcases C.nxt hc hL with ⟨hq, L', e, hc', hqT, hL', q1, s1, s2⟩ | ⟨_, e⟩
  case inr => cases e
  cases e
  have W := C.w
  have lo := C.low
  rw [s17_0_eq, List.find?_cons]
  by_cases c : x < p
  ·have hpL : p ∈ L := by
    rcases List.mem_cons.1 hp with e | e
    ·omega
    ·exact e
   refine Sm.ct (decide_eq_true c) ?_
   refine Sm.b (y0.ldON 0 rfl rfl) ?_
   refine Sm.cv (m55_w W (by omega) (by omega)) (t55 (by omega) (H.ext E0) x) fun v1 g1 X1 R1 => ?_
   obtain rfl : v1 = (hd b x).1.v := R1
   have y1 := y0.ext X1
   have E1 := E0.trans (X1.mono E0.size)
   refine Sm.b rfl ?_
   refine Sm.b rfl ?_
   have go : ∀ g1, Ext h.size h g1 → Cx h.size g1 [] (⟨p2, p2, 29, true, arCells wv rv b⟩ :: []) [] → SmR h (En (Value.int .i64)) (some ((L.find? fun q => decide ((hd b q).1.k = 1) && decide (tx b q = tx b p)).getD p)) (s17_1 hk0 (call Tp Ms D) N f p (ptr p2 0) (tx b p) x false g1) := fun g1 E1 y1 => by
    rw [s17_1_j, s17_1_eq]
    refine Sm.cf rfl ?_
    rw [s17_2_j, s17_2_eq]
    refine Sm.b (y1.ldON 0 rfl rfl) ?_
    refine Sm.cv (m55_w W (by omega) (by omega)) (t55 (by omega) (H.ext E1) x) fun v2 g2 X2 R2 => ?_
    obtain rfl : v2 = (hd b x).1.v := R2
    have y2 := y1.ext X2
    have E2 := E1.trans (X2.mono E1.size)
    refine Sm.b rfl ?_
    refine Sm.b rfl ?_
    rw [wr (x := x + (hd b x).1.s) (by omega) (by omega), wr (x := x + (hd b x).1.s + 1) (by omega) (by omega)]
    exact ih f _ g2 hc' hL' hpL (by omega) E2 y2
   by_cases hk1 : (hd b x).1.k = 1
   ·refine Sm.ct (beq_iff_eq.2 hk1) ?_
    refine Sm.b (y1.ldON 0 rfl rfl) ?_
    refine Sm.cv (txt_nc C hqT hk1).1 (t60 (by omega) (H.ext E1) x) fun v2 g2 X2 R2 => ?_
    obtain rfl : v2 = .string (tx b x) := R2
    have y2 := y1.ext X2
    have E2 := E1.trans (X2.mono E1.size)
    refine Sm.b rfl ?_
    rw [ba_toList, decide_eq_true hk1, Bool.true_and]
    by_cases ht : tx b x = tx b p
    ·rw [decide_eq_true ht, s17_1_j, s17_1_eq]
     refine Sm.ct rfl ?_
     exact Sm.fin E2 rfl
    ·rw [decide_eq_false ht]
     exact go g2 E2 y2
   ·refine Sm.cf (beq_eq_false_iff_ne.2 hk1) ?_
    rw [decide_eq_false hk1, Bool.false_and]
    exact go g1 E1 y1
  ·have e : x = p := by omega
   subst e
   refine Sm.cf (decide_eq_false c) ?_
   rw [decide_eq_true hk, decide_eq_true rfl]
   exact Sm.fin E0 rfl
theorem u17 (hD : 20002 ≤ D) (C : Nc b T) (H : ArH h wv rv b) {p : Int} (hp : p ∈ T) (hk : (hd b p).1.k = 1) : SmR h (En (Value.int .i64)) (some (fsT b T p)) (call Tp Ms D 17 [arV wv rv b, .int .i64 p] h) := by
 obtain ⟨D, rfl⟩ : ∃ d, D = d + 1 := ⟨D - 1, by omega⟩
 rw [c17, e17]
 have y0 := Cx.start0 h
 have E0 := Ext.refl h.size h
 have to := C.to
 have tl := C.tl
 refine Sm.b H.cells ?_
 refine Sm.n y0 fun p2 g1 X1 y1 => ?_
 have E1 := E0.trans (X1.mono E0.size)
 refine Sm.b (y1.ldON 0 rfl rfl) ?_
 refine Sm.cv (txt_nc C hp hk).1 (t60 (by omega) (H.ext E1) p) fun v2 g2 X2 R2 => ?_
 obtain rfl : v2 = .string (tx b p) := R2
 have y2 := y1.ext X2
 have E2 := E1.trans (X2.mono E1.size)
 refine Sm.b rfl ?_
 refine Sm.b (y2.ldON 0 rfl rfl) ?_
 refine Sm.b rfl ?_
 refine Sm.b (y2.ldO 0 2 rfl rfl) ?_
 refine Sm.b rfl ?_
 refine Sm.cv (m88_eq (by omega) C.semi) (t88 (by omega) (H.ext E2) b.to) fun v3 g3 X3 R3 => ?_
 obtain rfl : v3 = .int .i64 (b.to * b.semi + 1) := R3
 have y3 := y2.ext X3
 have E3 := E2.trans (X3.mono E2.size)
 refine Sm.b rfl ?_
 exact u17_0 (N := D) (by omega) C H hk T D _ g3 C.t (fun _ h => h) hp (by omega) E3 y3
end
open Go Go.AH Go.AM
instance (a : Ar) (p : Int) : Decidable (other a p) := by unfold other; infer_instance
def PRow (pa : Nat) (wv rv : Value) (a : Ar) : ORow := ⟨pa, pa, 29, true, arCells wv rv a⟩
theorem mul_bd {t s : Int} (ht : t = 0 ∨ t = 1) (hs : 256 ≤ s ∧ s ≤ 4000) : 0 ≤ (1 - t) * s ∧ (1 - t) * s ≤ 4000 ∧ 0 ≤ (2 - t) * s ∧ (2 - t) * s ≤ 8000 := by
 rcases ht with rfl | rfl
 ·rw [show (1 - (0 : Int)) * s = s by omega, show (2 - (0 : Int)) * s = 2 * s by omega]; omega
 ·rw [show (1 - (1 : Int)) * s = 0 by omega, show (2 - (1 : Int)) * s = s by omega]; omega
theorem m110_o {a : Ar} (hs : 256 ≤ a.semi ∧ a.semi ≤ 4000) (ht : a.to = 0 ∨ a.to = 1) (p : Int) : m110 a p = some (decide (other a p)) := by
 have B := mul_bd ht hs
 unfold m110 other
 rw [m67_eq (by omega), oBs, m64_eq (by omega) hs, oBs, oBs, m65_eq (by omega) hs, oBs, show 1 - a.to + 1 = 2 - a.to by omega, wr (by omega) (by omega), m63_eq, oBs]
theorem Cx.cpy {b : Nat} {g : AHeap} {F : List FRow} {O : List ORow} {M : List MRow} (y : Cx b g F O M) (n : Nat) {i rt : Nat} {W : List Int} (e : O[n]? = some ⟨i, rt, 74, true, W.map (Value.int .u64)⟩) {q p k : Nat} (hp : p + k ≤ W.length) (hq : q + k ≤ W.length) (hk : 0 < k) :
  ∃ g', aCopy g 1 (slc i q k) (slc i p k) = some (.int .i64 (k : Int), g') ∧ Ext b g g' ∧ Cx b g' F (O.set n ⟨i, rt, 74, true, (cpW W q p k).map (Value.int .u64)⟩) M := by
 obtain ⟨⟨ep, a⟩, hb⟩ := (y.ow _ (List.mem_of_getElem? e)).1 rfl
 have ha : g.at? i = some ⟨rt, ep, false, 74, W.map (Value.int .u64)⟩ := a
 have ho := at?_obj ha
 have hsrc : aSrc g 1 (slc i p k) = some (k, ((W.map (Value.int .u64)).drop p).take k) := by
  have r := (y.rowO n e).1
  obtain ⟨o, e1, e2⟩ := r
  rw [ha] at e1; cases e1
  simp [aSrc, slc, AHeap.rd, ha]
  omega
 have hs : splice (W.map (Value.int .u64)) q ((((W.map (Value.int .u64)).drop p).take k).take k) = (cpW W q p k).map (Value.int .u64) := by
  have h1 : (((W.map (Value.int .u64)).drop p).take k).take k = ((W.drop p).take k).map (Value.int .u64) := by
   rw [List.take_take, Nat.min_self, List.map_take, List.map_drop]
  rw [h1]
  unfold splice cpW
  have h2 : (((W.drop p).take k).map (Value.int .u64)).length = k := by simp; omega
  rw [h2, List.map_append, List.map_append, List.map_take, List.map_drop, List.map_take, List.map_drop, List.append_assoc]
 have E : Ext b g (g.put i ⟨rt, ep, false, 74, W.map (Value.int .u64)⟩ ((cpW W q p k).map (Value.int .u64))) := Ext.put (Nat.le_trans hb ho.2.2.1) hb _
 refine ⟨_, ?_, E, y.turn n e E ⟨_, at?_put_same ha _⟩ (fun l q hq hr => at?_put_other hq (fun h => ?_) _ (fun hh => hr hh.2)) rfl⟩
 ·show (aSrc g 1 (slc i p k)).bind _ = _
  rw [hsrc, oBs]
  show (if min k k = 0 then _ else _) = _
  rw [Nat.min_self, if_neg (by omega), ha]
  show (if _ then _ else _) = _
  rw [if_pos ⟨rfl, by simp; omega⟩, Nat.mul_one, hs]
 ·subst h; rw [ha] at hq; cases hq; exact hr rfl
theorem Cx.subA {b : Nat} {g : AHeap} {F : List FRow} {O : List ORow} {M : List MRow} (y : Cx b g F O M) (n : Nat) {i rt m : Nat} {t : TypeId} {cs : List Value} (e : O[n]? = some ⟨i, rt, t, true, cs⟩) {lo hi : Int} {q k : Nat} (h0 : lo = (q : Int)) (h1 : hi = ((q + k : Nat) : Int)) (h2 : q + k ≤ m) (hm : m ≤ most) (hk : 0 < m) :
  aSub g t (slc i 0 m) (some (.int .i64 lo)) (some (.int .i64 hi)) 1 = some (slc i q k) := by
 have e1 := ((y.slE n e (LV.mk i m)) i 0 m m rfl hk).2
 subst h0 h1
 have b1 : aBound (.int .i64 ((q : Int) + (k : Int))) m = some (q + k) := by
  show (if _ then _ else _) = _
  rw [if_pos ⟨by omega, by omega⟩]; exact congrArg some (by omega)
 have b2 : aBound (.int .i64 (q : Int)) (q + k) = some q := by
  show (if _ then _ else _) = _
  rw [if_pos ⟨by omega, by omega⟩]; rfl
 rw [show ((q + k : Nat) : Int) = (q : Int) + k by omega]
 simp [aSub, slc, e1, b1, b2]
def RPV (h : AHeap) (pa : Nat) (wv rv : Value) (iw rw : Nat) (lw : Bool) (ir rr : Nat) (lr : Bool) (n : Nat) (rs : List Vl) (F : List FRow) (Q : List ORow) (M : List MRow) : Ar × Vl → Value → AHeap → Prop :=
 fun r v g => v = r.2.v ∧ r.1.ws.length = n ∧ r.1.rs = rs ∧ Cx h.size g F (PRow pa wv rv r.1 :: WRow iw rw lw r.1 :: RRow ir rr lr r.1 :: Q) M
section
variable {D N : Nat} {h : AHeap} {F : List FRow} {Q : List ORow} {M : List MRow} {iw rw ir rr pa : Nat} {lw lr : Bool} {wv rv : Value}
theorem u92_back {a : Ar} {v : Vl} {p2 p4 : Nat} {c4 : List Value} (h4 : c4.length = 2) (g : AHeap) (E0 : Ext h.size h g)
  (y0 : Cx h.size g F (⟨p4, p4, 42, true, c4⟩ :: ⟨p2, p2, 42, true, [.int .i64 v.t, .int .i64 v.n]⟩ :: PRow pa wv rv a :: WRow iw rw lw a :: RRow ir rr lr a :: Q) M) :
  SmR h (RPV h pa wv rv iw rw lw ir rr lr a.ws.length a.rs F Q M) (some (a, v)) (s92_0 hk0 (call Tp Ms D) N (ptr pa 0) (ptr p2 0) (ptr p4 0) true g) := by
 rw [s92_0_j, s92_0_eq]
 refine Sm.ct rfl ?_
 refine Sm.b (y0.ldON 1 rfl rfl) ?_
 refine Sm.sts y0 0 [.int .i64 v.t, .int .i64 v.n] rfl rfl rfl (by rw [h4]; simp) (by unfold splice; simp [h4]) fun g2 X2 y2 => ?_
 have E2 := E0.trans X2
 refine Sm.b (y2.ldON 0 rfl rfl) ?_
 exact Sm.fin E2 ⟨rfl, rfl, rfl, y2.pick (.cons _ (.cons _ (List.Sublist.refl _)))⟩
theorem u92_end {b : Ar} {v : Vl} {n : Nat} {rs : List Vl} (hn : b.ws.length = n) (hrs : b.rs = rs) {p2 p4 : Nat} {c4 : List Value} (h4 : c4.length = 2) (g : AHeap) (E0 : Ext h.size h g)
  (y0 : Cx h.size g F (⟨p4, p4, 42, true, c4⟩ :: ⟨p2, p2, 42, true, [.int .i64 v.t, .int .i64 v.n]⟩ :: PRow pa wv rv b :: WRow iw rw lw b :: RRow ir rr lr b :: Q) M) :
  SmR h (RPV h pa wv rv iw rw lw ir rr lr n rs F Q M) (some (b, v)) ((aLdN g (ptr p2 0) 2).bind fun v37 => (aSt g (ptr p4 0) v37 2).bind fun h38 => (aLdN h38 (ptr p4 0) 2).bind fun v39 => some (v39, h38)) := by
 refine Sm.b (y0.ldON 1 rfl rfl) ?_
 refine Sm.sts y0 0 [.int .i64 v.t, .int .i64 v.n] rfl rfl rfl (by rw [h4]; simp) (by unfold splice; simp [h4]) fun g2 X2 y2 => ?_
 have E2 := E0.trans X2
 refine Sm.b (y2.ldON 0 rfl rfl) ?_
 exact Sm.fin E2 ⟨rfl, hn, hrs, y2.pick (.cons _ (.cons _ (List.Sublist.refl _)))⟩
theorem u92 (hD : 20 ≤ D) {a : Ar} (hw : LV wv iw lw a.ws.length) (hr : LV rv ir lr a.rs.length) (v : Vl) (g0 : AHeap) (E0 : Ext h.size h g0) (y0 : Cx h.size g0 F (PRow pa wv rv a :: WRow iw rw lw a :: RRow ir rr lr a :: Q) M) :
  SmR h (RPV h pa wv rv iw rw lw ir rr lr a.ws.length a.rs F Q M) (fwdP a v) (call Tp Ms D 92 [ptr pa 0, v.v] g0) := by
 obtain ⟨D, rfl⟩ : ∃ d, D = d + 1 := ⟨D - 1, by omega⟩
 rw [c92, e92]
 refine Sm.b rfl ?_
 refine Sm.n y0 fun p2 g1 X1 y1 => ?_
 have E1 := E0.trans (X1.mono E0.size)
 refine Sm.n y1 fun p4 g2 X2 y2 => ?_
 have E2 := E1.trans (X2.mono E1.size)
 refine Sm.b rfl ?_
 refine Sm.b rfl ?_
 refine Sm.b (y2.ldO 2 4 rfl rfl) ?_
 refine Sm.b rfl ?_
 unfold fwdP
 by_cases hc : a.cyc = true
 case neg =>
  refine Sm.ct (by rw [Bool.not_eq_true] at hc; rw [hc]; rfl) ?_
  by_cases hk : kindOf v.t = 0
  ·rw [if_pos hk]; exact u92_back rfl g2 E2 y2
  ·rw [if_neg hk, if_pos (fun G => hc G.2.1)]; exact Sm.none
 refine Sm.cf (by rw [hc]; rfl) ?_
 refine Sm.b (y2.ldON 1 rfl rfl) ?_
 have e112 : m112 v = some (kindOf v.t != 0) := by rw [m112_eq]; exact m100_eq v
 refine Sm.cv e112 (t112 (by omega) v) fun v3 g3 X3 R3 => ?_
 obtain rfl : v3 = .bool (kindOf v.t != 0) := R3
 have y3 := y2.ext X3
 have E3 := E2.trans (X3.mono E2.size)
 refine Sm.b rfl ?_
 by_cases hk : kindOf v.t = 0
 ·rw [if_pos hk]
  refine Sm.ct (by rw [hk]; rfl) ?_
  exact u92_back rfl g3 E3 y3
 rw [if_neg hk]
 refine Sm.cf (by rw [bne_iff_ne.2 hk]; rfl) ?_
 by_cases G : Gd a v.n
 case neg => rw [if_pos G]; exact Sm.none
 rw [if_neg (fun x => x G)]
 obtain ⟨W, hcyc, hs, hlen, hto, hn, hdv⟩ := G
 refine Sm.b rfl ?_
 refine Sm.b (y3.ldO 1 1 rfl rfl) ?_
 refine Sm.b rfl ?_
 have H3 : ArH g3 wv rv a := Cx.arH y3 3 4 rfl rfl hw hr
 refine Sm.cv (m110_o hs hto v.n) (t110 (by omega) H3 (y3.rowO 2 rfl) v.n) fun v4 g4 X4 R4 => ?_
 obtain rfl : v4 = .bool (decide (other a v.n)) := R4
 have y4 := y3.ext X4
 have E4 := E3.trans (X4.mono E3.size)
 refine Sm.b rfl ?_
 by_cases ho : other a v.n
 case neg =>
  rw [if_pos (hdv.2 ho), decide_eq_false ho]
  exact u92_back rfl g4 E4 y4
 rw [if_neg (fun x => hdv.1 x ho), decide_eq_true ho, s92_0_j, s92_0_eq]
 refine Sm.cf rfl ?_
 rw [s92_1_j, s92_1_eq]
 obtain ⟨hlw, hwv⟩ := LV.up hw (by omega)
 subst hlw hwv
 refine Sm.b rfl ?_
 refine Sm.b rfl ?_
 refine Sm.b (y4.ldO 2 0 rfl rfl) ?_
 refine Sm.b rfl ?_
 refine Sm.b (y4.ldO 1 1 rfl rfl) ?_
 refine Sm.b rfl ?_
 obtain ⟨w, ew, _, _, _, e102⟩ := hd_exw W (p := v.n) (by omega) (by omega)
 obtain ⟨a1, a2⟩ := y4.atS 3 (Value.int .u64) a.ws rfl (LV.mk iw _) ew
 refine Sm.b a1 ?_
 refine Sm.b a2 ?_
 refine Sm.b rfl ?_
 refine Sm.cv e102 (t102 (by omega) w) fun v6 g6 X6 R6 => ?_
 obtain rfl : v6 = eIB (fw a v.n) := R6
 have y6 := y4.ext X6
 have E6 := E4.trans (X6.mono E4.size)
 refine Sm.b rfl ?_
 refine Sm.b rfl ?_
 refine Sm.b rfl ?_
 refine Sm.b rfl ?_
 by_cases hf : (fw a v.n).2 = true
 ·rw [if_pos hf]
  refine Sm.ct hf ?_
  refine Sm.b rfl ?_
  refine Sm.sts y6 1 [.int .i64 v.t, .int .i64 (fw a v.n).1] rfl rfl rfl (by simp) rfl fun g7 X7 y7 => ?_
  exact u92_end (v := ⟨v.t, (fw a v.n).1⟩) rfl rfl rfl g7 (E6.trans X7) y7
 rw [if_neg hf]
 refine Sm.cf (by rw [Bool.not_eq_true] at hf; exact hf) ?_
 by_cases Gc' : Gc a v.n
 case neg => rw [if_pos Gc']; exact Sm.none
 rw [if_neg (fun x => x Gc')]
 obtain ⟨ok, x1, x2, x3, x4, x5⟩ := Gc'
 have s := hok_s (hd_hok ok)
 refine Sm.b rfl ?_
 refine Sm.b (y6.ldO 1 1 rfl rfl) ?_
 refine Sm.b rfl ?_
 have H6 : ArH g6 (slc iw 0 a.ws.length) rv a := Cx.arH y6 3 4 rfl rfl (LV.mk iw _) hr
 refine Sm.cv (m72_w W (by omega) (by omega)) (t72 (by omega) H6 (y6.rowO 2 rfl) v.n) fun v7 g7 X7 R7 => ?_
 obtain rfl : v7 = (hd a v.n).1.v := R7
 have y7 := y6.ext X7
 have E7 := E6.trans (X7.mono E6.size)
 obtain ⟨k, hkk⟩ : ∃ k : Nat, (hd a v.n).1.s + 1 = (k : Int) := ⟨((hd a v.n).1.s + 1).toNat, by omega⟩
 obtain ⟨q, hq⟩ : ∃ q : Nat, a.top = (q : Int) := ⟨a.top.toNat, by omega⟩
 obtain ⟨p, hp⟩ : ∃ p : Nat, v.n = (p : Int) := ⟨v.n.toNat, by omega⟩
 have ml : a.ws.length ≤ most := by unfold most; omega
 refine Sm.b rfl ?_
 refine Sm.b rfl ?_
 refine Sm.b rfl ?_
 refine Sm.b rfl ?_
 refine Sm.b (y7.ldO 2 0 rfl rfl) ?_
 refine Sm.b rfl ?_
 refine Sm.b rfl ?_
 refine Sm.b (y7.ldO 2 3 rfl rfl) ?_
 refine Sm.b rfl ?_
 refine Sm.b rfl ?_
 refine Sm.b rfl ?_
 refine Sm.b (y7.ldO 2 3 rfl rfl) ?_
 refine Sm.b rfl ?_
 rw [wr (x := (hd a v.n).1.s + 1) (by omega) (by omega), wr (x := a.top + ((hd a v.n).1.s + 1)) (by omega) (by omega)]
 refine Sm.b (Cx.subA y7 3 rfl (q := q) (k := k) hq (by omega) (by omega) ml (by omega)) ?_
 refine Sm.b rfl ?_
 refine Sm.b rfl ?_
 refine Sm.b (y7.ldO 2 0 rfl rfl) ?_
 refine Sm.b rfl ?_
 refine Sm.b (y7.ldO 1 1 rfl rfl) ?_
 refine Sm.b rfl ?_
 refine Sm.b rfl ?_
 refine Sm.b (y7.ldO 1 1 rfl rfl) ?_
 refine Sm.b rfl ?_
 rw [wr (x := v.n + ((hd a v.n).1.s + 1)) (by omega) (by omega)]
 refine Sm.b (Cx.subA y7 3 rfl (q := p) (k := k) hp (by omega) (by omega) ml (by omega)) ?_
 obtain ⟨g8, e8, X8, y8⟩ := Cx.cpy y7 3 (W := a.ws) (q := q) (p := p) (k := k) rfl (by omega) (by omega) (by omega)
 have E8 := E7.trans X8
 refine Sm.b e8 ?_
 have cl : (cpW a.ws q p k).length = a.ws.length := cpW_len (by omega) (by omega)
 refine Sm.b rfl ?_
 refine Sm.b rfl ?_
 refine Sm.b rfl ?_
 refine Sm.b (y8.ldO 2 0 rfl rfl) ?_
 refine Sm.b rfl ?_
 refine Sm.b (y8.ldO 1 1 rfl rfl) ?_
 refine Sm.b rfl ?_
 refine Sm.b rfl ?_
 refine Sm.b rfl ?_
 refine Sm.b (y8.ldO 2 3 rfl rfl) ?_
 refine Sm.b rfl ?_
 refine Sm.b (show aIdx (slc iw 0 a.ws.length) (.int .i64 v.n) 1 = some (ptr iw v.n.toNat) by
  simp only [aIdx, slc]
  rw [if_pos (by omega)]; simp) ?_
 rw [orW (by omega) (by omega)]
 refine Sm.sts y8 3 ((cpA a v.n).ws.map (Value.int .u64)) (vs := [.int .u64 (9223372036854775808 + a.top)]) rfl rfl rfl (by simp [cl]; omega) (by
  rw [map_set (by rw [cl]; omega)]
  unfold cpA
  rw [show ((hd a v.n).1.s + 1).toNat = k by omega, show a.top.toNat = q by omega, show v.n.toNat = p by omega]) fun g9 X9 y9 => ?_
 have E9 := E8.trans X9
 refine Sm.b rfl ?_
 refine Sm.b rfl ?_
 refine Sm.b (y9.ldO 2 3 rfl rfl) ?_
 refine Sm.b rfl ?_
 refine Sm.b rfl ?_
 refine Sm.sts y9 1 [.int .i64 v.t, .int .i64 a.top] rfl rfl rfl (by simp) rfl fun g10 X10 y10 => ?_
 have E10 := E9.trans X10
 refine Sm.b rfl ?_
 refine Sm.b rfl ?_
 refine Sm.b (y10.ldO 2 3 rfl rfl) ?_
 refine Sm.b rfl ?_
 refine Sm.b rfl ?_
 refine Sm.b rfl ?_
 rw [wr (x := a.top + ((hd a v.n).1.s + 1)) (by omega) (by omega)]
 refine Sm.sts y10 2 (arCells (slc iw 0 a.ws.length) rv { a with top := a.top + ((hd a v.n).1.s + 1) }) (vs := [.int .i64 (a.top + ((hd a v.n).1.s + 1))]) rfl rfl rfl (by simp [arCells]) rfl fun g11 X11 y11 => ?_
 have E11 := E10.trans X11
 refine Sm.b rfl ?_
 refine Sm.b rfl ?_
 refine Sm.b (y11.ldO 2 7 rfl rfl) ?_
 refine Sm.b rfl ?_
 refine Sm.b rfl ?_
 refine Sm.b rfl ?_
 show SmR h _ _ ((aSt g11 (ptr pa 7) (.int .i64 (IntKind.i64.wrap (a.cop + ((hd a v.n).1.s + 1)))) 1).bind _)
 rw [wr (x := a.cop + ((hd a v.n).1.s + 1)) (by omega) (by omega)]
 refine Sm.sts y11 2 (arCells (slc iw 0 a.ws.length) rv (cpA a v.n)) (vs := [.int .i64 (a.cop + ((hd a v.n).1.s + 1))]) rfl rfl rfl (by simp [arCells]) rfl fun g12 X12 y12 => ?_
 have E12 := E11.trans X12
 have el : (cpA a v.n).ws.length = a.ws.length := cpA_len s.1 (by omega) (by omega) (by omega) (by omega)
 exact u92_end (b := cpA a v.n) (v := ⟨v.t, a.top⟩) el rfl rfl g12 E12 y12
end
open Go Go.AH Go.AM
theorem m114_w {a : Ar} (W : wok a) (hl : (a.ws.length : Int) ≤ 8000) {i : Int} (h0 : 0 ≤ i) (h1 : i + 1 < a.ws.length) (h : (rv a i).2 = true) : m114 a i = some (rv a i).1 := m114_rv W.ari hl h0 h1 h
theorem rv_t {a : Ar} {i : Int} (h : (rv a i).2 = true) : rd a.ws i = some (rv a i).1.t := by
 unfold rv at h ⊢
 cases e1 : rd a.ws i with
 | none => rw [e1] at h; cases h
 | some w =>
  cases e2 : rd a.ws (i + 1) with
  | none => rw [e1, e2] at h; cases h
  | some x =>
   rw [e1, e2] at h
   dsimp only at h ⊢
   by_cases c : w ≤ 15 ∧ vok ⟨w, IntKind.i64.wrap x⟩ = true
   ·rw [if_pos c]
   ·rw [if_neg c] at h; cases h
def setA (a : Ar) (i : Int) (v : Vl) : Ar := { a with ws := (a.ws.set i.toNat (IntKind.u64.wrap v.t)).set (i + 1).toNat (IntKind.u64.wrap v.n) }
theorem setA_len (a : Ar) (i : Int) (v : Vl) : (setA a i v).ws.length = a.ws.length := by simp [setA]
theorem setA_put {a : Ar} {i : Int} {v : Vl} (e : rd a.ws i = some v.t) (h : 0 ≤ v.t ∧ v.t < 18446744073709551616) : setA a i v = putA a i v.n := by
 obtain ⟨h0, h1, h2⟩ := rd_some e
 have : a.ws.set i.toNat (IntKind.u64.wrap v.t) = a.ws := by
  rw [wu h.1 h.2]
  refine List.ext_getElem? fun j => ?_
  by_cases c : j = i.toNat
  ·subst c
   rw [List.getElem?_set_self (by omega)]
   exact h2.symm
  ·rw [List.getElem?_set_ne (by omega)]
 unfold setA putA
 rw [this]
def RP0 (h : AHeap) (pa : Nat) (wv rv : Value) (iw rw : Nat) (lw : Bool) (ir rr : Nat) (lr : Bool) (n m : Nat) (F : List FRow) (Q : List ORow) (M : List MRow) : Ar → Value → AHeap → Prop :=
 fun r v g => v = .tuple (List.toArray []) ∧ r.ws.length = n ∧ r.rs.length = m ∧ Cx h.size g F (PRow pa wv rv r :: WRow iw rw lw r :: RRow ir rr lr r :: Q) M
def RPI (h : AHeap) (pa : Nat) (wv rv : Value) (iw rw : Nat) (lw : Bool) (ir rr : Nat) (lr : Bool) (n : Nat) (rs : List Vl) (F : List FRow) (Q : List ORow) (M : List MRow) : Ar × Nat → Value → AHeap → Prop :=
 fun r v g => v = .int .i64 (r.2 : Int) ∧ r.1.ws.length = n ∧ r.1.rs = rs ∧ Cx h.size g F (PRow pa wv rv r.1 :: WRow iw rw lw r.1 :: RRow ir rr lr r.1 :: Q) M
section
variable {D N : Nat} {h : AHeap} {F : List FRow} {Q : List ORow} {M : List MRow} {iw rw ir rr pa : Nat} {lw lr : Bool} {wv rv : Value}
theorem u33 (hD : 1 ≤ D) {a : Ar} (hw : LV wv iw lw a.ws.length) {i : Int} (v : Vl) (h0 : 0 ≤ i) (h1 : i + 1 < a.ws.length) (hl : (a.ws.length : Int) ≤ 8000) (g0 : AHeap) (E0 : Ext h.size h g0) (y0 : Cx h.size g0 F (PRow pa wv rv a :: WRow iw rw lw a :: RRow ir rr lr a :: Q) M) :
  SmR h (RP0 h pa wv rv iw rw lw ir rr lr a.ws.length a.rs.length F Q M) (some (setA a i v)) (call Tp Ms D 33 [ptr pa 0, .int .i64 i, v.v] g0) := by
 obtain ⟨D, rfl⟩ : ∃ d, D = d + 1 := ⟨D - 1, by omega⟩
 rw [c33, e33]
 refine Sm.b rfl ?_
 refine Sm.n y0 fun p2 g1 X1 y1 => ?_
 have E1 := E0.trans (X1.mono E0.size)
 obtain ⟨hlw, hwv⟩ := LV.up hw (by omega)
 subst hlw hwv
 refine Sm.b rfl ?_
 refine Sm.b rfl ?_
 refine Sm.b (y1.ldO 1 0 rfl rfl) ?_
 refine Sm.b rfl ?_
 refine Sm.b (y1.ldO 0 0 rfl rfl) ?_
 refine Sm.b rfl ?_
 refine Sm.b (show aIdx (slc iw 0 a.ws.length) (.int .i64 i) 1 = some (ptr iw i.toNat) by
  simp only [aIdx, slc]
  rw [if_pos (by omega)]; simp) ?_
 refine Sm.sts y1 2 ((a.ws.set i.toNat (IntKind.u64.wrap v.t)).map (Value.int .u64)) (vs := [.int .u64 (IntKind.u64.wrap v.t)]) rfl rfl rfl (by simp; omega) (map_set (by omega)) fun g2 X2 y2 => ?_
 have E2 := E1.trans X2
 refine Sm.b rfl ?_
 refine Sm.b rfl ?_
 refine Sm.b (y2.ldO 1 0 rfl rfl) ?_
 refine Sm.b rfl ?_
 refine Sm.b (y2.ldO 0 1 rfl rfl) ?_
 refine Sm.b rfl ?_
 rw [wr (x := i + 1) (by omega) (by omega)]
 refine Sm.b (show aIdx (slc iw 0 a.ws.length) (.int .i64 (i + 1)) 1 = some (ptr iw (i + 1).toNat) by
  simp only [aIdx, slc]
  rw [if_pos (by omega)]; simp) ?_
 refine Sm.sts y2 2 ((setA a i v).ws.map (Value.int .u64)) (vs := [.int .u64 (IntKind.u64.wrap v.n)]) rfl rfl rfl (by simp; omega) (map_set (by simp; omega)) fun g3 X3 y3 => ?_
 have E3 := E2.trans X3
 refine Sm.fin E3 ⟨rfl, setA_len a i v, rfl, ?_⟩
 exact y3.pick (.cons _ (List.Sublist.refl _))
theorem u93 (hD : 1 ≤ D) {a : Ar} (g0 : AHeap) (E0 : Ext h.size h g0) (y0 : Cx h.size g0 F (PRow pa wv rv a :: WRow iw rw lw a :: RRow ir rr lr a :: Q) M) :
  SmR h (RP0 h pa wv rv iw rw lw ir rr lr a.ws.length a.rs.length F Q M) (some (overP a)) (call Tp Ms D 93 [ptr pa 0] g0) := by
 obtain ⟨D, rfl⟩ : ∃ d, D = d + 1 := ⟨D - 1, by omega⟩
 rw [c93, e93]
 refine Sm.b rfl ?_
 refine Sm.b rfl ?_
 refine Sm.b (y0.ldO 0 4 rfl rfl) ?_
 refine Sm.b rfl ?_
 unfold overP
 by_cases hc : a.cyc = true
 ·refine Sm.ct hc ?_
  refine Sm.b rfl ?_
  refine Sm.b rfl ?_
  refine Sm.b (y0.ldO 0 5 rfl rfl) ?_
  refine Sm.b rfl ?_
  refine Sm.b rfl ?_
  refine Sm.b rfl ?_
  refine Sm.b (y0.ldO 0 3 rfl rfl) ?_
  refine Sm.b rfl ?_
  by_cases hs : a.scan = a.top
  ·rw [if_pos ⟨hc, hs⟩, beq_iff_eq.2 hs, s93_0_j, s93_0_eq]
   refine Sm.ct rfl ?_
   refine Sm.b rfl ?_
   refine Sm.b rfl ?_
   refine Sm.sts y0 0 (arCells wv rv { a with cyc := false }) (vs := [.bool false]) rfl rfl rfl (by simp [arCells]) rfl fun g3 X3 y3 => ?_
   have E3 := E0.trans X3
   refine Sm.b rfl ?_
   refine Sm.b rfl ?_
   refine Sm.sts y3 0 (arCells wv rv { a with cyc := false, scan := 0 }) (vs := [.int .i64 0]) rfl rfl rfl (by simp [arCells]) rfl fun g4 X4 y4 => ?_
   have E4 := E3.trans X4
   refine Sm.b rfl ?_
   refine Sm.b rfl ?_
   refine Sm.sts y4 0 (arCells wv rv { a with cyc := false, scan := 0, old := 0 }) (vs := [.int .i64 0]) rfl rfl rfl (by simp [arCells]) rfl fun g5 X5 y5 => ?_
   have E5 := E4.trans X5
   refine Sm.b rfl ?_
   refine Sm.b rfl ?_
   refine Sm.sts y5 0 (arCells wv rv { a with cyc := false, scan := 0, old := 0, cop := 0 }) (vs := [.int .i64 0]) rfl rfl rfl (by simp [arCells]) rfl fun g6 X6 y6 => ?_
   have E6 := E5.trans X6
   exact Sm.fin E6 ⟨rfl, rfl, rfl, y6⟩
  ·rw [if_neg (fun x => hs x.2), beq_eq_false_iff_ne.2 hs, s93_0_j, s93_0_eq]
   refine Sm.cf rfl ?_
   exact Sm.fin E0 ⟨rfl, rfl, rfl, y0⟩
 ·rw [if_neg (fun x => hc x.1)]
  refine Sm.cf (by rw [Bool.not_eq_true] at hc; exact hc) ?_
  rw [s93_0_j, s93_0_eq]
  refine Sm.cf rfl ?_
  exact Sm.fin E0 ⟨rfl, rfl, rfl, y0⟩
theorem u91_2 (hD : 20001 ≤ D) {n : Nat} {rs : List Vl} (hw : LV wv iw lw n) (hr : LV rv ir lr rs.length) {p20 il rl : Nat} {ll : Bool} (hd0 : Hd) (ls : List Int) {lsv : Value} (hx : LV lsv il ll ls.length) (hll : ls.length ≤ 256) (sc : Int) (d n1 f : Nat) (m : Int)
  (IH : ∀ (a : Ar) (g : AHeap), a.ws.length = n → a.rs = rs → Ext h.size h g → Cx h.size g F (PRow pa wv rv a :: WRow iw rw lw a :: RRow ir rr lr a :: Q) M →
   SmR h (RPI h pa wv rv iw rw lw ir rr lr n rs F Q M) (stepP f a (d + 1)) (s91_0 hk0 (call Tp Ms D) N n1 (ptr pa 0) m ((d + 1 : Nat) : Int) g)) (hs : 0 ≤ sc ∧ sc ≤ 8000) (hd1 : 0 ≤ hd0.s ∧ hd0.s ≤ 256) (hdd : d ≤ 8000) :
  ∀ (n2 i : Nat) (a : Ar) (g : AHeap), ls.length - i < n2 → i ≤ ls.length → a.ws.length = n → a.rs = rs → Ext h.size h g →
   Cx h.size g F (⟨il, rl, 3, ll, ls.map (Value.int .i64)⟩ :: ⟨p20, p20, 44, true, [.int .i64 hd0.k, .int .i64 hd0.s, .int .i64 hd0.n]⟩ :: PRow pa wv rv a :: WRow iw rw lw a :: RRow ir rr lr a :: Q) M →
   SmR h (RPI h pa wv rv iw rw lw ir rr lr n rs F Q M) ((slotsP (ls.drop i) a).bind fun a' => if a'.scan = sc then stepP f (overP { a' with scan := sc + hd0.s + 1 }) (d + 1) else none) (s91_2 hk0 (call Tp Ms D) N n1 n2 (ptr pa 0) m (d : Int) (ptr p20 0) lsv (ls.length : Int) (i : Int) g) := by
 intro n2
 induction n2 with
 | zero => intro _ _ _ h; exact absurd h (Nat.not_lt_zero _)
 | succ n2 ih =>
  intro i a g hf hi hn hrs E0 y0
  rw [s91_2_eq]
  have hw' : LV wv iw lw a.ws.length := by rw [hn]; exact hw
  have hr' : LV rv ir lr a.rs.length := by rw [hrs]; exact hr
  by_cases c : i < ls.length
  ·refine Sm.ct (decide_eq_true (by omega)) ?_
   rw [List.drop_eq_getElem_cons c]
   show SmR h _ (((slotP a ls[i]).bind fun a' => slotsP (ls.drop (i + 1)) a').bind _) _
   rw [Option.bind_assoc]
   have er : rd ls (i : Int) = some ls[i] := rd_at c
   generalize ls[i] = k at er
   unfold slotP
   by_cases G : Gs a k
   case neg => rw [if_pos G]; exact Sm.none
   rw [if_neg (fun x => x G)]
   obtain ⟨W, hl, s0, k1, k3, hb, hv⟩ := G
   obtain ⟨a1, a2⟩ := y0.atS 0 (Value.int .i64) ls rfl hx er
   refine Sm.b a1 ?_
   refine Sm.b a2 ?_
   refine Sm.b rfl ?_
   refine Sm.b rfl ?_
   refine Sm.b rfl ?_
   refine Sm.b (y0.ldO 2 5 rfl rfl) ?_
   refine Sm.b rfl ?_
   refine Sm.b rfl ?_
   refine Sm.b rfl ?_
   refine Sm.b (y0.ldO 2 5 rfl rfl) ?_
   refine Sm.b rfl ?_
   rw [wr (x := a.scan + k) (by omega) (by omega)]
   have H0 : ArH g wv rv a := Cx.arH y0 3 4 rfl rfl hw' hr'
   have hpos : 0 < a.ws.length := by omega
   have et := rv_t hv
   have tb := W _ (rd_mem et)
   have hvt : ∀ b v, Gw a b k v → 0 ≤ v.t ∧ v.t < 18446744073709551616 := fun b v G => by rw [G.2.2.2]; exact tb
   refine Sm.cv (m114_w W hl (by omega) hb hv) (t114 (by omega) H0 (y0.rowO 2 rfl) (a.scan + k)) fun v2 g2 X2 R2 => ?_
   obtain rfl : v2 = (Go.Proofs.YtnjnggejbpkgoaaGreat.rv a (a.scan + k)).1.v := R2
   have y2 := y0.ext X2
   have E2 := E0.trans (X2.mono E0.size)
   generalize Go.Proofs.YtnjnggejbpkgoaaGreat.rv a (a.scan + k) = rk at *
   refine Sm.b (agI (y2.ldO 2 5 rfl rfl)) ?_
   refine Sm.ct rfl ?_
   rw [Option.bind_assoc]
   refine Sm.cr (u92 (by omega) hw' hr' rk.1 g2 E2 (((y2.front 4 rfl).front 4 rfl).front 4 rfl)) fun r4 v4 g4 e4 E4 R4 => ?_
   obtain ⟨rfl, l4, rs4, y4⟩ := R4
   by_cases GW : Gw a r4.1 k r4.2
   case neg => rw [if_neg GW]; exact Sm.none
   rw [if_pos GW, oBs]
   have tb4 := hvt _ _ GW
   obtain ⟨b1, b2, b3, b4⟩ := GW
   have hw4 : LV wv iw lw r4.1.ws.length := by rw [l4]; exact hw'
   refine Sm.b (agI (show aLd1 g4 (ptr pa 5) = some (.int .i64 a.scan) by rw [← b1]; exact y4.ldO 0 5 rfl rfl)) ?_
   refine Sm.ct rfl ?_
   have es : setA r4.1 (a.scan + k) r4.2 = putA r4.1 (a.scan + k) r4.2.n := setA_put (by rw [b3, b4]) tb4
   refine Sm.cv rfl (u33 (by omega) hw4 (i := a.scan + k) r4.2 (by omega) (by omega) (by omega) g4 E4 y4) fun v5 g5 E5 R5 => ?_
   rw [es] at R5
   obtain ⟨rfl, l5, rs5, y5⟩ := R5
   rw [wr0 (by omega)]
   refine ih (i + 1) (putA r4.1 (a.scan + k) r4.2.n) g5 (by omega) c (by rw [l5, l4]; exact hn) (by show r4.1.rs = rs; rw [rs4]; exact hrs) E5 ?_
   exact (y5.front 4 rfl).front 4 rfl
  ·refine Sm.cf (decide_eq_false (by omega)) ?_
   rw [List.drop_eq_nil_of_le (by omega)]
   show SmR h _ (if a.scan = sc then _ else _) _
   by_cases hsc : a.scan = sc
   case neg => rw [if_neg hsc]; exact Sm.none
   rw [if_pos hsc]
   refine Sm.b rfl ?_
   refine Sm.b rfl ?_
   refine Sm.b (y0.ldO 2 5 rfl rfl) ?_
   refine Sm.b rfl ?_
   refine Sm.b rfl ?_
   refine Sm.b (y0.ldO 1 1 rfl rfl) ?_
   refine Sm.b rfl ?_
   refine Sm.b rfl ?_
   refine Sm.b rfl ?_
   rw [hsc, wr (x := sc + hd0.s) (by omega) (by omega), wr (x := sc + hd0.s + 1) (by omega) (by omega)]
   refine Sm.sts y0 2 (arCells wv rv { a with scan := sc + hd0.s + 1 }) (vs := [.int .i64 (sc + hd0.s + 1)]) rfl rfl rfl (by simp [arCells]) rfl fun g1 X1 y1 => ?_
   have E1 := E0.trans X1
   have y1' : Cx h.size g1 F (PRow pa wv rv { a with scan := sc + hd0.s + 1 } :: WRow iw rw lw { a with scan := sc + hd0.s + 1 } :: RRow ir rr lr { a with scan := sc + hd0.s + 1 } :: Q) M := y1.pick (.cons _ (.cons _ (List.Sublist.refl _)))
   refine Sm.cv rfl (u93 (by omega) g1 E1 y1') fun v2 g2 E2 R2 => ?_
   obtain ⟨rfl, l2, rs2, y2⟩ := R2
   rw [wr0 (by omega)]
   exact IH (overP { a with scan := sc + hd0.s + 1 }) g2 (by rw [over_ws]; exact hn) (by rw [over_rs]; exact hrs) E2 y2
theorem u91_0 (hD : 20001 ≤ D) (hN : 20000 ≤ N) {n : Nat} {rs : List Vl} (hw : LV wv iw lw n) (hr : LV rv ir lr rs.length) :
  ∀ (f n1 : Nat) (_ : f ≤ n1) (a : Ar) (d : Nat) (g : AHeap) (_ : a.ws.length = n) (_ : a.rs = rs) (_ : Ext h.size h g) (_ : Cx h.size g F (PRow pa wv rv a :: WRow iw rw lw a :: RRow ir rr lr a :: Q) M),
   SmR h (RPI h pa wv rv iw rw lw ir rr lr n rs F Q M) (stepP f a d) (s91_0 hk0 (call Tp Ms D) N n1 (ptr pa 0) (n : Int) (d : Int) g) := by
 intro f
 induction f with
 | zero => intros; exact Sm.none
 | succ f ih =>
  intro n1 hf a d g hn hrs E0 y0
  obtain ⟨n1, rfl⟩ : ∃ k, n1 = k + 1 := ⟨n1 - 1, by omega⟩
  have hw' : LV wv iw lw a.ws.length := by rw [hn]; exact hw
  have hr' : LV rv ir lr a.rs.length := by rw [hrs]; exact hr
  rw [s91_0_eq, stepP]
  refine Sm.b rfl ?_
  refine Sm.b rfl ?_
  refine Sm.b (y0.ldO 0 4 rfl rfl) ?_
  refine Sm.b rfl ?_
  by_cases hc : a.cyc = true
  ·rw [if_pos hc]
   refine Sm.ct hc ?_
   by_cases G : Gh a d
   case neg => rw [if_pos G]; exact Sm.none
   rw [if_neg (fun x => x G)]
   obtain ⟨W, d8, dn, hl, s0, s1, ok⟩ := G
   refine Sm.ct (decide_eq_true (by omega)) ?_
   rw [s91_1_j, s91_1_eq]
   refine Sm.b rfl ?_
   refine Sm.b rfl ?_
   refine Sm.b (y0.ldO 0 5 rfl rfl) ?_
   refine Sm.b rfl ?_
   have H0 : ArH g wv rv a := Cx.arH y0 1 2 rfl rfl hw' hr'
   refine Sm.cv (m72_w W s0 s1) (t72 (by omega) H0 (y0.rowO 0 rfl) a.scan) fun v1 g1 X1 R1 => ?_
   obtain rfl : v1 = (hd a a.scan).1.v := R1
   have y1 := y0.ext X1
   have E1 := E0.trans (X1.mono E0.size)
   refine Sm.n y1 fun p20 g2 X2 y2 => ?_
   have E2 := E1.trans (X2.mono E1.size)
   refine Sm.sts y2 0 [.int .i64 (hd a a.scan).1.k, .int .i64 (hd a a.scan).1.s, .int .i64 (hd a a.scan).1.n] rfl rfl rfl (by simp) rfl fun g3 X3 y3 => ?_
   have E3 := E2.trans X3
   refine Sm.b rfl ?_
   refine Sm.b (y3.ldO 0 0 rfl rfl) ?_
   refine Sm.b rfl ?_
   refine Sm.b rfl ?_
   refine Sm.b (y3.ldO 0 1 rfl rfl) ?_
   refine Sm.b rfl ?_
   have hk := hd_hok ok
   have S := slots_eq (k := (hd a a.scan).1.k) (s := (hd a a.scan).1.s) (n := (hd a a.scan).1.n) hk
   have L := slots_len (k := (hd a a.scan).1.k) (s := (hd a a.scan).1.s) (n := (hd a a.scan).1.n) hk
   have hs := hok_s hk
   refine Sm.cv S.2.1 (t113 (by omega) _ _) fun v4 g4 X4 R4 => ?_
   obtain ⟨il, rl, ll, hx, o4, z4⟩ := R4
   have y4 := y3.add X4 o4 z4
   have E4 := E3.trans (X4.mono E3.size)
   refine Sm.b hx.len ?_
   refine Sm.b rfl ?_
   have := u91_2 (D := D) (N := N) (h := h) (F := F) (Q := Q) (M := M) (pa := pa) hD hw hr (hd a a.scan).1 (slots (hd a a.scan).1.k (hd a a.scan).1.s) hx L a.scan d n1 f (n : Int)
    (fun b g' hb hbr E y => ih n1 (by omega) b (d + 1) g' hb hbr E y) (by omega) (by omega) (by omega) N 0 a g4 (by omega) (Nat.zero_le _) hn hrs E4 y4
   rw [List.drop_zero] at this
   exact this
  ·rw [if_neg hc]
   refine Sm.cf (by rw [Bool.not_eq_true] at hc; exact hc) ?_
   exact Sm.fin E0 ⟨rfl, hn, hrs, y0⟩
theorem u64 (hD : 20003 ≤ D) {a : Ar} (h1 : 1 ≤ a.ws.length) (hw : LV wv iw lw a.ws.length) (hr : LV rv ir lr a.rs.length) (g0 : AHeap) (E0 : Ext h.size h g0) (y0 : Cx h.size g0 F (PRow pa wv rv a :: WRow iw rw lw a :: RRow ir rr lr a :: Q) M) :
  SmR h (RPI h pa wv rv iw rw lw ir rr lr a.ws.length a.rs F Q M) (stepP 20000 (overP a) 0) (call Tp Ms D 64 [ptr pa 0] g0) := by
 obtain ⟨D, rfl⟩ : ∃ d, D = d + 1 + 1 := ⟨D - 2, by omega⟩
 rw [c64, e64]
 refine Sm.b rfl ?_
 refine Sm.b rfl ?_
 refine Sm.b (y0.ldO 0 0 rfl rfl) ?_
 refine Sm.b hw.len ?_
 refine Sm.b rfl ?_
 rw [c91, e91]
 have key : SmR h (RPI h pa wv rv iw rw lw ir rr lr a.ws.length a.rs F Q M) (stepP 20000 (overP a) 0) (bif decide ((a.ws.length : Int) < 1) then some (Value.int .i64 0, g0) else (call Tp Ms D 93 [ptr pa 0] g0).bind fun r1 => s91_0 hk0 (call Tp Ms D) D D (ptr pa 0) (a.ws.length : Int) 0 r1.2) := by
  refine Sm.cf (decide_eq_false (by omega)) ?_
  refine Sm.cv rfl (u93 (by omega) g0 E0 y0) fun v2 g2 E2 R2 => ?_
  obtain ⟨rfl, l2, rs2, y2⟩ := R2
  exact u91_0 (by omega) (by omega) hw hr 20000 D (by omega) (overP a) 0 g2 (by rw [over_ws]) (by rw [over_rs]) E2 y2
 intro r er
 obtain ⟨v, g, e, E, R⟩ := key r er
 rw [e]
 obtain ⟨rfl, R⟩ := R
 exact ⟨_, g, rfl, E, rfl, R⟩
end
open Go Go.AH Go.AM
section
variable {D N : Nat} {h : AHeap} {F : List FRow} {Q : List ORow} {M : List MRow} {iw rw ir rr pa : Nat} {lw lr : Bool} {wv rv : Value}
theorem u65_0 (hD : 20001 ≤ D) {n m : Nat} (hm : m ≤ 2000) (hw : LV wv iw lw n) (hr : LV rv ir lr m) :
  ∀ (f n1 : Nat) (_ : f ≤ n1) (i : Nat) (a : Ar) (g : AHeap) (_ : a.ws.length = n) (_ : a.rs.length = m) (_ : Ext h.size h g) (_ : Cx h.size g F (PRow pa wv rv a :: WRow iw rw lw a :: RRow ir rr lr a :: Q) M),
   SmR h (RP0 h pa wv rv iw rw lw ir rr lr n m F Q M) (rootsP f i a) (s65_0 hk0 (call Tp Ms D) N n1 (ptr pa 0) rv (m : Int) (i : Int) g) := by
 intro f
 induction f with
 | zero => intros; exact Sm.none
 | succ f ih =>
  intro n1 hf i a g hn hrs E0 y0
  obtain ⟨n1, rfl⟩ : ∃ k, n1 = k + 1 := ⟨n1 - 1, by omega⟩
  have hw' : LV wv iw lw a.ws.length := by rw [hn]; exact hw
  have hr' : LV rv ir lr a.rs.length := by rw [hrs]; exact hr
  rw [s65_0_eq, rootsP]
  by_cases c : i < a.rs.length
  ·rw [dif_pos c]
   refine Sm.ct (decide_eq_true (by omega)) ?_
   have er : rd a.rs (i : Int) = some a.rs[i] := rd_at c
   generalize a.rs[i] = v at er
   obtain ⟨a1, a2, _⟩ := y0.atG 2 cV cV_len a.rs rfl hr' er
   refine Sm.b a1 ?_
   refine Sm.b a2 ?_
   refine Sm.n y0 fun p44 g1 X1 y1 => ?_
   have E1 := E0.trans (X1.mono E0.size)
   refine Sm.sts y1 0 [.int .i64 v.t, .int .i64 v.n] rfl rfl rfl (by simp) rfl fun g2 X2 y2 => ?_
   have E2 := E1.trans X2
   refine Sm.b rfl ?_
   refine Sm.b rfl ?_
   refine Sm.b (y2.ldO 1 9 rfl rfl) ?_
   refine Sm.b (y2.ldON 0 rfl rfl) ?_
   refine Sm.cr (u92 (by omega) hw' hr' v g2 E2 (((y2.front 3 rfl).front 3 rfl).front 3 rfl)) fun r3 v3 g3 e3 E3 R3 => ?_
   obtain ⟨rfl, l3, rs3, y3⟩ := R3
   by_cases GW : r3.1.rs = a.rs
   case neg => rw [if_neg GW]; exact Sm.none
   rw [if_pos GW]
   have hw3 : LV wv iw lw r3.1.ws.length := by rw [l3]; exact hw'
   have hr3 : LV rv ir lr r3.1.rs.length := by rw [rs3]; exact hr'
   refine Sm.b (agA (y3.ldO 0 9 rfl rfl) hr'.vb) ?_
   refine Sm.ct rfl ?_
   have c3 : i < r3.1.rs.length := by rw [GW]; exact c
   obtain ⟨hlr, hrv⟩ := LV.up hr3 (by omega)
   subst hlr hrv
   refine Sm.b (show aIdx (slc ir 0 r3.1.rs.length) (.int .i64 (i : Int)) 2 = some (ptr ir (i * 2)) by
    simp only [aIdx, slc]
    rw [if_pos (by omega)]; simp) ?_
   refine Sm.sts y3 2 (vcells (r3.1.rs.set i r3.2)) (vs := [.int .i64 r3.2.t, .int .i64 r3.2.n]) rfl rfl rfl (by rw [vcells_len]; omega) (vcells_set _ _ _ c3) fun g7 X7 y7 => ?_
   have E7 := E3.trans X7
   rw [wr0 (by omega)]
   refine ih n1 (by omega) (i + 1) { r3.1 with rs := r3.1.rs.set i r3.2 } g7 (by rw [← hn]; exact l3) (by show (r3.1.rs.set i r3.2).length = m; rw [List.length_set, rs3]; exact hrs) E7 ?_
   exact y7.pick (.cons_cons _ (.cons_cons _ (.cons_cons _ (.cons _ (List.Sublist.refl _)))))
  ·rw [dif_neg c]
   refine Sm.cf (decide_eq_false (by omega)) ?_
   refine Sm.cv rfl (u93 (by omega) g E0 y0) fun v2 g2 E2 R2 => ?_
   obtain ⟨rfl, l2, rs2, y2⟩ := R2
   exact Sm.fin E2 ⟨rfl, by rw [l2]; exact hn, by rw [rs2]; exact hrs, y2⟩
theorem u65 (hD : 20002 ≤ D) {a : Ar} (hs : 256 ≤ a.semi ∧ a.semi ≤ 4000) (hto : a.to = 0 ∨ a.to = 1) (hrl : a.rs.length ≤ 2000) (hw : LV wv iw lw a.ws.length) (hr : LV rv ir lr a.rs.length) (g0 : AHeap) (E0 : Ext h.size h g0) (y0 : Cx h.size g0 F (PRow pa wv rv a :: WRow iw rw lw a :: RRow ir rr lr a :: Q) M) :
  SmR h (RP0 h pa wv rv iw rw lw ir rr lr a.ws.length a.rs.length F Q M) (flipP a) (call Tp Ms D 65 [ptr pa 0] g0) := by
 obtain ⟨D, rfl⟩ : ∃ d, D = d + 1 := ⟨D - 1, by omega⟩
 rw [c65, e65]
 have b1 := mulB (t := 1 - a.to) (by omega) hs
 refine Sm.b rfl ?_
 refine Sm.b rfl ?_
 refine Sm.b (y0.ldO 0 3 rfl rfl) ?_
 refine Sm.b rfl ?_
 refine Sm.b rfl ?_
 refine Sm.b rfl ?_
 refine Sm.sts y0 0 (arCells wv rv { a with old := a.top }) (vs := [.int .i64 a.top]) rfl rfl rfl (by simp [arCells]) rfl fun g3 X3 y3 => ?_
 have E3 := E0.trans X3
 refine Sm.b rfl ?_
 refine Sm.b rfl ?_
 refine Sm.b (y3.ldO 0 2 rfl rfl) ?_
 refine Sm.b rfl ?_
 refine Sm.b rfl ?_
 refine Sm.b rfl ?_
 show SmR h _ _ ((aSt g3 (ptr pa 2) (.int .i64 (IntKind.i64.wrap (1 - a.to))) 1).bind _)
 rw [wr (x := 1 - a.to) (by omega) (by omega)]
 refine Sm.sts y3 0 (arCells wv rv { a with old := a.top, to := 1 - a.to }) (vs := [.int .i64 (1 - a.to)]) rfl rfl rfl (by simp [arCells]) rfl fun g4 X4 y4 => ?_
 have E4 := E3.trans X4
 refine Sm.b rfl ?_
 refine Sm.b rfl ?_
 refine Sm.b (y4.ldO 0 2 rfl rfl) ?_
 refine Sm.b rfl ?_
 have H4 : ArH g4 wv rv { a with old := a.top, to := 1 - a.to } := Cx.arH y4 1 2 rfl rfl hw hr
 have e64 : m64 { a with old := a.top, to := 1 - a.to } (1 - a.to) = some ((1 - a.to) * a.semi + 1) := m64_eq (a := { a with old := a.top, to := 1 - a.to }) (by omega) hs
 refine Sm.cv e64 (t64 (by omega) H4 (y4.rowO 0 rfl) _) fun v5 g5 X5 R5 => ?_
 obtain rfl : v5 = .int .i64 ((1 - a.to) * a.semi + 1) := R5
 have y5 := y4.ext X5
 have E5 := E4.trans (X5.mono E4.size)
 refine Sm.b rfl ?_
 refine Sm.b rfl ?_
 refine Sm.b rfl ?_
 refine Sm.sts y5 0 (arCells wv rv { a with old := a.top, to := 1 - a.to, top := (1 - a.to) * a.semi + 1 }) (vs := [.int .i64 ((1 - a.to) * a.semi + 1)]) rfl rfl rfl (by simp [arCells]) rfl fun g6 X6 y6 => ?_
 have E6 := E5.trans X6
 refine Sm.b rfl ?_
 refine Sm.b rfl ?_
 refine Sm.b (y6.ldO 0 3 rfl rfl) ?_
 refine Sm.b rfl ?_
 refine Sm.b rfl ?_
 refine Sm.b rfl ?_
 refine Sm.sts y6 0 (arCells wv rv { a with old := a.top, to := 1 - a.to, top := (1 - a.to) * a.semi + 1, scan := (1 - a.to) * a.semi + 1 }) (vs := [.int .i64 ((1 - a.to) * a.semi + 1)]) rfl rfl rfl (by simp [arCells]) rfl fun g7 X7 y7 => ?_
 have E7 := E6.trans X7
 refine Sm.b rfl ?_
 refine Sm.b rfl ?_
 refine Sm.sts y7 0 (arCells wv rv { a with old := a.top, to := 1 - a.to, top := (1 - a.to) * a.semi + 1, scan := (1 - a.to) * a.semi + 1, cop := 0 }) (vs := [.int .i64 0]) rfl rfl rfl (by simp [arCells]) rfl fun g8 X8 y8 => ?_
 have E8 := E7.trans X8
 refine Sm.b rfl ?_
 refine Sm.b rfl ?_
 refine Sm.sts y8 0 (arCells wv rv (flp a)) (vs := [.bool true]) rfl rfl rfl (by simp [arCells]) rfl fun g9 X9 y9 => ?_
 have E9 := E8.trans X9
 refine Sm.b rfl ?_
 refine Sm.b rfl ?_
 refine Sm.b (y9.ldO 0 9 rfl rfl) ?_
 refine Sm.b hr.len ?_
 refine Sm.b rfl ?_
 exact u65_0 (by omega) hrl hw hr 20000 D (by omega) 0 (flp a) g9 rfl rfl E9 y9
theorem u27 (hD : 20004 ≤ D) {a a1 a2 a3 : Ar} (e1 : finP a = some a1) (e2 : flipP a1 = some a2) (e3 : finP a2 = some a3) (hs : 256 ≤ a1.semi ∧ a1.semi ≤ 4000) (hto : a1.to = 0 ∨ a1.to = 1) (hrl : a.rs.length ≤ 2000) (h1 : 1 ≤ a.ws.length) (hw : LV wv iw lw a.ws.length) (hr : LV rv ir lr a.rs.length) (g0 : AHeap) (E0 : Ext h.size h g0) (y0 : Cx h.size g0 F (PRow pa wv rv a :: WRow iw rw lw a :: RRow ir rr lr a :: Q) M) :
  SmR h (RP0 h pa wv rv iw rw lw ir rr lr a.ws.length a.rs.length F Q M) (some a3) (call Tp Ms D 27 [ptr pa 0] g0) := by
 obtain ⟨D, rfl⟩ : ∃ d, D = d + 1 := ⟨D - 1, by omega⟩
 rw [c27, e27]
 obtain ⟨d1, k1⟩ := fin_step e1
 obtain ⟨d3, k3⟩ := fin_step e3
 refine Sm.cv k1 (u64 (by omega) h1 hw hr g0 E0 y0) fun v3 g3 E3 R3 => ?_
 obtain ⟨rfl, l3, rs3, y3⟩ := R3
 have hw3 : LV wv iw lw a1.ws.length := by rw [show a1.ws.length = a.ws.length from l3]; exact hw
 have hr3 : LV rv ir lr a1.rs.length := by rw [show a1.rs = a.rs from rs3]; exact hr
 refine Sm.b rfl ?_
 refine Sm.cv e2 (u65 (by omega) hs hto (by rw [show a1.rs = a.rs from rs3]; exact hrl) hw3 hr3 g3 E3 y3) fun v5 g5 E5 R5 => ?_
 obtain ⟨rfl, l5, rs5, y5⟩ := R5
 have hw5 : LV wv iw lw a2.ws.length := by rw [l5]; exact hw3
 have hr5 : LV rv ir lr a2.rs.length := by rw [rs5]; exact hr3
 have l1 : a1.ws.length = a.ws.length := l3
 refine Sm.cv k3 (u64 (by omega) (by omega) hw5 hr5 g5 E5 y5) fun v7 g7 E7 R7 => ?_
 obtain ⟨rfl, l7, rs7, y7⟩ := R7
 refine Sm.b rfl ?_
 refine Sm.fin E7 ⟨rfl, ?_, ?_, y7⟩
 ·rw [show a3.ws.length = a2.ws.length from l7, l5, show a1.ws.length = a.ws.length from l3]
 ·rw [show a3.rs = a2.rs from rs7, rs5, show a1.rs = a.rs from rs3]
end
open Go Go.AH Go.AM
def Rd (h : AHeap) (v : Value) (i : Nat) (lv : Bool) (esz n : Nat) (cs : List Value) : Prop := LV v i lv n ∧ cs.length = n * esz ∧ (lv = true → Row h i cs ∧ i < h.size)
theorem Rd.ext {h g : AHeap} {v : Value} {i esz n : Nat} {lv : Bool} {cs : List Value} (x : Rd h v i lv esz n cs) (E : Ext h.size h g) : Rd g v i lv esz n cs :=
 ⟨x.1, x.2.1, fun hl => ⟨(x.2.2 hl).1.ext E (x.2.2 hl).2, Nat.lt_of_lt_of_le (x.2.2 hl).2 E.size⟩⟩
theorem Rd.src {h : AHeap} {v : Value} {i esz n : Nat} {lv : Bool} {cs : List Value} (x : Rd h v i lv esz n cs) : aSrc h esz v = some (n, cs) := by
 obtain ⟨hv, hl, hr⟩ := x
 rcases hv with ⟨h1, rfl⟩ | ⟨_, rfl, h0⟩
 ·obtain ⟨o, e1, e2⟩ := (hr h1).1
  simp [aSrc, slc, AHeap.rd, e1, e2, hl]
  rw [← hl, List.take_length]
 ·subst h0
  have : cs = [] := List.length_eq_zero_iff.1 (by omega)
  subst this
  rfl
theorem Cx.appN {b : Nat} {g : AHeap} {F : List FRow} {O : List ORow} {M : List MRow} (y : Cx b g F O M) {esz bytes m : Nat} {t : TypeId} {ms : List Value} {x : Value} (hsrc : aSrc g esz x = some (m, ms)) (hl : ms.length = m * esz) (h1 : m ≤ 1048576) (h2 : bytes ≤ 16) :
  ∃ i lv v' g', aApp g t esz bytes (.slice none 0 0) x = some (v', g') ∧ LV v' i lv m ∧ Ext g.size g g' ∧ Cx b g' F (⟨i, i, t, lv, ms⟩ :: O) M := by
 by_cases hm : m = 0
 ·subst hm
  have : ms = [] := List.length_eq_zero_iff.1 (by omega)
  subst this
  refine ⟨0, false, .slice none 0 0, g, by simp [aApp, aAppG, hsrc], .inr ⟨rfl, rfl, rfl⟩, Ext.refl _ _, y.add (Ext.refl _ _) (fun h => by cases h) fun _ => rfl⟩
 ·have b2 : m * bytes ≤ 1048576 * 16 := Nat.mul_le_mul h1 h2
  refine ⟨g.size, true, slc g.size 0 m, g.new t ms, ?_, LV.mk _ _, Ext.new (Nat.le_refl _) _ _, y.new t ms⟩
  have c1 : m ≤ most ∧ m * bytes ≤ most := by unfold most; omega
  simp only [aApp, aAppG, hsrc, oBs]
  rw [if_neg hm, if_pos c1]
def RCp (h : AHeap) : Ar → Value → AHeap → Prop := fun a v g => ∃ wv rv iw rw lw ir rr lr, v = arV wv rv a ∧ LV wv iw lw a.ws.length ∧ LV rv ir lr a.rs.length ∧ Cx h.size g [] (WRow iw rw lw a :: RRow ir rr lr a :: []) []
theorem vcl (l : List Vl) : (vcells l).length = l.length * 2 := vcells_len l
theorem isc_cells {v : Value} (h : isCell v = true) : aCells v = some [v] := by
 cases v <;> first | rfl | simp [isCell] at h
section
variable {D N : Nat} {h : AHeap} {wv rv : Value} {a : Ar} {iw ir : Nat} {lw lr : Bool}
theorem u49 (hD : 1 ≤ D) {l : List Int} (hW : Rd h wv iw lw 1 l.length (l.map (Value.int .u64))) (b1 : l.length ≤ 1048576) : SmR h (RO h (Value.int .u64) 74) (some l) (call Tp Ms D 49 [wv] h) := by
 obtain ⟨D, rfl⟩ : ∃ d, D = d + 1 := ⟨D - 1, by omega⟩
 rw [c49, e49]
 have y0 := Cx.start0 h
 have E0 := Ext.refl h.size h
 refine Sm.ns y0 fun p1 g1 X1 y1 => ?_
 have E1 := E0.trans (X1.mono E0.size)
 obtain ⟨j, g2, e2, X2, y2⟩ := y1.app (esz := 1) (bytes := 8) 0 rfl (hW.ext E1).src (n' := 0) (by simp) (by unfold most; omega) (by unfold most; omega)
 refine Sm.b e2 ?_
 refine Sm.fin (E1.trans X2) ?_
 refine Cx.ro y2 0 (Value.int .u64) l rfl ?_
 rw [Nat.zero_add]
 exact LV.mk _ _
theorem u14 (hD : 2 ≤ D) (hW : Rd h wv iw lw 1 a.ws.length (a.ws.map (Value.int .u64))) (hR : Rd h rv ir lr 2 a.rs.length (vcells a.rs)) (b1 : a.ws.length ≤ 1048576) (b2 : a.rs.length ≤ 1048576) :
  SmR h (RCp h) (some a) (call Tp Ms D 14 [arV wv rv a] h) := by
 obtain ⟨D, rfl⟩ : ∃ d, D = d + 1 := ⟨D - 1, by omega⟩
 rw [c14, e14]
 have y0 := Cx.start0 h
 have E0 := Ext.refl h.size h
 refine Sm.b (arC hW.1 hR.1 a) ?_
 refine Sm.n y0 fun p2 g1 X1 y1 => ?_
 have E1 := E0.trans (X1.mono E0.size)
 refine Sm.n y1 fun p4 g2 X2 y2 => ?_
 have E2 := E1.trans (X2.mono E1.size)
 refine Sm.b rfl ?_
 refine Sm.b (y2.ldO 1 0 rfl rfl) ?_
 refine Sm.cv rfl (u49 (by omega) (hW.ext E2) b1) fun v3 g3 X3 R3 => ?_
 obtain ⟨i3, q3, l3, h3, o3, z3⟩ := R3
 have y3 := y2.add X3 o3 z3
 have E3 := E2.trans (X3.mono E2.size)
 refine Sm.b rfl ?_
 refine Sm.sts y3 2 (arCells v3 rv a) rfl (LV.cells h3) rfl (by simp [arCells]) rfl fun g4 X4 y4 => ?_
 have E4 := E3.trans X4
 refine Sm.ns y4 fun p11 g5 X5 y5 => ?_
 have E5 := E4.trans (X5.mono E4.size)
 refine Sm.b rfl ?_
 refine Sm.b (y5.ldO 3 9 rfl rfl) ?_
 obtain ⟨j, g6, e6, X6, y6⟩ := y5.app (esz := 2) (bytes := 16) 0 rfl (hR.ext E5).src (n' := 0) (by simp) (by unfold most; omega) (by unfold most; omega)
 have E6 := E5.trans X6
 refine Sm.b e6 ?_
 rw [Nat.zero_add]
 refine Sm.b rfl ?_
 refine Sm.sts y6 3 (arCells v3 (slc j 0 a.rs.length) a) (vs := [slc j 0 a.rs.length]) rfl rfl rfl (by simp [arCells]) rfl fun g7 X7 y7 => ?_
 have E7 := E6.trans X7
 refine Sm.b (y7.ldON 3 rfl rfl) ?_
 refine Sm.sts y7 2 (arCells v3 (slc j 0 a.rs.length) a) rfl (arC h3 (LV.mk j _) a) rfl (by simp) rfl fun g8 X8 y8 => ?_
 have E8 := E7.trans X8
 refine Sm.b (y8.ldON 2 rfl rfl) ?_
 refine Sm.fin E8 ⟨v3, slc j 0 a.rs.length, i3, q3, l3, j, p11, true, rfl, h3, LV.mk j _, ?_⟩
 exact (y8.front 1 rfl).pick (O' := _ :: _ :: []) (.cons_cons _ (.cons_cons _ (List.nil_sublist _)))
theorem u22 {F : List FRow} {Q : List ORow} {M : List MRow} {rw rr : Nat} (hD : 1 ≤ D) {i : Int} (v : Vl) (h0 : 0 ≤ i) (h1 : i + 1 < a.ws.length) (hl : (a.ws.length : Int) ≤ 8000) (hw : LV wv iw lw a.ws.length) (hr : LV rv ir lr a.rs.length) (g0 : AHeap) (E0 : Ext h.size h g0) (y0 : Cx h.size g0 F (WRow iw rw lw a :: RRow ir rr lr a :: Q) M) :
  SmR h (RA1 h wv rv iw rw lw ir rr lr a.ws.length a.rs.length F Q M) (some (setA a i v)) (call Tp Ms D 22 [arV wv rv a, .int .i64 i, v.v] g0) := by
 obtain ⟨D, rfl⟩ : ∃ d, D = d + 1 := ⟨D - 1, by omega⟩
 rw [c22, e22]
 obtain ⟨hlw, hwv⟩ := LV.up hw (by omega)
 subst hlw hwv
 refine Sm.b (arC hw hr a) ?_
 refine Sm.n y0 fun p2 g1 X1 y1 => ?_
 have E1 := E0.trans (X1.mono E0.size)
 refine Sm.b rfl ?_
 refine Sm.n y1 fun p5 g2 X2 y2 => ?_
 have E2 := E1.trans (X2.mono E1.size)
 refine Sm.n y2 fun p7 g3 X3 y3 => ?_
 have E3 := E2.trans (X3.mono E2.size)
 refine Sm.b rfl ?_
 refine Sm.b (y3.ldO 2 0 rfl rfl) ?_
 refine Sm.b rfl ?_
 refine Sm.b (y3.ldO 1 0 rfl rfl) ?_
 refine Sm.b rfl ?_
 refine Sm.b (show aIdx (slc iw 0 a.ws.length) (.int .i64 i) 1 = some (ptr iw i.toNat) by
  simp only [aIdx, slc]
  rw [if_pos (by omega)]; simp) ?_
 refine Sm.sts y3 3 ((a.ws.set i.toNat (IntKind.u64.wrap v.t)).map (Value.int .u64)) (vs := [.int .u64 (IntKind.u64.wrap v.t)]) rfl rfl rfl (by simp; omega) (map_set (by omega)) fun g4 X4 y4 => ?_
 have E4 := E3.trans X4
 refine Sm.b rfl ?_
 refine Sm.b (y4.ldO 2 0 rfl rfl) ?_
 refine Sm.b rfl ?_
 refine Sm.b (y4.ldO 1 1 rfl rfl) ?_
 refine Sm.b rfl ?_
 rw [wr (x := i + 1) (by omega) (by omega)]
 refine Sm.b (show aIdx (slc iw 0 a.ws.length) (.int .i64 (i + 1)) 1 = some (ptr iw (i + 1).toNat) by
  simp only [aIdx, slc]
  rw [if_pos (by omega)]; simp) ?_
 refine Sm.sts y4 3 ((setA a i v).ws.map (Value.int .u64)) (vs := [.int .u64 (IntKind.u64.wrap v.n)]) rfl rfl rfl (by simp; omega) (map_set (by simp; omega)) fun g5 X5 y5 => ?_
 have E5 := E4.trans X5
 refine Sm.b (y5.ldON 2 rfl rfl) ?_
 refine Sm.sts y5 0 (arCells (slc iw 0 a.ws.length) rv (setA a i v)) rfl (arC hw hr a) rfl (by simp) rfl fun g6 X6 y6 => ?_
 have E6 := E5.trans X6
 refine Sm.b (y6.ldON 0 rfl rfl) ?_
 exact Sm.fin E6 ⟨rfl, setA_len a i v, rfl, y6.pick (.cons _ (.cons _ (.cons _ (List.Sublist.refl _))))⟩
end
end Go.Proofs.YtnjnggejbpkgoaaGreat
