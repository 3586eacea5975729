import Derived.Test.YtadmoackacickaaXAG
import Derived.Test.YtadmoackacickaaXAN
set_option linter.unusedSimpArgs false
set_option linter.unusedVariables false
/- FnExactBoxedOf, as the small evaluator runs it. -/
namespace Go.Proofs.Ytadmoackacickaa
open Go Go.AH
theorem NodesR.ext {b B : Nat} {h h' : AHeap} {r rn j : Nat} {ns : List Kn} {cells : List Value} (x : NodesR b B h r rn ns j cells) (e : Ext h.size h h') : NodesR b B h' r rn ns j cells :=
 ⟨x.1.keep (Kr.ext e (root := rn + 1)) (.inr (by omega)), x.2.1, x.2.2.1, x.2.2.2.1, fun i n hi hn => let ⟨kv, a, c⟩ := x.2.2.2.2 i n hi hn; ⟨kv, a, c.ext e⟩⟩
theorem KOwn.nodes {b : Nat} {h : AHeap} {v : Value} {ns : List Kn} (x : KOwn b h v ns) : ∃ r rn cells, v = slc r 0 ns.length ∧ NodesR b h.size h r rn ns 0 cells := by
 obtain ⟨r, cells, h1, h2, h3, h4⟩ := x
 obtain ⟨rn, ep, z1, z2⟩ := h2
 have hz := at?_obj z1
 refine ⟨r, rn, cells, h1, ⟨ep, z1⟩, z2, Nat.lt_of_le_of_lt hz.2.2.1 hz.2.1, h3, fun i n _ hn => ?_⟩
 obtain ⟨kv, a, id, c1, ⟨rt, ep', c2, c3⟩, c4⟩ := h4 i n (List.getElem?_eq_some_iff.1 hn).1 hn
 have hc := at?_obj c2
 have e : rt = id := Nat.le_antisymm hc.2.2.1 c3
 subst e
 exact ⟨kv, drop_take_get (c := 3) a (by omega), rt, n.ks, c1, ⟨ep', c2⟩, rfl, c4, hc.2.1⟩
theorem l33 {d b B c r rn : Nat} (hd : 1048577 < d) {ns : List Kn} {top : Int} {cells : List Value} {h : AHeap} (x : KSl c h (slc r 0 ns.length) ns) (hb : b ≤ h.size) (hB : B ≤ h.size) (hl : ns.length ≤ 1048576) (hN : ∀ n ∈ ns, n.t.size ≤ 1048576 ∧ n.ks.length ≤ 1048576) (o : NodesR b B h r rn ns 0 cells) :
  ∃ h' k1, call Tp Ms (d + 3) 33 [trVal (slc r 0 ns.length) top, .int .i64 1] h = some (.int .i64 k1, h') ∧ 0 ≤ k1 ∧ Ext b h h' ∧ Up B h h' := by
 have e1 := Ext.new (Nat.le_refl h.size) 35 [slc r 0 ns.length, .int .i64 top]
 have r1 := (Own.new (b := h.size) (Nat.le_refl _) 35 [slc r 0 ns.length, .int .i64 top]).row
 have s1 : (h.new 35 [slc r 0 ns.length, .int .i64 top]).size = h.size + 1 := rfl
 rw [c33, e33, tr_aCells x, oBs]
 simp only [aNew]
 have o1 := o.ext e1
 generalize h.new 35 [slc r 0 ns.length, .int .i64 top] = h1 at e1 r1 s1 o1 ⊢
 obtain ⟨a0, _, _⟩ := ld2 r1
 obtain ⟨h2, k1, c2, b2, x2, u2⟩ := mark_nodes hd hl hN ns.length 0 (d + 1) 1 cells h1 (by omega) (by omega) (by omega) (by omega) (by omega) (by omega) (by omega) o1
 have c2' : call Tp Ms (d + 2) 68 [slc r 0 ns.length, .int .i64 1] h1 = some (.int .i64 k1, h2) := by
  have hcall : call Tp Ms (d + 2) 68 [slc r 0 ns.length, .int .i64 1] h1 = evFn hk0 Tp (call Tp Ms (d + 1)) M68 (d + 1) Try.f68 [slc r 0 ns.length, .int .i64 1] h1 := c68 (d + 1) _ _
  rw [hcall, e68]
  exact c2
 refine ⟨h2, k1, ?_, b2, (e1.mono hb).trans x2, (Up.ext e1).trans u2⟩
 simp only [aOff_ptr, Nat.zero_add, oBs, a0]
 rw [c2', oBs]
 simp only [asI, if_true, oBs]
theorem trueAt_len (B : List Bool) : (trueAt B).length ≤ B.length := by
 unfold trueAt
 rw [List.length_map]
 refine Nat.le_trans (List.length_filter_le _ _) ?_
 rw [List.length_range]
 exact Nat.le_refl _
theorem boxT_len (T : List Kn) (top : Int) : (boxT T top).length ≤ 3000 := by
 unfold boxT
 split
 ·next hok =>
  have R := right_of hok
  have hT := R.top
  subst hT
  rw [boxed_same R]
  unfold boxedM
  split
  ·exact Nat.zero_le _
  ·have B3 := bound_ok R.pos (shp_of R).lo (num_le T) R.num
   have h := trueAt_len (boundP T).bx
   have h2 := R.len
   have h3 := B3.1.2.2
   omega
 ·exact Nat.zero_le _
theorem g13_1 {d c p2 : Nat} (hd : 30000000 < d) {nv wv : Value} {T : List Kn} {top : Int} {S ys : List Int} {gi rt bg : Nat} {h : AHeap} (hS : S = boxT T top) (hSl : S.length ≤ 1048576) (hT : T.length ≤ 1048576) (hK : ∀ n ∈ T, n.t.size ≤ 1048576 ∧ n.ks.length ≤ 1048576)
  (x : KSl c h nv T) (hcb : c ≤ bg) (hb : bg ≤ h.size) (rp : Row h p2 [nv, .int .i64 top]) (hp : p2 < bg) (w : ISl bg h wv S) (g : OwnR h gi rt 3 (ints ys)) (hg : bg ≤ rt) (hys : ys.length = S.length) :
  ∃ h', s13_1 hk0 (call Tp Ms (d + 3010 + 10)) (d + 3010 + 10) (ptr p2 0) wv (slc gi 0 S.length) h = some (.bool true, h') := by
 obtain ⟨h2, zs, c2, x2, k2, g2, l2, m2, s2⟩ := l34 (d := d + 3010 + 9) (by omega) (k0 := 1) hg (by omega) (by omega) (by omega) g
 rw [hys] at c2
 have c2' : call Tp Ms (d + 3010 + 10) 34 [slc gi 0 S.length, .int .i64 1] h = _ := c2
 have hz : zs.length = S.length := by omega
 have glt := g2.lt
 have gI : ∀ hh, OwnR hh gi rt 3 (ints zs) → ISl (gi + 1) hh (slc gi 0 S.length) zs := fun hh o => by
  obtain ⟨ep, a⟩ := o
  exact .inr (.inr ⟨gi, _, by rw [hz], a, rfl, rfl, by omega⟩)
 have c3 := l35 (d := d + 3010 + 9) (by omega) (k0 := 1) (by omega) (by omega) (by omega) (gI h2 g2) m2
 have c3' : call Tp Ms (d + 3010 + 10) 35 [slc gi 0 S.length, .int .i64 1] h2 = _ := c3
 have r2 := rp.ext x2 hp
 have xx2 := x.ext (x2.mono hcb)
 obtain ⟨_, _, aN⟩ := ld2 r2
 have aN' : aLdN h2 (ptr p2 0) 2 = some (trVal nv top) := aN
 obtain ⟨nd, h4, c4, x4, k4⟩ := l21 (d := d + 3010 + 6) (by omega) (top := top) xx2 (by omega) hT hK
 have c4' : call Tp Ms (d + 3010 + 10) 21 [trVal nv top] h2 = _ := c4
 have s4 := x4.size
 obtain ⟨gv, h5, c5, x5, i5⟩ := l49' hd (top := top) k4.kse hT hK
 have s5 := x5.size
 have E : Ext bg h h5 := x2.trans ((x4.mono (by omega)).trans (x5.mono (by omega)))
 have w5 := w.ext E
 rw [← hS] at i5
 have c6 := l32 (d := d + 3010 + 9) (by omega) hSl i5.isl w5
 have c6' : call Tp Ms (d + 3010 + 10) 32 [gv, wv] h5 = _ := c6
 have g5 := (g2.keep (Kr.ext x4 (root := rt + 1)) (.inr (by omega))).keep (Kr.ext x5 (root := rt + 1)) (.inr (by omega))
 have c7 := l35 (d := d + 3010 + 9) (by omega) (k0 := 1) (by omega) (by omega) (by omega) (gI h5 g5) m2
 have c7' : call Tp Ms (d + 3010 + 10) 35 [slc gi 0 S.length, .int .i64 1] h5 = _ := c7
 rw [hz] at c3' c7'
 have hneg : decide ((1 : Int) + (S.length : Int) < 0) = false := by simp; omega
 refine ⟨h5, ?_⟩
 rw [s13_1_j, s13_1_eq, c2', oBs]
 simp only [asI, if_true, oBs]
 rw [c3', oBs]
 simp only [asI, if_true, oBs, hneg, cond_false]
 rw [bne_self_eq_false, cond_false, aN', oBs, c4', oBs, c5, oBs, c6', oBs]
 simp only [asB, oBs, Bool.not_true, cond_false]
 rw [c7', oBs]
 simp only [asI, if_true, oBs, hneg, cond_false]
 rw [bne_self_eq_false, cond_false]
theorem l13 {d : Nat} (hd : 30000000 < d) {nv : Value} {T : List Kn} {top : Int} {h : AHeap} (x : KSl h.size h nv T) (hb : T.length ≤ bigT) (hN : ∀ n ∈ T, okK n) :
  ∃ h', call Tp Ms (d + 3010 + 11) 13 [trVal nv top] h = some (.bool true, h') := by
 have e1 := Ext.new (Nat.le_refl h.size) 30 [nv, .int .i64 top]
 have r1 := (Own.new (b := h.size) (Nat.le_refl _) 30 [nv, .int .i64 top]).row
 have s1 : (h.new 30 [nv, .int .i64 top]).size = h.size + 1 := rfl
 have hcall : call Tp Ms (d + 3010 + 11) 13 [trVal nv top] h = evFn hk0 Tp (call Tp Ms (d + 3010 + 10)) M13 (d + 3010 + 10) Try.f13 [trVal nv top] h := c13 (d + 3010 + 10) _ _
 rw [hcall, e13, tr_aCells x, oBs]
 simp only [aNew]
 have x1 := (x.ext e1).mono (show h.size ≤ (h.new 30 [nv, .int .i64 top]).size by omega)
 generalize h.new 30 [nv, .int .i64 top] = h1 at e1 r1 s1 x1 ⊢
 obtain ⟨_, _, aN⟩ := ld2 r1
 have aN' : aLdN h1 (ptr h.size 0) 2 = some (trVal nv top) := aN
 obtain ⟨h2, c2, e2⟩ := l19 (d := d + 3010 + 6) (by omega) (top := top) x1 (Nat.le_refl _) hN hb
 have c2' : call Tp Ms (d + 3010 + 10) 19 [trVal nv top, .int .i64 1048576] h1 = _ := c2
 rw [aN', oBs, c2', oBs]
 simp only [asI, if_true, oBs]
 by_cases hs : szT T 1048576 < 0
 ·rw [if_pos hs, decide_eq_true (show (-1 : Int) < 0 by decide), cond_true]; exact ⟨h2, rfl⟩
 rw [if_neg hs, decide_eq_false hs, cond_false]
 obtain ⟨hT, hK⟩ := szT_ok (ns := T) (by omega)
 have s2 := e2.size
 have r2 := r1.ext e2 (by omega)
 have x2 := (x1.ext e2).mono s2
 obtain ⟨_, _, b2⟩ := ld2 r2
 have b2' : aLdN h2 (ptr h.size 0) 2 = some (trVal nv top) := b2
 obtain ⟨na, h3, c3, e3, k3⟩ := l21 (d := d + 3010 + 6) (by omega) (top := top) x2 (Nat.le_refl _) hT hK
 have c3' : call Tp Ms (d + 3010 + 10) 21 [trVal nv top] h2 = _ := c3
 have s3 := e3.size
 obtain ⟨wv, h4, c4', e4, i4⟩ := l48' (d := d + 1) (by omega) (top := top) k3.ksl hT hK
 rw [show d + 1 + 3010 + 9 = d + 3010 + 10 by omega] at c4'
 have s4 := e4.size
 have r4 := (r2.ext e3 (by omega)).ext e4 (by omega)
 obtain ⟨_, _, d4⟩ := ld2 r4
 have d4' : aLdN h4 (ptr h.size 0) 2 = some (trVal nv top) := d4
 have x4 := (((x2.ext e3).mono s3).ext e4).mono s4
 have hSl : (boxT T top).length ≤ 1048576 := Nat.le_trans (boxT_len T top) (by decide)
 have w4 : ISl h4.size h4 wv (boxT T top) := i4.isl
 rw [b2', oBs, c3', oBs, c4', oBs, d4', oBs]
 obtain ⟨nb, h5, c5, e5, k5⟩ := l21 (d := d + 3010 + 6) (by omega) (top := top) x4 (Nat.le_refl _) hT hK
 have c5' : call Tp Ms (d + 3010 + 10) 21 [trVal nv top] h4 = _ := c5
 have s5 := e5.size
 rw [c5', oBs]
 have e6 := Ext.new (Nat.le_refl h5.size) 35 [.slice none 0 0, .int .i64 0]
 have o6 := Own.new (Nat.le_refl h5.size) 35 [.slice none 0 0, .int .i64 0]
 have s6 : (h5.new 35 [.slice none 0 0, .int .i64 0]).size = h5.size + 1 := rfl
 have k6 := k5.ext e6
 generalize h5.new 35 [.slice none 0 0, .int .i64 0] = h6 at e6 o6 s6 k6 ⊢
 obtain ⟨h7, t7, e7', o7, s7, q7⟩ := Own.stX o6 (off := 0) (n := 2) (v := trVal nb top) (tr_aCells k6.ksl top) rfl (by show 0 + 2 ≤ 2; omega)
 have k7 := k6.keep (e := 35) (by decide) (by decide) q7
 have r7 : Row h7 h5.size [nb, .int .i64 top] := o7.row
 obtain ⟨_, _, a7⟩ := ld2 r7
 have a7' : aLdN h7 (ptr h5.size 0) 2 = some (trVal nb top) := a7
 obtain ⟨rb, rn, cells, hnb, n7⟩ := k7.nodes
 obtain ⟨gv, h8, c8, e8, i8⟩ := l49' hd (top := top) k7.kse hT hK
 have s8 := e8.size
 have E57 : Ext h5.size h5 h7 := e6.trans e7'
 have E48 : Ext h4.size h4 h8 := e5.trans ((E57.mono s5).trans (e8.mono (by omega)))
 have w8 := w4.ext E48
 have cc8 := l32 (d := d + 3010 + 9) (by omega) hSl i8.isl w8
 have cc8' : call Tp Ms (d + 3010 + 10) 32 [gv, wv] h8 = _ := cc8
 have r8 := r7.ext e8 (by omega)
 obtain ⟨_, _, a8⟩ := ld2 r8
 have a8' : aLdN h8 (ptr h5.size 0) 2 = some (trVal nb top) := a8
 have r18 := r4.ext E48 (by omega)
 obtain ⟨_, _, d8⟩ := ld2 r18
 have d8' : aLdN h8 (ptr h.size 0) 2 = some (trVal nv top) := d8
 have x8 : KSl h4.size h8 nv T := x4.ext E48
 have k8 := k7.ext e8
 obtain ⟨nc, h9, c9, e9, k9⟩ := l21 (d := d + 3010 + 6) (by omega) (top := top) x8 (by omega) hT hK
 have c9' : call Tp Ms (d + 3010 + 10) 21 [trVal nv top] h8 = _ := c9
 have s9 := e9.size
 have r9 := r8.ext e9 (by omega)
 obtain ⟨_, _, a9⟩ := ld2 r9
 have a9' : aLdN h9 (ptr h5.size 0) 2 = some (trVal nb top) := a9
 obtain ⟨h10, c10, e10⟩ := l23 (d := d + 3010 + 6) (by omega) (top := top) (k8.ext e9).ksl k9.ksl (Nat.le_refl _) hT hK
 have c10' : call Tp Ms (d + 3010 + 10) 23 [trVal nb top, trVal nc top] h9 = _ := c10
 have s10 := e10.size
 have r10 := r9.ext e10 (by omega)
 obtain ⟨_, _, a10⟩ := ld2 r10
 have a10' : aLdN h10 (ptr h5.size 0) 2 = some (trVal nb top) := a10
 have n10 := ((n7.ext e8).ext e9).ext e10
 have kk10 := ((k8.ext e9).ext e10).ksl
 rw [hnb] at kk10
 obtain ⟨h11, k1, c11, b11, e11, u11⟩ := l33 (d := d + 3010 + 7) (by omega) (top := top) kk10 (by omega) (by omega) hT hK n10
 rw [← hnb] at c11
 have c11' : call Tp Ms (d + 3010 + 10) 33 [trVal nb top, .int .i64 1] h10 = _ := c11
 have E411 : Ext h4.size h4 h11 := E48.trans ((e9.mono (by omega)).trans ((e10.mono (by omega)).trans e11))
 obtain ⟨gi, hgv, gr, gep, ga, gb⟩ := (i8.ext e9).ext e10
 have g11 : OwnR h11 gi gr 3 (ints (boxT T top)) := ⟨gep, u11 gi _ ga gb⟩
 have gI : ISl h11.size h11 gv (boxT T top) := by
  obtain ⟨ep, a⟩ := g11
  exact .inr (.inr ⟨gi, _, hgv, a, rfl, rfl, (at?_obj a).2.1⟩)
 have w11 := w4.ext E411
 have cc11 := l32 (d := d + 3010 + 9) (by omega) hSl gI w11
 have cc11' : call Tp Ms (d + 3010 + 10) 32 [gv, wv] h11 = _ := cc11
 have r11 := r4.ext E411 (by omega)
 obtain ⟨h12, c12⟩ := g13_1 hd (bg := h4.size) rfl hSl hT hK (x4.ext E411) (Nat.le_refl _) E411.size r11 (by omega) w11 g11 (by omega) rfl
 rw [← hgv] at c12
 refine ⟨h12, ?_⟩
 have hneg : decide (k1 < 0) = false := by simp; omega
 rw [t7, oBs, a7', oBs, c8, oBs, cc8', oBs]
 simp only [asB, oBs, Bool.not_true, cond_false]
 rw [a8', oBs, d8', oBs, c9', oBs]
 simp only [a9', oBs, tr_vbeq (k8.ext e9).ksl, cond_true]
 rw [c10', oBs]
 simp only [asB, oBs, Bool.not_true, cond_false]
 rw [a10', oBs, c11', oBs]
 simp only [asI, if_true, oBs, hneg, cond_false]
 rw [cc11', oBs]
 change (Option.some true).bind (fun b30 => s13_0 hk0 (call Tp Ms (d + 3010 + 10)) (d + 3010 + 10) (ptr h.size 0) wv gv (!b30) h11) = _
 rw [oBs, Bool.not_true, s13_0_j, s13_0_eq, cond_false, c12]
end Go.Proofs.Ytadmoackacickaa
