import Derived.Test.YtadmoackacickaaXAM
import Derived.Test.YtadmoackacickaaXAH
set_option linter.unusedSimpArgs false
set_option linter.unusedVariables false
/- The program's compiler in the heap: branches, bodies, functions. -/
namespace Go.Proofs.Ytadmoackacickaa
open Go Go.AH
open Go.AM (Rs)
section
variable {k : Km} {Q : List AM.ORow} {X : List AM.MRow} {m m' : MG} {h g : AHeap} {W : WM} {ps : List Nat} {p : Nat} {F : MF} {R : List MF} {r : MR} {rs : List MR} {K w : Nat}
theorem KdH.ld' {kv : Value} {ks : List Int} (kd : KdH k.b k.h0 kv ks) (q : MpM k Q ps m h) {j : Nat} {x : Int} (hx : ks[j]? = some x) : ∃ pp, aIdx kv (.int .i64 (j : Int)) 1 = some pp ∧ aLd1 h pp = some (.int .i64 x) := let ⟨pp, a, f⟩ := kd.at' j x hx; ⟨pp, a, f h q.e⟩
theorem u219 {e i f : Nat} {n : Kn} {kv : Value} (ok : k.Ok) (hn : k.T[i]? = some n) (hk : n.k = 17 ∨ n.k = 18) (kd : KdH k.b k.h0 kv n.ks) (hc : aCells (knVal n kv) = some (knCells n kv)) (ko : KdsOk k n f (m.fs.map (·.fn))) (q : MpM k Q (p :: ps) m h) (hb : Bm K m) (hK : K + 5 * sz k.T (i : Int) ≤ 900000) (he : eE + 8 * f ≤ e + 2) :
  Rs (PM k Q (p :: ps) (if n.k = 18 then (runM k.T k.B f (n.ks.getD 1 0) (runM k.T k.B f (n.ks.getD 0 0) m).put).put else if n.ks.length = 2 then runM k.T k.B f (n.ks.getD 1 0) (runM k.T k.B f (n.ks.getD 0 0) m).put else runM k.T k.B f (n.ks.getD 2 0) (runM k.T k.B f (n.ks.getD 1 0) (runM k.T k.B f (n.ks.getD 0 0) m).put).put))
   (call Tp Ms (e + 3) 219 [ptr p 0, knVal n kv] h) := by
 have he' : 20000000 ≤ e + 2 := by unfold eE at he; omega
 have hsz := sz_s ok.S.lo hn
 have hlen : 2 ≤ n.ks.length := by
  rcases hk with h | h
  ·obtain ⟨c0, l, e1, _, hl, _⟩ := ok.S.iff i n hn h
   rw [e1]
   rcases hl with h | h <;> simp [h]
  ·obtain ⟨c0, x, e1, _⟩ := ok.S.whl i n hn h
   rw [e1]; simp
 obtain ⟨c0, c1, rest, hks⟩ : ∃ a b l, n.ks = a :: b :: l := by
  match n.ks, hlen with
  | a :: b :: l, _ => exact ⟨a, b, l, rfl⟩
 have m0 : c0 ∈ n.ks := by rw [hks]; simp
 have m1 : c1 ∈ n.ks := by rw [hks]; simp
 have s01 : sz k.T c0 + sz k.T c1 + (rest.map (sz k.T)).sum = (n.ks.map (sz k.T)).sum := by
  rw [hks]; simp only [List.map_cons, List.sum_cons]; omega
 have e0 : n.ks.getD 0 0 = c0 := by rw [hks]; rfl
 have e1 : n.ks.getD 1 0 = c1 := by rw [hks]; rfl
 rw [e0, e1, c219, e219]
 refine Rs.b hc (q.nw fun p2 g1 q1 => Rs.c (u217 (e := e + 1) q1) fun v g2 hv => ?_)
 obtain ⟨rfl, rfl⟩ := hv
 obtain ⟨pp0, a1, a2⟩ := kd.ld' q1 (j := 0) (x := c0) (by rw [hks]; rfl)
 obtain ⟨fb0, hf0, ho0⟩ := ko.o c0 m0
 refine Rs.b rfl (Rs.b rfl (Rs.b (q1.ld (j := 3) rfl) (Rs.b a1 (Rs.b a2 (Rs.b rfl (Rs.c (ko.E c0 m0 (e + 2) _ _ _ _ _ K fb0 he q1 hb (by omega) hf0 ho0) fun v g3 hv => ?_))))))
 obtain ⟨rfl, q2⟩ := hv
 have gd0 := gdM_ev ok (f := f) (ko.v c0 m0) m
 have b2 := gd0.v K hb
 have f2 := MmL.fns gd0.g
 generalize runM k.T k.B f c0 m = M2 at q2 b2 f2 ⊢
 refine Rs.c (putI' (e := e + 1) q2 (b2.mono (by omega))) fun v g4 hv => ?_
 obtain ⟨rfl, q3⟩ := hv
 have l3 := hdLm_put q2.ne
 have b3 := (GdM.put M2).v _ b2
 have f3 := (put_fns M2).trans f2
 generalize M2.put = M3 at q3 b3 f3 l3 ⊢
 obtain ⟨pp1, d1, d2⟩ := kd.ld' q3 (j := 1) (x := c1) (by rw [hks]; rfl)
 obtain ⟨fb1, hf1, ho1⟩ := ko.o c1 m1
 refine Rs.b rfl (Rs.b rfl (Rs.b (q3.ld (j := 3) rfl) (Rs.b d1 (Rs.b d2 (Rs.b rfl (Rs.c (ko.E c1 m1 (e + 2) _ _ _ _ _ _ fb1 he q3 b3 (by omega) hf1 (by rw [f3]; exact ho1)) fun v g5 hv => ?_))))))
 obtain ⟨rfl, q4⟩ := hv
 have gd1 := gdM_ev ok (f := f) (ko.v c1 m1) M3
 have b4 := gd1.v _ b3
 have f4 := (MmL.fns gd1.g).trans f3
 have l4 := hdLm_mo gd1.g
 generalize runM k.T k.B f c1 M3 = M4 at q4 b4 f4 l4 ⊢
 refine Rs.b rfl (Rs.b (q4.ld (j := 0) rfl) (Rs.b rfl ?_))
 by_cases h18 : n.k = 18
 ·rw [if_pos h18]
  refine Rs.ct (bT h18) (Rs.c (putI' (e := e + 1) q4 (b4.mono (by omega))) fun v g6 hv => ?_)
  obtain ⟨rfl, q5⟩ := hv
  have l5 := hdLm_put q4.ne
  exact Rs.b rfl (patchM (e := e + 1) q5 (a := hdLm M2) (by omega) fun g7 q6 => Rs.fin ⟨rfl, q6.out⟩)
 rw [if_neg h18]
 refine Rs.cf (bF h18) (Rs.b rfl (Rs.b (q4.ld (j := 3) rfl) (Rs.b kd.len (Rs.b rfl ?_))))
 by_cases h2 : n.ks.length = 2
 ·rw [if_pos h2]
  exact Rs.ct (bT (by omega)) (patchM (e := e + 1) q4 (a := hdLm M2) (by omega) fun g7 q6 => Rs.fin ⟨rfl, q6.out⟩)
 rw [if_neg h2]
 obtain ⟨c2, r2, hr2⟩ : ∃ a l, rest = a :: l := by
  match rest, hks with
  | [], hks => rw [hks] at h2; exact absurd rfl h2
  | a :: l, _ => exact ⟨a, l, rfl⟩
 have m2 : c2 ∈ n.ks := by rw [hks, hr2]; simp
 have e2 : n.ks.getD 2 0 = c2 := by rw [hks, hr2]; rfl
 have s2 : sz k.T c2 ≤ (rest.map (sz k.T)).sum := mem_sz (by rw [hr2]; simp)
 rw [e2]
 refine Rs.cf (bF (by omega)) (Rs.c (putI' (e := e + 1) q4 (b4.mono (by omega))) fun v g6 hv => ?_)
 obtain ⟨rfl, q5⟩ := hv
 have l5 := hdLm_put q4.ne
 have b5 := (GdM.put M4).v _ b4
 have f5 := (put_fns M4).trans f4
 generalize M4.put = M5 at q5 b5 f5 l5 ⊢
 refine Rs.b rfl (patchM (e := e + 1) q5 (a := hdLm M2) (by omega) fun g7 q6 => ?_)
 obtain ⟨pp2, i1, i2⟩ := kd.ld' q6 (j := 2) (x := c2) (by rw [hks, hr2]; rfl)
 obtain ⟨fb2, hf2, ho2⟩ := ko.o c2 m2
 refine Rs.b rfl (Rs.b (q6.ld (j := 3) rfl) (Rs.b i1 (Rs.b i2 (Rs.b rfl (Rs.c (ko.E c2 m2 (e + 2) _ _ _ _ _ _ fb2 he q6 b5 (by omega) hf2 (by rw [f5]; exact ho2)) fun v g8 hv => ?_)))))
 obtain ⟨rfl, q7⟩ := hv
 have gd2 := gdM_ev ok (f := f) (ko.v c2 m2) M5
 have l7 := hdLm_mo gd2.g
 exact patchM (e := e + 1) q7 (a := hdLm M4) (by omega) fun g9 q8 => Rs.fin ⟨rfl, q8.out⟩
def limM (m : MG) : MG := match m.fs with
 | [] => m
 | F :: _ => if F.up.length > 12 ∨ F.ln > 4000 then m.fail 3 else m
theorem MpM.lens (q : MpM k Q (p :: ps) m h) : ∃ F R a b, m.fs = F :: R ∧ aLd1 h (ptr p 5) = some a ∧ aLen a = some (.int .i64 (F.up.length : Int)) ∧ aLd1 h (ptr p 6) = some b ∧ aLen b = some (.int .i64 (F.ln : Int)) ∧ ∀ z : Int, ∃ g, aSt h (ptr p 3) (.int .i64 z) 1 = some g ∧ MpM k Q (p :: ps) m g := by
 obtain ⟨F, R, W, r, rs, hfs, hrs, hp, hps, qq⟩ := q.open
 obtain ⟨fs, ts, cd⟩ := m
 obtain ⟨pm, tx, wrs, oc, nd⟩ := W
 dsimp only at hfs hrs
 subst hfs hrs hp
 obtain ⟨ri, pr, pu, rcd, up, uc, cc, mp, ml⟩ := r
 have y := qq.y
 have w := qq.w
 dsimp only at y w hps ⊢
 have w1 : uc.length = F.up.length * 2 := w.1
 have w2 : cc.length = F.ln * 2 := w.2.1
 refine ⟨F, R, _, _, rfl, y.ldO 3 5 rfl rfl, y.len 4 (r := pu) (esz := 2) rfl (Nat.le_of_eq w1.symm) (by decide), y.ldO 3 6 rfl rfl, y.len 5 (r := rcd) (esz := 2) rfl (Nat.le_of_eq w2.symm) (by decide), fun z => ?_⟩
 obtain ⟨g1, a1, E1, y1, _⟩ := y.st 3 (off := 3) (m := 1) (vs := [.int .i64 z]) (v := .int .i64 z) rfl rfl rfl (by show 4 ≤ 9; decide)
 exact ⟨g1, a1, ⟨pm, tx, ⟨ri, z, pu, rcd, up, uc, cc, mp, ml⟩ :: rs, oc, nd⟩, by show ri :: rs.map (·.i) = _; rw [hps], ⟨y1, qq.E.trans E1, w, qq.o⟩⟩
theorem MpM.numb (q : MpM k Q ps m h) {x : Int} {z : Option Value} (hz : mfind (.int .i64 x) k.nl = some z) : aMget h (.map (some k.nM)) (.int .i64 x) (.int .i64 0) false = some (z.getD (.int .i64 0)) := by
 obtain ⟨W, _, q⟩ := q
 have mm := (q.y.ms _ (List.mem_cons_self)).1
 show ((h.map k.nM).bind fun l => _) = _
 rw [mm, oBs]
 show (mfind (.int .i64 x) k.nl).map _ = _
 rw [hz]
 cases z <;> rfl
theorem l142_4 {C : ACall} {N : Nat} {x1 : Int} {nb : Nat} {z : Option Value} (hz : mfind (.int .i64 x1) k.nl = some z) (hzv : (z.getD (.int .i64 0)) = Value.int .i64 (nb : Int)) (hnb : nb < k.pn) (q : MpM k Q (p :: ps) m h) :
  Rs (PM k Q (p :: ps) m) (s142_4 hk0 C N (ptr p 0) x1 h) := by
 have q0 := q
 obtain ⟨c0, c1, c2, c3, c5⟩ := q.c
 have hg := q.numb hz
 rw [hzv] at hg
 rw [s142_4_j, s142_4_eq]
 refine Rs.b rfl (Rs.b rfl (Rs.b c0 (Rs.b rfl (Rs.b rfl (Rs.b c5 (Rs.b rfl ?_))))))
 by_cases hcd : m.cd = 0
 case neg => exact Rs.cf (bF hcd) (Rs.fin ⟨rfl, q0⟩)
 obtain ⟨F, R, W, r, rs, hfs, hrs, hp, hps, qq⟩ := q.open
 obtain ⟨fs, ts, cd⟩ := m
 obtain ⟨⟨pi, prt, plv⟩, tx, wrs, oc, nd⟩ := W
 dsimp only at hfs hrs
 subst hfs hrs hp
 have y := qq.y
 have w := qq.w
 have ho := qq.o
 dsimp only at y w hps ho ⊢
 obtain ⟨ix, hlv⟩ := y.ix 1 (r := ⟨pi, prt, plv⟩) (e := 173) (cs := oc) (k := k.pn) (esz := 4) (j := nb) rfl (by omega) (by decide) hnb
 dsimp only at hlv
 subst hlv
 have ld4 : aLdN h (ptr r.i 3) 4 = some (.agg (List.toArray [.int .i64 r.pr, .int .i64 (F.sl.length : Int), r.pu.val F.up.length, r.cd.val F.ln])) := (y.row 3 rfl rfl).ldN (off := 3) (n := 4) (by show 7 ≤ 9; decide)
 have hc4 : aCells (.agg (List.toArray [.int .i64 r.pr, .int .i64 (F.sl.length : Int), r.pu.val F.up.length, r.cd.val F.ln])) = some [.int .i64 r.pr, .int .i64 (F.sl.length : Int), r.pu.val F.up.length, r.cd.val F.ln] := by
  have e : (List.all (List.toArray [Value.int .i64 r.pr, .int .i64 (F.sl.length : Int), r.pu.val F.up.length, r.cd.val F.ln]).toList isCell) = true := by
   show (true && (true && (isCell (r.pu.val F.up.length) && (isCell (r.cd.val F.ln) && true)))) = true
   simp [AM.SR.cell]
  show (if (List.all (List.toArray [Value.int .i64 r.pr, .int .i64 (F.sl.length : Int), r.pu.val F.up.length, r.cd.val F.ln]).toList isCell) = true then some (List.toArray [Value.int .i64 r.pr, .int .i64 (F.sl.length : Int), r.pu.val F.up.length, r.cd.val F.ln]).toList else none) = _
  rw [if_pos e]
 obtain ⟨g2, a2, E2, y2, _⟩ := y.st 1 (off := nb * 4) (m := 4) rfl hc4 rfl (by show nb * 4 + 4 ≤ oc.length; omega)
 refine Rs.ct (bT hcd) (Rs.b rfl (Rs.b rfl (Rs.b c0 (Rs.b rfl (Rs.b rfl (Rs.b rfl (Rs.b (y.ldO 0 3 rfl rfl) (Rs.b rfl (Rs.b rfl (Rs.b c0 (Rs.b rfl (Rs.b rfl (Rs.b c3 (Rs.b hg (Rs.b rfl (Rs.b rfl (Rs.b rfl (Rs.b ld4 (Rs.b ix (Rs.b a2 ?_))))))))))))))))))))
 refine Rs.fin ⟨rfl, ⟨⟨pi, prt, true⟩, tx, r :: rs, splice oc (nb * 4) [Value.int .i64 r.pr, Value.int .i64 (F.sl.length : Int), r.pu.val F.up.length, r.cd.val F.ln], nd⟩, by show r.i :: rs.map (·.i) = _; rw [hps], ⟨y2, qq.E.trans E2, w, ?_⟩⟩
 show (splice oc (nb * 4) [_, _, _, _]).length = k.pn * 4
 unfold splice
 simp only [List.length_append, List.length_take, List.length_drop, List.length_cons, List.length_nil]
 omega
theorem l142_1 {e N f : Nat} {kv : Value} {pl : List Int} {x1 b : Int} (ok : k.Ok) (kd : KdH k.b k.h0 kv pl) (hpl : ∀ x ∈ pl, 0 ≤ x ∧ x < (k.T.length : Int)) (hl : pl.length ≤ 1100000) {P : Value → AHeap → Prop} {S : MG} {KS : Nat} (hKS : KS ≤ 900000)
  (hk : ∀ g, MpM k Q (p :: ps) S g → Bm KS S → Rs P (s142_1 hk0 (call Tp Ms (e + 1)) N (f + 1) (ptr p 0) x1 b kv (pl.length : Int) (pl.length : Int) g)) :
  ∀ (j0 j : Nat) (m : MG) (h : AHeap) (K : Nat), pl.length - j = j0 → j ≤ pl.length → MpM k Q (p :: ps) m h → Bm K m → K + (pl.length - j) ≤ KS → (pl.drop j).foldl (fun g x => if k.B.bx.getD x.toNat false = true ∧ g.cd = 0 then g.put else g) m = S →
   Rs P (s142_1 hk0 (call Tp Ms (e + 1)) N (j0 + f + 1) (ptr p 0) x1 b kv (pl.length : Int) (j : Int) h) := by
 intro j0
 induction j0 with
 | zero =>
  intro j m h K hk' hj q hb hK hS
  rw [List.drop_eq_nil_of_le (by omega)] at hS
  have hS' : m = S := hS
  subst hS'
  have : j = pl.length := by omega
  subst this
  rw [show 0 + f + 1 = f + 1 by omega]
  exact hk h q (hb.mono (by omega))
 | succ j0 ih =>
  intro j m h K hk' hj q hb hK hS
  rw [show j0 + 1 + f + 1 = (j0 + f + 1) + 1 by omega]
  have hlt : j < pl.length := by omega
  have hmem : pl[j] ∈ pl := List.getElem_mem hlt
  have hp := hpl _ hmem
  rw [List.drop_eq_getElem_cons hlt, List.foldl_cons] at hS
  obtain ⟨pp, k1, k2⟩ := kd.ld' q (List.getElem?_eq_getElem hlt)
  obtain ⟨x, ex⟩ : ∃ x : Nat, pl[j] = x := ⟨pl[j].toNat, by omega⟩
  have hxT : x < k.T.length := by omega
  rw [ex] at hS k2
  rw [Int.toNat_natCast] at hS
  obtain ⟨c0, c1, c2, c3, c5⟩ := q.c
  obtain ⟨_, _, _, _, w5, w6, _, w8, _⟩ := bdAt ok hxT q.e
  rw [s142_1_eq]
  refine Rs.ct (decide_eq_true (by omega)) (Rs.b k1 (Rs.b k2 (Rs.b rfl (Rs.b rfl (Rs.b rfl (Rs.b c0 (Rs.b rfl (Rs.b rfl (Rs.b c2 (Rs.b rfl (Rs.b rfl (Rs.b w8 (Rs.b w5 (Rs.b w6 (Rs.b rfl ?_)))))))))))))))
  have next : ∀ (m2 : MG) (g2 : AHeap) (K2 : Nat), MpM k Q (p :: ps) m2 g2 → Bm K2 m2 → K2 ≤ K + 1 → (pl.drop (j + 1)).foldl (fun g x => if k.B.bx.getD x.toNat false = true ∧ g.cd = 0 then g.put else g) m2 = S → Rs P (s142_1 hk0 (call Tp Ms (e + 1)) N (j0 + f + 1) (ptr p 0) x1 b kv (pl.length : Int) (IntKind.i64.wrap ((j : Int) + 1)) g2) := fun m2 g2 K2 q2 b2 hK2 hS2 => by
   rw [wq (by omega) (by omega), show ((j : Int) + 1) = ((j + 1 : Nat) : Int) by omega]
   exact ih (j + 1) m2 g2 K2 (by omega) (by omega) q2 b2 (by omega) hS2
  by_cases hbx : k.B.bx.getD x false = true
  ·rw [hbx]
   refine Rs.ct rfl (Rs.b rfl (Rs.b rfl (Rs.b c0 (Rs.b rfl (Rs.b rfl (Rs.b c5 (Rs.b rfl ?_)))))))
   rw [s142_2_j, s142_2_eq]
   by_cases hcd : m.cd = 0
   ·rw [if_pos ⟨hbx, hcd⟩] at hS
    obtain ⟨mp, z2, l7, lz⟩ := q.slot (x : Int)
    refine Rs.ct (bT hcd) (Rs.b rfl (Rs.b rfl (Rs.b l7 (Rs.b lz (Rs.b rfl (Rs.c (putI' (e := e) q (hb.mono (by omega))) fun v g4 hv => ?_))))))
    obtain ⟨rfl, q4⟩ := hv
    exact Rs.b rfl (next _ g4 (K + 1) q4 ((GdM.put m).v K hb) (Nat.le_refl _) hS)
   ·rw [if_neg (fun h => hcd h.2)] at hS
    exact Rs.cf (bF hcd) (next _ h K q hb (by omega) hS)
  ·rw [if_neg (fun h => hbx h.1)] at hS
   rw [Bool.eq_false_iff.2 hbx]
   refine Rs.cf rfl ?_
   rw [s142_2_j, s142_2_eq]
   exact Rs.cf rfl (next _ h K q hb (by omega) hS)
theorem l142_0 {e N : Nat} {kv : Value} {pl : List Int} {x1 b : Int} (ok : k.Ok) (kd : KdH k.b k.h0 kv pl) (hl : pl.length ≤ 1100000) {P : Value → AHeap → Prop} {S : MG} {KS : Nat} (hKS : KS ≤ 900000)
  (hk : ∀ g, MpM k Q (p :: ps) S g → Bm KS S → Rs P (s142_1 hk0 (call Tp Ms (e + 2)) N N (ptr p 0) x1 b kv (pl.length : Int) 0 g)) :
  ∀ (j0 j n : Nat) (m : MG) (h : AHeap) (K : Nat), pl.length - j = j0 → j ≤ pl.length → j0 < n → MpM k Q (p :: ps) m h → Bm K m → K + (pl.length - j) ≤ KS → (pl.drop j).foldl (fun g x => localM x g) m = S →
   Rs P (s142_0 hk0 (call Tp Ms (e + 2)) N n (ptr p 0) x1 kv b kv (pl.length : Int) (j : Int) h) := by
 intro j0
 induction j0 with
 | zero =>
  intro j n m h K hk' hj hn q hb hK hS
  obtain ⟨n, rfl⟩ : ∃ q, n = q + 1 := ⟨n - 1, by omega⟩
  rw [List.drop_eq_nil_of_le (by omega)] at hS
  have hS' : m = S := hS
  subst hS'
  obtain ⟨F, R, a, bb, hfs, l5, _, l6, _, st⟩ := q.lens
  obtain ⟨g2, a2, q2⟩ := st (pl.length : Int)
  rw [s142_0_eq]
  exact Rs.cf (decide_eq_false (by omega)) (Rs.b kd.len (Rs.b rfl (Rs.b rfl (Rs.b rfl (Rs.b rfl (Rs.b a2 (Rs.b kd.len (Rs.b rfl (hk g2 q2 (hb.mono (by omega)))))))))))
 | succ j0 ih =>
  intro j n m h K hk' hj hn q hb hK hS
  obtain ⟨n, rfl⟩ : ∃ q, n = q + 1 := ⟨n - 1, by omega⟩
  have hlt : j < pl.length := by omega
  rw [List.drop_eq_getElem_cons hlt, List.foldl_cons] at hS
  obtain ⟨pp, k1, k2⟩ := kd.ld' q (List.getElem?_eq_getElem hlt)
  rw [s142_0_eq]
  refine Rs.ct (decide_eq_true (by omega)) (Rs.b k1 (Rs.b k2 (Rs.b rfl (Rs.c (u181 (e := e) q (hb.mono (by omega)) pl[j]) fun v g hv => ?_))))
  obtain ⟨rfl, q2⟩ := hv
  rw [wq (by omega) (by omega), show ((j : Int) + 1) = ((j + 1 : Nat) : Int) by omega]
  exact ih (j + 1) n _ g (K + 1) (by omega) (by omega) (by omega) q2 ((GdM.local m _).v K hb) (by omega) hS
theorem u142 {e f nb : Nat} {kv : Value} {pl : List Int} {x1 b : Int} {z : Option Value} (ok : k.Ok) (kd : KdH k.b k.h0 kv pl) (hpl : ∀ x ∈ pl, 0 ≤ x ∧ x < (k.T.length : Int)) (hl : pl.length ≤ 1100000) (hz : mfind (.int .i64 x1) k.nl = some z) (hzv : (z.getD (.int .i64 0)) = Value.int .i64 (nb : Int)) (hnb : nb < k.pn)
  (hv : VK k b) (hE : EvM k b f) (hok : ∃ fb, b.toNat < fb ∧ okP k.T k.B fb b (m.fs.map (·.fn))) (q : MpM k Q (p :: ps) m h) (hb : Bm K m) (hK : K + pl.length + pl.length + 5 * sz k.T b ≤ 900000) (he : eE + 8 * f ≤ e + 2) :
  Rs (PM k Q (p :: ps) (limM (runM k.T k.B f b (pl.foldl (fun g x => if k.B.bx.getD x.toNat false = true ∧ g.cd = 0 then g.put else g) (pl.foldl (fun g x => localM x g) m))).put.put)) (call Tp Ms (e + 3) 142 [ptr p 0, .int .i64 x1, kv, .int .i64 b] h) := by
 have he' : 20000000 ≤ e + 2 := by unfold eE at he; omega
 rw [c142, e142]
 refine Rs.b kd.len (Rs.b rfl ?_)
 refine l142_0 (Q := Q) (p := p) (ps := ps) (e := e) (N := e + 2) ok kd hl (KS := K + pl.length) (by omega) (fun g1 q1 b1 => ?_) pl.length 0 (e + 2) m h K (by omega) (by omega) (by omega) q hb (by omega) (by rw [List.drop_zero])
 have f1 : (pl.foldl (fun g x => localM x g) m).fs.map (·.fn) = m.fs.map (·.fn) := by
  have := gdM_fold (R := fun g x => localM x g) (w := fun _ => 1) pl (fun x hx m => GdM.local m x) m
  exact MmL.fns this.g
 obtain ⟨N', hN'⟩ : ∃ N', e + 2 = pl.length + N' + 1 := ⟨e + 1 - pl.length, by omega⟩
 have step := l142_1 (Q := Q) (p := p) (ps := ps) (e := e + 1) (N := e + 2) (f := N') (x1 := x1) (b := b) ok kd hpl hl (P := PM k Q (p :: ps) (limM (runM k.T k.B f b (pl.foldl (fun g x => if k.B.bx.getD x.toNat false = true ∧ g.cd = 0 then g.put else g) (pl.foldl (fun g x => localM x g) m))).put.put)) (S := pl.foldl (fun g x => if k.B.bx.getD x.toNat false = true ∧ g.cd = 0 then g.put else g) (pl.foldl (fun g x => localM x g) m)) (KS := K + pl.length + pl.length) (by omega) (fun g2 q2 b2 => ?_) pl.length 0 _ g1 (K + pl.length) (by omega) (by omega) q1 b1 (by omega) (by rw [List.drop_zero])
 ·rw [← hN'] at step
  exact step
 have f2 : (pl.foldl (fun g x => if k.B.bx.getD x.toNat false = true ∧ g.cd = 0 then g.put else g) (pl.foldl (fun g x => localM x g) m)).fs.map (·.fn) = m.fs.map (·.fn) := by
  have := gdM_fold (R := fun g x => if k.B.bx.getD x.toNat false = true ∧ g.cd = 0 then g.put else g) (w := fun _ => 1) pl (fun x hx m => by
   split
   ·exact GdM.put m
   ·exact (GdM.refl m).mono (by omega)) (pl.foldl (fun g x => localM x g) m)
  exact (MmL.fns this.g).trans f1
 generalize pl.foldl (fun g x => if k.B.bx.getD x.toNat false = true ∧ g.cd = 0 then g.put else g) (pl.foldl (fun g x => localM x g) m) = M2 at q2 b2 f2 ⊢
 obtain ⟨fb, hf, ho⟩ := hok
 rw [s142_1_eq]
 refine Rs.cf (decide_eq_false (by omega)) (Rs.c (hE (e + 2) _ _ _ _ _ _ fb he q2 b2 (by omega) hf (by rw [f2]; exact ho)) fun v g3 hv' => ?_)
 obtain ⟨rfl, q3⟩ := hv'
 have b3 := (gdM_ev ok (f := f) hv M2).v _ b2
 generalize runM k.T k.B f b M2 = M3 at q3 b3 ⊢
 refine Rs.c (putI' (e := e + 1) q3 (b3.mono (by omega))) fun v g4 hv' => ?_
 obtain ⟨rfl, q4⟩ := hv'
 have b4 := (GdM.put M3).v _ b3
 refine Rs.b rfl (Rs.c (putI' (e := e + 1) q4 (b4.mono (by omega))) fun v g5 hv' => ?_)
 obtain ⟨rfl, q5⟩ := hv'
 generalize M3.put.put = M5 at q5 ⊢
 obtain ⟨F, R, a, bb, hfs, l5, l5', l6, l6', _⟩ := q5.lens
 obtain ⟨c0, _⟩ := q5.c
 have e5 : ∀ x : Bool, (x = true ↔ (F.up.length > 12 ∨ F.ln > 4000)) → Rs (PM k Q (p :: ps) (limM M5)) (s142_3 hk0 (call Tp Ms (e + 2)) (e + 2) (ptr p 0) x1 x g5) := fun x hx => by
  unfold limM
  rw [hfs, s142_3_j, s142_3_eq]
  dsimp only
  cases x with
  | true =>
   rw [if_pos (hx.1 rfl)]
   refine Rs.ct rfl (Rs.b rfl (Rs.b rfl (Rs.b c0 (Rs.c (u184 (e := e + 1) q5 3 x1) fun v g8 hv => ?_))))
   exact l142_4 hz hzv hnb hv.2
  | false =>
   rw [if_neg (fun h => by have := hx.2 h; cases this)]
   exact Rs.cf rfl (l142_4 hz hzv hnb q5)
 refine Rs.b rfl (Rs.b rfl (Rs.b rfl (Rs.b rfl (Rs.b l5 (Rs.b l5' (Rs.b rfl (Rs.i (fun h12 => ?_) (fun h12 => ?_))))))))
 ·exact e5 true ⟨fun _ => .inl (by omega), fun _ => rfl⟩
 ·refine Rs.b rfl (Rs.b rfl (Rs.b rfl (Rs.b l6 (Rs.b l6' (Rs.b rfl ?_)))))
  refine e5 _ ?_
  rw [decide_eq_true_iff]
  omega
end
open Go.AM (Rs)
section
variable {k : Km} {Q : List AM.ORow} {X : List AM.MRow} {m m' : MG} {h g : AHeap} {W : WM} {ps : List Nat} {p : Nat} {F : MF} {R : List MF} {r : MR} {rs : List MR} {K w : Nat}
def pushM (fn : Int) (m : MG) : MG := { m with fs := ⟨fn, [], [], 0⟩ :: m.fs }
def popM (m : MG) : MG := { m with fs := m.fs.tail }
theorem MpM.pop (q : MpM k Q (p :: ps) m h) : MpM k Q ps (popM m) h := by
 obtain ⟨F, R, W, r, rs, hfs, hrs, _, hps, qq⟩ := q.open
 have q2 := qq.drop hfs hrs
 refine ⟨{ W with rs := rs }, hps, ?_⟩
 have e1 : popM m = { m with fs := R } := by unfold popM; rw [hfs]; rfl
 rw [e1]
 refine ⟨(q2.y.pick ?_).pickM ?_, q2.E, q2.w, q2.o⟩
 ·refine List.Sublist.cons_cons _ (List.Sublist.cons_cons _ (List.Sublist.cons_cons _ (List.Sublist.append_left ?_ _)))
  exact List.sublist_append_right _ _
 ·refine List.Sublist.cons_cons _ (List.Sublist.append_left ?_ _)
  exact List.nil_sublist _
theorem pushMk {P : Value → AHeap → Prop} {fn : Int} {v : Value} {kk : Value → AHeap → Option (Value × AHeap)} (q : MpM k Q ps m h) (hv : ∀ W : WM, W.rs.map (·.i) = ps → v = nx W.rs)
  (hk : ∀ i g, MpM k Q (i :: ps) (pushM fn m) g → Rs P (kk (ptr i 0) g)) :
  Rs P (aNewM h fun p19 h20 => aNew h20 175 [ptr k.C 0, v, .int .i64 fn, .int .i64 0, .int .i64 0, .slice none 0 0, .slice none 0 0, p19, .slice none 0 0] kk) := by
 obtain ⟨W, hps, q⟩ := q
 have hv := hv W hps
 subst hv
 refine Rs.nM q.y fun mp g1 E1 y1 => Rs.n y1 fun i g2 E2 y2 => hk i g2 ?_
 have dd : ∀ (t : TypeId) {O : List AM.ORow} {M : List AM.MRow}, AM.Cx k.b g2 [] O M → AM.Cx k.b g2 [] (AM.SR.none.row t [] :: O) M := fun t O M y => y.add (AM.Ext.refl _ _) (fun h => by cases h) (fun _ => rfl)
 have y5 := cxFront (dd 219 (dd 206 (dd 3 y2))) 3 rfl
 refine ⟨{ W with rs := ⟨i, 0, AM.SR.none, AM.SR.none, AM.SR.none, [], [], mp, []⟩ :: W.rs }, by show i :: W.rs.map (·.i) = _; rw [hps], ⟨(y5.perm ?_).permM ?_, (q.E.trans E1).trans E2, ⟨rfl, rfl, (fun e he => by cases he), q.w⟩, q.o⟩⟩
 ·have pr : ∀ (A B C : List AM.ORow), List.Perm (A ++ (B ++ C)) (B ++ (A ++ C)) := fun A B C => by
   rw [← List.append_assoc, ← List.append_assoc]
   exact List.Perm.append_right _ List.perm_append_comm
  exact pr [⟨i, i, 175, true, [ptr k.C 0, nx W.rs, .int .i64 fn, .int .i64 0, .int .i64 0, .slice none 0 0, .slice none 0 0, .map (some mp), .slice none 0 0]⟩, AM.SR.none.row 219 [], AM.SR.none.row 206 [], AM.SR.none.row 3 []] [⟨k.C, k.C, 128, true, cC k W m⟩, W.pm.row 173 W.oc, W.tx.row 9 (strs m.ts)] (msR k W.rs m.fs ++ Q)
 ·exact List.Perm.swap _ _ _
theorem whole_eq {B : Bd} {P : Int → MG → MG} {fn : Int} {pl : List Int} {blk : Int} (m : MG) : wholeM B P fn pl blk m = popM (limM (P blk (pl.foldl (fun g x => if B.bx.getD x.toNat false = true ∧ g.cd = 0 then g.put else g) (pl.foldl (fun g x => localM x g) (pushM fn m)))).put.put) := rfl
theorem u214 {e i f : Nat} {n : Kn} {kv : Value} {tq : Nat} (ok : k.Ok) (hn : k.T[i]? = some n) (h6 : n.k = 6) (kd : KdH k.b k.h0 kv n.ks) (hc : aCells (knVal n kv) = some (knCells n kv)) (hix : aIdx k.nv (.int .i64 (i : Int)) 4 = some (ptr tq (i * 4))) (hkv : aLd1 k.h0 (ptr tq (i * 4 + 3)) = some kv) (hl : n.ks.length ≤ 1100000)
  (hE : EvM k (n.ks.getLastD 0) f) (hok : ∃ fb, (n.ks.getLastD 0).toNat < fb ∧ okP k.T k.B fb (n.ks.getLastD 0) ((i : Int) :: m.fs.map (·.fn))) (q : MpM k Q (p :: ps) m h) (hb : Bm K m) (hK : K + 5 * sz k.T (i : Int) ≤ 900000) (he : eE + 8 * f ≤ e + 2) :
  Rs (PM k Q (p :: ps) (if numS k.T (i : Int) ≥ 100 then m.fail 3 else (wholeM k.B (runM k.T k.B f) (i : Int) n.ks.dropLast (n.ks.getLastD 0) m).put)) (call Tp Ms (e + 4) 214 [ptr p 0, .int .i64 (i : Int), knVal n kv] h) := by
 have hiT := (List.getElem?_eq_some_iff.1 hn).1
 have hsz := sz_s ok.S.lo hn
 have lo := ok.S.lo i n hn
 obtain ⟨pl, b, hks, hpk, hbk⟩ := ok.S.fn i n hn h6
 have e1 : n.ks.dropLast = pl := by rw [hks, List.dropLast_concat]
 have e2 : n.ks.getLastD 0 = b := by rw [hks, List.getLastD_concat]
 have hkl : n.ks.length = pl.length + 1 := by rw [hks]; simp
 have hbm : b ∈ n.ks := by rw [hks]; simp
 obtain ⟨v', sub, kds⟩ := ok.sub i n tq kv hn hix hkv (by rw [hks]; simp)
 obtain ⟨hz, hlt⟩ := (ok.num i n hn).1 h6
 rw [e1] at kds ⊢
 rw [e2] at hE hok ⊢
 have szps : pl.length + sz k.T b ≤ (n.ks.map (sz k.T)).sum := by
  rw [hks, List.map_append, List.sum_append]
  simp only [List.map_cons, List.map_nil, List.sum_cons, List.sum_nil]
  have : ∀ l : List Int, (∀ x ∈ l, 0 ≤ x ∧ x < (k.T.length : Int)) → l.length ≤ (l.map (sz k.T)).sum := fun l => by
   induction l with
   | nil => intro _; simp
   | cons a l ih =>
    intro h
    have h1 := ih fun x hx => h x (by simp [hx])
    have h2 := h a (by simp)
    obtain ⟨j, rfl⟩ : ∃ q : Nat, a = q := ⟨a.toNat, by omega⟩
    have hj : j < k.T.length := by omega
    have h3 := sz_s ok.S.lo (show k.T[j]? = some k.T[j] by simp [hj])
    rw [List.map_cons, List.sum_cons, List.length_cons]; omega
  have := this pl fun x hx => by have := lo x (by rw [hks]; simp [hx]); omega
  omega
 rw [c214, e214]
 refine Rs.b hc (q.nw fun p2 g1 q1 => ?_)
 obtain ⟨c0, c1, c2, c3, c5⟩ := q1.c
 have hg := q1.numb hz
 refine Rs.b rfl (Rs.b rfl (Rs.b c0 (Rs.b rfl (Rs.b rfl (Rs.b c3 (Rs.b hg (Rs.b rfl (Rs.i (fun h100 => ?_) (fun h100 => ?_)))))))))
 ·rw [if_pos (by omega)]
  exact Rs.b rfl (Rs.b rfl (Rs.b c0 (Rs.c (u184 (e := e + 2) q1 3 (i : Int)) fun v g2 hv => Rs.fin ⟨rfl, hv.2.out⟩)))
 rw [if_neg (by omega)]
 refine Rs.b rfl (Rs.b rfl (Rs.b c0 ?_))
 have ef : ∀ p19 : Value, isCell p19 = true → aFill [.pointer none, .pointer none, .int .i64 0, .int .i64 0, .int .i64 0, .slice none 0 0, .slice none 0 0, .map none, .slice none 0 0] [(0, 1, ptr k.C 0), (1, 1, ptr p 0), (2, 1, .int .i64 (i : Int)), (7, 1, p19)] = some [ptr k.C 0, ptr p 0, .int .i64 (i : Int), .int .i64 0, .int .i64 0, .slice none 0 0, .slice none 0 0, p19, .slice none 0 0] := fun p19 hc => by
  have h1 : aCells p19 = some [p19] := by cases p19 <;> first | (simp [isCell] at hc; done) | rfl
  rw [aFill]
  show (some [ptr k.C 0]).bind _ = _
  rw [oBs, if_pos ⟨rfl, by decide⟩, aFill]
  show (some [ptr p 0]).bind _ = _
  rw [oBs, if_pos ⟨rfl, by show 2 ≤ 9; decide⟩, aFill]
  show (some [Value.int .i64 (i : Int)]).bind _ = _
  rw [oBs, if_pos ⟨rfl, by show 3 ≤ 9; decide⟩, aFill, h1, oBs, if_pos ⟨rfl, by show 8 ≤ 9; decide⟩, aFill]
  rfl
 have push := pushMk (P := PM k Q (p :: ps) (wholeM k.B (runM k.T k.B f) (i : Int) pl b m).put) (fn := (i : Int)) (v := ptr p 0) (kk := fun p23 h24 => (aOff (ptr p2 0) 3).bind fun v25 => (aLd1 h24 v25).bind fun v26 => (aLen v26).bind fun v27 => (asI .i64 v27).bind fun n28 => (aOff (ptr p2 0) 3).bind fun v29 => (aLd1 h24 v29).bind fun v30 => (aSub h24 3 v30 none (some (.int .i64 (IntKind.i64.wrap (n28 - 1)))) 1).bind fun v31 => (aOff (ptr p2 0) 3).bind fun v32 => (aLd1 h24 v32).bind fun v33 => (aIdx v33 (.int .i64 (IntKind.i64.wrap (n28 - 1))) 1).bind fun v34 => (aLd1 h24 v34).bind fun v35 => (asI .i64 v35).bind fun n36 => (call Tp Ms (e + 3) 142 [p23, .int .i64 (i : Int), v31, .int .i64 n36] h24).bind fun r37 => (aNil (ptr p 0)).bind fun v38 => (aOff v38 0).bind fun v39 => (aLd1 r37.2 v39).bind fun v40 => (aNil v40).bind fun v41 => (aOff v41 2).bind fun v42 => (aLd1 r37.2 v42).bind fun v43 => (aMget r37.2 v43 (.int .i64 (i : Int)) (.int .i64 0) false).bind fun v44 => (asI .i64 v44).bind fun n45 => (call Tp Ms (e + 3) 182 [ptr p 0, .int .i64 12, .int .i64 n45] r37.2).bind fun r46 => (asI .i64 r46.1).bind fun n47 => some (.tuple (List.toArray []), r46.2)) q1 (fun W hW => by
   match hrs : W.rs, hW with
   | r :: rs, hW =>
    simp only [List.map_cons, List.cons.injEq] at hW
    show ptr p 0 = ptr r.i 0
    rw [hW.1]) (fun p23 g4 q4 => ?_)
 ·refine Rs.of ?_ push
  unfold aNewM
  show (aFill [.pointer none, .pointer none, .int .i64 0, .int .i64 0, .int .i64 0, .slice none 0 0, .slice none 0 0, .map none, .slice none 0 0] [(0, 1, ptr k.C 0), (1, 1, ptr p 0), (2, 1, .int .i64 (i : Int)), (7, 1, .map (some g1.size))]).bind _ = _
  rw [ef _ rfl, oBs]
  show (aCells (.agg (List.toArray [ptr k.C 0, ptr p 0, .int .i64 (i : Int), .int .i64 0, .int .i64 0, .slice none 0 0, .slice none 0 0, .map (some g1.size), .slice none 0 0]))).bind _ = _
  rfl
 ·obtain ⟨pp, k1, k2⟩ := kd.ld' q4 (j := pl.length) (x := b) (by rw [hks]; simp)
  have wl : IntKind.i64.wrap ((n.ks.length : Int) - 1) = (pl.length : Int) := by rw [hkl, wp _ (by omega)]
  have sub4 := sub g4 q4.e
  rw [show ((n.ks.length : Int) - 1) = (pl.length : Int) by omega] at sub4
  have hb4 : Bm (K + 1) (pushM (i : Int) m) := ⟨fun F hF => by
   rcases List.mem_cons.1 hF with c | c
   ·subst c; exact ⟨Nat.zero_le _, Nat.zero_le _, Nat.zero_le _⟩
   ·exact (hb.f F c).mono (by omega), Nat.le_succ_of_le hb.t, Nat.succ_le_succ hb.n⟩
  refine Rs.b rfl (Rs.b (q4.ld (j := 3) rfl) (Rs.b kd.len (Rs.b rfl (Rs.b rfl (Rs.b (q4.ld (j := 3) rfl) ?_)))))
  rw [wl]
  refine Rs.b sub4 (Rs.b rfl (Rs.b (q4.ld (j := 3) rfl) (Rs.b k1 (Rs.b k2 (Rs.b rfl ?_)))))
  refine Rs.c (u142 (m := pushM (i : Int) m) (e := e) (f := f) (nb := numS k.T (i : Int)) ok kds (fun x hx => by have := lo x (by rw [hks]; simp [hx]); omega) (by omega) hz rfl (hlt (by omega)) ⟨(lo b hbm).1, by rw [hbk]; decide, by rw [hbk]; decide⟩ hE hok q4.out hb4 (by omega) he) fun v g5 hv => ?_
  obtain ⟨rfl, q5⟩ := hv
  have q6 := q5.pop
  have gw := gdM_whole (B := k.B) (P := runM k.T k.B f) (fn := (i : Int)) (ps := pl) (blk := b) (w := 5 * sz k.T b) (fun m => gdM_ev ok ⟨(lo b hbm).1, by rw [hbk]; decide, by rw [hbk]; decide⟩ m) m
  have b6 := gw.v K hb
  rw [whole_eq] at b6 ⊢
  obtain ⟨d0, _, _, d3, _⟩ := q6.c
  refine Rs.b rfl (Rs.b rfl (Rs.b d0 (Rs.b rfl (Rs.b rfl (Rs.b d3 (Rs.b (q6.numb hz) (Rs.b rfl (Rs.c (putI' (e := e + 2) q6 (b6.mono (by omega))) fun v g7 hv => ?_))))))))
  obtain ⟨rfl, q7⟩ := hv
  exact Rs.b rfl (Rs.fin ⟨rfl, q7⟩)
theorem u152 (e : Nat) (x : Int) (h : AHeap) : call Tp Ms (e + 2) 152 [.int .i64 x] h = some (.bool (isEx x), h) := by
 have l103' : ∀ (x a b : Int) (h : AHeap), call Tp Ms (e + 1) 103 [.int .i64 x, .int .i64 a, .int .i64 b] h = some (.bool (inR x a b), h) := l103 e
 rw [c152, e152, l103', oBs]; rfl
end
open Go.AM (Rs)
section
variable {k : Km} {Q : List AM.ORow} {X : List AM.MRow} {m m' : MG} {h g : AHeap} {W : WM} {ps : List Nat} {p : Nat} {F : MF} {R : List MF} {r : MR} {rs : List MR} {K w : Nat}
structure NdM (k : Km) (i : Nat) (n : Kn) (f : Nat) (fns : List Int) : Prop where
 hn : k.T[i]? = some n
 l : n.ks.length ≤ 1100000
 v : n.k ≠ 6 → n.k ≠ 7 → KdsOk k n f fns
 b : n.k = 6 → EvM k (n.ks.getLastD 0) f ∧ ∃ fb, (n.ks.getLastD 0).toNat < fb ∧ okP k.T k.B fb (n.ks.getLastD 0) ((i : Int) :: fns)
 t : n.k = 7 → ∀ x ∈ n.ks, ∀ (j : Nat) (mm : Kn), x = j → k.T[j]? = some mm → KdsOk k mm f fns
 o : (n.k = 5 ∨ n.k = 15) → OwOk k i fns
theorem putE {e : Nat} {op a : Int} (q : MpM k Q (p :: ps) m h) {row : AM.ORow} {Q' : List AM.ORow} (hQ : Q = row :: Q') (hb : Bm 1000000 m) : Rs (PM k Q' (p :: ps) m.put) ((call Tp Ms (e + 1) 182 [ptr p 0, .int .i64 op, .int .i64 a] h).bind fun r82 => (asI .i64 r82.1).bind fun n83 => some (.tuple (List.toArray []), r82.2)) := by
 subst hQ
 refine Rs.c (putI' (e := e) q hb) fun v g hv => ?_
 obtain ⟨rfl, q2⟩ := hv
 exact Rs.b rfl (Rs.fin ⟨rfl, q2.out⟩)
theorem u200 {e i f : Nat} {n : Kn} {kv : Value} {tq : Nat} (ok : k.Ok) (nd : NdM k i n f (m.fs.map (·.fn))) (hk : xEx n.k) (kd : KdH k.b k.h0 kv n.ks) (hc : aCells (knVal n kv) = some (knCells n kv)) (hix : aIdx k.nv (.int .i64 (i : Int)) 4 = some (ptr tq (i * 4))) (hkv : aLd1 k.h0 (ptr tq (i * 4 + 3)) = some kv) (hcd : m.cd = 0)
  (q : MpM k Q (p :: ps) m h) (hb : Bm K m) (hK : K + 5 * sz k.T (i : Int) ≤ 900000) (he : eE + 8 * f ≤ e) :
  Rs (PM k Q (p :: ps) (runM k.T k.B (f + 1) (i : Int) m)) (call Tp Ms (e + 6) 200 [ptr p 0, .int .i64 (i : Int), knVal n kv] h) := by
 have he' : 20000000 ≤ e := by unfold eE at he; omega
 have hn := nd.hn
 have hsz := sz_s ok.S.lo hn
 have hb' : Bm 1000000 m := hb.mono (by omega)
 have em : runM k.T k.B (f + 1) (i : Int) m = stepM k.T k.B (runM k.T k.B f) (i : Int) m := rfl
 unfold xEx at hk
 rw [em, stM_at hn, if_neg (fun h => h hcd), c200, e200]
 refine Rs.b hc (q.nw fun p2 g q1 => ?_)
 obtain ⟨c0, _⟩ := q1.c
 refine Rs.b rfl (Rs.b (q1.ld (j := 0) rfl) (Rs.b rfl ?_))
 by_cases h1 : n.k = 1
 ·rw [if_pos (.inl h1)]
  exact Rs.ct (bT h1) (putE (e := e + 4) q1 rfl hb')
 refine Rs.cf (bF h1) ?_
 by_cases h2 : n.k = 2
 ·rw [if_pos (.inr (.inl h2))]
  exact Rs.ct (bT h2) (Rs.b rfl (Rs.b (q1.ld (j := 2) rfl) (Rs.b rfl (putE (e := e + 4) q1 rfl hb'))))
 refine Rs.cf (bF h2) ?_
 by_cases h3 : n.k = 3
 ·rw [if_pos (.inr (.inr h3))]
  exact Rs.ct (bT h3) (Rs.b rfl (Rs.b (q1.ld (j := 2) rfl) (Rs.b rfl (putE (e := e + 4) q1 rfl hb'))))
 refine Rs.cf (bF h3) ?_
 rw [if_neg (by omega)]
 by_cases h4 : n.k = 4
 ·rw [if_pos h4, textM_N]
  refine Rs.ct (bT h4) (Rs.c (u212 (e := e + 3) ok hn q1 hb' (by omega)) fun v g2 hv => ?_)
  obtain ⟨a, rfl, q2⟩ := hv
  have b2 : Bm 1000000 (textN n.t m) := by
   have : GdM 1 m (textN n.t m) := by
    unfold textN
    split
    ·exact (GdM.refl m).mono (by omega)
    ·split
     ·exact (GdM.fail m 3).mono (by omega)
     ·exact ⟨MmL.refl _, fun K h => ⟨fun F hF => (h.f F hF).mono (Nat.le_succ K), by show (m.ts ++ [n.t]).length ≤ _; simp; exact h.t, Nat.le_succ_of_le h.n⟩⟩
   exact (this.v K hb).mono (by omega)
  exact Rs.b rfl (putE (e := e + 4) q2 rfl b2)
 refine Rs.cf (bF h4) ?_
 rw [if_neg h4]
 by_cases h5 : n.k = 5
 ·rw [if_pos h5]
  refine Rs.ct (bT h5) (Rs.b q1.ldN4 (Rs.c (u213 (e := e + 2) ok hn hc q1 (hb.mono (by omega)) (nd.o (.inl h5)) (by omega)) fun v g2 hv => ?_))
  exact Rs.fin ⟨rfl, hv.2.out⟩
 refine Rs.cf (bF h5) ?_
 rw [if_neg h5]
 by_cases h6 : n.k = 6
 ·rw [if_pos h6]
  obtain ⟨hE, hok⟩ := nd.b h6
  refine Rs.ct (bT h6) (Rs.b q1.ldN4 (Rs.c (u214 (e := e + 1) ok hn h6 kd hc hix hkv nd.l hE hok q1 hb hK (by omega)) fun v g2 hv => ?_))
  exact Rs.fin ⟨rfl, hv.2.out⟩
 refine Rs.cf (bF h6) ?_
 rw [if_neg h6]
 by_cases h7 : n.k = 7
 ·rw [if_pos h7]
  refine Rs.ct (bT h7) (Rs.b q1.ldN4 (Rs.c (u215 (e := e + 3) ok hn kd hc nd.l (by omega) (nd.t h7) q1 hb hK) fun v g2 hv => ?_))
  exact Rs.fin ⟨rfl, hv.2.out⟩
 refine Rs.cf (bF h7) ?_
 rw [if_neg h7]
 have ko := nd.v h6 h7
 have kg := kidsGd ok (f := f) ko.v m
 have bk := kg.v K hb
 have kids : ∀ {P : Value → AHeap → Prop} {kk : Value × AHeap → Option (Value × AHeap)}, (∀ g2, MpM k (⟨p2, p2, 73, true, knCells n kv⟩ :: Q) (p :: ps) (n.ks.foldl (fun g x => runM k.T k.B f x g) m) g2 → Rs P (kk (unitV, g2))) → Rs P ((aOff (ptr p2 0) 3).bind fun v29 => (aLd1 g v29).bind fun v30 => (call Tp Ms (e + 5) 216 [ptr p 0, v30] g).bind kk) := fun hk2 => by
  refine Rs.b rfl (Rs.b (q1.ld (j := 3) rfl) (Rs.c (u216 (e := e + 4) ok kd ko.v ko.l (by omega) ko.E ko.o q1 hb (by omega)) fun v g2 hv => ?_))
  obtain ⟨rfl, q2⟩ := hv
  exact hk2 g2 q2
 by_cases h8 : n.k = 8
 ·rw [if_pos (.inl h8)]
  exact Rs.ct (bT h8) (kids fun g2 q2 => putE (e := e + 4) q2 rfl (bk.mono (by omega)))
 refine Rs.cf (bF h8) ?_
 by_cases h10 : n.k = 10
 ·rw [if_pos (.inr (.inl h10))]
  exact Rs.ct (bT h10) (kids fun g2 q2 => Rs.b rfl (Rs.b (q2.ld (j := 2) rfl) (Rs.b rfl (putE (e := e + 4) q2 rfl (bk.mono (by omega))))))
 refine Rs.cf (bF h10) ?_
 by_cases h11 : n.k = 11
 ·rw [if_pos (.inr (.inr h11))]
  exact Rs.ct (bT h11) (kids fun g2 q2 => Rs.b rfl (Rs.b (q2.ld (j := 2) rfl) (Rs.b rfl (putE (e := e + 4) q2 rfl (bk.mono (by omega))))))
 refine Rs.cf (bF h11) ?_
 rw [if_neg (by omega)]
 by_cases h9 : n.k = 9
 ·rw [if_pos h9]
  refine Rs.ct (bT h9) (Rs.c (putI' (e := e + 4) q1 hb') fun v g2 hv => ?_)
  obtain ⟨rfl, q2⟩ := hv
  have b2 := (GdM.put m).v K hb
  have kg2 := kidsGd ok (f := f) ko.v m.put
  have b3 := kg2.v _ b2
  refine Rs.b rfl (Rs.b rfl (Rs.b (q2.ld (j := 3) rfl) (Rs.c (u216 (e := e + 4) ok kd ko.v ko.l (by omega) ko.E (by rw [put_fns]; exact ko.o) q2 b2 (by omega)) fun v g3 hv => ?_)))
  obtain ⟨rfl, q3⟩ := hv
  generalize n.ks.foldl (fun g x => runM k.T k.B f x g) m.put = M3 at q3 b3 ⊢
  obtain ⟨d0, _⟩ := q3.c
  have hl := nd.l
  have fin : ∀ (M4 : MG) (g4 : AHeap), MpM k (⟨p2, p2, 73, true, knCells n kv⟩ :: Q) (p :: ps) M4 g4 → Bm 1000000 M4 → Rs (PM k Q (p :: ps) M4.put) (s200_0 hk0 (call Tp Ms (e + 5)) (e + 5) (ptr p 0) (ptr p2 0) g4) := fun M4 g4 q4 b4 => by
   rw [s200_0_j, s200_0_eq]
   exact Rs.b rfl (Rs.b (q4.ld (j := 3) rfl) (Rs.b kd.len (Rs.b rfl (putE (e := e + 4) q4 rfl b4))))
  refine Rs.b rfl (Rs.b (q3.ld (j := 3) rfl) (Rs.b kd.len (Rs.b rfl ?_)))
  rw [wq (by omega) (by omega)]
  refine Rs.i (fun h40 => ?_) (fun h40 => ?_)
  ·rw [if_pos h40]
   refine Rs.b rfl (Rs.b rfl (Rs.b d0 (Rs.c (u184 (e := e + 4) q3 3 (i : Int)) fun v g4 hv => ?_)))
   exact fin _ g4 hv.2 (((GdM.fail M3 3).v _ b3).mono (by omega))
  ·rw [if_neg h40]
   exact fin _ g3 q3 (b3.mono (by omega))
 rw [if_neg h9]
 have h12 : n.k = 12 ∨ n.k = 13 := by omega
 rw [if_pos h12]
 have h2' := ok.S.two i n hn h12
 match hks : n.ks, h2' with
 | [x, y], _ =>
 rw [hks] at hsz
 simp only [List.map_cons, List.map_nil, List.sum_cons, List.sum_nil] at hsz
 have mx : x ∈ n.ks := by rw [hks]; simp
 have my : y ∈ n.ks := by rw [hks]; simp
 show Rs (PM k Q (p :: ps) (runM k.T k.B f y (runM k.T k.B f x m).put)) _
 have fin : ∀ op : Int, Rs (PM k Q (p :: ps) (runM k.T k.B f y (runM k.T k.B f x m).put)) (s200_1 hk0 (call Tp Ms (e + 5)) (e + 5) (ptr p 0) (ptr p2 0) op g) := fun op => by
  rw [s200_1_j, s200_1_eq]
  obtain ⟨p1, a1, a2⟩ := kd.ld' q1 (j := 0) (x := x) (by rw [hks]; rfl)
  obtain ⟨fb0, hf0, ho0⟩ := ko.o x mx
  refine Rs.b rfl (Rs.b (q1.ld (j := 3) rfl) (Rs.b a1 (Rs.b a2 (Rs.b rfl (Rs.c (ko.E x mx (e + 5) _ _ _ _ _ K fb0 (by omega) q1 hb (by omega) hf0 ho0) fun v g2 hv => ?_)))))
  obtain ⟨rfl, q2⟩ := hv
  have gx := gdM_ev ok (f := f) (ko.v x mx) m
  have b2 := gx.v K hb
  have f2 := MmL.fns gx.g
  generalize runM k.T k.B f x m = M2 at q2 b2 f2 ⊢
  refine Rs.c (putI' (e := e + 4) q2 (b2.mono (by omega))) fun v g3 hv => ?_
  obtain ⟨rfl, q3⟩ := hv
  have l3 := hdLm_put q2.ne
  have b3 := (GdM.put M2).v _ b2
  have f3 := (put_fns M2).trans f2
  generalize M2.put = M3 at q3 b3 f3 l3 ⊢
  obtain ⟨p3, d1, d2⟩ := kd.ld' q3 (j := 1) (x := y) (by rw [hks]; rfl)
  obtain ⟨fb1, hf1, ho1⟩ := ko.o y my
  refine Rs.b rfl (Rs.b rfl (Rs.b (q3.ld (j := 3) rfl) (Rs.b d1 (Rs.b d2 (Rs.b rfl (Rs.c (ko.E y my (e + 5) _ _ _ _ _ _ fb1 (by omega) q3 b3 (by omega) hf1 (by rw [f3]; exact ho1)) fun v g4 hv => ?_))))))
  obtain ⟨rfl, q4⟩ := hv
  have gy := gdM_ev ok (f := f) (ko.v y my) M3
  have l4 := hdLm_mo gy.g
  exact patchM (e := e + 4) q4 (a := hdLm M2) (by omega) fun g5 q5 => Rs.fin ⟨rfl, q5.out⟩
 refine Rs.cf (bF h9) (Rs.b rfl (Rs.b (q1.ld (j := 0) rfl) (Rs.b rfl ?_)))
 by_cases h13 : n.k = 13
 ·exact Rs.ct (bT h13) (fin 21)
 ·exact Rs.cf (bF h13) (fin 20)
theorem u201 {e i f : Nat} {n : Kn} {kv : Value} (ok : k.Ok) (nd : NdM k i n f (m.fs.map (·.fn))) (hk : 14 ≤ n.k ∧ n.k ≤ 21) (kd : KdH k.b k.h0 kv n.ks) (hc : aCells (knVal n kv) = some (knCells n kv)) (hcd : m.cd = 0)
  (q : MpM k Q (p :: ps) m h) (hb : Bm K m) (hK : K + 5 * sz k.T (i : Int) ≤ 900000) (he : eE + 8 * f ≤ e) :
  Rs (PM k Q (p :: ps) (runM k.T k.B (f + 1) (i : Int) m)) (call Tp Ms (e + 6) 201 [ptr p 0, .int .i64 (i : Int), knVal n kv] h) := by
 have he' : 20000000 ≤ e := by unfold eE at he; omega
 have hn := nd.hn
 have hiT := (List.getElem?_eq_some_iff.1 hn).1
 have hsz := sz_s ok.S.lo hn
 have em : runM k.T k.B (f + 1) (i : Int) m = stepM k.T k.B (runM k.T k.B f) (i : Int) m := rfl
 have ko := nd.v (by omega) (by omega)
 have kg := kidsGd ok (f := f) ko.v m
 have bk := kg.v K hb
 have fk := MmL.fns kg.g
 rw [em, stM_at hn, if_neg (fun h => h hcd), if_neg (by omega), if_neg (by omega), if_neg (by omega), if_neg (by omega), if_neg (by omega), if_neg (by omega), if_neg (by omega), if_neg (by omega), c201, e201]
 refine Rs.b hc (q.nw fun p2 g q1 => ?_)
 refine Rs.b rfl (Rs.b (q1.ld (j := 0) rfl) (Rs.b rfl ?_))
 have kids : ∀ {P : Value → AHeap → Prop} {kk : Value × AHeap → Option (Value × AHeap)}, (∀ g2, MpM k (⟨p2, p2, 73, true, knCells n kv⟩ :: Q) (p :: ps) (n.ks.foldl (fun g x => runM k.T k.B f x g) m) g2 → Rs P (kk (unitV, g2))) → Rs P ((aOff (ptr p2 0) 3).bind fun v29 => (aLd1 g v29).bind fun v30 => (call Tp Ms (e + 5) 216 [ptr p 0, v30] g).bind kk) := fun hk2 => by
  refine Rs.b rfl (Rs.b (q1.ld (j := 3) rfl) (Rs.c (u216 (e := e + 4) ok kd ko.v ko.l (by omega) ko.E ko.o q1 hb (by omega)) fun v g2 hv => ?_))
  obtain ⟨rfl, q2⟩ := hv
  exact hk2 g2 q2
 by_cases h14 : n.k = 14
 ·rw [if_pos h14]
  refine Rs.ct (bT h14) (kids fun g2 q2 => ?_)
  generalize n.ks.foldl (fun g x => runM k.T k.B f x g) m = M2 at q2 bk fk ⊢
  refine Rs.c (u181 (e := e + 3) q2 (bk.mono (by omega)) (i : Int)) fun v g3 hv => ?_
  obtain ⟨rfl, q3⟩ := hv
  have b3 := (GdM.local M2 (i : Int)).v _ bk
  generalize localM (i : Int) M2 = M3 at q3 b3 ⊢
  obtain ⟨mp, z2, l7, lz⟩ := q3.slot (i : Int)
  refine Rs.b rfl (Rs.b rfl (Rs.b l7 (Rs.b lz (Rs.b rfl (Rs.c (putI' (e := e + 4) q3 (b3.mono (by omega))) fun v g4 hv => ?_)))))
  obtain ⟨rfl, q4⟩ := hv
  have b4 := (GdM.put M3).v _ b3
  obtain ⟨d0, _, d2, _⟩ := q4.c
  obtain ⟨_, _, _, _, w5, w6, _, w8, _⟩ := bdAt ok hiT q4.e
  refine Rs.b rfl (Rs.b rfl (Rs.b rfl (Rs.b d0 (Rs.b rfl (Rs.b rfl (Rs.b d2 (Rs.b rfl (Rs.b rfl (Rs.b w8 (Rs.b w5 (Rs.b w6 (Rs.b rfl ?_))))))))))))
  cases hbx : k.B.bx.getD i false with
  | true =>
   rw [if_pos rfl]
   obtain ⟨mp2, z3, l7', lz'⟩ := q4.slot (i : Int)
   exact Rs.ct rfl (Rs.b rfl (Rs.b rfl (Rs.b l7' (Rs.b lz' (Rs.b rfl (putE (e := e + 4) q4 rfl (b4.mono (by omega))))))))
  | false =>
   rw [if_neg (by decide)]
   exact Rs.cf rfl (Rs.fin ⟨rfl, q4.out⟩)
 refine Rs.cf (bF h14) ?_
 rw [if_neg h14]
 by_cases h15 : n.k = 15
 ·rw [if_pos h15]
  refine Rs.ct (bT h15) (kids fun g2 q2 => ?_)
  refine Rs.c (u218 (e := e + 2) ok hn q2 (bk.mono (by omega)) (by rw [fk]; exact nd.o (.inr h15)) (by omega)) fun v g3 hv => ?_
  exact Rs.fin ⟨rfl, hv.2.out⟩
 refine Rs.cf (bF h15) ?_
 rw [if_neg h15]
 by_cases h16 : n.k = 16
 ·rw [if_pos (.inl h16)]
  exact Rs.ct (bT h16) (kids fun g2 q2 => putE (e := e + 4) q2 rfl (bk.mono (by omega)))
 refine Rs.cf (bF h16) ?_
 by_cases h19 : n.k = 19
 ·rw [if_pos (.inr (.inl h19))]
  exact Rs.ct (bT h19) (kids fun g2 q2 => putE (e := e + 4) q2 rfl (bk.mono (by omega)))
 refine Rs.cf (bF h19) ?_
 by_cases h20 : n.k = 20
 ·rw [if_pos (.inr (.inr h20))]
  exact Rs.ct (bT h20) (kids fun g2 q2 => putE (e := e + 4) q2 rfl (bk.mono (by omega)))
 refine Rs.cf (bF h20) ?_
 rw [if_neg (by omega)]
 by_cases h21 : n.k = 21
 ·rw [if_pos h21]
  exact Rs.ct (bT h21) (kids fun g2 q2 => Rs.fin ⟨rfl, q2.out⟩)
 refine Rs.cf (bF h21) ?_
 rw [if_neg h21]
 refine Rs.b q1.ldN4 (Rs.c (u219 (e := e + 2) (f := f) ok hn (by omega) kd hc ko q1 hb hK (by omega)) fun v g2 hv => ?_)
 exact Rs.fin ⟨rfl, hv.2.out⟩
theorem u183 {i f : Nat} {n : Kn} (ok : k.Ok) (hn : k.T[i]? = some n) (hk : 1 ≤ n.k ∧ n.k ≤ 21) (hnd : ∀ (fb : Nat) (fns : List Int), i < fb → okP k.T k.B fb (i : Int) fns → NdM k i n f fns) : EvM k (i : Int) (f + 1) := by
 intro e Q p ps m h K fb he q hb hK hfb ho
 obtain ⟨e, rfl⟩ : ∃ x, e = x + 7 := ⟨e - 7, by unfold eE at he; omega⟩
 have nd := hnd fb _ (by rw [Int.toNat_natCast] at hfb; exact hfb) ho
 obtain ⟨c0, c1, c2, c3, c5⟩ := q.c
 rw [c183, e183]
 refine Rs.b rfl (Rs.b rfl (Rs.b c0 (Rs.b rfl (Rs.b rfl (Rs.b c5 (Rs.b rfl ?_))))))
 by_cases hcd : m.cd = 0
 case neg =>
  have em : runM k.T k.B (f + 1) (i : Int) m = m := runM_bad hcd
  rw [em]
  exact Rs.ct (nT hcd) (Rs.fin ⟨rfl, q⟩)
 obtain ⟨tq, kv, t1, t2, kd, hc, hkv⟩ := q.node ok hn
 refine Rs.cf (nF hcd) (Rs.b rfl (Rs.b rfl (Rs.b c0 (Rs.b rfl (Rs.b rfl (Rs.b c1 (Rs.b rfl (Rs.b rfl (Rs.b (q.tree ok).1 (Rs.b t1 (Rs.b t2 (q.put hc fun p2 g q1 => ?_))))))))))))
 refine Rs.b rfl (Rs.b (q1.ld (j := 0) rfl) (Rs.b rfl (Rs.b (u152 (e + 4) n.k g) (Rs.b rfl ?_))))
 cases hx : isEx n.k with
 | true =>
  refine Rs.ct rfl (Rs.b q1.ldN4 (Rs.c (u200 (e := e) ok nd (isEx_i.1 hx) kd hc t1 hkv hcd q1 hb hK (by omega)) fun v g2 hv => ?_))
  exact Rs.fin ⟨rfl, hv.2.out⟩
 | false =>
  have : ¬ xEx n.k := fun h => by rw [isEx_i.2 h] at hx; cases hx
  unfold xEx at this
  refine Rs.cf rfl (Rs.b q1.ldN4 (Rs.c (u201 (e := e) ok nd ⟨by omega, by omega⟩ kd hc hcd q1 hb hK (by omega)) fun v g2 hv => ?_))
  exact Rs.fin ⟨rfl, hv.2.out⟩
theorem evM_all (ok : k.Ok) (hN : ∀ n ∈ k.T, n.ks.length ≤ 1048576) : ∀ (N i : Nat), i < N → ∀ (n : Kn), k.T[i]? = some n → 1 ≤ n.k ∧ n.k ≤ 21 → ∀ f : Nat, i + 1 ≤ f → EvM k (i : Int) f := by
 intro N
 induction N with
 | zero => intro i h; exact absurd h (Nat.not_lt_zero _)
 | succ N ih =>
  intro i hi n hn hk f hf
  obtain ⟨f, rfl⟩ : ∃ x, f = x + 1 := ⟨f - 1, by omega⟩
  have S := ok.S
  have lo := S.lo i n hn
  have kid : ∀ x : Int, 0 ≤ x → x < (i : Int) → 1 ≤ kk k.T x ∧ kk k.T x ≤ 21 → EvM k x f := fun x h0 h1 h2 => by
   obtain ⟨j, mm, rfl, hj, hkk⟩ := node_at (T := k.T) h0 (by omega)
   rw [← hkk] at h2
   exact ih j (by omega) mm hj h2 f (by omega)
  refine u183 ok hn hk fun fb fns hfb ho => ?_
  obtain ⟨fb, rfl⟩ : ∃ x, fb = x + 1 := ⟨fb - 1, by omega⟩
  rw [okP_at hn] at ho
  have hl : n.ks.length ≤ 1100000 := by have := hN n (List.mem_of_getElem? hn); omega
  refine ⟨hn, hl, fun h6 h7 => ?_, fun h6 => ?_, fun h7 x hx j mm ej hmm => ?_, fun h5 => ho.2 h5⟩
  ·rw [if_neg h6] at ho
   have hval : ∀ x ∈ n.ks, 1 ≤ kk k.T x ∧ kk k.T x ≤ 21 := fun x hm => by
    by_cases c1 : n.k ≤ 5
    ·rw [S.leaf i n hn (.inl c1)] at hm; cases hm
    by_cases c4 : n.k = 17
    ·obtain ⟨c, l, e, h1, _, h3⟩ := S.iff i n hn c4
     rw [e] at hm
     unfold xEx at h1
     rcases List.mem_cons.1 hm with h | h
     ·rw [h]; omega
     ·rw [h3 x h]; decide
    by_cases c5 : n.k = 18
    ·obtain ⟨c, b, e, h1, h3⟩ := S.whl i n hn c5
     rw [e] at hm
     unfold xEx at h1
     rcases List.mem_cons.1 hm with h | h
     ·rw [h]; omega
     ·rw [List.mem_singleton.1 h, h3]; decide
    by_cases c6 : n.k = 21
    ·have := S.blk i n hn c6 x hm
     unfold xSt at this; omega
    ·have := S.ex i n hn (by omega) x hm
     unfold xEx at this; omega
   exact ⟨fun x hx => ⟨(lo x hx).1, hval x hx⟩, hl, fun x hx => kid x (lo x hx).1 (lo x hx).2 (hval x hx), fun x hx => ⟨fb, by have := lo x hx; omega, ho.1 x hx⟩⟩
  ·rw [if_pos h6] at ho
   obtain ⟨pl, b, hks, _, hbk⟩ := S.fn i n hn h6
   have hbm : b ∈ n.ks := by rw [hks]; simp
   rw [hks, List.getLastD_concat]
   exact ⟨kid b (lo b hbm).1 (lo b hbm).2 (by rw [hbk]; decide), fb, by have := lo b hbm; omega, ho.1 b hbm⟩
  ·rw [if_neg (by omega)] at ho
   have ht := S.tab i n hn h7 x hx
   have hxl := lo x hx
   subst ej
   rw [kk_at hmm] at ht
   have hx1 := ho.1 _ hx
   obtain ⟨fb, rfl⟩ : ∃ y, fb = y + 1 := ⟨fb - 1, by omega⟩
   rw [okP_at hmm, if_neg (by omega)] at hx1
   have hval : ∀ y ∈ mm.ks, 1 ≤ kk k.T y ∧ kk k.T y ≤ 21 := fun y hy => by
    have := S.ex j mm hmm (by omega) y hy
    unfold xEx at this; omega
   have lo2 := S.lo j mm hmm
   exact ⟨fun y hy => ⟨(lo2 y hy).1, hval y hy⟩, by have := hN mm (List.mem_of_getElem? hmm); omega, fun y hy => kid y (lo2 y hy).1 (by have := lo2 y hy; omega) (hval y hy), fun y hy => ⟨fb, by have := lo2 y hy; omega, hx1.1 y hy⟩⟩
end
section
variable {b0 : Nat} {h0 : AHeap} {xs : List BA}
end
section
variable {b0 b p t0 rb rx ro : Nat} {nv : Value} {T : List Kn} {s : Bd}
end
open Go.AM (Rs)
theorem mfind_cons (x a : Int) (w : Value) (l : List (Value × Value)) : mfind (.int .i64 x) ((.int .i64 a, w) :: l) = if x = a then some (some w) else mfind (.int .i64 x) l := by
 have ke : keyEq (.int .i64 x) (.int .i64 a) = some (x == a) := by simp [keyEq]
 show (match keyEq (.int .i64 x) (.int .i64 a) with | some true => some (some w) | some false => mfind (.int .i64 x) l | none => none) = _
 rw [ke]
 by_cases hx : x = a
 ·rw [if_pos hx, beq_iff_eq.2 hx]
 ·rw [if_neg hx, show (x == a) = false by simp [hx]]
theorem mset_find {l : List (Value × Value)} (h : IntM l) (k v : Int) : ∃ l2, mset (.int .i64 k) (.int .i64 v) l = some l2 ∧ IntM l2 ∧ ∀ x : Int, mfind (.int .i64 x) l2 = if x = k then some (some (.int .i64 v)) else mfind (.int .i64 x) l := by
 induction l with
 | nil => exact ⟨[(.int .i64 k, .int .i64 v)], rfl, fun e he => ⟨k, v, List.mem_singleton.1 he⟩, fun x => mfind_cons x k _ []⟩
 | cons e l ih =>
  obtain ⟨a, b, he⟩ := h e (by simp)
  subst he
  obtain ⟨l2, hz, hi, hf⟩ := ih fun e he => h e (by simp [he])
  have ke : keyEq (.int .i64 k) (.int .i64 a) = some (k == a) := by simp [keyEq]
  by_cases hx : k = a
  ·subst hx
   refine ⟨(.int .i64 k, .int .i64 v) :: l, ?_, fun e he => ?_, fun x => ?_⟩
   ·show (match keyEq (.int .i64 k) (.int .i64 k) with | some true => some _ | some false => (mset (.int .i64 k) (.int .i64 v) l).map _ | none => none) = _
    rw [ke, beq_self_eq_true]
   ·rcases List.mem_cons.1 he with c | c
    ·exact ⟨k, v, c⟩
    ·exact h e (by simp [c])
   ·rw [mfind_cons, mfind_cons]
    by_cases c : x = k
    ·rw [if_pos c, if_pos c]
    ·rw [if_neg c, if_neg c, if_neg c]
  ·have e1 : (k == a) = false := by simp [hx]
   refine ⟨(.int .i64 a, .int .i64 b) :: l2, ?_, fun e he => ?_, fun x => ?_⟩
   ·show (match keyEq (.int .i64 k) (.int .i64 a) with | some true => some _ | some false => (mset (.int .i64 k) (.int .i64 v) l).map _ | none => none) = _
    rw [ke, e1]
    simp only [hz, Option.map_some]
   ·rcases List.mem_cons.1 he with c | c
    ·exact ⟨a, b, c⟩
    ·exact hi e c
   ·rw [mfind_cons, mfind_cons, hf]
    by_cases c : x = a
    ·rw [if_pos c, if_pos c, if_neg (by omega)]
    ·rw [if_neg c, if_neg c]
structure NumI (T : List Kn) (j : Nat) (nl : List (Value × Value)) : Prop where
 i : IntM nl
 f : ∀ x : Nat, mfind (.int .i64 (x : Int)) nl = some (if x < j ∧ kk T (x : Int) = 6 then some (.int .i64 ((numS T (x : Int) : Nat) : Int)) else none)
theorem numS_suc {T : List Kn} {j : Nat} (hj : j < T.length) : numS T ((j + 1 : Nat) : Int) = numS T (j : Int) + if T[j].k = 6 then 1 else 0 := by
 unfold numS
 rw [Int.toNat_natCast, Int.toNat_natCast, List.take_succ_eq_append_getElem hj, List.filter_append, List.length_append]
 by_cases h : T[j].k = 6
 ·rw [if_pos h, List.filter_cons_of_pos (by simp [h])]; simp; omega
 ·rw [if_neg h, List.filter_cons_of_neg (by simp [h])]; simp
theorem numS_le (T : List Kn) (j : Nat) : numS T (j : Int) ≤ j + 1 := by
 unfold numS
 have := List.length_filter_le (fun n : Kn => n.k == 6) (T.take j)
 rw [List.length_take] at this
 rw [Int.toNat_natCast]
 omega
section
variable {b : Nat} {h0 : AHeap} {nv : Value} {T : List Kn} {P : Value → AHeap → Prop}
theorem l86_0 {C : ACall} {N cp nM : Nat} {x0 : Value} {cc : List Value} {O : List AM.ORow} (tr : TrH b h0 nv T) (hT : T.length ≤ 3000) (hcc : cc[2]? = some (.map (some nM)))
  (fin : ∀ (m : Nat) (g : AHeap) (nl : List (Value × Value)), NumI T T.length nl → AM.Ext b h0 g → AM.Cx b g [] (⟨cp, cp, 128, true, cc⟩ :: O) [(nM, nl)] → Rs P (s86_0 hk0 C N (m + 1) x0 (ptr cp 0) (numS T (T.length : Int) : Int) nv (T.length : Int) (T.length : Int) g)) :
  ∀ (k j m : Nat) (g : AHeap) (nl : List (Value × Value)), T.length - j = k → j ≤ T.length → k < m → NumI T j nl → AM.Ext b h0 g → AM.Cx b g [] (⟨cp, cp, 128, true, cc⟩ :: O) [(nM, nl)] →
   Rs P (s86_0 hk0 C N m x0 (ptr cp 0) (numS T (j : Int) : Int) nv (T.length : Int) (j : Int) g) := by
 intro k
 induction k with
 | zero =>
  intro j m g nl hk hj hm I E y
  obtain ⟨m, rfl⟩ : ∃ q, m = q + 1 := ⟨m - 1, by omega⟩
  have : j = T.length := by omega
  subst this
  exact fin m g nl I E y
 | succ k ih =>
  intro j m g nl hk hj hm I E y
  obtain ⟨m, rfl⟩ : ∃ q, m = q + 1 := ⟨m - 1, by omega⟩
  have hlt : j < T.length := by omega
  have hg : T[j]? = some T[j] := by simp [hlt]
  obtain ⟨tq, kx, t1, kdx, t2⟩ := tr.at' j T[j] hg
  have hc : aCells (knVal T[j] kx) = some (knCells T[j] kx) := by
   have e : (List.all (List.toArray (knCells T[j] kx)).toList isCell) = true := by
    show (true && (true && (true && (isCell kx && true)))) = true
    rw [kdx.cell.1]; rfl
   show (if (List.all (List.toArray (knCells T[j] kx)).toList isCell) = true then some (List.toArray (knCells T[j] kx)).toList else none) = _
   rw [if_pos e]
  have ns := numS_suc hlt
  have nle := numS_le T j
  rw [s86_0_eq]
  refine Rs.ct (decide_eq_true (by omega)) (Rs.b t1 (Rs.b (t2 g E).1 (Rs.n y fun p1 g1 E1 y1 => ?_)))
  obtain ⟨g2, a2, E2, y2, _⟩ := y1.st 0 (off := 0) (m := 4) (vs := knCells T[j] kx) (v := knVal T[j] kx) rfl hc rfl (by show 4 ≤ 4; decide)
  refine Rs.b a2 (Rs.b rfl (Rs.b (y2.ldO 0 0 rfl rfl) (Rs.b rfl ?_)))
  have E02 := (E.trans E1).trans E2
  by_cases h6 : T[j].k = 6
  ·rw [if_pos h6] at ns
   obtain ⟨l2, m1, m2, m3⟩ := mset_find I.i (j : Int) (numS T (j : Int) : Int)
   obtain ⟨g3, a3, E3, y3⟩ := y2.msetE 0 (i := nM) (l := nl) (l2 := l2) (key := .int .i64 (j : Int)) (v := .int .i64 (numS T (j : Int) : Int)) rfl rfl m1
   refine Rs.ct (bT h6) (Rs.b rfl (Rs.b rfl (Rs.b (y2.ldO 1 2 rfl hcc) (Rs.b a3 ?_))))
   rw [wq (by omega) (by omega), wq (by omega) (by omega), show ((j : Int) + 1) = ((j + 1 : Nat) : Int) by omega, show ((numS T (j : Int) : Int) + 1) = (numS T ((j + 1 : Nat) : Int) : Int) by rw [ns]; omega]
   refine ih (j + 1) m g3 l2 (by omega) (by omega) (by omega) ⟨m2, fun x => ?_⟩ (E02.trans E3) (y3.pick (List.sublist_cons_self _ _))
   rw [m3, I.f]
   by_cases c : x = j
   ·subst c
    rw [if_pos rfl, if_pos ⟨by omega, by rw [kk_at hg]; exact h6⟩]
   ·rw [if_neg (by omega)]
    by_cases c2 : x < j ∧ kk T (x : Int) = 6
    ·rw [if_pos c2, if_pos ⟨by omega, c2.2⟩]
    ·rw [if_neg c2, if_neg (fun h => c2 ⟨by omega, h.2⟩)]
  ·have ns : numS T ((j + 1 : Nat) : Int) = numS T (j : Int) := by rw [if_neg h6] at ns; omega
   refine Rs.cf (bF h6) ?_
   rw [wq (by omega) (by omega), show ((j : Int) + 1) = ((j + 1 : Nat) : Int) by omega, ← ns]
   refine ih (j + 1) m g2 nl (by omega) (by omega) (by omega) ⟨I.i, fun x => ?_⟩ E02 (y2.pick (List.sublist_cons_self _ _))
   rw [I.f]
   by_cases c : x = j
   ·subst c
    rw [if_neg (fun h => by omega), if_neg (fun h => h6 (by rw [← kk_at hg]; exact h.2))]
   ·by_cases c2 : x < j ∧ kk T (x : Int) = 6
    ·rw [if_pos c2, if_pos ⟨by omega, c2.2⟩]
    ·rw [if_neg c2, if_neg (fun h => c2 ⟨by omega, h.2⟩)]
theorem sub_of {h : AHeap} (x : KSl h.size h nv T) {i q : Nat} {n : Kn} {kv : Value} (hn : T[i]? = some n) (h1 : aIdx nv (.int .i64 (i : Int)) 4 = some (ptr q (i * 4))) (h2 : aLd1 h (ptr q (i * 4 + 3)) = some kv) (hne : n.ks ≠ []) :
  ∃ v', (∀ g, AM.Ext h.size h g → aSub g 3 kv none (some (.int .i64 ((n.ks.length : Int) - 1))) 1 = some v') ∧ KdH h.size h v' n.ks.dropLast := by
 obtain ⟨hj, rfl⟩ := List.getElem?_eq_some_iff.1 hn
 obtain ⟨q', kv', a1, a2, a3⟩ := x.at hj
 rw [a1] at h1
 have e := Option.some.inj h1
 have eq : q' = q := by
  injection e with e; injection e with e; injection e
 subst eq
 have := (a3 h (AH.Ext.refl _ _)).2.2.2.2
 rw [this] at h2
 have e2 := Option.some.inj h2
 subst e2
 rcases a2 with ⟨_, e⟩ | ⟨_, _, _, e⟩ | ⟨r, o, rfl, o1, o2, o3, o4⟩
 ·exact absurd e hne
 ·exact absurd e hne
 ·have hl : 0 < T[i].ks.length := List.length_pos_iff.2 hne
  obtain ⟨l, hl'⟩ : ∃ l, T[i].ks.length = l + 1 := ⟨T[i].ks.length - 1, by omega⟩
  have hd : T[i].ks.dropLast.length = l := by rw [List.length_dropLast]; omega
  refine ⟨slc r 0 l, fun g E => ?_, ?_⟩
  ·have a := E.at? o4 o1
   have b1 : aBound (.int .i64 ((T[i].ks.length : Int) - 1)) T[i].ks.length = some l := by
    have h1 : (0 : Int) ≤ (T[i].ks.length : Int) - 1 ∧ (T[i].ks.length : Int) - 1 ≤ (T[i].ks.length : Int) := by omega
    show (if _ then _ else _) = _
    rw [if_pos h1, show ((T[i].ks.length : Int) - 1).toNat = l by omega]
   show (if (g.at? r).map (·.elem) = some 3 then _ else _) = _
   rw [if_pos (by rw [a]; exact congrArg some o2)]
   show (aBound _ _).bind _ = _
   rw [b1]; rfl
  ·refine ⟨by rw [hd]; rfl, ⟨rfl, fun f a c h => by cases h⟩, by simp [vbeq, vbeq1, slc], fun j k hk => ?_⟩
   have hjl : j < l := by have := (List.getElem?_eq_some_iff.1 hk).1; omega
   refine ⟨ptr r j, by simp [aIdx, slc, hjl], fun g E => ?_⟩
   have rr : AM.Row g r (ints T[i].ks) := ⟨o, E.at? o4 o1, o3⟩
   refine rr.ld1 ?_
   rw [List.getElem?_dropLast] at hk
   split at hk
   ·simp [ints, hk]
   ·cases hk
end
open Go.AM (Rs)
structure CmR (T : List Kn) (h : AHeap) (v : Value) (g : AHeap) : Prop where
 E : AH.Ext h.size h g
 r : ∃ (C bp rx : Nat) (cc bc : List Value), v = ptr C 0 ∧ AM.Cx h.size g [] [⟨C, C, 128, true, cc⟩, ⟨bp, bp, 98, true, bc⟩, ⟨rx, rx, 4, true, bls (boundP T).bx⟩] [] ∧ cc[1]? = some (ptr bp 0) ∧ cc[5]? = some (.int .i64 (makeM T (boundP T)).cd) ∧ bc[2]? = some (slc rx 0 T.length) ∧ (boundP T).bx.length = T.length
theorem min_if (z : Nat) : (if (100 : Int) < (z : Int) then (100 : Int) else (z : Int)) = ((if 100 < z then 100 else z : Nat) : Int) := by
 split <;> split <;> omega
theorem u86 {e t0 : Nat} (he : 21000000 ≤ e) {nv : Value} {T : List Kn} {h : AHeap} (R : Right T ((T.length : Int) - 1)) (x : KSe h.size h nv T) (hN : ∀ n ∈ T, n.t.size ≤ 1048576 ∧ n.ks.length ≤ 1048576) (r2 : RowE h t0 35 [nv, .int .i64 ((T.length : Int) - 1)]) :
  Rs (CmR T h) (call Tp Ms (e + 1) 86 [ptr t0 0] h) := by
 have RT := rt_of R hN
 have S := RT.S
 have hlen := R.len
 have hpos := R.pos
 have B3 := bound_ok hpos S.lo (num_le T) R.num
 obtain ⟨p, rb, rx, ro, g0, c4, x4, y⟩ := l74 (d := e - T.length - 4) (by omega) hN R x r2
 have c4' : call Tp Ms e 74 [ptr t0 0] h = some (ptr p 0, g0) := by
  rw [show e - T.length - 4 + T.length + 4 = e by omega] at c4; exact c4
 obtain ⟨sv, sto, _⟩ := y.st
 have x0 : KSe g0.size g0 nv T := by
  have L3 := (SF.ext x4).lf
  exact (x.lf L3).mono L3.1
 have ksl := x0.ksl
 have tr := ksl.trH
 have rt0 : AM.Row g0 t0 [nv, .int .i64 ((T.length : Int) - 1)] := (r2.ext x4).row
 have lt0 : t0 < g0.size := let ⟨o, a, _⟩ := rt0; (at?_obj a).2.1
 have rbp : AM.Row g0 p [ptr t0 0, slc rb 0 T.length, slc rx 0 T.length, slc ro 0 T.length, sv] := sto.row
 have rrb : AM.Row g0 rb (ints (boundP T).bd) := y.ob.row
 have rrx : AM.Row g0 rx (bls (boundP T).bx) := y.ox.row
 have rro : AM.Row g0 ro (ints (boundP T).ow) := y.oo.row
 have rts : ∀ g, AM.Ext g0.size g0 g → AM.Row g t0 [nv, .int .i64 ((T.length : Int) - 1)] ∧ AM.Row g p [ptr t0 0, slc rb 0 T.length, slc rx 0 T.length, slc ro 0 T.length, sv] ∧ AM.Row g rb (ints (boundP T).bd) ∧ AM.Row g rx (bls (boundP T).bx) ∧ AM.Row g ro (ints (boundP T).ow) := fun g E =>
  ⟨rt0.ext E lt0, rbp.ext E sto.lt.2, rrb.ext E y.ob.lt.2, rrx.ext E y.ox.lt.2, rro.ext E y.oo.lt.2⟩
 obtain ⟨r, hr0⟩ : ∃ r : Nat, T.length = r + 1 := ⟨T.length - 1, by omega⟩
 have er : ((T.length : Int) - 1) = (r : Int) := by omega
 have hn : T[r]? = some T[r] := by simp [show r < T.length by omega]
 have hk : T[r].k = 21 := by
  have := RT.root
  rw [er, kk_at hn] at this
  exact this
 have y0 := AM.Cx.start (F := []) g0 (fun q hq => by cases hq)
 rw [c86, e86]
 refine Rs.b c4' (Rs.nM y0 fun nM g1 E1 y1 => Rs.b (r := [ptr t0 0, ptr p 0, .map (some nM), .slice none 0 0, .slice none 0 0, .int .i64 0, .int .i64 (-1)]) rfl (Rs.b rfl (Rs.n y1 fun cp g2 E2 y2 => ?_)))
 have E12 := E1.trans E2
 refine Rs.b rfl (Rs.b rfl (Rs.b ((rts g2 E12).1.ld1 rfl) (Rs.b tr.len (Rs.b rfl ?_))))
 have loop := l86_0 (P := CmR T h) (C := call Tp Ms e) (N := e) (cp := cp) (nM := nM) (x0 := ptr t0 0) (cc := [ptr t0 0, ptr p 0, .map (some nM), .slice none 0 0, .slice none 0 0, .int .i64 0, .int .i64 (-1)]) (O := []) tr hlen rfl (fun m g nl I E3 y3 => ?_) T.length 0 e g2 [] (by omega) (by omega) (by omega) ⟨(fun e he => by cases he), fun x => by rw [if_neg (fun h => absurd h.1 (by omega))]; rfl⟩ E12 y2
 ·have e1 : ((numS T ((0 : Nat) : Int) : Nat) : Int) = 1 := rfl
  rw [e1] at loop
  exact loop
 ·rw [s86_0_eq, min_if]
  have nle := numS_le T T.length
  generalize hpn : (if 100 < numS T (T.length : Int) then 100 else numS T (T.length : Int)) = pn
  have n1 : 0 < numS T (T.length : Int) := by unfold numS; omega
  have hp1 : 0 < pn := by rw [← hpn]; split <;> omega
  have hp2 : pn ≤ 100 := by rw [← hpn]; split <;> omega
  refine Rs.cf (decide_eq_false (by omega)) (Rs.b (mk_some g 173 [.int .i64 0, .int .i64 0, .slice none 0 0, .slice none 0 0] 64 pn (by omega) (by omega)) (Rs.b rfl (Rs.b rfl (Rs.b rfl ?_))))
  have y4 := y3.new 173 (List.replicate pn [Value.int .i64 0, .int .i64 0, .slice none 0 0, .slice none 0 0]).flatten
  have E4 := y3.nw 173 (List.replicate pn [Value.int .i64 0, .int .i64 0, .slice none 0 0, .slice none 0 0]).flatten
  have hol : (List.replicate pn [Value.int .i64 0, .int .i64 0, .slice none 0 0, .slice none 0 0]).flatten.length = pn * 4 := by simp
  show Rs _ ((aSt (g.new 173 (List.replicate pn [Value.int .i64 0, .int .i64 0, .slice none 0 0, .slice none 0 0]).flatten) (ptr cp 3) (slc g.size 0 pn) 1).bind _)
  generalize (List.replicate pn [Value.int .i64 0, .int .i64 0, .slice none 0 0, .slice none 0 0]).flatten = oc at y4 E4 hol ⊢
  generalize g.new 173 oc = g4 at y4 E4 ⊢
  obtain ⟨g5, a5, E5, y5, _⟩ := y4.st 1 (off := 3) (m := 1) (vs := [slc g.size 0 pn]) (v := slc g.size 0 pn) rfl rfl rfl (by show 4 ≤ 7; decide)
  refine Rs.b a5 ?_
  let k : Km := ⟨g0.size, g0, T, nv, (T.length : Int) - 1, boundP T, t0, p, rb, rx, ro, sv, cp, nM, nl, pn⟩
  have E05 := (E3.trans E4).trans E5
  have ok : k.Ok := by
   refine ⟨tr, rts, S, hlen, B3.1, fun i n hn => ⟨fun h6 => ⟨?_, fun h1 => ?_⟩, fun h6 => ?_⟩, fun i n q kv hn h1 h2 h3 => sub_of ksl hn h1 h2 h3, hp1⟩
   ·have hi := (List.getElem?_eq_some_iff.1 hn).1
    have := I.f i
    rw [if_pos ⟨hi, by rw [kk_at hn]; exact h6⟩] at this
    exact this
   ·have := num_lt hn h6
    show numS T (i : Int) < pn
    have h1 : numS T (i : Int) < 100 := h1
    rw [← hpn]
    split <;> omega
   ·have := I.f i
    rw [if_neg (fun h => h6 (by rw [← kk_at hn]; exact h.2))] at this
    exact this
  have y6 := y5.add (i := 0) (rt := 0) (e := 9) (cs := []) (lv := false) (AM.Ext.refl _ _) (fun h => by cases h) (fun _ => rfl)
  have y7 := cxFront (cxFront y6 1 rfl) 2 rfl
  have q0 : MpM k [] [] ⟨[], [], 0⟩ g5 := ⟨⟨⟨g.size, g.size, true⟩, AM.SR.none, [], oc, -1⟩, rfl, ⟨y7, E05, trivial, hol⟩⟩
  have ef : ∀ p19 : Value, isCell p19 = true → aFill [.pointer none, .pointer none, .int .i64 0, .int .i64 0, .int .i64 0, .slice none 0 0, .slice none 0 0, .map none, .slice none 0 0] [(0, 1, ptr cp 0), (2, 1, .int .i64 (-1)), (7, 1, p19)] = some [ptr cp 0, .pointer none, .int .i64 (-1), .int .i64 0, .int .i64 0, .slice none 0 0, .slice none 0 0, p19, .slice none 0 0] := fun p19 hc => by
   have h1 : aCells p19 = some [p19] := by cases p19 <;> first | (simp [isCell] at hc; done) | rfl
   rw [aFill]
   show (some [ptr cp 0]).bind _ = _
   rw [oBs, if_pos ⟨rfl, by decide⟩, aFill]
   show (some [Value.int .i64 (-1)]).bind _ = _
   rw [oBs, if_pos ⟨rfl, by show 3 ≤ 9; decide⟩, aFill, h1, oBs, if_pos ⟨rfl, by show 8 ≤ 9; decide⟩, aFill]
   rfl
  obtain ⟨e', rfl⟩ : ∃ q, e = q + 3 := ⟨e - 3, by omega⟩
  have push := pushMk (P := CmR T h) (fn := -1) (v := .pointer none) (kk := fun p34 h35 => (aNil (ptr t0 0)).bind fun v36 => (aOff v36 1).bind fun v37 => (aLd1 h35 v37).bind fun v38 => (asI .i64 v38).bind fun n39 => (aNil (ptr t0 0)).bind fun v40 => (aOff v40 1).bind fun v41 => (aLd1 h35 v41).bind fun v42 => (asI .i64 v42).bind fun n43 => (call Tp Ms (e' + 3) 142 [p34, .int .i64 n39, (.slice none 0 0), .int .i64 n43] h35).bind fun r44 => some (ptr cp 0, r44.2)) q0 (fun W hW => by
    rw [List.map_eq_nil_iff.1 hW]; rfl) (fun p34 g8 q8 => ?_)
  ·refine Rs.of ?_ push
   unfold aNewM
   show (aFill [.pointer none, .pointer none, .int .i64 0, .int .i64 0, .int .i64 0, .slice none 0 0, .slice none 0 0, .map none, .slice none 0 0] [(0, 1, ptr cp 0), (2, 1, .int .i64 (-1)), (7, 1, .map (some g5.size))]).bind _ = _
   rw [ef _ rfl, oBs]
   show (aCells (.agg (List.toArray [ptr cp 0, .pointer none, .int .i64 (-1), .int .i64 0, .int .i64 0, .slice none 0 0, .slice none 0 0, .map (some g5.size), .slice none 0 0]))).bind _ = _
   rfl
  ·have tl := (q8.tree ok).2
   refine Rs.b rfl (Rs.b rfl (Rs.b tl (Rs.b rfl (Rs.b rfl (Rs.b rfl (Rs.b tl (Rs.b rfl ?_)))))))
   have hb8 : Bm 1 (pushM (-1) ⟨[], [], 0⟩) := ⟨fun F hF => by
    rw [List.mem_singleton.1 hF]; exact ⟨Nat.zero_le _, Nat.zero_le _, Nat.zero_le _⟩, Nat.zero_le _, Nat.le_refl _⟩
   have vk : VK k ((T.length : Int) - 1) := ⟨by omega, by show 1 ≤ kk T _; rw [RT.root]; decide, by show kk T _ ≤ 21; rw [RT.root]; decide⟩
   have hz : mfind (.int .i64 ((T.length : Int) - 1)) k.nl = some none := by
    have := I.f r
    rw [if_neg (fun h => by have := h.2; rw [kk_at hn, hk] at this; exact absurd this (by decide)), ← er] at this
    exact this
   have hE : EvM k ((T.length : Int) - 1) (T.length + 3) := by
    rw [er]
    exact evM_all ok RT.hN (r + 1) r (by omega) T[r] hn (by rw [hk]; decide) (T.length + 3) (by omega)
   have hok : okP T (boundP T) (T.length + 1) ((T.length : Int) - 1) [-1] := by
    rw [er]
    exact ok_of S (r + 1) r (by omega) (T.length + 1) T[r] (-1) [] [] (by omega) hn (by rw [hk]; decide) (by rw [← er]; exact B3.2.1) (fun q hq => by cases hq)
   have hsz := RT.sz
   refine Rs.c (u142 (k := k) (m := pushM (-1) ⟨[], [], 0⟩) (e := e') (f := T.length + 3) (nb := 0) (K := 1) (pl := []) (x1 := (T.length : Int) - 1) (b := (T.length : Int) - 1) ok (ISl.kdH (.inl ⟨rfl, rfl⟩)) (fun x hx => by cases hx) (by decide) hz rfl hp1 vk hE ⟨T.length + 1, by omega, hok⟩ q8 hb8 (by show 1 + 0 + 0 + 5 * sz T _ ≤ 900000; omega) (by unfold eE; omega)) fun v g9 hv => ?_
   obtain ⟨rfl, q9⟩ := hv
   obtain ⟨W, _, q9⟩ := q9
   have EA := x4.trans ((ext_AH q9.E).mono x4.size)
   obtain ⟨oC, bC⟩ := (q9.y.ow _ (List.mem_of_getElem? (i := 0) rfl)).1 rfl
   have ltp : p < g0.size := sto.lt.2
   have ltx : rx < g0.size := y.ox.lt.2
   have lpp := y.lp
   have lxx := y.lx
   have hx4 := x4.size
   have bC' : g0.size ≤ cp := bC
   have npx : p ≠ rx := fun h => by
    obtain ⟨_, a1⟩ := sto
    obtain ⟨_, a2⟩ := y.ox
    rw [← h, a1] at a2
    injection a2 with a2; injection a2 with _ _ _ a2
    cases a2
   obtain ⟨ep1, a1⟩ := sto
   obtain ⟨ep2, a2⟩ := y.ox
   have o1 : AM.OwnI g9 p p 98 _ := ⟨ep1, q9.E.at? ltp a1⟩
   have o2 : AM.OwnI g9 rx rx 4 _ := ⟨ep2, q9.E.at? ltx a2⟩
   refine Rs.fin ⟨EA, cp, p, rx, cC k W _, [ptr t0 0, slc rb 0 T.length, slc rx 0 T.length, slc ro 0 T.length, sv], rfl, ⟨EA.size, (fun q hq => by cases hq), fun q hq => ?_, ?_, (fun q hq => by cases hq), .nil⟩, rfl, rfl, rfl, y.nX⟩
   ·refine ⟨fun l => ?_, fun l => ?_⟩
    ·simp only [List.mem_cons, List.not_mem_nil, or_false] at hq
     rcases hq with c | c | c <;> subst c
     ·exact ⟨oC, by show h.size ≤ cp; omega⟩
     ·exact ⟨o1, lpp⟩
     ·exact ⟨o2, lxx⟩
    ·simp only [List.mem_cons, List.not_mem_nil, or_false] at hq
     rcases hq with c | c | c <;> subst c <;> cases l
   ·refine .cons (fun q hq _ _ => ?_) (.cons (fun q hq _ _ => ?_) (.cons (fun q hq => by cases hq) .nil))
    ·simp only [List.mem_cons, List.not_mem_nil, or_false] at hq
     rcases hq with c | c <;> subst c
     ·show cp ≠ p; omega
     ·show cp ≠ rx; omega
    ·rw [List.mem_singleton.1 hq]
     exact npx
open Go.AM (Rs)
def cdS (T : List Kn) (ok : Bool) : Int := if ok = false then 1 else if (makeS T (List.replicate T.length false)).cd ≠ 0 then (makeS T (List.replicate T.length false)).cd else (makeS T (makeS T (List.replicate T.length false)).bx).cd
theorem cxExtA {b : Nat} {h g : AHeap} {O : List AM.ORow} (y : AM.Cx b h [] O []) (E : AH.Ext h.size h g) : AM.Cx b g [] O [] :=
 ⟨Nat.le_trans y.bh E.size, (fun q hq => by cases hq), fun q hq => ⟨fun l => by
  obtain ⟨⟨ep, a⟩, hb⟩ := (y.ow q hq).1 l
  exact ⟨⟨ep, E.at? (at?_obj a).2.1 a⟩, hb⟩, (y.ow q hq).2⟩, y.nd, (fun q hq => by cases hq), y.md⟩
theorem cdF {a b : Value} (ha : isCell a = true) (hb : isCell b = true) : aFill [.slice none 0 0, .slice none 0 0] [(0, 1, a), (1, 1, b)] = some [a, b] ∧ aCells (.agg (List.toArray [a, b])) = some [a, b] := by
 have h1 : ∀ v : Value, isCell v = true → aCells v = some [v] := fun v hv => by
  cases v <;> first | (simp [isCell] at hv; done) | rfl
 constructor
 ·rw [aFill, h1 a ha, oBs, if_pos ⟨rfl, by decide⟩, aFill, h1 b hb, oBs, if_pos ⟨rfl, by show 2 ≤ 2; decide⟩, aFill]
  rfl
 ·have e : (List.all (List.toArray [a, b]).toList isCell) = true := by
   show (isCell a && (isCell b && true)) = true
   rw [ha, hb]; rfl
  show (if (List.all (List.toArray [a, b]).toList isCell) = true then some (List.toArray [a, b]).toList else none) = _
  rw [if_pos e]
theorem cxJoin {b1 b2 : Nat} {g : AHeap} {O1 O2 : List AM.ORow} (y1 : AM.Cx b1 g [] O1 []) (y2 : AM.Cx b2 g [] O2 []) (hle : b1 ≤ b2) (h : ∀ q ∈ O1, q.lv = true → q.rt < b2) : AM.Cx b1 g [] (O1 ++ O2) [] := by
 refine ⟨y1.bh, (fun q hq => by cases hq), fun q hq => ?_, ?_, (fun q hq => by cases hq), List.Pairwise.nil⟩
 ·rcases List.mem_append.1 hq with c | c
  ·exact y1.ow q c
  ·exact ⟨fun l => ⟨((y2.ow q c).1 l).1, Nat.le_trans hle ((y2.ow q c).1 l).2⟩, (y2.ow q c).2⟩
 ·rw [List.pairwise_append]
  refine ⟨y1.nd, y2.nd, fun p hp q hq l1 l2 => ?_⟩
  have a1 := h p hp l1
  have a2 := ((y2.ow q hq).1 l2).2
  omega
theorem SpM.done {c : Cn} {Q : List AM.ORow} {s : SG} {h : AHeap} (q : SpM c Q s h) : ∃ (cells : List Value) (nd : Int) (o t : Value), AM.Cx c.b h [] [⟨c.G, c.G, 167, true, cells⟩, c.bx.row 4 (bls s.bx)] [] ∧ AM.Ext c.b c.h0 h ∧ cells[6]? = some (.int .i64 s.cd) ∧ cells[7]? = some (.int .i64 nd) ∧ cells[4]? = some o ∧ cells[5]? = some t ∧ isCell o = true ∧ isCell t = true := by
 obtain ⟨W, P, hn, hq, q⟩ := q
 exact ⟨gC c W s, W.nd, W.ou.val c.on, W.tx.val s.ts.length, q.y.pick (.cons_cons _ (.cons _ (.cons_cons _ (List.nil_sublist _)))), q.E, rfl, rfl, rfl, rfl, W.ou.cell _, W.tx.cell _⟩
theorem l84_0 {C : ACall} {N p : Nat} {h : AHeap} {s : SG} {c : Cn} (q : SpM c [] s h) {b0 : Nat} {O : List AM.ORow} {cs : List Value} (y : AM.Cx b0 h [] (⟨p, p, 119, true, cs⟩ :: O) []) (hcs : cs.length = 2) (hb : b0 ≤ c.b) (hp : p < c.b) :
  Rs (fun v g => AM.Ext b0 h g ∧ ∃ (v8 : Value) (cs2 : List Value) (nd : Int), v = .tuple (List.toArray [v8, .int .i64 s.cd, .int .i64 nd]) ∧ aCells v8 = some cs2 ∧ cs2.length = 2) (s84_0 hk0 C N (ptr p 0) (ptr c.G 0) h) := by
 obtain ⟨cells, nd, o, t, yG, E, l6, l7, l4, l5, ho, ht⟩ := q.done
 have yj := cxJoin (y.pick (O' := [⟨p, p, 119, true, cs⟩]) (.cons_cons _ (List.nil_sublist _))) yG hb (fun q hq _ => by rw [List.mem_singleton.1 hq]; exact hp)
 have es : ∀ a b : Value, splice cs 0 [a, b] = [a, b] := fun a b => by
  match cs, hcs with
  | [_, _], _ => rfl
 rw [s84_0_j, s84_0_eq]
 refine Rs.b rfl (Rs.b rfl (Rs.b (yj.ldO 1 6 rfl l6) (Rs.b rfl ?_)))
 by_cases hcd : s.cd = 0
 case neg =>
  obtain ⟨g1, a1, E1, y1, _⟩ := yj.st 0 (off := 0) (m := 2) (vs := [.slice none 0 0, .slice none 0 0]) (v := .agg (List.toArray [.slice none 0 0, .slice none 0 0])) rfl rfl rfl (by omega)
  rw [es] at y1
  refine Rs.ct (nT hcd) (Rs.b rfl (Rs.b rfl (Rs.b (yj.ldO 1 6 rfl l6) (Rs.b rfl (Rs.b rfl (Rs.b rfl (Rs.b (yj.ldO 1 7 rfl l7) (Rs.b rfl (Rs.b a1 (Rs.b (agI' (y1.ldO 1 6 rfl l6)) (Rs.ct rfl (Rs.b (agI' (y1.ldO 1 7 rfl l7)) (Rs.ct rfl (Rs.b (agI' (y1.ldO 1 7 rfl l7)) (Rs.ct rfl (Rs.b (y1.ldON 0 rfl rfl) ?_))))))))))))))))
  exact Rs.ct rfl (Rs.fin ⟨E1, _, [.slice none 0 0, .slice none 0 0], nd, rfl, rfl, rfl⟩)
 ·obtain ⟨f1, f2⟩ := cdF ho ht
  obtain ⟨g1, a1, E1, y1, _⟩ := yj.st 0 (off := 0) (m := 2) (vs := [o, t]) (v := .agg (List.toArray [o, t])) rfl f2 rfl (by omega)
  rw [es] at y1
  refine Rs.cf (nF hcd) (Rs.b rfl (Rs.b rfl (Rs.b (yj.ldO 1 4 rfl l4) (Rs.b rfl (Rs.b rfl (Rs.b (yj.ldO 1 5 rfl l5) (Rs.b f1 (Rs.b a1 (Rs.b (y1.ldON 0 rfl rfl) ?_)))))))))
  rw [hcd]
  exact Rs.ct rfl (Rs.fin ⟨E1, _, [o, t], -1, rfl, f2, rfl⟩)
theorem mkB (h : AHeap) (n : Nat) (hn : n ≤ 1048576) : aMk h 4 [.bool false] 1 (.int .i64 (n : Int)) (.int .i64 (n : Int)) = some (slc h.size 0 n, h.new 4 (bls (List.replicate n false))) := by
 have := mk_some h 4 [.bool false] 1 n (by omega) (by omega)
 rw [rep_bls] at this
 exact this
theorem u84 {d : Nat} (hd : 30000000 < d) {nv : Value} {T : List Kn} {top : Int} {h : AHeap} (x : KSl h.size h nv T) (hb : T.length ≤ 1048576) (hN : ∀ n ∈ T, n.t.size ≤ 1048576 ∧ n.ks.length ≤ 1048576) :
  Rs (fun v g => AH.Ext h.size h g ∧ ∃ (v8 : Value) (cs2 : List Value) (nd : Int), v = .tuple (List.toArray [v8, .int .i64 (cdS T (specOk T top)), .int .i64 nd]) ∧ aCells v8 = some cs2 ∧ cs2.length = 2) (call Tp Ms (d + 3010 + 8) 84 [trVal nv top] h) := by
 have tr0 := x.trH
 obtain ⟨hc, _⟩ := trC tr0 top
 have hcall : call Tp Ms (d + 3010 + 8) 84 [trVal nv top] h = evFn hk0 Tp (call Tp Ms (d + 3010 + 7)) M84 (d + 3010 + 7) Try.f84 [trVal nv top] h := c84 _ _ _
 have y0 := AM.Cx.start (F := []) h (fun q hq => by cases hq)
 rw [hcall, e84]
 refine Rs.b hc (Rs.n y0 fun p2 g1 E1 y1 => Rs.n y1 fun p4 g2 E2 y2 => Rs.b (y2.ldON 1 rfl rfl) ?_)
 have x2 : KSl g2.size g2 nv T := (x.ext (ext_AH (E1.trans E2))).mono (E1.trans E2).size
 obtain ⟨g3, c3, E3⟩ := l20 (d := d) (by omega) (top := top) x2 (Nat.le_refl _) hb hN
 have y3 := cxExtA y2 E3
 have E03 : AH.Ext h.size h g3 := (ext_AH (E1.trans E2)).trans (E3.mono (E1.trans E2).size)
 refine Rs.b c3 (Rs.b rfl ?_)
 unfold cdS
 cases hok : specOk T top with
 | false =>
  rw [if_pos rfl]
  obtain ⟨g4, a4, E4, y4, _⟩ := y3.st 0 (off := 0) (m := 2) (vs := [.slice none 0 0, .slice none 0 0]) (v := .agg (List.toArray [.slice none 0 0, .slice none 0 0])) rfl rfl rfl (by decide)
  exact Rs.ct rfl (Rs.b a4 (Rs.b (y4.ldON 0 rfl rfl) (Rs.ct rfl (Rs.fin ⟨E03.trans (ext_AH E4), _, [.slice none 0 0, .slice none 0 0], -1, rfl, rfl, rfl⟩))))
 | true =>
  rw [if_neg (by decide)]
  have R := right_of hok
  have hT := R.top
  subst hT
  have RT := rt_of R hN
  have hlen := R.len
  have x3 : KSl g3.size g3 nv T := (x.ext E03).mono E03.size
  have tr := x3.trH
  have z0 := AM.Cx.start (F := []) g3 (fun q hq => by cases hq)
  have z1 := z0.new 4 (bls (List.replicate T.length false))
  have F1 := z0.nw 4 (bls (List.replicate T.length false))
  have p2lt : p2 < g3.size := (y3.live (n := 1) (k := 0) (q := ⟨p2, p2, 35, true, [nv, .int .i64 ((T.length : Int) - 1)]⟩) rfl rfl).1.lt.2
  have p4lt : p4 < g3.size := (y3.live (n := 0) (k := 0) (q := ⟨p4, p4, 119, true, [.slice none 0 0, .slice none 0 0]⟩) rfl rfl).1.lt.2
  refine Rs.cf rfl (Rs.b rfl (Rs.b (y3.ldO 1 0 rfl rfl) (Rs.b tr.len (Rs.b rfl (Rs.b (mkB g3 T.length hb) ?_)))))
  show Rs _ ((aLdN (g3.new 4 (bls (List.replicate T.length false))) (ptr p2 0) 2).bind _)
  generalize g3.new 4 (bls (List.replicate T.length false)) = g4 at z1 F1 ⊢
  have hrl : (List.replicate T.length false).length = T.length := List.length_replicate
  have y4 := y3.ext F1
  refine Rs.b (y4.ldON 1 rfl rfl) ?_
  have c5 := u85 (e := d + 3010 + 3) (bxr := ⟨g3.size, g3.size, true⟩) RT tr F1 z1 hrl (by omega)
  rw [hrl] at c5
  refine Rs.c c5 fun v g5 hv => ?_
  obtain ⟨c, eb, eh, ex, rfl, q5⟩ := hv
  have q5' := q5
  obtain ⟨cells, nd, o, t, yG, F5, l6, _⟩ := q5'.done
  rw [eb, eh] at F5
  rw [eb, ex] at yG
  have y5 := y3.ext F5
  have hb0 : h.size ≤ g3.size := E03.size
  generalize hs1 : makeS T (List.replicate T.length false) = s1 at q5 yG l6
  have hsb : s1.bx.length = T.length := by
   obtain ⟨W, P, _, _, _⟩ := q5
   have r : (T.length : Int) - 1 = ((T.length - 1 : Nat) : Int) := by have := R.pos; omega
   have hn : T[T.length - 1]? = some T[T.length - 1] := by have := R.pos; simp
   have gb := gd_run RT.S (3 * T.length + 5) 3 ((T.length : Int) - 1) (by omega) (by have := R.pos; omega) ⟨[], List.replicate T.length false, [], 0⟩
   have := (gb.v 0 ⟨⟨(fun F hF => by cases hF), Nat.le_refl _, Nat.le_refl _⟩, ⟨(fun F hF => by cases hF), hrl⟩⟩).i.b
   rw [← hs1]
   exact this
  refine Rs.b rfl (Rs.b rfl (Rs.b (yG.ldO 0 6 rfl l6) (Rs.b rfl ?_)))
  by_cases hcd : s1.cd = 0
  ·rw [if_neg (fun h => h hcd)]
   refine Rs.ct (bT hcd) (Rs.b (y5.ldON 1 rfl rfl) ?_)
   have c6 := u85 (e := d + 3010 + 3) (bxr := ⟨g3.size, g3.size, true⟩) RT tr F5 (yG.pick (.cons _ (List.Sublist.refl _))) hsb (by omega)
   rw [hsb] at c6
   refine Rs.c c6 fun v g6 hv => ?_
   obtain ⟨c', eb', eh', ex', rfl, q6⟩ := hv
   have q6' := q6
   obtain ⟨_, _, _, _, _, F6, _⟩ := q6'.done
   rw [eb', eh'] at F6
   have y6 := y3.ext F6
   have fin := l84_0 (C := call Tp Ms (d + 3010 + 7)) (N := d + 3010 + 7) q6 y6 rfl (by rw [eb']; exact hb0) (by rw [eb']; exact p4lt)
   exact fin.mono fun v g ⟨E7, w⟩ => ⟨(E03.trans ((ext_AH F6).mono hb0)).trans (ext_AH E7), w⟩
  ·rw [if_pos hcd]
   refine Rs.cf (bF hcd) ?_
   have fin := l84_0 (C := call Tp Ms (d + 3010 + 7)) (N := d + 3010 + 7) q5 y5 rfl (by rw [eb]; exact hb0) (by rw [eb]; exact p4lt)
   exact fin.mono fun v g ⟨E7, w⟩ => ⟨(E03.trans ((ext_AH F5).mono hb0)).trans (ext_AH E7), w⟩
open Go.AM (Rs)
def boxT (T : List Kn) (top : Int) : List Int := if specOk T top = true then boxedS T else []
def fromB (B : List Bool) (j k : Nat) : List Int := ((List.range' j k).filter fun i => B.getD i false).map fun (i : Nat) => (i : Int)
theorem fromB_all (B : List Bool) : fromB B 0 B.length = trueAt B := by
 unfold fromB trueAt
 rw [List.range_eq_range']
theorem l48 {C : ACall} {N b : Nat} {B : List Bool} {bxr : AM.SR} (hB : B.length ≤ 3000) : ∀ (k j m : Nat) (h : AHeap) (ys : List Int) (i rt : Nat), B.length - j = k → j ≤ B.length → k < m → ys.length ≤ j → AM.Cx b h [] [⟨i, rt, 3, true, ints ys⟩, bxr.row 4 (bls B)] [] →
  Rs (fun v g => AM.Ext b h g ∧ IOwn b g v (ys ++ fromB B j k)) (s48_0 hk0 C N m (slc i 0 ys.length) (bxr.val B.length) (j : Int) h) := by
 intro k
 have hl : (bls B).length = B.length := by simp [bls]
 induction k with
 | zero =>
  intro j m h ys i rt hk hj hm hy y
  obtain ⟨m, rfl⟩ : ∃ q, m = q + 1 := ⟨m - 1, by omega⟩
  have len := y.len 1 (r := bxr) (e := 4) (cs := bls B) (k := B.length) (esz := 1) rfl (by omega) (by decide)
  rw [s48_0_eq]
  refine Rs.b len (Rs.b rfl (Rs.cf (decide_eq_false (by omega)) (Rs.fin ⟨AM.Ext.refl _ _, ?_⟩)))
  rw [show fromB B j 0 = [] from rfl, List.append_nil]
  obtain ⟨⟨ep, a⟩, hb⟩ := (y.ow _ (List.mem_cons_self)).1 rfl
  exact ⟨i, rfl, rt, ep, a, hb⟩
 | succ k ih =>
  intro j m h ys i rt hk hj hm hy y
  obtain ⟨m, rfl⟩ : ∃ q, m = q + 1 := ⟨m - 1, by omega⟩
  have hlt : j < B.length := by omega
  have len := y.len 1 (r := bxr) (e := 4) (cs := bls B) (k := B.length) (esz := 1) rfl (by omega) (by decide)
  have ix := (y.ix 1 (r := bxr) (e := 4) (cs := bls B) (k := B.length) (esz := 1) (j := j) rfl (by omega) (by decide) hlt).1
  rw [Nat.mul_one] at ix
  have ld := y.ldS 1 (r := bxr) (e := 4) (cs := bls B) (k := j) (v := .bool (B.getD j false)) rfl (by simp [bls, List.getD, hlt])
  have eF : fromB B j (k + 1) = if B.getD j false = true then (j : Int) :: fromB B (j + 1) k else fromB B (j + 1) k := by
   unfold fromB
   rw [List.range'_succ, List.filter_cons]
   split <;> rfl
  rw [s48_0_eq, eF]
  refine Rs.b len (Rs.b rfl (Rs.ct (decide_eq_true (by omega)) (Rs.b ix (Rs.b ld (Rs.b rfl ?_)))))
  rw [wq (by omega) (by omega), show ((j : Int) + 1) = ((j + 1 : Nat) : Int) by omega]
  by_cases hbj : B.getD j false = true
  ·rw [if_pos hbj, hbj]
   refine Rs.ct rfl (Rs.ns y fun p g1 E1 y1 => ?_)
   obtain ⟨i2, g2, a2, E2, y2⟩ := y1.appT 1 (n' := ys.length) (m := 1) (esz := 1) (bytes := 8) rfl (srcN y1 0 (k := 1) (esz := 1) rfl rfl) (by simp [ints]) (by show _ ≤ 140737488355328; omega) (by show _ ≤ 140737488355328; omega)
   rw [show (ints ys).take (ys.length * 1) = ints ys from List.take_of_length_le (by simp [ints])] at y2
   have e1 : (ys ++ [(j : Int)]).length = ys.length + 1 := by simp
   have e2 : ints (ys ++ [(j : Int)]) = ints ys ++ [.int .i64 (j : Int)] := by simp [ints]
   have y3 := y2.pick (List.sublist_cons_self _ _)
   have := ih (j + 1) m g2 (ys ++ [(j : Int)]) i2 rt (by omega) (by omega) (by omega) (by rw [e1]; omega) (by rw [e2]; exact y3)
   rw [e1] at this
   refine Rs.b a2 (this.mono fun v g ⟨E3, w⟩ => ⟨(E1.trans E2).trans E3, ?_⟩)
   rw [List.append_assoc] at w
   exact w
  ·rw [if_neg hbj, Bool.eq_false_iff.2 hbj]
   exact Rs.cf rfl (ih (j + 1) m h ys i rt (by omega) (by omega) (by omega) (by omega) y)
theorem l48' {d : Nat} (hd : 30000000 < d) {nv : Value} {T : List Kn} {top : Int} {h : AHeap} (x : KSl h.size h nv T) (hb : T.length ≤ 1048576) (hN : ∀ n ∈ T, n.t.size ≤ 1048576 ∧ n.ks.length ≤ 1048576) :
  Rs (fun v g => AH.Ext h.size h g ∧ IOwn h.size g v (boxT T top)) (call Tp Ms (d + 3010 + 9) 48 [trVal nv top] h) := by
 have tr0 := x.trH
 obtain ⟨hc, _⟩ := trC tr0 top
 have hcall : call Tp Ms (d + 3010 + 9) 48 [trVal nv top] h = evFn hk0 Tp (call Tp Ms (d + 3010 + 8)) M48 (d + 3010 + 8) Try.f48 [trVal nv top] h := c48 _ _ _
 have y0 := AM.Cx.start (F := []) h (fun q hq => by cases hq)
 rw [hcall, e48]
 refine Rs.b hc (Rs.n y0 fun p2 g1 E1 y1 => Rs.ns y1 fun p4 g2 E2 y2 => Rs.b (y2.ldON 1 rfl rfl) ?_)
 have x2 : KSl g2.size g2 nv T := (x.ext (ext_AH (E1.trans E2))).mono (E1.trans E2).size
 refine Rs.c (u84 hd (top := top) x2 hb hN) fun v g3 hv => ?_
 obtain ⟨E3, v8, cs2, nd, rfl, hc2, hl2⟩ := hv
 have y3 := cxExtA y2 E3
 have E03 : AH.Ext h.size h g3 := (ext_AH (E1.trans E2)).trans (E3.mono (E1.trans E2).size)
 refine Rs.b rfl (Rs.b rfl (Rs.b rfl (Rs.b rfl (Rs.b rfl (Rs.n y3 fun p13 g4 E4 y4 => ?_)))))
 obtain ⟨g5, a5, E5, y5, _⟩ := y4.st 0 (off := 0) (m := 2) (vs := cs2) (v := v8) rfl hc2 hl2 (by show 2 ≤ 2; decide)
 have E05 : AH.Ext h.size h g5 := E03.trans ((ext_AH E4).trans (ext_AH E5))
 refine Rs.b a5 ?_
 have nil : boxT T top = [] → IOwn h.size g5 (slc p4 0 0) (boxT T top) := fun e => by
  rw [e]
  obtain ⟨⟨ep, a⟩, hb⟩ := (y5.ow _ (List.mem_of_getElem? (i := 1) rfl)).1 rfl
  exact ⟨p4, rfl, p4, ep, a, hb⟩
 by_cases hcd : cdS T (specOk T top) = 0
 case neg =>
  refine Rs.ct (nT hcd) (Rs.fin ⟨E05, nil ?_⟩)
  unfold boxT
  unfold cdS at hcd
  cases hok : specOk T top with
  | false => rw [if_neg (by decide)]
  | true =>
   rw [hok, if_neg (by decide)] at hcd
   rw [if_pos rfl]
   unfold boxedS
   dsimp only
   by_cases h1 : (makeS T (List.replicate T.length false)).cd ≠ 0
   ·rw [if_pos h1]
   ·rw [if_neg h1] at hcd
    rw [if_neg h1, if_pos hcd]
 have hok : specOk T top = true := by
  cases hok : specOk T top with
  | true => rfl
  | false =>
   unfold cdS at hcd
   rw [hok, if_pos rfl] at hcd
   exact absurd hcd (by decide)
 have R := right_of hok
 have hT := R.top
 subst hT
 have RT := rt_of R hN
 have hlen := R.len
 have eB : boxT T ((T.length : Int) - 1) = trueAt (makeS T (List.replicate T.length false)).bx := by
  unfold boxT
  unfold cdS at hcd
  rw [hok, if_neg (by decide)] at hcd
  rw [if_pos hok]
  unfold boxedS
  dsimp only
  by_cases h1 : (makeS T (List.replicate T.length false)).cd ≠ 0
  ·rw [if_pos h1] at hcd
   exact absurd hcd h1
  ·rw [if_neg h1] at hcd
   rw [if_neg h1, if_neg (fun h => h hcd)]
 have x5 : KSl g5.size g5 nv T := (x.ext E05).mono E05.size
 have tr := x5.trH
 have z0 := AM.Cx.start (F := []) g5 (fun q hq => by cases hq)
 have z1 := z0.new 4 (bls (List.replicate T.length false))
 have F1 := z0.nw 4 (bls (List.replicate T.length false))
 have p4lt : p4 < g5.size := ((y5.ow _ (List.mem_of_getElem? (i := 1) rfl)).1 rfl).1.lt.2
 refine Rs.cf (nF hcd) (Rs.b rfl (Rs.b (y5.ldO 2 0 rfl rfl) (Rs.b tr.len (Rs.b rfl (Rs.b (mkB g5 T.length hb) ?_)))))
 show Rs _ ((aLdN (g5.new 4 (bls (List.replicate T.length false))) (ptr p2 0) 2).bind _)
 generalize g5.new 4 (bls (List.replicate T.length false)) = g6 at z1 F1 ⊢
 have hrl : (List.replicate T.length false).length = T.length := List.length_replicate
 have y6 := y5.ext F1
 refine Rs.b (y6.ldON 2 rfl rfl) ?_
 have c7 := u85 (e := d + 3010 + 4) (bxr := ⟨g5.size, g5.size, true⟩) RT tr F1 z1 hrl (by omega)
 rw [hrl] at c7
 refine Rs.c c7 fun v g7 hv => ?_
 obtain ⟨c, eb, eh, ex, rfl, q7⟩ := hv
 obtain ⟨cells, nd, o, t, yG, F7, _⟩ := q7.done
 rw [eb, eh] at F7
 rw [eb, ex] at yG
 have y7 := y5.ext F7
 have hsb : (makeS T (List.replicate T.length false)).bx.length = T.length := by
  have gb := gd_run RT.S (3 * T.length + 5) 3 ((T.length : Int) - 1) (by omega) (by have := R.pos; omega) ⟨[], List.replicate T.length false, [], 0⟩
  exact (gb.v 0 ⟨⟨(fun F hF => by cases hF), Nat.le_refl _, Nat.le_refl _⟩, ⟨(fun F hF => by cases hF), hrl⟩⟩).i.b
 have yj := cxJoin (y7.pick (O' := [⟨p4, p4, 3, true, ints []⟩]) (.cons _ (.cons_cons _ (List.nil_sublist _)))) (yG.pick (O' := [AM.SR.row ⟨g5.size, g5.size, true⟩ 4 (bls (makeS T (List.replicate T.length false)).bx)]) (.cons _ (List.Sublist.refl _))) E05.size (fun q hq _ => by rw [List.mem_singleton.1 hq]; exact p4lt)
 have fin := l48 (C := call Tp Ms (d + 3010 + 8)) (N := d + 3010 + 8) (by rw [hsb]; exact hlen) (makeS T (List.replicate T.length false)).bx.length 0 (d + 3010 + 8) g7 [] p4 p4 (by omega) (by omega) (by omega) (Nat.le_refl _) yj
 rw [List.nil_append, fromB_all, hsb, ← eB] at fin
 refine fin.mono fun v g ⟨E8, w⟩ => ⟨(E05.trans ((ext_AH F7).mono E05.size)).trans (ext_AH E8), w⟩
open Go.AM (Rs)
theorem l49 {C : ACall} {N b cp bp rx : Nat} {B : List Bool} {cc bc : List Value} (h1 : cc[1]? = some (ptr bp 0)) (h2 : bc[2]? = some (slc rx 0 B.length)) (hB : B.length ≤ 3000) :
  ∀ (k j m : Nat) (h : AHeap) (ys : List Int) (i rt : Nat), B.length - j = k → j ≤ B.length → k < m → ys.length ≤ j → AM.Cx b h [] [⟨i, rt, 3, true, ints ys⟩, ⟨cp, cp, 128, true, cc⟩, ⟨bp, bp, 98, true, bc⟩, ⟨rx, rx, 4, true, bls B⟩] [] →
  Rs (fun v g => AM.Ext b h g ∧ IOwn b g v (ys ++ fromB B j k)) (s49_0 hk0 C N m (slc i 0 ys.length) (ptr cp 0) (B.length : Int) (j : Int) h) := by
 intro k
 have hl : (bls B).length = B.length := by simp [bls]
 induction k with
 | zero =>
  intro j m h ys i rt hk hj hm hy y
  obtain ⟨m, rfl⟩ : ∃ q, m = q + 1 := ⟨m - 1, by omega⟩
  rw [s49_0_eq]
  refine Rs.cf (decide_eq_false (by omega)) (Rs.fin ⟨AM.Ext.refl _ _, ?_⟩)
  rw [show fromB B j 0 = [] from rfl, List.append_nil]
  obtain ⟨⟨ep, a⟩, hb⟩ := (y.ow _ (List.mem_cons_self)).1 rfl
  exact ⟨i, rfl, rt, ep, a, hb⟩
 | succ k ih =>
  intro j m h ys i rt hk hj hm hy y
  obtain ⟨m, rfl⟩ : ∃ q, m = q + 1 := ⟨m - 1, by omega⟩
  have hlt : j < B.length := by omega
  have ix : aIdx (slc rx 0 B.length) (.int .i64 (j : Int)) 1 = some (ptr rx j) := by simp [aIdx, slc, hlt]
  have ld := y.ldO 3 j (v := .bool (B.getD j false)) rfl (by simp [bls, List.getD, hlt])
  have eF : fromB B j (k + 1) = if B.getD j false = true then (j : Int) :: fromB B (j + 1) k else fromB B (j + 1) k := by
   unfold fromB
   rw [List.range'_succ, List.filter_cons]
   split <;> rfl
  rw [s49_0_eq, eF]
  refine Rs.ct (decide_eq_true (by omega)) (Rs.b rfl (Rs.b rfl (Rs.b (y.ldO 1 1 rfl h1) (Rs.b rfl (Rs.b rfl (Rs.b (y.ldO 2 2 rfl h2) (Rs.b ix (Rs.b ld (Rs.b rfl ?_)))))))))
  rw [wq (by omega) (by omega), show ((j : Int) + 1) = ((j + 1 : Nat) : Int) by omega]
  by_cases hbj : B.getD j false = true
  ·rw [if_pos hbj, hbj]
   refine Rs.ct rfl (Rs.ns y fun p g1 E1 y1 => ?_)
   obtain ⟨i2, g2, a2, E2, y2⟩ := y1.appT 1 (n' := ys.length) (m := 1) (esz := 1) (bytes := 8) rfl (srcN y1 0 (k := 1) (esz := 1) rfl rfl) (by simp [ints]) (by show _ ≤ 140737488355328; omega) (by show _ ≤ 140737488355328; omega)
   rw [show (ints ys).take (ys.length * 1) = ints ys from List.take_of_length_le (by simp [ints])] at y2
   have e1 : (ys ++ [(j : Int)]).length = ys.length + 1 := by simp
   have e2 : ints (ys ++ [(j : Int)]) = ints ys ++ [.int .i64 (j : Int)] := by simp [ints]
   have y3 := y2.pick (List.sublist_cons_self _ _)
   have := ih (j + 1) m g2 (ys ++ [(j : Int)]) i2 rt (by omega) (by omega) (by omega) (by rw [e1]; omega) (by rw [e2]; exact y3)
   rw [e1] at this
   refine Rs.b a2 (this.mono fun v g ⟨E3, w⟩ => ⟨(E1.trans E2).trans E3, ?_⟩)
   rw [List.append_assoc] at w
   exact w
  ·rw [if_neg hbj, Bool.eq_false_iff.2 hbj]
   exact Rs.cf rfl (ih (j + 1) m h ys i rt (by omega) (by omega) (by omega) (by omega) y)
theorem l49' {d : Nat} (hd : 30000000 < d) {nv : Value} {T : List Kn} {top : Int} {h : AHeap} (x : KSe h.size h nv T) (hb : T.length ≤ 1048576) (hN : ∀ n ∈ T, n.t.size ≤ 1048576 ∧ n.ks.length ≤ 1048576) :
  Rs (fun v g => AH.Ext h.size h g ∧ IOwn h.size g v (boxT T top)) (call Tp Ms (d + 3010 + 10) 49 [trVal nv top] h) := by
 have tr0 := x.ksl.trH
 obtain ⟨hc, _⟩ := trC tr0 top
 have hcall : call Tp Ms (d + 3010 + 10) 49 [trVal nv top] h = evFn hk0 Tp (call Tp Ms (d + 3010 + 9)) M49 (d + 3010 + 9) Try.f49 [trVal nv top] h := c49 _ _ _
 have y0 := AM.Cx.start (F := []) h (fun q hq => by cases hq)
 rw [hcall, e49]
 refine Rs.b hc (Rs.n y0 fun p2 g1 E1 y1 => Rs.ns y1 fun p4 g2 E2 y2 => Rs.b (y2.ldON 1 rfl rfl) ?_)
 have E02 := ext_AH (E1.trans E2)
 have x2 : KSe g2.size g2 nv T := (x.lf (SF.ext E02).lf).mono E02.size
 obtain ⟨g3, c3, E3⟩ := l22 (d := d) (by omega) (top := top) x2.ksl (Nat.le_refl _) hb hN
 have y3 := cxExtA y2 E3
 have E03 : AH.Ext h.size h g3 := E02.trans (E3.mono E02.size)
 have x3 : KSe g3.size g3 nv T := (x2.lf (SF.ext E3).lf).mono E3.size
 refine Rs.b c3 (Rs.b rfl ?_)
 have nil : ∀ {g : AHeap} {O : List AM.ORow}, AM.Cx h.size g [] O [] → (⟨p4, p4, 3, true, []⟩ : AM.ORow) ∈ O → boxT T top = [] → IOwn h.size g (slc p4 0 0) (boxT T top) := fun y hm e => by
  rw [e]
  obtain ⟨⟨ep, a⟩, hb⟩ := (y.ow _ hm).1 rfl
  exact ⟨p4, rfl, p4, ep, a, hb⟩
 cases hok : implOk T top with
 | false =>
  refine Rs.ct rfl (Rs.fin ⟨E03, nil y3 (List.mem_of_getElem? (i := 0) rfl) ?_⟩)
  unfold boxT
  rw [ok_same, hok, if_neg (by decide)]
 | true =>
  have hok' : specOk T top = true := by rw [ok_same]; exact hok
  have R := right_of hok'
  have hT := R.top
  subst hT
  have hlen := R.len
  have hpos := R.pos
  have r3 : RowE g3 p2 35 [nv, .int .i64 ((T.length : Int) - 1)] := by
   obtain ⟨⟨ep, a⟩, _⟩ := (y3.ow _ (List.mem_of_getElem? (i := 1) rfl)).1 rfl
   exact ⟨_, a, rfl, rfl⟩
  have eB : boxT T ((T.length : Int) - 1) = if (makeM T (boundP T)).cd ≠ 0 then [] else trueAt (boundP T).bx := by
   unfold boxT
   rw [if_pos hok', boxed_same R]
   rfl
  refine Rs.cf rfl (Rs.c (u86 (e := d + 3018) (by omega) R x3 hN r3) fun v g4 hv => ?_)
  obtain ⟨E4, cp, bp, rx, cc, bc, rfl, yc, k1, k5, b2, hbl⟩ := hv
  have y4 := cxExtA y3 E4
  have E04 : AH.Ext h.size h g4 := E03.trans (E4.mono E03.size)
  refine Rs.b rfl (Rs.b rfl (Rs.b (yc.ldO 0 5 rfl k5) (Rs.b rfl ?_)))
  by_cases hcd : (makeM T (boundP T)).cd = 0
  case neg =>
   exact Rs.ct (nT hcd) (Rs.fin ⟨E04, nil y4 (List.mem_of_getElem? (i := 0) rfl) (by rw [eB, if_pos hcd])⟩)
  refine Rs.cf (nF hcd) (Rs.b rfl (Rs.b (y4.ldO 1 0 rfl rfl) (Rs.b x3.ksl.len (Rs.b rfl ?_))))
  have p4lt : p4 < g3.size := ((y3.ow _ (List.mem_of_getElem? (i := 0) rfl)).1 rfl).1.lt.2
  have yj := cxJoin (y4.pick (O' := [⟨p4, p4, 3, true, ints []⟩]) (.cons_cons _ (List.nil_sublist _))) yc E03.size (fun q hq _ => by rw [List.mem_singleton.1 hq]; exact p4lt)
  have fin := l49 (C := call Tp Ms (d + 3010 + 9)) (N := d + 3010 + 9) k1 (by rw [hbl]; exact b2) (by rw [hbl]; exact hlen) (boundP T).bx.length 0 (d + 3010 + 9) g4 [] p4 p4 (by omega) (by omega) (by omega) (Nat.le_refl _) yj
  rw [List.nil_append, fromB_all, hbl] at fin
  rw [eB, if_neg (fun h => h hcd)]
  exact fin.mono fun v g ⟨E8, w⟩ => ⟨E04.trans (ext_AH E8), w⟩
end Go.Proofs.Ytadmoackacickaa
