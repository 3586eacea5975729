import Derived.Test.YtadmoackacickaaXAL
import Derived.Test.YtadmoackacickaaXAI
set_option linter.unusedSimpArgs false
set_option linter.unusedVariables false
/- The reference's compiler in the heap: functions, expressions, all nodes. -/
namespace Go.Proofs.Ytadmoackacickaa
open Go Go.AH
open Go.AM (Rs)
section
variable {c : Cn} {Q Q2 : List AM.ORow} {s s' : SG} {h g : AHeap} {K w : Nat}
theorem SpM.tree (q : SpM c Q s h) : aLdN h (ptr c.G 0) 2 = some (trVal c.nv c.top) ∧ c.b ≤ h.size := by
 obtain ⟨W, P, _, _, q⟩ := q
 have := (q.y.row 0 rfl rfl).ldN (off := 0) (n := 2) (by show 2 ≤ 8; decide)
 exact ⟨this, q.y.bh⟩
theorem u227 {e i f : Nat} {n : Kn} (ok : c.Ok) (hn : c.T[i]? = some n) (h6 : n.k = 6) (hl : n.ks.length ≤ 1100000) (hB : EvOk c 2 179 (n.ks.getLastD 0) f) (q : SpM c Q s h) (hr : Rd c K s) (hK : K + 5 * sz c.T (i : Int) ≤ 900000) (he : eE + 8 * f ≤ e + 1) :
  Rs (PU c Q (if numS c.T (i : Int) ≥ 100 then s.fail 3 else if (bodyS c.T (runS c.T f 2) (i : Int) s).cd = 0 then (bodyS c.T (runS c.T f 2) (i : Int) s).emit else bodyS c.T (runS c.T f 2) (i : Int) s)) (call Tp Ms (e + 4) 227 [ptr c.G 0, .int .i64 (i : Int)] h) := by
 have he' : 20000000 ≤ e + 1 := by unfold eE at he; omega
 have hiT := (List.getElem?_eq_some_iff.1 hn).1
 have ht := q.tree
 rw [c227, e227]
 refine Rs.b rfl (Rs.b rfl (Rs.b ht.1 (Rs.c (u140 (e := e + 2) ok.tr q.t.2 ht.2 (x1 := i) (by omega) ok.len (by omega)) fun v g1 hv => ?_)))
 obtain ⟨E1, rfl⟩ := hv
 have q1 := q.ext E1
 refine Rs.b rfl (Rs.i (fun h100 => ?_) (fun h100 => ?_))
 ·rw [if_pos (by omega)]
  exact Rs.c (u180 (e := e + 2) q1 3 (i : Int)) fun v g2 hv => Rs.fin ⟨rfl, hv.2⟩
 ·rw [if_neg (by omega)]
  refine Rs.c (u141 (e := e) (f := f) (nb := numS c.T (i : Int)) ok hn hl (by rw [if_pos h6]; exact hB) (ok.num i n hn h6) q1 hr.v (fun _ => hK) (fun h => absurd h6 h) he) fun v g2 hv => ?_
  obtain ⟨rfl, q2⟩ := hv
  have gb := gd_body ok.S hn (B := runS c.T f 2) (fun s => gd_ev ok (by decide) (by
   rw [if_pos h6]
   obtain ⟨ps, b, hks, _, _⟩ := ok.S.fn i n hn h6
   rw [hks, List.getLastD_concat]
   exact (ok.S.lo i n hn b (by rw [hks]; simp)).1) s) s
  have hc3 : cost c.T 3 (i : Int) ≤ 5 * sz c.T (i : Int) + 3 := by
   unfold cost
   rw [if_pos rfl]
   split <;> omega
  have r2 := hr.gd gb
  generalize bodyS c.T (runS c.T f 2) (i : Int) s = s2 at q2 r2 ⊢
  refine Rs.b rfl (Rs.b rfl (Rs.b q2.cd (Rs.b rfl ?_)))
  by_cases hcd : s2.cd = 0
  ·rw [if_pos hcd]
   refine Rs.ct (bT hcd) (Rs.c (putI (e := e + 2) q2 r2 (by omega)) fun v g3 hv => ?_)
   obtain ⟨rfl, q3⟩ := hv
   exact Rs.b rfl (Rs.fin ⟨rfl, q3⟩)
  ·rw [if_neg hcd]
   exact Rs.cf (bF hcd) (Rs.fin ⟨rfl, q2⟩)
def endE (n : Kn) (g : SG) : SG := if n.k = 9 then (if (n.ks.length : Int) - 1 > 40 then g.fail 3 else g.emit) else if n.k = 8 ∨ n.k = 10 ∨ n.k = 11 then g.emit else g
theorem l209_3 {e N f p i : Nat} {n : Kn} {kv : Value} (ok : c.Ok) (kd : KdH c.b c.h0 kv n.ks) (lo : ∀ k ∈ n.ks, 0 ≤ k) (hl : n.ks.length ≤ 1100000) (he : eE + 8 * f ≤ e + 1) (hE : ∀ k ∈ n.ks, EvOk c 0 209 k f) :
  ∀ (k j m : Nat) (s : SG) (h : AHeap) (K : Nat), n.ks.length - j = k → j ≤ n.ks.length → k < m → SpM c (⟨p, p, 73, true, knCells n kv⟩ :: Q) s h → Rd c K s → K + 5 * ((n.ks.drop j).map (sz c.T)).sum ≤ 900000 →
   Rs (PU c Q (endE n ((n.ks.drop j).foldl (fun g k => runS c.T f 0 k g) s))) (s209_3 hk0 (call Tp Ms (e + 1)) N m (ptr c.G 0) (i : Int) (ptr p 0) (j : Int) h) := by
 intro k
 induction k with
 | zero =>
  intro j m s h K hk hj hm q hr hK
  obtain ⟨m, rfl⟩ : ∃ q, m = q + 1 := ⟨m - 1, by omega⟩
  rw [List.drop_eq_nil_of_le (by omega), s209_3_eq]
  refine Rs.b rfl (Rs.b (q.ld (k := 3) rfl) (Rs.b kd.len (Rs.b rfl (Rs.cf (decide_eq_false (by omega)) (Rs.b rfl (Rs.b (q.ld (k := 0) rfl) (Rs.b rfl ?_)))))))
  show Rs (PU c Q (endE n s)) _
  have fin : ∀ op a : Int, Rs (PU c Q s.emit) ((call Tp Ms (e + 1) 178 [ptr c.G 0, .int .i64 op, .int .i64 a] h).bind fun r82 => (asI .i64 r82.1).bind fun n83 => some (.tuple (List.toArray []), r82.2)) := fun op a =>
   Rs.c (putI (e := e) q hr (by omega)) fun v g hv => by
    obtain ⟨rfl, q2⟩ := hv
    exact Rs.b rfl (Rs.fin ⟨rfl, q2.out⟩)
  unfold endE
  by_cases h8 : n.k = 8
  ·rw [if_neg (by omega), if_pos (.inl h8)]
   exact Rs.ct (bT h8) (fin 14 0)
  refine Rs.cf (bF h8) ?_
  by_cases h10 : n.k = 10
  ·rw [if_neg (by omega), if_pos (.inr (.inl h10))]
   exact Rs.ct (bT h10) (Rs.b rfl (Rs.b (q.ld (k := 2) rfl) (Rs.b rfl (fin 16 n.i))))
  refine Rs.cf (bF h10) ?_
  by_cases h11 : n.k = 11
  ·rw [if_neg (by omega), if_pos (.inr (.inr h11))]
   exact Rs.ct (bT h11) (Rs.b rfl (Rs.b (q.ld (k := 2) rfl) (Rs.b rfl (fin 17 n.i))))
  refine Rs.cf (bF h11) ?_
  by_cases h9 : n.k = 9
  ·rw [if_pos h9]
   refine Rs.ct (bT h9) (Rs.b rfl (Rs.b (q.ld (k := 3) rfl) (Rs.b kd.len (Rs.b rfl ?_))))
   rw [wq (by omega) (by omega)]
   refine Rs.i (fun h40 => ?_) (fun h40 => ?_)
   ·rw [if_pos h40]
    exact Rs.c (u180 (e := e) q 3 (i : Int)) fun v g2 hv => Rs.fin ⟨rfl, hv.2.out⟩
   ·rw [if_neg h40]
    exact Rs.b rfl (Rs.b (q.ld (k := 3) rfl) (Rs.b kd.len (Rs.b rfl (fin 23 _))))
  ·rw [if_neg h9, if_neg (by omega)]
   exact Rs.cf (bF h9) (Rs.fin ⟨rfl, q.out⟩)
 | succ k ih =>
  intro j m s h K hk hj hm q hr hK
  obtain ⟨m, rfl⟩ : ∃ q, m = q + 1 := ⟨m - 1, by omega⟩
  have hlt : j < n.ks.length := by omega
  rw [List.drop_eq_getElem_cons hlt] at hK ⊢
  rw [List.map_cons, List.sum_cons] at hK
  rw [List.foldl_cons]
  have hmem : n.ks[j] ∈ n.ks := List.getElem_mem hlt
  have hgd := gd_ev ok (f := f) (m := 0) (by decide) (lo _ hmem) s
  obtain ⟨p', k1, k2⟩ := kd.ld q (j := j) (k := n.ks[j]) (List.getElem?_eq_getElem hlt)
  rw [s209_3_eq]
  refine Rs.b rfl (Rs.b (q.ld (k := 3) rfl) (Rs.b kd.len (Rs.b rfl (Rs.ct (decide_eq_true (by omega)) (Rs.b rfl (Rs.b (q.ld (k := 3) rfl) (Rs.b k1 (Rs.b k2 (Rs.b rfl (Rs.c (hE _ hmem (e + 1) _ _ _ K he q hr (by omega)) fun v g hv => ?_))))))))))
  obtain ⟨rfl, q2⟩ := hv
  rw [wq (by omega) (by omega), show ((j : Int) + 1) = ((j + 1 : Nat) : Int) by omega]
  exact ih (j + 1) m _ g (K + 5 * sz c.T n.ks[j]) (by omega) (by omega) (by omega) q2 (hr.gd hgd) (by omega)
theorem u209 {i f : Nat} {n : Kn} (ok : c.Ok) (hn : c.T[i]? = some n) (hk : xEx n.k) (hE : ∀ k ∈ n.ks, xEx (kk c.T k) → EvOk c 0 209 k (f + 1)) (hB : n.k = 6 → EvOk c 2 179 (n.ks.getLastD 0) f)
  (hI : n.k = 7 → ∀ x ∈ n.ks, ∀ (j : Nat) (m : Kn), x = j → c.T[j]? = some m → m.ks.length ≤ 1100000 ∧ ∀ k ∈ m.ks, EvOk c 0 209 k (f + 1)) (hl : n.ks.length ≤ 1100000) : EvOk c 0 209 (i : Int) (f + 2) := by
 intro e Q s h K he q hr hK
 obtain ⟨e, rfl⟩ : ∃ x, e = x + 5 := ⟨e - 5, by unfold eE at he; omega⟩
 have he' : 20000000 ≤ e + 1 := by unfold eE at he; omega
 have hbn := (hr.bs (by omega)).n
 have hsz := sz_s ok.S.lo hn
 have lo := ok.S.lo i n hn
 rw [c209, e209]
 refine Rs.b rfl (Rs.b rfl (Rs.b q.cd (Rs.b rfl ?_)))
 by_cases hcd : s.cd = 0
 case neg =>
  have em : runS c.T (f + 2) 0 (i : Int) s = s := by
   show stepS c.T (runS c.T (f + 1)) 0 (i : Int) s = s
   unfold stepS
   rw [Int.toNat_natCast, hn]
   exact if_pos hcd
  rw [em]
  exact Rs.ct (nT hcd) (Rs.fin ⟨rfl, q⟩)
 refine Rs.cf (nF hcd) ?_
 have em : runS c.T (f + 2) 0 (i : Int) s = (if n.k = 1 ∨ n.k = 2 ∨ n.k = 3 then s.emit
   else if n.k = 4 then textS n.t s
   else if n.k = 5 then nameS c.T false (i : Int) s
   else if n.k = 6 then (if numS c.T (i : Int) ≥ 100 then s.fail 3 else if (bodyS c.T (runS c.T f 2) (i : Int) s).cd = 0 then (bodyS c.T (runS c.T f 2) (i : Int) s).emit else bodyS c.T (runS c.T f 2) (i : Int) s)
   else if n.k = 7 then n.ks.foldl (itemS c.T (runS c.T (f + 1) 0)) s.emit
   else if n.k = 12 ∨ n.k = 13 then runS c.T (f + 1) 0 (n.ks.getD 1 0) (runS c.T (f + 1) 0 (n.ks.getD 0 0) s).emit
   else if n.k = 9 then (if (n.ks.length : Int) - 1 > 40 then (n.ks.foldl (fun g k => runS c.T (f + 1) 0 k g) s.emit).fail 3 else (n.ks.foldl (fun g k => runS c.T (f + 1) 0 k g) s.emit).emit)
   else if n.k = 8 ∨ n.k = 10 ∨ n.k = 11 then (n.ks.foldl (fun g k => runS c.T (f + 1) 0 k g) s).emit
   else n.ks.foldl (fun g k => runS c.T (f + 1) 0 k g) s) := by
  have e3 : runS c.T (f + 1) 3 (i : Int) s = bodyS c.T (runS c.T f 2) (i : Int) s := by
   show stepS c.T (runS c.T f) 3 (i : Int) s = _
   unfold stepS
   rw [Int.toNat_natCast, hn]; rfl
  rw [← e3]
  show stepS c.T (runS c.T (f + 1)) 0 (i : Int) s = _
  unfold stepS
  rw [Int.toNat_natCast, hn]
  exact if_neg (fun h => h hcd)
 rw [em]
 obtain ⟨tq, kv, t1, t2, kd, hc⟩ := q.node ok hn
 unfold xEx at hk
 refine Rs.b rfl (Rs.b rfl (Rs.b rfl (Rs.b q.t.1 (Rs.b t1 (Rs.b t2 (q.put hc fun p g q1 => ?_))))))
 refine Rs.b rfl (Rs.b (q1.ld (k := 0) rfl) (Rs.b rfl ?_))
 have one : ∀ op a : Int, Rs (PU c Q s.emit) ((call Tp Ms (e + 4) 178 [ptr c.G 0, .int .i64 op, .int .i64 a] g).bind fun r82 => (asI .i64 r82.1).bind fun n83 => some (.tuple (List.toArray []), r82.2)) := fun op a =>
  Rs.c (putI (e := e + 3) q1 hr (by omega)) fun v g hv => by
   obtain ⟨rfl, q2⟩ := hv
   exact Rs.b rfl (Rs.fin ⟨rfl, q2.out⟩)
 by_cases h1 : n.k = 1
 ·rw [if_pos (.inl h1)]
  exact Rs.ct (bT h1) (one 1 0)
 refine Rs.cf (bF h1) ?_
 by_cases h2 : n.k = 2
 ·rw [if_pos (.inr (.inl h2))]
  exact Rs.ct (bT h2) (Rs.b rfl (Rs.b (q1.ld (k := 2) rfl) (Rs.b rfl (one 2 n.i))))
 refine Rs.cf (bF h2) ?_
 by_cases h3 : n.k = 3
 ·rw [if_pos (.inr (.inr h3))]
  exact Rs.ct (bT h3) (Rs.b rfl (Rs.b (q1.ld (k := 2) rfl) (Rs.b rfl (one 3 n.i))))
 refine Rs.cf (bF h3) ?_
 rw [if_neg (by omega)]
 by_cases h4 : n.k = 4
 ·rw [if_pos h4]
  have hts := (hr.bs (by omega)).t
  refine Rs.ct (bT h4) (Rs.b rfl (Rs.b (q1.ld (k := 1) rfl) (Rs.b rfl (Rs.c (u225 (e := e + 3) (t := n.t) (hr.b7 (by omega)) q1 (by omega)) fun v g2 hv => ?_))))
  obtain ⟨kk', rfl, hv⟩ := hv
  refine Rs.b rfl ?_
  unfold textS
  rcases hv with ⟨ha, hk', q2⟩ | ⟨ha, hk', q2⟩
  ·rw [if_pos ha, ← hk']
   refine Rs.i (fun h255 => ?_) (fun h255 => ?_)
   ·rw [if_pos (by omega)]
    exact Rs.c (u180 (e := e + 3) q2 3 (i : Int)) fun v g3 hv => Rs.fin ⟨rfl, hv.2.out⟩
   ·rw [if_neg (by omega)]
    refine Rs.c (putI (e := e + 3) q2 hr (by omega)) fun v g3 hv => ?_
    obtain ⟨rfl, q3⟩ := hv
    exact Rs.b rfl (Rs.fin ⟨rfl, q3.out⟩)
  ·rw [if_neg (by rw [ha]; decide), ← hk']
   have r2 : Rd c (K + 1) { s with ts := s.ts ++ [n.t] } := ⟨hr.fs, ⟨⟨fun F hF => (hr.v.b.f F hF).mono (by omega), by
    show (s.ts ++ [n.t]).length ≤ _
    simp
    exact hr.v.b.t, Nat.le_succ_of_le hr.v.b.n⟩, ⟨hr.v.i.a, hr.v.i.b⟩⟩⟩
   refine Rs.i (fun h255 => ?_) (fun h255 => ?_)
   ·rw [if_pos (by omega)]
    exact Rs.c (u180 (e := e + 3) q2 3 (i : Int)) fun v g3 hv => Rs.fin ⟨rfl, hv.2.out⟩
   ·rw [if_neg (by omega)]
    refine Rs.c (putI (e := e + 3) q2 r2 (by omega)) fun v g3 hv => ?_
    obtain ⟨rfl, q3⟩ := hv
    exact Rs.b rfl (Rs.fin ⟨rfl, q3.out⟩)
 refine Rs.cf (bF h4) ?_
 rw [if_neg h4]
 by_cases h5 : n.k = 5
 ·rw [if_pos h5]
  refine Rs.ct (bT h5) (Rs.c (u226 (e := e + 2) ok q1 hr.fs (hr.bs (by omega)) hr.v.i hn (by omega)) fun v g2 hv => ?_)
  exact Rs.fin ⟨rfl, hv.2.out⟩
 refine Rs.cf (bF h5) ?_
 rw [if_neg h5]
 by_cases h6 : n.k = 6
 ·rw [if_pos h6]
  refine Rs.ct (bT h6) (Rs.c (u227 (e := e) (f := f) ok hn h6 hl (hB h6) q1 hr hK (by omega)) fun v g2 hv => ?_)
  exact Rs.fin ⟨rfl, hv.2.out⟩
 refine Rs.cf (bF h6) ?_
 rw [if_neg h6]
 by_cases h7 : n.k = 7
 ·rw [if_pos h7]
  refine Rs.ct (bT h7) (Rs.b q1.ldN4 (Rs.c (u228 (e := e + 2) (f := f + 1) ok hn kd hc hl (by omega) (hI h7) q1 hr (by omega)) fun v g2 hv => ?_))
  exact Rs.fin ⟨rfl, hv.2.out⟩
 refine Rs.cf (bF h7) ?_
 rw [if_neg h7]
 have hx : ∀ k ∈ n.ks, xEx (kk c.T k) := ok.S.ex i n hn (by omega)
 have E12 : ∀ F : Bool → Option (Value × AHeap), (bif n.k == 12 then F (n.k == 12) else F (n.k == 13)) = F (decide (n.k = 12 ∨ n.k = 13)) := fun F => orB _ _ _ F
 rw [E12 (fun t => s209_0 hk0 (call Tp Ms (e + 4)) (e + 4) (ptr c.G 0) (i : Int) (ptr p 0) n.k t g), s209_0_j, s209_0_eq]
 by_cases h12 : n.k = 12 ∨ n.k = 13
 ·rw [if_pos h12]
  have h2 := ok.S.two i n hn h12
  match hks : n.ks, h2 with
  | [x, y], _ =>
  rw [hks] at hsz hx lo
  simp only [List.map_cons, List.map_nil, List.sum_cons, List.sum_nil] at hsz
  obtain ⟨p1, a1, a2⟩ := kd.ld q1 (j := 0) (k := x) (by rw [hks]; rfl)
  show Rs (PU c Q (runS c.T (f + 1) 0 y (runS c.T (f + 1) 0 x s).emit)) _
  refine Rs.ct (decide_eq_true h12) (Rs.b rfl (Rs.b (q1.ld (k := 3) rfl) (Rs.b a1 (Rs.b a2 (Rs.b rfl (Rs.c (hE x (by rw [hks]; simp) (hx x (by simp)) (e + 4) _ _ _ K (by omega) q1 hr (by omega)) fun v g2 hv => ?_))))))
  obtain ⟨rfl, q2⟩ := hv
  have r2 := hr.gd (gd_ev ok (f := f + 1) (m := 0) (by decide) (lo x (by simp)).1 s)
  generalize runS c.T (f + 1) 0 x s = s2 at q2 r2 ⊢
  have fin : ∀ op : Int, Rs (PU c Q (runS c.T (f + 1) 0 y s2.emit)) (s209_1 hk0 (call Tp Ms (e + 4)) (e + 4) (ptr c.G 0) (ptr p 0) op g2) := fun op => by
   rw [s209_1_j, s209_1_eq]
   refine Rs.c (putI (e := e + 3) q2 r2 (by omega)) fun v g3 hv => ?_
   obtain ⟨rfl, q3⟩ := hv
   have r3 := r2.emit
   have l3 := hdLn_emit r2.fs
   generalize s2.emit = s3 at q3 r3 l3 ⊢
   obtain ⟨p2, b1, b2⟩ := kd.ld q3 (j := 1) (k := y) (by rw [hks]; rfl)
   refine Rs.b rfl (Rs.b rfl (Rs.b (q3.ld (k := 3) rfl) (Rs.b b1 (Rs.b b2 (Rs.b rfl (Rs.c (hE y (by rw [hks]; simp) (hx y (by simp)) (e + 4) _ _ _ _ (by omega) q3 r3 (by omega)) fun v g4 hv => ?_))))))
   obtain ⟨rfl, q4⟩ := hv
   have gy := gd_ev ok (f := f + 1) (m := 0) (by decide) (lo y (by simp)).1 s3
   have r4 := r3.gd gy
   have l4 := hdLn_mo gy.m
   generalize runS c.T (f + 1) 0 y s3 = s4 at q4 r4 l4 ⊢
   refine Rs.c (u210 (e := e + 2) q4 r4.fs (r4.b7 (by omega)) (a := hdLn s2) (by omega)) fun v g5 hv => ?_
   obtain ⟨rfl, q5⟩ := hv
   exact Rs.fin ⟨rfl, q5.out⟩
  refine Rs.b rfl (Rs.b (q2.ld (k := 0) rfl) (Rs.b rfl ?_))
  by_cases h13 : n.k = 13
  ·exact Rs.ct (bT h13) (fin 21)
  ·exact Rs.cf (bF h13) (fin 20)
 rw [if_neg h12]
 refine Rs.cf (decide_eq_false h12) ?_
 have fin : ∀ (s2 : SG) (g2 : AHeap) (K2 : Nat), SpM c (⟨p, p, 73, true, knCells n kv⟩ :: Q) s2 g2 → Rd c K2 s2 → K2 + 5 * (n.ks.map (sz c.T)).sum ≤ 900000 → Rs (PU c Q (endE n (n.ks.foldl (fun g k => runS c.T (f + 1) 0 k g) s2))) (s209_2 hk0 (call Tp Ms (e + 4)) (e + 4) (ptr c.G 0) (i : Int) (ptr p 0) g2) := fun s2 g2 K2 q2 r2 hK2 => by
  rw [s209_2_j, s209_2_eq]
  have := l209_3 (Q := Q) (N := e + 4) (e := e + 3) (f := f + 1) (p := p) (i := i) ok kd (fun k hk => (lo k hk).1) hl (by omega) (fun k hk => hE k hk (hx k hk)) n.ks.length 0 (e + 4) s2 g2 K2 (by omega) (by omega) (by omega) q2 r2 (by rw [List.drop_zero]; exact hK2)
  rw [List.drop_zero] at this
  exact this
 by_cases h9 : n.k = 9
 ·rw [if_pos h9]
  refine Rs.ct (bT h9) (Rs.c (putI (e := e + 3) q1 hr (by omega)) fun v g2 hv => ?_)
  obtain ⟨rfl, q2⟩ := hv
  have := fin s.emit g2 (K + 1) q2 hr.emit (by omega)
  unfold endE at this
  rw [if_pos h9] at this
  exact Rs.b rfl this
 ·rw [if_neg h9]
  have := fin s g K q1 hr (by omega)
  unfold endE at this
  rw [if_neg h9] at this
  exact Rs.cf (bF h9) this
end
open Go.AM (Rs)
section
variable {c : Cn}
def NodeEv (c : Cn) (i : Nat) : Prop := ∀ (n : Kn), c.T[i]? = some n → ∀ f : Nat, 2 * i + 2 ≤ f → (xEx n.k → EvOk c 0 209 (i : Int) f) ∧ (xSt n.k → EvOk c 1 199 (i : Int) f) ∧ (n.k = 21 → EvOk c 2 179 (i : Int) f)
theorem node_ev (ok : c.Ok) (hN : ∀ n ∈ c.T, n.ks.length ≤ 1048576) : ∀ (N i : Nat), i < N → NodeEv c i := by
 intro N
 induction N with
 | zero => intro i h; exact absurd h (Nat.not_lt_zero _)
 | succ N ih =>
  intro i hi n hn f hf
  have S := ok.S
  have lo := S.lo i n hn
  have hl : n.ks.length ≤ 1100000 := by have := hN n (List.mem_of_getElem? hn); omega
  obtain ⟨f, rfl⟩ : ∃ q, f = q + 2 := ⟨f - 2, by omega⟩
  have kid : ∀ k ∈ n.ks, kk c.T k ≠ 0 → ∃ (j : Nat) (p : Kn), k = j ∧ c.T[j]? = some p ∧ p.k = kk c.T k ∧ j < i := fun k hk h => by
   have l := lo k hk
   obtain ⟨j, p, rfl, h1, h2⟩ := node_at l.1 h
   exact ⟨j, p, rfl, h1, h2, by omega⟩
  have kE : ∀ k ∈ n.ks, xEx (kk c.T k) → ∀ f : Nat, 2 * i ≤ f → EvOk c 0 209 k f := fun k hk h f h1 => by
   obtain ⟨j, p, rfl, e1, e2, e3⟩ := kid k hk (by unfold xEx at h; omega)
   rw [← e2] at h
   exact (ih j (by omega) p e1 f (by omega)).1 h
  have kB : ∀ k ∈ n.ks, kk c.T k = 21 → ∀ f : Nat, 2 * i ≤ f → EvOk c 2 179 k f := fun k hk h f h1 => by
   obtain ⟨j, p, rfl, e1, e2, e3⟩ := kid k hk (by omega)
   rw [← e2] at h
   exact (ih j (by omega) p e1 f (by omega)).2.2 h
  refine ⟨fun hk => ?_, fun hk => ?_, fun hk => ?_⟩
  ·refine u209 ok hn hk (fun k hk h => kE k hk h _ (by omega)) (fun h6 => ?_) (fun h7 x hx j m ej hm => ?_) hl
   ·obtain ⟨ps, b, hks, _, hb⟩ := S.fn i n hn h6
    have hmem : b ∈ n.ks := by rw [hks]; simp
    rw [hks, List.getLastD_concat]
    exact kB b hmem hb f (by omega)
   ·have ht := S.tab i n hn h7 x hx
    have hxl := lo x hx
    subst ej
    rw [kk_at hm] at ht
    refine ⟨by have := hN m (List.mem_of_getElem? hm); omega, fun k hk => ?_⟩
    have hkx := S.ex j m hm (by omega) k hk
    have hkl := S.lo j m hm k hk
    obtain ⟨j2, p, rfl, e1, e2⟩ := node_at hkl.1 (by unfold xEx at hkx; omega : kk c.T k ≠ 0)
    rw [← e2] at hkx
    exact (ih j2 (by omega) p e1 (f + 1) (by omega)).1 hkx
  ·exact u199 ok hn hk (fun k hk h => kE k hk h _ (by omega)) (fun k hk h => kB k hk h _ (by omega)) hl
  ·refine u179 (e := 0) ok hn hk (fun k hk' => ?_) hl
   have h := S.blk i n hn hk k hk'
   obtain ⟨j, p, rfl, e1, e2, e3⟩ := kid k hk' (by unfold xSt at h; omega)
   rw [← e2] at h
   exact (ih j (by omega) p e1 (f + 1) (by omega)).2.1 h
end
theorem num_lt {T : List Kn} {i : Nat} {n : Kn} (hn : T[i]? = some n) (h6 : n.k = 6) : numS T (i : Int) < numS T (T.length : Int) := by
 obtain ⟨hi, rfl⟩ := List.getElem?_eq_some_iff.1 hn
 unfold numS
 rw [Int.toNat_natCast, Int.toNat_natCast, List.take_length]
 have e : T = T.take i ++ (T[i] :: T.drop (i + 1)) := by rw [← List.drop_eq_getElem_cons hi, List.take_append_drop]
 have h : (T.filter fun n => n.k == 6).length = ((T.take i).filter fun n => n.k == 6).length + (((T[i] :: T.drop (i + 1)).filter fun n => n.k == 6).length) := by
  rw [← List.length_append, ← List.filter_append, ← e]
 rw [List.filter_cons_of_pos (by simp [h6]), List.length_cons] at h
 omega
theorem cxFront {b : Nat} {h : AHeap} {O : List AM.ORow} {M : List AM.MRow} (y : AM.Cx b h [] O M) (n : Nat) {q : AM.ORow} (e : O[n]? = some q) : AM.Cx b h [] (q :: O.eraseIdx n) M := by
 have hl := (List.getElem?_eq_some_iff.1 e).1
 refine y.perm ?_
 have e1 : O = O.take n ++ q :: O.drop (n + 1) := by
  have e2 : O[n] = q := by rw [List.getElem?_eq_getElem hl] at e; exact Option.some.inj e
  rw [← e2, ← List.drop_eq_getElem_cons hl, List.take_append_drop]
 rw [List.eraseIdx_eq_take_drop_succ]
 exact (List.Perm.of_eq e1).trans List.perm_middle
theorem trC {b : Nat} {h0 : AHeap} {nv : Value} {T : List Kn} (tr : TrH b h0 nv T) (top : Int) : aCells (trVal nv top) = some [nv, .int .i64 top] ∧ vbeq (trVal nv top) (trVal nv top) = true := by
 constructor
 ·have e : (List.all (List.toArray [nv, Value.int .i64 top]).toList isCell) = true := by
   show (isCell nv && (true && true)) = true
   rw [tr.cell.1]; rfl
  show (if (List.all (List.toArray [nv, Value.int .i64 top]).toList isCell) = true then some (List.toArray [nv, Value.int .i64 top]).toList else none) = _
  rw [if_pos e]
 ·show (vbeq1 nv nv && (vbeq1 (.int .i64 top) (.int .i64 top) && true)) = true
  rw [vbeq1_self nv tr.cell.1 tr.cell.2]
  simp [vbeq1]
structure RtT (T : List Kn) : Prop where
 S : Shp T
 len : T.length ≤ 3000
 pos : 0 < T.length
 root : kk T ((T.length : Int) - 1) = 21
 sz : sz T ((T.length : Int) - 1) ≤ 3000
 hN : ∀ n ∈ T, n.ks.length ≤ 1048576
theorem u85 {e b : Nat} {h h0 : AHeap} {nv : Value} {T : List Kn} {bxr : AM.SR} {bx : List Bool} (R : RtT T) (tr : TrH b h0 nv T) (E : AM.Ext b h0 h) (y : AM.Cx b h [] [bxr.row 4 (bls bx)] []) (hbx : bx.length = T.length) (he : 21000000 ≤ e) :
  Rs (fun v g => ∃ c : Cn, c.b = b ∧ c.h0 = h0 ∧ c.bx = bxr ∧ v = ptr c.G 0 ∧ SpM c [] (makeS T bx) g) (call Tp Ms (e + 4) 85 [trVal nv ((T.length : Int) - 1), bxr.val bx.length] h) := by
 have hlen := R.len
 have hpos := R.pos
 obtain ⟨hc, hv⟩ := trC tr ((T.length : Int) - 1)
 have hon : numS T (T.length : Int) ≤ 3001 := by
  unfold numS
  rw [Int.toNat_natCast]
  have := List.length_filter_le (fun n : Kn => n.k == 6) (T.take T.length)
  rw [List.length_take] at this
  omega
 rw [c85, e85]
 refine Rs.b hc (Rs.n y fun p2 g1 E1 y1 => ?_)
 have l1 : ∀ {g : AHeap} {O : List AM.ORow} (n : Nat), AM.Cx b g [] O [] → O[n]? = some ⟨p2, p2, 35, true, [nv, .int .i64 ((T.length : Int) - 1)]⟩ → aLdN g (ptr p2 0) 2 = some (trVal nv ((T.length : Int) - 1)) := fun n y e => y.ldON n e rfl
 refine Rs.b (l1 0 y1 rfl) (Rs.b rfl (Rs.b (y1.ldO 0 0 rfl rfl) (Rs.b tr.len (Rs.b rfl (Rs.c (u140 (e := e + 2) tr (E.trans E1) y1.bh (x1 := T.length) (Nat.le_refl _) hlen (by omega)) fun v g2 hv' => ?_)))))
 obtain ⟨E2, rfl⟩ := hv'
 have y2 := y1.ext E2
 refine Rs.b rfl (Rs.b (l1 0 y2 rfl) (Rs.b (mk_some g2 173 [.int .i64 0, .int .i64 0, .slice none 0 0, .slice none 0 0] 64 (numS T (T.length : Int)) (by omega) (by omega)) ?_))
 have y3 := y2.new 173 (List.replicate (numS T (T.length : Int)) [Value.int .i64 0, .int .i64 0, .slice none 0 0, .slice none 0 0]).flatten
 have E3 := y2.nw 173 (List.replicate (numS T (T.length : Int)) [Value.int .i64 0, .int .i64 0, .slice none 0 0, .slice none 0 0]).flatten
 have hol : (List.replicate (numS T (T.length : Int)) [Value.int .i64 0, .int .i64 0, .slice none 0 0, .slice none 0 0]).flatten.length = numS T (T.length : Int) * 4 := by simp
 show Rs _ (((aLdN (g2.new 173 (List.replicate (numS T (T.length : Int)) [Value.int .i64 0, .int .i64 0, .slice none 0 0, .slice none 0 0]).flatten) (ptr p2 0) 2).bind _).bind _)
 generalize (List.replicate (numS T (T.length : Int)) [Value.int .i64 0, .int .i64 0, .slice none 0 0, .slice none 0 0]).flatten = oc at y3 E3 hol ⊢
 generalize g2.new 173 oc = g3 at y3 E3 ⊢
 have ef : aFill [.slice none 0 0, .int .i64 0, .slice none 0 0, .slice none 0 0, .slice none 0 0, .slice none 0 0, .int .i64 0, .int .i64 0] [(0, 2, trVal nv ((T.length : Int) - 1)), (3, 1, bxr.val bx.length), (7, 1, .int .i64 (-1)), (4, 1, slc g2.size 0 (numS T (T.length : Int)))] =
   some [nv, .int .i64 ((T.length : Int) - 1), .slice none 0 0, bxr.val bx.length, slc g2.size 0 (numS T (T.length : Int)), .slice none 0 0, .int .i64 0, .int .i64 (-1)] := by
  rw [aFill, hc, oBs, if_pos ⟨rfl, by decide⟩, aFill, srCells, oBs, if_pos ⟨rfl, by show 4 ≤ 8; decide⟩, aFill]
  rfl
 refine Rs.b (ag (l1 (O := ⟨g2.size, g2.size, 173, true, oc⟩ :: ⟨p2, p2, 35, true, [nv, .int .i64 ((T.length : Int) - 1)]⟩ :: [bxr.row 4 (bls bx)]) 1 y3 rfl) hv) (Rs.ct rfl (Rs.b ef (Rs.b (r := [nv, .int .i64 ((T.length : Int) - 1), .slice none 0 0, bxr.val bx.length, slc g2.size 0 (numS T (T.length : Int)), .slice none 0 0, .int .i64 0, .int .i64 (-1)]) ?_ (Rs.n y3 fun p g4 E4 y4 => ?_))))
 ·have e : (List.all (List.toArray [nv, .int .i64 ((T.length : Int) - 1), .slice none 0 0, bxr.val bx.length, slc g2.size 0 (numS T (T.length : Int)), .slice none 0 0, .int .i64 0, .int .i64 (-1)]).toList isCell) = true := by
   show (isCell nv && (true && (true && (isCell (bxr.val bx.length) && (true && (true && (true && (true && true)))))))) = true
   rw [tr.cell.1, AM.SR.cell]; rfl
  show (if (List.all (List.toArray [nv, .int .i64 ((T.length : Int) - 1), .slice none 0 0, bxr.val bx.length, slc g2.size 0 (numS T (T.length : Int)), .slice none 0 0, .int .i64 0, .int .i64 (-1)]).toList isCell) = true then some (List.toArray [nv, .int .i64 ((T.length : Int) - 1), .slice none 0 0, bxr.val bx.length, slc g2.size 0 (numS T (T.length : Int)), .slice none 0 0, .int .i64 0, .int .i64 (-1)]).toList else none) = _
  rw [if_pos e]
 obtain ⟨r, hr0⟩ : ∃ r : Nat, T.length = r + 1 := ⟨T.length - 1, by omega⟩
 have er : ((T.length : Int) - 1) = (r : Int) := by omega
 have hn : T[r]? = some T[r] := by simp [show r < T.length by omega]
 have hk : T[r].k = 21 := by
  have := R.root
  rw [er, kk_at hn] at this
  exact this
 let c : Cn := ⟨b, h0, T, nv, (T.length : Int) - 1, p, numS T (T.length : Int), bxr⟩
 have ok : c.Ok := ⟨tr, R.S, hlen, fun i n hn h6 => num_lt hn h6, by show 0 < numS T _; unfold numS; omega⟩
 have E5 := (((E.trans E1).trans (E2.mono y1.bh)).trans E3).trans E4
 have dd : ∀ (t : TypeId) {O : List AM.ORow}, AM.Cx b g4 [] O [] → AM.Cx b g4 [] (AM.SR.none.row t [] :: O) [] := fun t O y => y.add (AM.Ext.refl _ _) (fun h => by cases h) (fun _ => rfl)
 have y5 := cxFront (cxFront (cxFront (cxFront (cxFront (dd 9 (dd 195 y4)) 0 rfl) 3 rfl) 5 rfl) 3 rfl) 4 rfl
 have q0 : SpM c [] ⟨[], bx, [], 0⟩ g4 := by
  refine ⟨⟨0, AM.SR.none, ⟨g2.size, g2.size, true⟩, AM.SR.none, [], [], oc, -1⟩, [], rfl, fun x hx => hx, ⟨?_, E5, trivial, hol, ⟨Nat.le_refl _, Nat.zero_le _⟩, trivial, fun x hx => hx⟩⟩
  refine y5.pick (O' := [⟨p, p, 167, true, [nv, .int .i64 ((T.length : Int) - 1), .slice none 0 0, bxr.val bx.length, slc g2.size 0 (numS T (T.length : Int)), .slice none 0 0, .int .i64 0, .int .i64 (-1)]⟩, AM.SR.none.row 195 [], bxr.row 4 (bls bx), ⟨g2.size, g2.size, 173, true, oc⟩, AM.SR.none.row 9 []]) ?_
  exact .cons_cons _ (.cons_cons _ (.cons_cons _ (.cons_cons _ (.cons_cons _ (List.nil_sublist _)))))
 have ev := (node_ev ok R.hN (r + 1) r (by omega) T[r] hn (3 * T.length + 4) (by omega)).2.2 hk
 have iv : Iv c.T 0 ⟨[], bx, [], 0⟩ := ⟨⟨(fun F hF => by cases hF), Nat.le_refl _, Nat.le_refl _⟩, ⟨(fun F hF => by cases hF), hbx⟩⟩
 have hsz := R.sz
 rw [er] at hsz
 have em : makeS T bx = bodyS c.T (runS c.T (3 * T.length + 4) 2) (r : Int) ⟨[], bx, [], 0⟩ := by
  unfold makeS
  rw [er]
  show stepS T (runS T (3 * T.length + 4)) 3 (r : Int) _ = _
  unfold stepS
  rw [Int.toNat_natCast, hn]
  rfl
 have := u141 (c := c) (e := e) (i := r) (f := 3 * T.length + 4) (nb := 0) ok hn (by have := R.hN T[r] (List.getElem_mem _); omega) (by rw [if_neg (by omega)]; exact ev) ok.pos q0 iv (fun h => by omega) (fun _ => by show 0 + 1 + 5 * sz T (r : Int) ≤ 900000; omega) (by unfold eE; omega)
 refine Rs.b rfl (Rs.b (y4.ldO 2 1 rfl rfl) (Rs.b rfl ?_))
 rw [em]
 rw [← er] at this
 exact Rs.c this fun v g hv => Rs.fin ⟨c, rfl, rfl, rfl, rfl, by rw [← er]; exact hv.2⟩
theorem kk_kd (T : List Kn) (k : Int) : kk T k = kd T k := by
 unfold kk kd
 cases T[k.toNat]? <;> rfl
theorem isEx_i {x : Int} : isEx x = true ↔ xEx x := by
 unfold isEx inR xEx
 simp
theorem isSt_i {x : Int} : isSt x = true ↔ xSt x := by
 unfold isSt inR xSt
 simp
theorem are_one {T : List Kn} {ks : List Int} {P : Int → Bool} (h : kidsAreP (ks.map (kd T)) [P] = true) : ∃ a, ks = [a] ∧ P (kd T a) = true := by
 unfold kidsAreP at h
 match ks with
 | [] => simp at h
 | [a] => exact ⟨a, rfl, by simpa using h⟩
 | _ :: _ :: _ => simp at h
theorem are_two {T : List Kn} {ks : List Int} {P Q : Int → Bool} (h : kidsAreP (ks.map (kd T)) [P, Q] = true) : ∃ a b, ks = [a, b] ∧ P (kd T a) = true ∧ Q (kd T b) = true := by
 unfold kidsAreP at h
 match ks with
 | [] => simp at h
 | [_] => simp at h
 | [a, b] => exact ⟨a, b, rfl, by simpa using h⟩
 | _ :: _ :: _ :: _ => simp at h
theorem are_three {T : List Kn} {ks : List Int} {P Q R : Int → Bool} (h : kidsAreP (ks.map (kd T)) [P, Q, R] = true) : ∃ a b c, ks = [a, b, c] ∧ P (kd T a) = true ∧ Q (kd T b) = true ∧ R (kd T c) = true := by
 unfold kidsAreP at h
 match ks with
 | [] => simp at h
 | [_] => simp at h
 | [_, _] => simp at h
 | [a, b, c] => exact ⟨a, b, c, rfl, by simpa using h⟩
 | _ :: _ :: _ :: _ :: _ => simp at h
section
variable {T : List Kn} {top : Int}
theorem kid_sh (R : Right T top) {j : Nat} {n : Kn} (hn : T[j]? = some n) : kidsP n.k (n.ks.map (kd T)) = true := by
 have g := R.good j n hn
 rw [kids_shape g.knd.1 g.knd.2]
 exact g.shp
theorem leafP {k : Int} {l : List Int} (h : kidsP k l = true) (hk : leaf k = true) : l = [] := by
 unfold kidsP at h
 rw [if_pos hk] at h
 exact List.length_eq_zero_iff.1 (of_decide_eq_true h)
theorem shp_of (R : Right T top) : Shp T := by
 have val : ∀ {n : Kn} {v : Int} {l : List Int}, n.k = v → kidsP n.k l = true → kidsP v l = true := fun e h => e ▸ h
 refine ⟨fun j n hn => (R.good j n hn).rng, fun j n hn hk => ?_, fun j n hn hk => ?_, fun j n hn hk => ?_, fun j n hn hk => ?_, fun j n hn hk => ?_, fun j n hn hk => ?_, fun j n hn hk => ?_, fun j n hn hk => ?_, fun j n hn hk => ?_⟩
 ·have h := kid_sh R hn
  have g := (R.good j n hn).knd
  have hl : leaf n.k = true := by
   have : n.k = 1 ∨ n.k = 2 ∨ n.k = 3 ∨ n.k = 4 ∨ n.k = 5 ∨ n.k = 22 := by omega
   rcases this with e | e | e | e | e | e <;> rw [e] <;> rfl
  exact List.map_eq_nil_iff.1 (leafP h hl)
 ·have h := kid_sh R hn
  intro k hm
  rw [kk_kd, ← isEx_i]
  have hc : n.k = 8 ∨ n.k = 10 ∨ n.k = 12 ∨ n.k = 13 ∨ n.k = 24 ∨ n.k = 9 ∨ n.k = 11 ∨ n.k = 14 ∨ n.k = 15 ∨ n.k = 19 ∨ n.k = 23 ∨ n.k = 16 ∨ n.k = 20 := by omega
  have two : kidsAreP (n.ks.map (kd T)) [isEx, isEx] = true → isEx (kd T k) = true := fun h => by
   obtain ⟨a, b, e, h1, h2⟩ := are_two h
   rw [e] at hm
   rcases List.mem_cons.1 hm with x | x
   ·rw [x]; exact h1
   ·rw [List.mem_singleton.1 x]; exact h2
  have one : kidsAreP (n.ks.map (kd T)) [isEx] = true → isEx (kd T k) = true := fun h => by
   obtain ⟨a, e, h1⟩ := are_one h
   rw [e] at hm
   rw [List.mem_singleton.1 hm]; exact h1
  rcases hc with e | e | e | e | e | e | e | e | e | e | e | e | e
  ·exact two (val e h)
  ·exact two (val e h)
  ·exact two (val e h)
  ·exact two (val e h)
  ·exact two (val e h)
  ·have h9 : (decide (0 < (n.ks.map (kd T)).length) && (n.ks.map (kd T)).all isEx) = true := val e h
   rw [Bool.and_eq_true, List.all_eq_true] at h9
   exact h9.2 _ (List.mem_map_of_mem hm)
  ·exact one (val e h)
  ·exact one (val e h)
  ·exact one (val e h)
  ·exact one (val e h)
  ·exact one (val e h)
  ·have h16 : kidsAreP (n.ks.map (kd T)) [isEx, isEx, isEx] = true := val e h
   obtain ⟨a, b, d, e2, h1, h2, h3⟩ := are_three h16
   rw [e2] at hm
   simp only [List.mem_cons, List.not_mem_nil, or_false] at hm
   rcases hm with x | x | x <;> rw [x]
   ·exact h1
   ·exact h2
   ·exact h3
  ·have h20 : kidsAreP (n.ks.map (kd T)) [fun k => k == 9] = true := val e h
   obtain ⟨a, e2, h1⟩ := are_one h20
   rw [e2] at hm
   rw [List.mem_singleton.1 hm, isEx_i]
   have : kd T a = 9 := by simpa using h1
   unfold xEx; omega
 ·have h := kid_sh R hn
  have two : kidsAreP (n.ks.map (kd T)) [isEx, isEx] = true → n.ks.length = 2 := fun h => by
   obtain ⟨a, b, e, _⟩ := are_two h
   rw [e]; rfl
  rcases hk with e | e
  ·exact two (val e h)
  ·exact two (val e h)
 ·have h := kid_sh R hn
  have one : kidsAreP (n.ks.map (kd T)) [isEx] = true → n.ks.length = 1 := fun h => by
   obtain ⟨a, e, _⟩ := are_one h
   rw [e]; rfl
  rcases hk with e | e
  ·exact one (val e h)
  ·exact one (val e h)
 ·have h : (decide (0 < (n.ks.map (kd T)).length) && ((n.ks.map (kd T)).dropLast.all (· == 22) && (n.ks.map (kd T)).getLast? == some 21)) = true := val hk (kid_sh R hn)
  simp only [Bool.and_eq_true, List.all_eq_true, decide_eq_true_eq] at h
  obtain ⟨h1, h2, h3⟩ := h
  rcases List.eq_nil_or_concat n.ks with e | ⟨ps, b, e⟩
  ·rw [e] at h1; simp at h1
  ·refine ⟨ps, b, by simpa using e, fun k hm => ?_, ?_⟩
   ·rw [kk_kd]
    have := h2 (kd T k) (by
     rw [e]
     simp only [List.concat_eq_append, List.map_append, List.map_cons, List.map_nil, List.dropLast_concat]
     exact List.mem_map_of_mem hm)
    simpa using this
   ·rw [kk_kd]
    rw [e] at h3
    simpa using h3
 ·have h : ((n.ks.map (kd T)).all fun k => k == 23 || k == 24) = true := val hk (kid_sh R hn)
  intro k hm
  rw [kk_kd]
  have := (List.all_eq_true.1 h) (kd T k) (List.mem_map_of_mem hm)
  simpa using this
 ·have h : (kidsAreP (n.ks.map (kd T)) [isEx, isBl] || kidsAreP (n.ks.map (kd T)) [isEx, isBl, isBl]) = true := val hk (kid_sh R hn)
  rw [Bool.or_eq_true] at h
  rcases h with h | h
  ·obtain ⟨a, b, e, h1, h2⟩ := are_two h
   refine ⟨a, [b], e, by rw [kk_kd]; exact isEx_i.1 h1, .inl rfl, fun k hm => ?_⟩
   rw [List.mem_singleton.1 hm, kk_kd]
   simpa [isBl] using h2
  ·obtain ⟨a, b, d, e, h1, h2, h3⟩ := are_three h
   refine ⟨a, [b, d], e, by rw [kk_kd]; exact isEx_i.1 h1, .inr rfl, fun k hm => ?_⟩
   rw [kk_kd]
   simp only [List.mem_cons, List.not_mem_nil, or_false] at hm
   rcases hm with x | x <;> rw [x]
   ·simpa [isBl] using h2
   ·simpa [isBl] using h3
 ·have h : kidsAreP (n.ks.map (kd T)) [isEx, isBl] = true := val hk (kid_sh R hn)
  obtain ⟨a, b, e, h1, h2⟩ := are_two h
  exact ⟨a, b, e, by rw [kk_kd]; exact isEx_i.1 h1, by rw [kk_kd]; simpa [isBl] using h2⟩
 ·have h : (n.ks.map (kd T)).all isSt = true := val hk (kid_sh R hn)
  intro k hm
  rw [kk_kd]
  exact isSt_i.1 ((List.all_eq_true.1 h) (kd T k) (List.mem_map_of_mem hm))
theorem rt_of (R : Right T top) (hN : ∀ n ∈ T, n.t.size ≤ 1048576 ∧ n.ks.length ≤ 1048576) : RtT T := by
 have S := shp_of R
 have hlen := R.len
 have hpos := R.pos
 refine ⟨S, R.len, R.pos, by rw [kk_kd]; exact R.blk, ?_, fun n hn => (hN n hn).2⟩
 have hnum : 0 ≤ numP T (T.length + 1) ((T.length : Int) - 1) 0 := by rw [R.num]; omega
 have h := sz_num (num_le T) (T.length + 1) ((T.length : Int) - 1) 0 (by omega) hnum
 have e : sz T ((T.length : Int) - 1) = szP T (T.length + 1) ((T.length : Int) - 1) := by
  obtain ⟨r, hr⟩ : ∃ r : Nat, T.length = r + 1 := ⟨T.length - 1, by omega⟩
  have er : ((T.length : Int) - 1) = (r : Int) := by omega
  rw [er]
  exact szP_eq S.lo (r + 1) r _ _ (by omega) (by omega) (by omega)
 omega
theorem boxed_same (R : Right T top) : boxedS T = boxedM T := boxed_eq (shp_of R) (by rw [kk_kd]; exact R.blk) R.pos (num_le T) R.num
end
open Go.AM (Rs)
structure Km where
 b : Nat
 h0 : AHeap
 T : List Kn
 nv : Value
 top : Int
 B : Bd
 t0 : Nat
 bp : Nat
 rb : Nat
 rx : Nat
 ro : Nat
 sn : Value
 C : Nat
 nM : Nat
 nl : List (Value × Value)
 pn : Nat
structure Km.Ok (k : Km) : Prop where
 tr : TrH k.b k.h0 k.nv k.T
 rt : ∀ g, AM.Ext k.b k.h0 g → AM.Row g k.t0 [k.nv, .int .i64 k.top] ∧ AM.Row g k.bp [ptr k.t0 0, slc k.rb 0 k.T.length, slc k.rx 0 k.T.length, slc k.ro 0 k.T.length, k.sn] ∧ AM.Row g k.rb (ints k.B.bd) ∧ AM.Row g k.rx (bls k.B.bx) ∧ AM.Row g k.ro (ints k.B.ow)
 S : Shp k.T
 len : k.T.length ≤ 3000
 L : Ln k.T k.B
 num : ∀ (i : Nat) (n : Kn), k.T[i]? = some n → (n.k = 6 → mfind (.int .i64 (i : Int)) k.nl = some (some (.int .i64 ((numS k.T (i : Int) : Nat) : Int))) ∧ (numS k.T (i : Int) < 100 → numS k.T (i : Int) < k.pn)) ∧ (n.k ≠ 6 → mfind (.int .i64 (i : Int)) k.nl = some none)
 sub : ∀ (i : Nat) (n : Kn) (q : Nat) (kv : Value), k.T[i]? = some n → aIdx k.nv (.int .i64 (i : Int)) 4 = some (ptr q (i * 4)) → aLd1 k.h0 (ptr q (i * 4 + 3)) = some kv → n.ks ≠ [] →
  ∃ v', (∀ g, AM.Ext k.b k.h0 g → aSub g 3 kv none (some (.int .i64 ((n.ks.length : Int) - 1))) 1 = some v') ∧ KdH k.b k.h0 v' n.ks.dropLast
 pos : 0 < k.pn
structure MR where
 i : Nat
 pr : Int
 pu : AM.SR
 cd : AM.SR
 up : AM.SR
 uc : List Value
 cc : List Value
 mp : Nat
 ml : List (Value × Value)
def nx : List MR → Value
 | [] => .pointer none
 | r :: _ => ptr r.i 0
def MR.cells (k : Km) (r : MR) (F : MF) (v : Value) : List Value := [ptr k.C 0, v, .int .i64 F.fn, .int .i64 r.pr, .int .i64 (F.sl.length : Int), r.pu.val F.up.length, r.cd.val F.ln, .map (some r.mp), r.up.val F.up.length]
def msR (k : Km) : List MR → List MF → List AM.ORow
 | r :: rs, F :: Fs => [⟨r.i, r.i, 175, true, r.cells k F (nx rs)⟩, r.pu.row 219 r.uc, r.cd.row 206 r.cc, r.up.row 3 (ints F.up)] ++ msR k rs Fs
 | _, _ => []
def msM : List MR → List AM.MRow
 | r :: rs => (r.mp, r.ml) :: msM rs
 | [] => []
def IntM (l : List (Value × Value)) : Prop := ∀ e ∈ l, ∃ a b : Int, e = (.int .i64 a, .int .i64 b)
def MsOk : List MR → List MF → Prop
 | [], [] => True
 | r :: rs, F :: Fs => r.uc.length = F.up.length * 2 ∧ r.cc.length = F.ln * 2 ∧ IntM r.ml ∧ MsOk rs Fs
 | _, _ => False
structure WM where
 pm : AM.SR
 tx : AM.SR
 rs : List MR
 oc : List Value
 nd : Int
def cC (k : Km) (W : WM) (m : MG) : List Value := [ptr k.t0 0, ptr k.bp 0, .map (some k.nM), W.pm.val k.pn, W.tx.val m.ts.length, .int .i64 m.cd, .int .i64 W.nd]
structure Mp (k : Km) (Q : List AM.ORow) (X : List AM.MRow) (W : WM) (m : MG) (h : AHeap) : Prop where
 y : AM.Cx k.b h [] (⟨k.C, k.C, 128, true, cC k W m⟩ :: W.pm.row 173 W.oc :: W.tx.row 9 (strs m.ts) :: (msR k W.rs m.fs ++ Q)) ((k.nM, k.nl) :: (msM W.rs ++ X))
 E : AM.Ext k.b k.h0 h
 w : MsOk W.rs m.fs
 o : W.oc.length = k.pn * 4
def MpM (k : Km) (Q : List AM.ORow) (ps : List Nat) (m : MG) (h : AHeap) : Prop := ∃ W : WM, W.rs.map (·.i) = ps ∧ Mp k Q [] W m h
theorem mfind_int {l : List (Value × Value)} (h : IntM l) (k : Int) : ∃ z : Option Int, mfind (.int .i64 k) l = some (z.map (Value.int .i64)) := by
 induction l with
 | nil => exact ⟨none, rfl⟩
 | cons e l ih =>
  obtain ⟨a, b, he⟩ := h e (by simp)
  subst he
  obtain ⟨z, hz⟩ := ih fun e he => h e (by simp [he])
  have ke : keyEq (.int .i64 k) (.int .i64 a) = some (k == a) := by simp [keyEq]
  show ∃ z : Option Int, (match keyEq (.int .i64 k) (.int .i64 a) with | some true => some (some (Value.int .i64 b)) | some false => mfind (.int .i64 k) l | none => none) = _
  rw [ke]
  by_cases hx : k = a
  ·subst hx
   exact ⟨some b, by simp⟩
  ·have : (k == a) = false := by simp [hx]
   rw [this]
   exact ⟨z, hz⟩
theorem mset_int {l : List (Value × Value)} (h : IntM l) (k v : Int) : ∃ l2, mset (.int .i64 k) (.int .i64 v) l = some l2 ∧ IntM l2 := by
 induction l with
 | nil => exact ⟨[(.int .i64 k, .int .i64 v)], rfl, fun e he => ⟨k, v, List.mem_singleton.1 he⟩⟩
 | cons e l ih =>
  obtain ⟨a, b, he⟩ := h e (by simp)
  subst he
  obtain ⟨l2, hz, hi⟩ := ih fun e he => h e (by simp [he])
  have ke : keyEq (.int .i64 k) (.int .i64 a) = some (k == a) := by simp [keyEq]
  by_cases hx : k = a
  ·subst hx
   refine ⟨(.int .i64 k, .int .i64 v) :: l, ?_, fun e he => ?_⟩
   ·show (match keyEq (.int .i64 k) (.int .i64 k) with | some true => some _ | some false => (mset (.int .i64 k) (.int .i64 v) l).map _ | none => none) = _
    rw [ke, beq_self_eq_true]
   ·rcases List.mem_cons.1 he with c | c
    ·exact ⟨k, v, c⟩
    ·exact h e (by simp [c])
  ·have e1 : (k == a) = false := by simp [hx]
   refine ⟨(.int .i64 a, .int .i64 b) :: l2, ?_, fun e he => ?_⟩
   ·show (match keyEq (.int .i64 k) (.int .i64 a) with | some true => some _ | some false => (mset (.int .i64 k) (.int .i64 v) l).map _ | none => none) = _
    rw [ke, e1]
    simp only [hz, Option.map_some]
   ·rcases List.mem_cons.1 he with c | c
    ·exact ⟨a, b, c⟩
    ·exact hi e c
section
variable {k : Km} {Q : List AM.ORow} {m : MG} {h g : AHeap} {W : WM} {ps : List Nat} {p : Nat}
theorem mget_int {b : Nat} {O : List AM.ORow} {M : List AM.MRow} (y : AM.Cx b h [] O M) (n : Nat) {i : Nat} {l : List (Value × Value)} (e : M[n]? = some (i, l)) (hi : IntM l) (key : Int) : ∃ z : Int, aMget h (.map (some i)) (.int .i64 key) (.int .i64 0) false = some (.int .i64 z) := by
 have mm := (y.ms _ (List.mem_of_getElem? e)).1
 obtain ⟨z, hz⟩ := mfind_int hi key
 have : aMget h (.map (some i)) (.int .i64 key) (.int .i64 0) false = some (match z.map (Value.int .i64) with | some v => v | none => .int .i64 0) := by
  show ((h.map i).bind fun l => _) = _
  rw [mm, oBs, hz]
  cases z <;> rfl
 rw [this]
 cases z with
 | none => exact ⟨0, rfl⟩
 | some z => exact ⟨z, rfl⟩
theorem MpM.open (q : MpM k Q (p :: ps) m h) : ∃ (F : MF) (R : List MF) (W : WM) (r : MR) (rs : List MR), m.fs = F :: R ∧ W.rs = r :: rs ∧ r.i = p ∧ rs.map (·.i) = ps ∧ Mp k Q [] W m h := by
 obtain ⟨W, hps, q⟩ := q
 have hk := q.w
 match hrs : W.rs, hfs : m.fs with
 | [], _ => rw [hrs] at hps; cases hps
 | r :: rs, [] => rw [hrs, hfs] at hk; exact hk.elim
 | r :: rs, F :: R =>
  rw [hrs] at hps
  simp only [List.map_cons, List.cons.injEq] at hps
  exact ⟨F, R, W, r, rs, rfl, hrs, hps.1, hps.2, q⟩
theorem u184 {e : Nat} (q : MpM k Q ps m h) (x1 x2 : Int) : Rs (fun v g => v = unitV ∧ MpM k Q ps (m.fail x1) g) (call Tp Ms (e + 1) 184 [ptr k.C 0, .int .i64 x1, .int .i64 x2] h) := by
 obtain ⟨W, hps, q⟩ := q
 have y := q.y
 rw [c184, e184]
 refine Rs.b rfl (Rs.b rfl (Rs.b (y.ldO 0 5 rfl rfl) (Rs.b rfl ?_)))
 unfold MG.fail
 by_cases hc : m.cd = 0
 ·rw [if_pos hc]
  obtain ⟨g, c1, E1, y1, _⟩ := y.st 0 (off := 5) (m := 1) (vs := [.int .i64 x1]) (v := .int .i64 x1) rfl rfl rfl (by show 6 ≤ 7; decide)
  obtain ⟨g2, c2, E2, y2, _⟩ := y1.st 0 (off := 6) (m := 1) (vs := [.int .i64 x2]) (v := .int .i64 x2) rfl rfl rfl (by show 7 ≤ 7; decide)
  refine Rs.ct (bT hc) (Rs.b rfl (Rs.b rfl (Rs.b c1 (Rs.b rfl (Rs.b rfl (Rs.b c2 ?_))))))
  exact Rs.fin ⟨rfl, { W with nd := x2 }, hps, ⟨y2, (q.E.trans E1).trans E2, q.w, q.o⟩⟩
 ·rw [if_neg hc]
  exact Rs.cf (bF hc) (Rs.fin ⟨rfl, W, hps, q⟩)
def hdLm (m : MG) : Nat := match m.fs with | [] => 0 | F :: _ => F.ln
theorem u217 {e : Nat} (q : MpM k Q (p :: ps) m h) : Rs (fun v g => v = .int .i64 (hdLm m : Int) ∧ g = h) (call Tp Ms (e + 1) 217 [ptr p 0] h) := by
 obtain ⟨F, R, W, r, rs, hfs, hrs, rfl, _, qq⟩ := q.open
 obtain ⟨fs, ts, cd⟩ := m
 obtain ⟨pm, tx, wrs, oc, nd⟩ := W
 dsimp only at hfs hrs
 subst hfs hrs
 have y := qq.y
 have kk' := qq.w
 dsimp only at y kk'
 rw [c217, e217]
 exact Rs.b rfl (Rs.b rfl (Rs.b rfl (Rs.b (y.ldO 3 6 rfl rfl) (Rs.b (y.len 5 (r := r.cd) (esz := 2) (k := F.ln) rfl (by have := kk'.2.1; show F.ln * 2 ≤ r.cc.length; omega) (by decide)) (Rs.b rfl (Rs.fin ⟨rfl, rfl⟩))))))
theorem u182 {e : Nat} (q : MpM k Q (p :: ps) m h) (hb : Bm 10000000 m) (x1 x2 : Int) : Rs (fun v g => v = .int .i64 (hdLm m : Int) ∧ MpM k Q (p :: ps) m.put g) (call Tp Ms (e + 1) 182 [ptr p 0, .int .i64 x1, .int .i64 x2] h) := by
 obtain ⟨F, R, W, r, rs, hfs, hrs, hp, hps, qq⟩ := q.open
 obtain ⟨fs, ts, cd⟩ := m
 obtain ⟨pm, tx, wrs, oc, nd⟩ := W
 dsimp only at hfs hrs
 subst hfs hrs hp
 obtain ⟨ri, pr, pu, rcd, up, uc, cc, mp, ml⟩ := r
 have y := qq.y
 have kk' := qq.w
 dsimp only at y kk' hps ⊢
 have hln : F.ln ≤ 10000000 := (hb.f F (by simp)).ln
 have hcc : cc.length = F.ln * 2 := kk'.2.1
 rw [c182, e182]
 refine Rs.b rfl (Rs.b rfl (Rs.b rfl (Rs.b (y.ldO 3 6 rfl rfl) (Rs.b (r := [.int .i64 x1, .int .i64 x2]) rfl (Rs.ns y fun p1 g1 E1 y1 => ?_)))))
 obtain ⟨cd', g2, a2, hl2, E2, y2⟩ := y1.apS 6 (r := rcd) (n' := F.ln) (m := 1) (esz := 2) (bytes := 16) (t := 206) rfl (srcN y1 0 (k := 1) (esz := 2) rfl rfl) (by decide) (by decide) (by rw [hcc]; exact Nat.le_refl _) (by show _ ≤ 140737488355328; omega) (by show _ ≤ 140737488355328; omega)
 rw [show cc.take (F.ln * 2) = cc from List.take_of_length_le (by omega)] at y2
 obtain ⟨g3, a3, E3, y3, _⟩ := y2.st 4 (off := 6) (m := 1) (vs := [cd'.val (F.ln + 1)]) (v := cd'.val (F.ln + 1)) rfl (srCells _ _) rfl (by show 7 ≤ 9; decide)
 have y4 := y3.pick (List.sublist_cons_self _ _)
 have l3 : aLen (cd'.val (F.ln + 1)) = some (.int .i64 ((F.ln + 1 : Nat) : Int)) := by rw [AM.SR.live hl2]; rfl
 refine Rs.b a2 (Rs.b rfl (Rs.b rfl (Rs.b rfl (Rs.b a3 (Rs.b rfl (Rs.b rfl (Rs.b rfl (Rs.b (y4.ldO 3 6 rfl rfl) (Rs.b l3 (Rs.b rfl ?_))))))))))
 rw [wp _ (by omega)]
 have es : splice (MR.cells k ⟨ri, pr, pu, rcd, up, uc, cc, mp, ml⟩ F (nx rs)) 6 [cd'.val (F.ln + 1)] = MR.cells k ⟨ri, pr, pu, cd', up, uc, cc ++ [.int .i64 x1, .int .i64 x2], mp, ml⟩ { F with ln := F.ln + 1 } (nx rs) := rfl
 have e0 : (⟨F :: R, ts, cd⟩ : MG).put = ⟨{ F with ln := F.ln + 1 } :: R, ts, cd⟩ := rfl
 rw [es] at y4
 rw [e0]
 refine Rs.fin ⟨rfl, ⟨pm, tx, ⟨ri, pr, pu, cd', up, uc, cc ++ [Value.int .i64 x1, Value.int .i64 x2], mp, ml⟩ :: rs, oc, nd⟩, ?_, ⟨y4, ((qq.E.trans E1).trans E2).trans E3, ⟨kk'.1, ?_, kk'.2.2.1, kk'.2.2.2⟩, qq.o⟩⟩
 ·show ri :: rs.map (·.i) = _
  rw [hps]
 ·show (cc ++ _).length = (F.ln + 1) * 2
  rw [List.length_append, hcc]
  show _ + 2 = _
  omega
end
open Go.AM (Rs)
section
variable {k : Km} {Q : List AM.ORow} {X : List AM.MRow} {m : MG} {h g : AHeap} {W : WM} {ps : List Nat} {p : Nat}
theorem u181 {e : Nat} (q : MpM k Q (p :: ps) m h) (hb : Bm 10000000 m) (x1 : Int) : Rs (fun v g => v = unitV ∧ MpM k Q (p :: ps) (localM x1 m) g) (call Tp Ms (e + 2) 181 [ptr p 0, .int .i64 x1] h) := by
 have q0 := q
 obtain ⟨F, R, W, r, rs, hfs, hrs, hp, hps, qq⟩ := q.open
 obtain ⟨fs, ts, cd⟩ := m
 obtain ⟨pm, tx, wrs, oc, nd⟩ := W
 dsimp only at hfs hrs
 subst hfs hrs hp
 obtain ⟨ri, pr, pu, rcd, up, uc, cc, mp, ml⟩ := r
 have y := qq.y
 have kk' := qq.w
 dsimp only at y kk' hps ⊢
 have hsl : F.sl.length ≤ 10000000 := (hb.f F (by simp)).sl
 rw [c181, e181]
 refine Rs.b rfl (Rs.b rfl (Rs.b rfl (Rs.b (y.ldO 3 4 rfl rfl) (Rs.b rfl ?_))))
 by_cases h20 : F.sl.length = 20
 ·have e1 : localM x1 ⟨F :: R, ts, cd⟩ = MG.fail ⟨F :: R, ts, cd⟩ 3 := by
   unfold localM
   dsimp only
   rw [if_pos h20]
  rw [e1]
  refine Rs.ct (bT (by omega)) (Rs.b rfl (Rs.b rfl (Rs.b (y.ldO 3 0 rfl rfl) (Rs.c (u184 (e := e) q0 3 x1) fun v g hv => ?_))))
  exact Rs.fin ⟨rfl, hv.2⟩
 ·have e1 : localM x1 ⟨F :: R, ts, cd⟩ = ⟨{ F with sl := F.sl ++ [x1] } :: R, ts, cd⟩ := by
   unfold localM
   dsimp only
   rw [if_neg h20]
  rw [e1]
  obtain ⟨ml2, hm1, hm2⟩ := mset_int kk'.2.2.1 x1 (F.sl.length : Int)
  obtain ⟨g1, a1, E1, y1⟩ := y.msetE 1 (i := mp) (l := ml) (l2 := ml2) (key := .int .i64 x1) (v := .int .i64 (F.sl.length : Int)) rfl rfl hm1
  obtain ⟨g2, a2, E2, y2, _⟩ := y1.st 3 (off := 4) (m := 1) (vs := [.int .i64 ((F.sl.length + 1 : Nat) : Int)]) (v := .int .i64 ((F.sl.length + 1 : Nat) : Int)) rfl rfl rfl (by show 5 ≤ 9; decide)
  refine Rs.cf (bF (by omega)) (Rs.b rfl (Rs.b rfl (Rs.b (y.ldO 3 7 rfl rfl) (Rs.b rfl (Rs.b rfl (Rs.b rfl (Rs.b (y.ldO 3 4 rfl rfl) (Rs.b rfl (Rs.b a1 (Rs.b rfl (Rs.b rfl (Rs.b rfl (Rs.b (y1.ldO 3 4 rfl rfl) (Rs.b rfl (Rs.b rfl (Rs.b rfl (Rs.b rfl ?_)))))))))))))))))
  rw [wq (by omega) (by omega), show ((F.sl.length : Int) + 1) = ((F.sl.length + 1 : Nat) : Int) by omega]
  have el : (F.sl ++ [x1]).length = F.sl.length + 1 := by simp
  refine Rs.b a2 (Rs.fin ⟨rfl, ⟨pm, tx, ⟨ri, pr, pu, rcd, up, uc, cc, mp, ml2⟩ :: rs, oc, nd⟩, ?_, ⟨?_, (qq.E.trans E1).trans E2, ⟨kk'.1, kk'.2.1, hm2, kk'.2.2.2⟩, qq.o⟩⟩)
  ·show ri :: rs.map (·.i) = _
   rw [hps]
  ·show AM.Cx k.b g2 [] (⟨k.C, k.C, 128, true, cC k ⟨pm, tx, rs, oc, nd⟩ ⟨F :: R, ts, cd⟩⟩ :: pm.row 173 oc :: tx.row 9 (strs ts) :: ⟨ri, ri, 175, true, [ptr k.C 0, nx rs, .int .i64 F.fn, .int .i64 pr, .int .i64 ((F.sl ++ [x1]).length : Int), pu.val F.up.length, rcd.val F.ln, .map (some mp), up.val F.up.length]⟩ :: pu.row 219 uc :: rcd.row 206 cc :: up.row 3 (ints F.up) :: (msR k rs R ++ Q)) ((k.nM, k.nl) :: (mp, ml2) :: (msM rs ++ []))
   rw [el]
   exact y2
structure RdL (h : AHeap) (v : Value) (cs : List Value) : Prop where
 len : aLen v = some (.int .i64 (cs.length : Int))
 at' : ∀ (j : Nat) (w : Value), cs[j]? = some w → ∃ q, aIdx v (.int .i64 (j : Int)) 1 = some q ∧ aLd1 h q = some w
theorem rdl_of {b : Nat} {O : List AM.ORow} {M : List AM.MRow} (y : AM.Cx b h [] O M) (n : Nat) {r : AM.SR} {t : TypeId} {cs : List Value} (e : O[n]? = some (r.row t cs)) : RdL h (r.val cs.length) cs := by
 refine ⟨y.len n (k := cs.length) (esz := 1) e (by omega) (by decide), fun j w hw => ?_⟩
 have hj := (List.getElem?_eq_some_iff.1 hw).1
 have ix := (y.ix n (k := cs.length) (esz := 1) e (by omega) (by decide) hj).1
 rw [Nat.mul_one] at ix
 exact ⟨_, ix, y.ldS n e hw⟩
theorem l237 {C : ACall} {N : Nat} {x1 : Int} {v : Value} {xs : List Int} (r : RdL h v (ints xs)) (hx : xs.length ≤ 10000000) : ∀ (k j m : Nat), xs.length - j = k → j ≤ xs.length → k < m →
  Rs (fun v g => g = h ∧ ∃ z : Int, v = .int .i64 z ∧ (0 ≤ z ↔ x1 ∈ xs.drop j)) (s237_0 hk0 C N m v x1 (xs.length : Int) (j : Int) h) := by
 intro k
 induction k with
 | zero =>
  intro j m hk hj hm
  obtain ⟨m, rfl⟩ : ∃ q, m = q + 1 := ⟨m - 1, by omega⟩
  rw [s237_0_eq, List.drop_eq_nil_of_le (by omega)]
  exact Rs.cf (decide_eq_false (by omega)) (Rs.fin ⟨rfl, -1, rfl, by simp⟩)
 | succ k ih =>
  intro j m hk hj hm
  obtain ⟨m, rfl⟩ : ∃ q, m = q + 1 := ⟨m - 1, by omega⟩
  have hlt : j < xs.length := by omega
  obtain ⟨q, a1, a2⟩ := r.at' j (.int .i64 xs[j]) (by simp [ints, hlt])
  rw [s237_0_eq, List.drop_eq_getElem_cons hlt]
  refine Rs.ct (decide_eq_true (by omega)) (Rs.b a1 (Rs.b a2 (Rs.b rfl ?_)))
  by_cases c : x1 = xs[j]
  ·exact Rs.ct (bT c) (Rs.fin ⟨rfl, j, rfl, ⟨fun _ => by rw [c]; exact List.mem_cons_self, fun _ => by omega⟩⟩)
  ·refine Rs.cf (bF c) ?_
   rw [wq (by omega) (by omega), show ((j : Int) + 1) = ((j + 1 : Nat) : Int) by omega]
   refine (ih (j + 1) m (by omega) (by omega) (by omega)).mono fun v g ⟨e1, z, e2, e3⟩ => ⟨e1, z, e2, ?_⟩
   rw [e3, List.mem_cons]
   exact ⟨.inr, fun h => h.resolve_left c⟩
theorem u237 {e : Nat} {x1 : Int} {v : Value} {xs : List Int} (r : RdL h v (ints xs)) (hx : xs.length ≤ 10000000) (he : xs.length < e) : Rs (fun v g => g = h ∧ ∃ z : Int, v = .int .i64 z ∧ (0 ≤ z ↔ x1 ∈ xs)) (call Tp Ms (e + 1) 237 [v, .int .i64 x1] h) := by
 have hl := r.len
 rw [show (ints xs).length = xs.length by simp [ints]] at hl
 rw [c237, e237]
 have := l237 (C := call Tp Ms e) (N := e) (x1 := x1) r hx xs.length 0 e (by omega) (by omega) (by omega)
 rw [List.drop_zero] at this
 exact Rs.b hl (Rs.b rfl this)
theorem l120m {C : ACall} {N : Nat} {t : BA} {v : Value} {xs : List BA} (r : RdL h v (strs xs)) (hx : xs.length ≤ 10000000) : ∀ (k j m : Nat), xs.length - j = k → j ≤ xs.length → k < m →
  Rs (fun v g => g = h ∧ ∃ z : Int, v = .int .i64 z ∧ -1 ≤ z ∧ z ≤ 10000000 ∧ (0 ≤ z ↔ ((xs.drop j).any fun u => u.toList == t.toList) = true)) (s120_0 hk0 C N m v t (xs.length : Int) (j : Int) h) := by
 intro k
 induction k with
 | zero =>
  intro j m hk hj hm
  obtain ⟨m, rfl⟩ : ∃ q, m = q + 1 := ⟨m - 1, by omega⟩
  rw [s120_0_eq, List.drop_eq_nil_of_le (by omega)]
  exact Rs.cf (decide_eq_false (by omega)) (Rs.fin ⟨rfl, -1, rfl, by decide, by decide, by simp⟩)
 | succ k ih =>
  intro j m hk hj hm
  obtain ⟨m, rfl⟩ : ∃ q, m = q + 1 := ⟨m - 1, by omega⟩
  have hlt : j < xs.length := by omega
  obtain ⟨q, a1, a2⟩ := r.at' j (.string xs[j]) (by simp [strs, hlt])
  rw [s120_0_eq, List.drop_eq_getElem_cons hlt]
  refine Rs.ct (decide_eq_true (by omega)) (Rs.b a1 (Rs.b a2 (Rs.b rfl ?_)))
  have sym : (t.toList == xs[j].toList) = (xs[j].toList == t.toList) := Bool.eq_iff_iff.2 (by rw [beq_iff_eq, beq_iff_eq]; exact eq_comm)
  rw [sym]
  by_cases c : (xs[j].toList == t.toList) = true
  ·exact Rs.ct c (Rs.fin ⟨rfl, j, rfl, by omega, by omega, ⟨fun _ => by rw [List.any_cons, c, Bool.true_or], fun _ => by omega⟩⟩)
  ·refine Rs.cf (Bool.eq_false_iff.2 c) ?_
   rw [wq (by omega) (by omega), show ((j : Int) + 1) = ((j + 1 : Nat) : Int) by omega]
   refine (ih (j + 1) m (by omega) (by omega) (by omega)).mono fun v g ⟨e1, z, e2, e4, e5, e3⟩ => ⟨e1, z, e2, e4, e5, ?_⟩
   rw [e3, List.any_cons, Bool.eq_false_iff.2 c, Bool.false_or]
theorem u120 {e : Nat} {t : BA} {v : Value} {xs : List BA} (r : RdL h v (strs xs)) (hx : xs.length ≤ 10000000) (he : xs.length < e) : Rs (fun v g => g = h ∧ ∃ z : Int, v = .int .i64 z ∧ -1 ≤ z ∧ z ≤ 10000000 ∧ (0 ≤ z ↔ (xs.any fun u => u.toList == t.toList) = true)) (call Tp Ms (e + 1) 120 [v, .string t] h) := by
 have hl := r.len
 rw [show (strs xs).length = xs.length by simp [strs]] at hl
 rw [c120, e120]
 have := l120m (C := call Tp Ms e) (N := e) (t := t) r hx xs.length 0 e (by omega) (by omega) (by omega)
 rw [List.drop_zero] at this
 exact Rs.b hl (Rs.b rfl this)
theorem u229 {e : Nat} {t : BA} (he : 30 ≤ e) : Rs (fun v g => ∃ z : Int, v = .int .i64 z ∧ AM.Ext h.size h g ∧ (0 < z ↔ isLib t = true)) (call Tp Ms (e + 2) 229 [.string t] h) := by
 have c236' : call Tp Ms (e + 1) 236 [] h = some (slc h.size 0 libB.length, h.new 9 (strs libB)) := by
  rw [c236, e236]; rfl
 have E1 := AM.Ext.new (Nat.le_refl h.size) 9 (strs libB)
 have r1 : AM.Row (h.new 9 (strs libB)) h.size (strs libB) := ⟨_, at?_new_same h 9 _, rfl⟩
 rw [c229, e229]
 refine Rs.b c236' ?_
 show Rs _ ((call Tp Ms (e + 1) 120 [slc h.size 0 libB.length, .string t] (h.new 9 (strs libB))).bind _)
 generalize h.new 9 (strs libB) = g at E1 r1 ⊢
 have rl : RdL g (slc h.size 0 libB.length) (strs libB) := ⟨rfl, fun j w hw => by
  have hj := (List.getElem?_eq_some_iff.1 hw).1
  have hj' : j < libB.length := by simpa [strs] using hj
  exact ⟨ptr h.size j, by simp [aIdx, slc, hj'], r1.ld1 hw⟩⟩
 refine Rs.c (u120 (e := e) (t := t) rl (by decide) (by show 11 < e; omega)) fun v g2 hv => ?_
 obtain ⟨rfl, z, rfl, z1, z2, hz⟩ := hv
 refine Rs.b rfl ?_
 rw [wq (by omega) (by omega)]
 exact Rs.fin ⟨1 + z, rfl, E1, by unfold isLib; rw [← hz]; omega⟩
end
open Go.AM (Rs)
section
variable {k : Km} {Q : List AM.ORow} {X : List AM.MRow} {m : MG} {h g : AHeap} {W : WM} {ps : List Nat} {p : Nat} {F : MF} {R : List MF} {r : MR} {rs : List MR}
theorem ptrVb (i o : Nat) : vbeq (ptr i o) (ptr i o) = true := by simp [vbeq, vbeq1, ptr]
theorem nx_eq {a b : List MR} (h : a.map (·.i) = b.map (·.i)) : nx a = nx b := by
 match a, b, h with
 | [], [], _ => rfl
 | [], _ :: _, h => cases h
 | _ :: _, [], h => cases h
 | x :: a, y :: b, h =>
  simp only [List.map_cons, List.cons.injEq] at h
  show ptr x.i 0 = ptr y.i 0
  rw [h.1]
def mrR (k : Km) (r : MR) (F : MF) (v : Value) : List AM.ORow := [⟨r.i, r.i, 175, true, r.cells k F v⟩, r.pu.row 219 r.uc, r.cd.row 206 r.cc, r.up.row 3 (ints F.up)]
theorem Mp.drop (q : Mp k Q X W m h) (e : m.fs = F :: R) (er : W.rs = r :: rs) : Mp k (mrR k r F (nx rs) ++ Q) ((r.mp, r.ml) :: X) { W with rs := rs } { m with fs := R } h := by
 have y := q.y
 have w := q.w
 rw [e, er] at y w
 refine ⟨?_, q.E, w.2.2.2, q.o⟩
 refine (y.perm ?_).permM ?_
 ·show List.Perm (_ :: _ :: _ :: (mrR k r F (nx rs) ++ msR k rs R ++ Q)) (_ :: _ :: _ :: (msR k rs R ++ (mrR k r F (nx rs) ++ Q)))
  refine List.Perm.cons _ (List.Perm.cons _ (List.Perm.cons _ ?_))
  rw [← List.append_assoc]
  exact List.Perm.append_right _ List.perm_append_comm
 ·show List.Perm ((k.nM, k.nl) :: (r.mp, r.ml) :: (msM rs ++ X)) ((k.nM, k.nl) :: (msM rs ++ (r.mp, r.ml) :: X))
  exact List.Perm.cons _ List.perm_middle.symm
theorem Mp.undrop {v : Value} (q : Mp k (mrR k r F v ++ Q) ((r.mp, r.ml) :: X) W m h) (hv : v = nx W.rs) (hw : r.uc.length = F.up.length * 2 ∧ r.cc.length = F.ln * 2 ∧ IntM r.ml) : Mp k Q X { W with rs := r :: W.rs } { m with fs := F :: m.fs } h := by
 subst hv
 have y := q.y
 refine ⟨?_, q.E, ⟨hw.1, hw.2.1, hw.2.2, q.w⟩, q.o⟩
 refine (y.perm ?_).permM ?_
 ·show List.Perm (_ :: _ :: _ :: (msR k W.rs m.fs ++ (mrR k r F (nx W.rs) ++ Q))) (_ :: _ :: _ :: (mrR k r F (nx W.rs) ++ msR k W.rs m.fs ++ Q))
  refine List.Perm.cons _ (List.Perm.cons _ (List.Perm.cons _ ?_))
  rw [← List.append_assoc]
  exact List.Perm.append_right _ List.perm_append_comm
 ·show List.Perm ((k.nM, k.nl) :: (msM W.rs ++ (r.mp, r.ml) :: X)) ((k.nM, k.nl) :: (r.mp, r.ml) :: (msM W.rs ++ X))
  exact List.Perm.cons _ List.perm_middle
theorem Mp.front {row : AM.ORow} (q : Mp k (row :: Q) X W m h) : AM.Cx k.b h [] (row :: ⟨k.C, k.C, 128, true, cC k W m⟩ :: W.pm.row 173 W.oc :: W.tx.row 9 (strs m.ts) :: (msR k W.rs m.fs ++ Q)) ((k.nM, k.nl) :: (msM W.rs ++ X)) := by
 refine q.y.perm (List.Perm.symm ?_)
 exact (List.perm_middle (l₁ := [⟨k.C, k.C, 128, true, cC k W m⟩, W.pm.row 173 W.oc, W.tx.row 9 (strs m.ts)])).symm.trans
  (List.Perm.cons _ (List.Perm.cons _ (List.Perm.cons _ List.perm_middle.symm)))
theorem Mp.mk' {row : AM.ORow} (y : AM.Cx k.b g [] (row :: ⟨k.C, k.C, 128, true, cC k W m⟩ :: W.pm.row 173 W.oc :: W.tx.row 9 (strs m.ts) :: (msR k W.rs m.fs ++ Q)) ((k.nM, k.nl) :: (msM W.rs ++ X))) (E : AM.Ext k.b k.h0 g) (w : MsOk W.rs m.fs) (o : W.oc.length = k.pn * 4) : Mp k (row :: Q) X W m g := by
 refine ⟨y.perm ?_, E, w, o⟩
 exact (List.perm_middle (l₁ := [⟨k.C, k.C, 128, true, cC k W m⟩, W.pm.row 173 W.oc, W.tx.row 9 (strs m.ts)])).symm.trans
  (List.Perm.cons _ (List.Perm.cons _ (List.Perm.cons _ List.perm_middle.symm)))
theorem Mp.stQ {i rt off n : Nat} {t : TypeId} {cs vs : List Value} {v : Value} (q : Mp k (⟨i, rt, t, true, cs⟩ :: Q) X W m h) (hv : aCells v = some vs) (hl : vs.length = n) (hn : off + n ≤ cs.length) :
  ∃ g, aSt h (ptr i off) v n = some g ∧ Mp k (⟨i, rt, t, true, splice cs off vs⟩ :: Q) X W m g := by
 obtain ⟨g, c1, E, y, _⟩ := q.front.st 0 (off := off) (m := n) (vs := vs) (v := v) rfl hv hl hn
 exact ⟨g, c1, Mp.mk' y (q.E.trans E) q.w q.o⟩
theorem Mp.out {row : AM.ORow} (q : Mp k (row :: Q) X W m h) : Mp k Q X W m h := by
 refine ⟨q.y.pick ?_, q.E, q.w, q.o⟩
 exact List.Sublist.cons_cons _ (List.Sublist.cons_cons _ (List.Sublist.cons_cons _ (List.Sublist.append_left (List.sublist_cons_self _ _) _)))
theorem l230_0 {C : ACall} {N p2 : Nat} {x1 z : Int} {bb : Bool} (q : Mp k (⟨p2, p2, 219, true, [.bool bb, .int .i64 z]⟩ :: Q) X W m h) (e : m.fs = F :: R) (er : W.rs = r :: rs) (hu : F.up.length ≤ 10000000) :
  Rs (fun v g => ∃ a : Int, v = .int .i64 a ∧ ∃ W', W'.rs.map (·.i) = W.rs.map (·.i) ∧ Mp k Q X W' { m with fs := { F with up := F.up ++ [x1] } :: R } g) (s230_0 hk0 C N (ptr r.i 0) x1 (ptr p2 0) h) := by
 obtain ⟨fs, ts, cd⟩ := m
 obtain ⟨pm, tx, wrs, oc, nd⟩ := W
 dsimp only at e er
 subst e er
 obtain ⟨ri, pr, pu, rcd, up, uc, cc, mp, ml⟩ := r
 have y := q.front
 have kk' := q.w
 dsimp only at y kk' ⊢
 have huc : uc.length = F.up.length * 2 := kk'.1
 have hup : (ints F.up).length = F.up.length := by simp [ints]
 rw [s230_0_j, s230_0_eq]
 refine Rs.b rfl (Rs.b rfl (Rs.b (y.ldO 4 8 rfl rfl) (Rs.ns y fun p1 g1 E1 y1 => ?_)))
 obtain ⟨up', g2, a2, hl2, E2, y2⟩ := y1.apS 8 (r := up) (n' := F.up.length) (m := 1) (esz := 1) (bytes := 8) (t := 3) rfl (srcN y1 0 (k := 1) (esz := 1) rfl rfl) (by decide) (by decide) (by rw [hup]; omega) (by show _ ≤ 140737488355328; omega) (by show _ ≤ 140737488355328; omega)
 rw [show (ints F.up).take (F.up.length * 1) = ints F.up from List.take_of_length_le (by omega)] at y2
 obtain ⟨g3, a3, E3, y3, _⟩ := y2.st 5 (off := 8) (m := 1) (vs := [up'.val (F.up.length + 1)]) (v := up'.val (F.up.length + 1)) rfl (srCells _ _) rfl (by show 9 ≤ 9; decide)
 have y4 := y3.pick (List.sublist_cons_self _ _)
 refine Rs.b a2 (Rs.b rfl (Rs.b rfl (Rs.b a3 (Rs.b rfl (Rs.b rfl (Rs.b rfl (Rs.b (y4.ldO 4 5 rfl rfl) (Rs.b (y4.ldON 0 rfl rfl) (Rs.b (r := [.bool bb, .int .i64 z]) rfl (Rs.ns y4 fun p5 g5 E5 y5 => ?_))))))))))
 obtain ⟨pu', g6, a6, hl6, E6, y6⟩ := y5.apS 6 (r := pu) (n' := F.up.length) (m := 1) (esz := 2) (bytes := 16) (t := 219) rfl (srcN y5 0 (k := 1) (esz := 2) rfl rfl) (by decide) (by decide) (by rw [huc]; exact Nat.le_refl _) (by show _ ≤ 140737488355328; omega) (by show _ ≤ 140737488355328; omega)
 rw [show uc.take (F.up.length * 2) = uc from List.take_of_length_le (by omega)] at y6
 refine Rs.b (ag (y5.ldO 5 5 rfl rfl) (AM.SR.vb _ _)) (Rs.ct rfl (Rs.b a6 (Rs.b rfl (Rs.b rfl (Rs.b rfl ?_)))))
 obtain ⟨g7, a7, E7, y7, _⟩ := y6.st 5 (off := 5) (m := 1) (vs := [pu'.val (F.up.length + 1)]) (v := pu'.val (F.up.length + 1)) rfl (srCells _ _) rfl (by show 6 ≤ 9; decide)
 have y8 := y7.pick (List.sublist_cons_self _ _)
 have hlen : (F.up ++ [x1]).length = F.up.length + 1 := by simp
 have eI : ints (F.up ++ [x1]) = ints F.up ++ [.int .i64 x1] := by simp [ints]
 have E := (((((q.E.trans E1).trans E2).trans E3).trans E5).trans E6).trans E7
 have q8 : Mp k (⟨p2, p2, 219, true, [.bool bb, .int .i64 z]⟩ :: Q) X ⟨pm, tx, ⟨ri, pr, pu', rcd, up', uc ++ [Value.bool bb, Value.int .i64 z], cc, mp, ml⟩ :: rs, oc, nd⟩ ⟨{ F with up := F.up ++ [x1] } :: R, ts, cd⟩ g7 := by
  refine Mp.mk' ?_ E ⟨by show (uc ++ _).length = (F.up ++ [x1]).length * 2; rw [List.length_append, hlen, huc]; show _ + 2 = _; omega, kk'.2.1, kk'.2.2.1, kk'.2.2.2⟩ q.o
  show AM.Cx k.b g7 [] (⟨p2, p2, 219, true, [.bool bb, .int .i64 z]⟩ :: ⟨k.C, k.C, 128, true, cC k ⟨pm, tx, rs, oc, nd⟩ ⟨F :: R, ts, cd⟩⟩ :: pm.row 173 oc :: tx.row 9 (strs ts) :: ⟨ri, ri, 175, true, [ptr k.C 0, nx rs, .int .i64 F.fn, .int .i64 pr, .int .i64 (F.sl.length : Int), pu'.val (F.up ++ [x1]).length, rcd.val F.ln, .map (some mp), up'.val (F.up ++ [x1]).length]⟩ :: pu'.row 219 (uc ++ [Value.bool bb, Value.int .i64 z]) :: rcd.row 206 cc :: up'.row 3 (ints (F.up ++ [x1])) :: (msR k rs R ++ Q)) ((k.nM, k.nl) :: (mp, ml) :: (msM rs ++ X))
  rw [hlen, eI]
  exact y8
 have l9 : aLen (up'.val (F.up.length + 1)) = some (.int .i64 ((F.up.length + 1 : Nat) : Int)) := by rw [AM.SR.live hl2]; rfl
 have ld9 := q8.front.ldO 4 8 rfl rfl
 have e9 : (MR.cells k ⟨ri, pr, pu', rcd, up', uc ++ [Value.bool bb, Value.int .i64 z], cc, mp, ml⟩ { F with up := F.up ++ [x1] } (nx rs))[8]? = some (up'.val (F.up.length + 1)) := by
  show some (up'.val (F.up ++ [x1]).length) = _
  rw [hlen]
 refine Rs.b a7 (Rs.b rfl (Rs.b rfl (Rs.b (q8.front.ldO 4 8 rfl e9) (Rs.b l9 (Rs.b rfl ?_)))))
 exact Rs.fin ⟨_, rfl, ⟨pm, tx, ⟨ri, pr, pu', rcd, up', uc ++ [Value.bool bb, Value.int .i64 z], cc, mp, ml⟩ :: rs, oc, nd⟩, rfl, q8.out⟩
theorem l230 (ok : k.Ok) {x1 : Int} {L : Nat} (hL : L ≤ 10000000) (hx0 : 0 ≤ x1) (hx1 : x1 < (k.T.length : Int)) : ∀ (R : List MF) (F : MF) (Q : List AM.ORow) (X : List AM.MRow) (W : WM) (m : MG) (h : AHeap) (e : Nat) (r : MR) (rs : List MR), m.fs = F :: R → W.rs = r :: rs → Mp k Q X W m h → (∃ O ∈ R, O.fn = k.B.ow.getD x1.toNat 0) → (∀ F' ∈ F :: R, F'.up.length < L) → L + R.length ≤ e →
  Rs (fun v g => ∃ a : Int, v = .int .i64 a ∧ ∃ W', W'.rs.map (·.i) = W.rs.map (·.i) ∧ Mp k Q X W' { m with fs := upM (k.B.ow.getD x1.toNat 0) x1 m.fs } g) (call Tp Ms (e + 1) 230 [ptr r.i 0, .int .i64 x1] h)
 | [], F, Q, X, W, m, h, e, r, rs, _, _, _, ⟨O, hO, _⟩, _, _ => by cases hO
 | O :: R, F, Q, X, W, m, h, e, r, rs, es, er, q, hex, hb, he => by
  simp only [List.length_cons] at he
  obtain ⟨e, rfl⟩ : ∃ q, e = q + 1 := ⟨e - 1, by omega⟩
  have hF := hb F (by simp)
  obtain ⟨r2, rs2, er2⟩ : ∃ r2 rs2, rs = r2 :: rs2 := by
   have w := q.w
   rw [es, er] at w
   match hrs : rs, w with
   | [], w => exact w.2.2.2.elim
   | r2 :: rs2, _ => exact ⟨r2, rs2, rfl⟩
  subst er2
  obtain ⟨j, rfl⟩ : ∃ j : Nat, x1 = j := ⟨x1.toNat, by omega⟩
  have hj : j < k.T.length := by omega
  have y := q.y
  have w := q.w
  rw [es, er] at y w
  have hw : r.uc.length = F.up.length * 2 ∧ r.cc.length = F.ln * 2 ∧ IntM r.ml := ⟨w.1, w.2.1, w.2.2.1⟩
  have rl : RdL h (r.up.val (ints F.up).length) (ints F.up) := rdl_of y 6 rfl
  rw [show (ints F.up).length = F.up.length by simp [ints]] at rl
  have hoj : (ints k.B.ow)[j]? = some (.int .i64 (k.B.ow.getD j 0)) := by
   have : j < k.B.ow.length := by rw [ok.L.2.1]; exact hj
   simp [ints, List.getD, this]
  rw [c230, e230]
  refine Rs.b rfl (Rs.b rfl (Rs.b (y.ldO 3 8 rfl rfl) (Rs.c (u237 (e := e) (x1 := (j : Int)) rl (by omega) (by omega)) fun v g hv => ?_)))
  obtain ⟨rfl, z, rfl, hz⟩ := hv
  refine Rs.b rfl (Rs.i (fun h0 => ?_) (fun h0 => ?_))
  ·refine Rs.fin ⟨z, rfl, W, rfl, ?_⟩
   have : upM (k.B.ow.getD (j : Int).toNat 0) (j : Int) m.fs = m.fs := by rw [es, upM, if_pos (hz.1 h0)]
   rw [this]; exact q
  ·have hno : (j : Int) ∉ F.up := fun h => h0 (hz.2 h)
   obtain ⟨_, t2, _, _, t5⟩ := ok.rt g q.E
   have ix : aIdx (slc k.ro 0 k.T.length) (.int .i64 (j : Int)) 1 = some (ptr k.ro j) := by simp [aIdx, slc, hj]
   rw [Int.toNat_natCast]
   refine Rs.b rfl (Rs.b rfl (Rs.b (y.ldO 3 0 rfl rfl) (Rs.b rfl (Rs.b rfl (Rs.b (y.ldO 0 1 rfl rfl) (Rs.b rfl (Rs.b rfl (Rs.b (t2.ld1 (off := 3) rfl) (Rs.b ix (Rs.b (t5.ld1 hoj) (Rs.b rfl (Rs.b rfl (Rs.b rfl (Rs.b (y.ldO 3 1 rfl rfl) (Rs.b rfl (Rs.b rfl (Rs.b (y.ldO 7 2 rfl rfl) (Rs.b rfl (Rs.n y fun p2 g2 E2 y2 => ?_)))))))))))))))))))
   have q2 : Mp k (⟨p2, p2, 219, true, [.bool false, .int .i64 0]⟩ :: Q) X W m g2 := by
    refine Mp.mk' ?_ (q.E.trans E2) q.w q.o
    rw [es, er]
    exact y2
   obtain ⟨_, s2, _, _, s5⟩ := ok.rt g2 q2.E
   obtain ⟨g3, a3, q3⟩ := q2.stQ (off := 0) (n := 2) (vs := [.bool (k.B.ow.getD j 0 == O.fn), .int .i64 0]) (v := .agg (List.toArray [.bool (k.B.ow.getD j 0 == O.fn), .int .i64 0])) rfl rfl (by decide)
   refine Rs.b (ag (y2.ldO 4 0 rfl rfl) (ptrVb _ _)) (Rs.ct rfl (Rs.b (ag (y2.ldO 1 1 rfl rfl) (ptrVb _ _)) (Rs.ct rfl (Rs.b (ag (s2.ld1 (off := 3) rfl) (slcV _ _)) (Rs.ct rfl (Rs.b (agI' (s5.ld1 hoj)) (Rs.ct rfl (Rs.b (ag (y2.ldO 4 1 rfl rfl) (ptrVb _ _)) (Rs.ct rfl (Rs.b (agI' (y2.ldO 8 2 rfl rfl)) (Rs.ct rfl (Rs.b a3 ?_))))))))))))
   have f3 := q3.front
   have f3' := f3
   rw [es, er] at f3'
   refine Rs.b rfl (Rs.b (f3.ldO 0 0 rfl rfl) (Rs.b rfl ?_))
   by_cases hO : k.B.ow.getD j 0 = O.fn
   ·have eU : upM (k.B.ow.getD j 0) (j : Int) m.fs = { F with up := F.up ++ [(j : Int)] } :: O :: R := by
     rw [es, upM, if_neg hno, if_pos hO]
    obtain ⟨z2, hz2⟩ := mget_int f3' 2 (i := r2.mp) (l := r2.ml) rfl w.2.2.2.2.2.1 (j : Int)
    obtain ⟨g4, a4, q4⟩ := q3.stQ (off := 1) (n := 1) (vs := [.int .i64 z2]) (v := .int .i64 z2) rfl rfl (by show 2 ≤ 2; decide)
    rw [eU, show (k.B.ow.getD j 0 == O.fn) = true from bT hO]
    rw [show (k.B.ow.getD j 0 == O.fn) = true from bT hO] at q4
    refine Rs.ct rfl (Rs.b rfl (Rs.b rfl (Rs.b (f3'.ldO 4 1 rfl rfl) (Rs.b rfl (Rs.b rfl (Rs.b (f3'.ldO 8 7 rfl rfl) (Rs.b hz2 (Rs.b rfl (Rs.b rfl (Rs.b a4 ?_))))))))))
    exact l230_0 (bb := true) (z := z2) (x1 := (j : Int)) q4 es er (by omega)
   ·have hex' : ∃ O' ∈ R, O'.fn = k.B.ow.getD (j : Int).toNat 0 := by
     obtain ⟨O', h1, h2⟩ := hex
     rcases List.mem_cons.1 h1 with h | h
     ·subst h; exact absurd h2.symm hO
     ·exact ⟨O', h, h2⟩
    have eU : upM (k.B.ow.getD j 0) (j : Int) m.fs = { F with up := F.up ++ [(j : Int)] } :: upM (k.B.ow.getD j 0) (j : Int) (O :: R) := by
     rw [es, upM, if_neg hno, if_neg hO]
    have q4 := q3.drop es er
    have ih := l230 ok hL hx0 hx1 R O _ _ _ _ g3 e r2 rs2 rfl rfl q4 hex' (fun F' h' => hb F' (List.mem_cons_of_mem _ h')) (by omega)
    rw [eU, show (k.B.ow.getD j 0 == O.fn) = false from bF hO]
    refine Rs.cf rfl (Rs.b rfl (Rs.b rfl (Rs.b (f3'.ldO 4 1 rfl rfl) (Rs.c ih fun v g5 hv => ?_))))
    obtain ⟨a, rfl, W', hW', q5⟩ := hv
    have q6 := q5.undrop (nx_eq hW'.symm) hw
    obtain ⟨g7, a7, q7⟩ := q6.stQ (off := 1) (n := 1) (vs := [.int .i64 a]) (v := .int .i64 a) rfl rfl (by show 2 ≤ 2; decide)
    rw [show (k.B.ow.getD j 0 == O.fn) = false from bF hO] at q7
    refine Rs.b rfl (Rs.b rfl (Rs.b a7 ?_))
    have fin := l230_0 (C := call Tp Ms (e + 1)) (N := e + 1) (bb := false) (z := a) (x1 := (j : Int)) q7 rfl rfl (by omega)
    refine fin.mono fun v g ⟨a', e1, W2, e2, q8⟩ => ⟨a', e1, W2, ?_, q8⟩
    rw [e2, er]
    show r.i :: W'.rs.map (·.i) = _
    rw [hW']
    rfl
end
open Go.AM (Rs)
section
variable {k : Km} {Q : List AM.ORow} {X : List AM.MRow} {m : MG} {h g : AHeap} {W : WM} {ps : List Nat} {p : Nat} {F : MF} {R : List MF} {r : MR} {rs : List MR}
abbrev PM (k : Km) (Q : List AM.ORow) (ps : List Nat) (m : MG) : Value → AHeap → Prop := fun v g => v = unitV ∧ MpM k Q ps m g
theorem Mp.ext (q : Mp k Q X W m h) (E : AM.Ext h.size h g) : Mp k Q X W m g := ⟨q.y.ext E, q.E.trans (E.mono q.y.bh), q.w, q.o⟩
theorem MpM.ext (q : MpM k Q ps m h) (E : AM.Ext h.size h g) : MpM k Q ps m g := let ⟨W, a, q⟩ := q; ⟨W, a, q.ext E⟩
theorem MpM.e (q : MpM k Q ps m h) : AM.Ext k.b k.h0 h := let ⟨W, a, q⟩ := q; q.E
theorem MpM.new (q : MpM k Q ps m h) (t : TypeId) (cs : List Value) : MpM k (⟨h.size, h.size, t, true, cs⟩ :: Q) ps m (h.new t cs) := by
 obtain ⟨W, a, q⟩ := q
 exact ⟨W, a, Mp.mk' (q.y.new t cs) (q.E.trans (q.y.nw t cs)) q.w q.o⟩
theorem MpM.nw {P : Value → AHeap → Prop} {t : TypeId} {cs : List Value} {kk : Value → AHeap → Option (Value × AHeap)} (q : MpM k Q ps m h) (hk : ∀ i g, MpM k (⟨i, i, t, true, cs⟩ :: Q) ps m g → Rs P (kk (ptr i 0) g)) : Rs P (aNew h t cs kk) := hk _ _ (q.new t cs)
theorem MpM.out {row : AM.ORow} (q : MpM k (row :: Q) ps m h) : MpM k Q ps m h := let ⟨W, a, q⟩ := q; ⟨W, a, q.out⟩
theorem MpM.ld {i t : Nat} {cs : List Value} (q : MpM k (⟨i, i, t, true, cs⟩ :: Q) ps m h) {j : Nat} {v : Value} (hv : cs[j]? = some v) : aLd1 h (ptr i j) = some v := let ⟨W, a, q⟩ := q; q.front.ldO 0 j rfl hv
theorem MpM.ldN4 {i : Nat} {n : Kn} {kv : Value} (q : MpM k (⟨i, i, 73, true, knCells n kv⟩ :: Q) ps m h) : aLdN h (ptr i 0) 4 = some (knVal n kv) := let ⟨W, a, q⟩ := q; q.front.ldON 0 rfl rfl
theorem MpM.c (q : MpM k Q (p :: ps) m h) : aLd1 h (ptr p 0) = some (ptr k.C 0) ∧ aLd1 h (ptr k.C 0) = some (ptr k.t0 0) ∧ aLd1 h (ptr k.C 1) = some (ptr k.bp 0) ∧ aLd1 h (ptr k.C 2) = some (.map (some k.nM)) ∧ aLd1 h (ptr k.C 5) = some (.int .i64 m.cd) := by
 obtain ⟨F, R, W, r, rs, hfs, hrs, rfl, _, q⟩ := q.open
 have y := q.y
 rw [hfs, hrs] at y
 exact ⟨y.ldO 3 0 rfl rfl, y.ldO 0 0 rfl rfl, y.ldO 0 1 rfl rfl, y.ldO 0 2 rfl rfl, y.ldO 0 5 rfl rfl⟩
theorem MpM.fn (q : MpM k Q (p :: ps) m h) : ∃ F R, m.fs = F :: R ∧ aLd1 h (ptr p 2) = some (.int .i64 F.fn) := by
 obtain ⟨F, R, W, r, rs, hfs, hrs, rfl, _, q⟩ := q.open
 have y := q.y
 rw [hfs, hrs] at y
 exact ⟨F, R, hfs, y.ldO 3 2 rfl rfl⟩
theorem MpM.slot (q : MpM k Q (p :: ps) m h) (x : Int) : ∃ mp z, aLd1 h (ptr p 7) = some (.map (some mp)) ∧ aMget h (.map (some mp)) (.int .i64 x) (.int .i64 0) false = some (.int .i64 z) := by
 obtain ⟨F, R, W, r, rs, hfs, hrs, rfl, _, q⟩ := q.open
 have y := q.y
 have w := q.w
 rw [hfs, hrs] at y w
 obtain ⟨z, hz⟩ := mget_int y 1 (i := r.mp) (l := r.ml) rfl w.2.2.1 x
 exact ⟨r.mp, z, y.ldO 3 7 rfl rfl, hz⟩
theorem u230 {e : Nat} (ok : k.Ok) {x1 : Int} (q : MpM k Q (p :: ps) m h) (hb : Bm 1000000 m) (hx0 : 0 ≤ x1) (hx1 : x1 < (k.T.length : Int)) (hex : ∃ O ∈ m.fs.tail, O.fn = k.B.ow.getD x1.toNat 0) (he : 3000000 ≤ e) :
  Rs (fun v g => ∃ a : Int, v = .int .i64 a ∧ MpM k Q (p :: ps) { m with fs := upM (k.B.ow.getD x1.toNat 0) x1 m.fs } g) (call Tp Ms (e + 1) 230 [ptr p 0, .int .i64 x1] h) := by
 obtain ⟨F, R, W, r, rs, hfs, hrs, rfl, hps, qq⟩ := q.open
 have hn := hb.n
 rw [hfs, List.length_cons] at hn
 rw [hfs] at hex
 have := l230 ok (x1 := x1) (L := 1000001) (by omega) hx0 hx1 R F Q [] W m h e r rs hfs hrs qq hex (fun F' h' => by have := (hb.f F' (by rw [hfs]; exact h')).up; omega) (by omega)
 refine this.mono fun v g ⟨a, e1, W', e2, q'⟩ => ⟨a, e1, W', ?_, q'⟩
 rw [e2, hrs, List.map_cons, hps]
def textN (t : BA) (m : MG) : MG := if m.ts.any (fun u => u.toList == t.toList) then m else if m.ts.length = 255 then m.fail 3 else { m with ts := m.ts ++ [t] }
theorem textM_N (t : BA) (m : MG) : textM t m = (textN t m).put := by
 unfold textM textN
 split
 ·rfl
 ·split <;> rfl
theorem u212 {e i : Nat} {n : Kn} (ok : k.Ok) (hn : k.T[i]? = some n) (q : MpM k Q (p :: ps) m h) (hb : Bm 1000000 m) (he : 3000000 ≤ e) :
  Rs (fun v g => ∃ a : Int, v = .int .i64 a ∧ MpM k Q (p :: ps) (textN n.t m) g) (call Tp Ms (e + 2) 212 [ptr p 0, .int .i64 (i : Int)] h) := by
 have q0 := q
 obtain ⟨c0, c1, c2, _, _⟩ := q.c
 obtain ⟨t1, _, _, _, _⟩ := ok.rt h q.e
 obtain ⟨tq, kv, ix, kd, td⟩ := ok.tr.at' i n hn
 have ldt := (td h q.e).2.2.1
 obtain ⟨F, R, W, r, rs, hfs, hrs, hp, hps, qq⟩ := q.open
 obtain ⟨fs, ts, cd⟩ := m
 obtain ⟨pm, tx, wrs, oc, nd⟩ := W
 dsimp only at hfs hrs
 subst hfs hrs
 have y := qq.y
 have kk' := qq.w
 dsimp only at y kk' hps ⊢
 have hts : ts.length ≤ 1000000 := hb.t
 have hl : (strs ts).length = ts.length := by simp [strs]
 have rl : RdL h (tx.val (strs ts).length) (strs ts) := rdl_of y 2 rfl
 rw [hl] at rl
 rw [c212, e212]
 refine Rs.b rfl (Rs.b rfl (Rs.b c0 (Rs.b rfl (Rs.b rfl (Rs.b c1 (Rs.b rfl (Rs.b rfl (Rs.b (t1.ld1 (off := 0) rfl) (Rs.b ix (Rs.b rfl (Rs.b ldt (Rs.b rfl (Rs.b rfl (Rs.b rfl (Rs.b c0 (Rs.b rfl (Rs.b rfl (Rs.b rfl (Rs.b (y.ldO 0 4 rfl rfl) (Rs.c (u120 (e := e) (t := n.t) rl (by omega) (by omega)) fun v g hv => ?_))))))))))))))))))))
 obtain ⟨rfl, z, rfl, _, _, hz⟩ := hv
 unfold textN
 refine Rs.b rfl (Rs.i (fun h0 => ?_) (fun h0 => ?_))
 ·rw [if_pos (hz.1 h0)]
  exact Rs.fin ⟨z, rfl, q0⟩
 rw [if_neg (fun h => h0 (hz.2 h))]
 refine Rs.b rfl (Rs.b rfl (Rs.b c0 (Rs.b rfl (Rs.b rfl (Rs.b rfl (Rs.b (y.ldO 0 4 rfl rfl) (Rs.b rl.len (Rs.b rfl ?_))))))))
 rw [hl]
 dsimp only
 by_cases h255 : ts.length = 255
 ·rw [if_pos h255]
  refine Rs.ct (bT (by omega)) (Rs.b rfl (Rs.b rfl (Rs.b c0 (Rs.c (u184 (e := e) q0 3 (i : Int)) fun v g2 hv => ?_))))
  exact Rs.fin ⟨0, rfl, hv.2⟩
 ·rw [if_neg h255]
  refine Rs.cf (bF (by omega)) (Rs.b rfl (Rs.b rfl (Rs.b c0 (Rs.b rfl (Rs.b rfl (Rs.b c0 (Rs.b rfl (Rs.b rfl (Rs.b rfl (Rs.b (y.ldO 0 4 rfl rfl) (Rs.ns y fun p1 g1 E1 y1 => ?_)))))))))))
  subst hp
  obtain ⟨tx', g2, a2, hl2, E2, y2⟩ := y1.apS 3 (r := tx) (n' := ts.length) (m := 1) (esz := 1) (bytes := 16) (t := 9) rfl (srcN y1 0 (k := 1) (esz := 1) rfl rfl) (by decide) (by decide) (by rw [hl]; omega) (by show _ ≤ 140737488355328; omega) (by show _ ≤ 140737488355328; omega)
  rw [show (strs ts).take (ts.length * 1) = strs ts from List.take_of_length_le (by omega)] at y2
  refine Rs.b (ag (y1.ldO 4 0 rfl rfl) (ptrVb _ _)) (Rs.ct rfl (Rs.b (ag (y1.ldO 4 0 rfl rfl) (ptrVb _ _)) (Rs.ct rfl (Rs.b (ag (y1.ldO 1 4 rfl rfl) (AM.SR.vb _ _)) (Rs.ct rfl (Rs.b a2 (Rs.b (ag (y2.ldO 4 0 rfl rfl) (ptrVb _ _)) (Rs.ct rfl (Rs.b rfl (Rs.b rfl (Rs.b rfl ?_)))))))))))
  obtain ⟨g3, a3, E3, y3, _⟩ := y2.st 1 (off := 4) (m := 1) (vs := [tx'.val (ts.length + 1)]) (v := tx'.val (ts.length + 1)) rfl (srCells _ _) rfl (by show 5 ≤ 7; decide)
  refine Rs.b a3 (Rs.b rfl (Rs.b rfl (Rs.b (y3.ldO 4 0 rfl rfl) (Rs.b rfl (Rs.b rfl (Rs.b rfl (Rs.b (y3.ldO 1 4 rfl rfl) (Rs.b (r := .int .i64 ((ts.length + 1 : Nat) : Int)) (by show aLen (tx'.val (ts.length + 1)) = _; rw [AM.SR.live hl2]; rfl) (Rs.b rfl ?_)))))))))
  have y4 := y3.pick (List.sublist_cons_self _ _)
  have e1 : strs (ts ++ [n.t]) = strs ts ++ [.string n.t] := by simp [strs]
  have e2 : (ts ++ [n.t]).length = ts.length + 1 := by simp
  refine Rs.fin ⟨_, rfl, ⟨pm, tx', r :: rs, oc, nd⟩, by show r.i :: rs.map (·.i) = _; rw [hps], ⟨?_, ((qq.E.trans E1).trans E2).trans E3, kk', qq.o⟩⟩
  show AM.Cx k.b g3 [] (⟨k.C, k.C, 128, true, [ptr k.t0 0, ptr k.bp 0, .map (some k.nM), pm.val k.pn, tx'.val (ts ++ [n.t]).length, .int .i64 cd, .int .i64 nd]⟩ :: pm.row 173 oc :: tx'.row 9 (strs (ts ++ [n.t])) :: (msR k (r :: rs) (F :: R) ++ Q)) ((k.nM, k.nl) :: (msM (r :: rs) ++ []))
  rw [e1, e2]
  exact y4
theorem bdAt (ok : k.Ok) {i : Nat} (hi : i < k.T.length) (E : AM.Ext k.b k.h0 h) : aIdx (slc k.rb 0 k.T.length) (.int .i64 (i : Int)) 1 = some (ptr k.rb i) ∧ aLd1 h (ptr k.rb i) = some (.int .i64 (k.B.bd.getD i 0)) ∧ aIdx (slc k.ro 0 k.T.length) (.int .i64 (i : Int)) 1 = some (ptr k.ro i) ∧ aLd1 h (ptr k.ro i) = some (.int .i64 (k.B.ow.getD i 0)) ∧
  aIdx (slc k.rx 0 k.T.length) (.int .i64 (i : Int)) 1 = some (ptr k.rx i) ∧ aLd1 h (ptr k.rx i) = some (.bool (k.B.bx.getD i false)) ∧ aLd1 h (ptr k.bp 1) = some (slc k.rb 0 k.T.length) ∧ aLd1 h (ptr k.bp 2) = some (slc k.rx 0 k.T.length) ∧ aLd1 h (ptr k.bp 3) = some (slc k.ro 0 k.T.length) := by
 obtain ⟨_, t2, t3, t4, t5⟩ := ok.rt h E
 have h1 : i < k.B.bd.length := by rw [ok.L.1]; exact hi
 have h2 : i < k.B.ow.length := by rw [ok.L.2.1]; exact hi
 have h3 : i < k.B.bx.length := by rw [ok.L.2.2]; exact hi
 exact ⟨by simp [aIdx, slc, hi], t3.ld1 (by simp [ints, List.getD, h1]), by simp [aIdx, slc, hi], t5.ld1 (by simp [ints, List.getD, h2]), by simp [aIdx, slc, hi], t4.ld1 (by simp [bls, List.getD, h3]), t2.ld1 rfl, t2.ld1 rfl, t2.ld1 rfl⟩
def OwOk (k : Km) (i : Nat) (fns : List Int) : Prop := 0 ≤ k.B.bd.getD i 0 → k.B.bd.getD i 0 < (k.T.length : Int) ∧ k.B.ow.getD (k.B.bd.getD i 0).toNat 0 ∈ fns
theorem nameM_neg {T : List Kn} {B : Bd} {set : Bool} {i : Nat} {m : MG} (h : B.bd.getD i 0 < 0) : nameM T B set (i : Int) m = if set = false ∧ isLib (tx T (i : Int)) = true then m.put else m.fail 2 := by
 unfold nameM
 rw [Int.toNat_natCast]
 exact if_pos h
theorem nameM_pos {T : List Kn} {B : Bd} {set : Bool} {i j : Nat} {m : MG} {F : MF} {R : List MF} (h : B.bd.getD i 0 = (j : Int)) (hfs : m.fs = F :: R) : nameM T B set (i : Int) m = if B.ow.getD j 0 ≠ F.fn then ({ m with fs := upM (B.ow.getD j 0) (j : Int) m.fs } : MG).put else m.put := by
 unfold nameM
 rw [Int.toNat_natCast, h]
 dsimp only
 rw [if_neg (by omega), Int.toNat_natCast, hfs]
theorem putI' {e : Nat} {x1 x2 : Int} (q : MpM k Q (p :: ps) m h) (hb : Bm 1000000 m) : Rs (fun v g => v = .int .i64 (hdLm m : Int) ∧ MpM k Q (p :: ps) m.put g) (call Tp Ms (e + 1) 182 [ptr p 0, .int .i64 x1, .int .i64 x2] h) := u182 q (hb.mono (by omega)) x1 x2
theorem u213 {e i : Nat} {n : Kn} {kv : Value} (ok : k.Ok) (hn : k.T[i]? = some n) (hc : aCells (knVal n kv) = some (knCells n kv)) (q : MpM k Q (p :: ps) m h) (hb : Bm 900000 m) (ho : OwOk k i (m.fs.map (·.fn))) (he : 20000000 ≤ e) :
  Rs (PM k Q (p :: ps) (nameM k.T k.B false (i : Int) m)) (call Tp Ms (e + 3) 213 [ptr p 0, .int .i64 (i : Int), knVal n kv] h) := by
 have hiT := (List.getElem?_eq_some_iff.1 hn).1
 have etx := txAt hn
 have hb' : Bm 1000000 m := hb.mono (by omega)
 rw [c213, e213]
 refine Rs.b hc (q.nw fun p2 g q1 => ?_)
 obtain ⟨c0, c1, c2, _, _⟩ := q1.c
 obtain ⟨b1, b2, b3, b4, b5, b6, b7, b8, b9⟩ := bdAt ok hiT q1.e
 refine Rs.b rfl (Rs.b rfl (Rs.b c0 (Rs.b rfl (Rs.b rfl (Rs.b c2 (Rs.b rfl (Rs.b rfl (Rs.b b7 (Rs.b b1 (Rs.b b2 (Rs.b rfl ?_)))))))))))
 refine Rs.i (fun hneg => ?_) (fun hpos => ?_)
 ·rw [nameM_neg hneg, etx]
  refine Rs.b rfl (Rs.b (q1.ld (j := 1) rfl) (Rs.b rfl (Rs.c (u229 (e := e) (t := n.t) (by omega)) fun v g2 hv => ?_)))
  obtain ⟨z, rfl, E2, hz⟩ := hv
  have q2 := q1.ext E2
  obtain ⟨d0, _⟩ := q2.c
  refine Rs.b rfl ?_
  rw [s213_0_j, s213_0_eq]
  refine Rs.i (fun hp => ?_) (fun hp => ?_)
  ·rw [if_pos ⟨rfl, hz.1 hp⟩]
   refine Rs.b rfl (Rs.b (q2.ld (j := 1) rfl) (Rs.b rfl (Rs.c (u229 (e := e) (t := n.t) (by omega)) fun v g3 hv => ?_)))
   obtain ⟨z2, rfl, E3, _⟩ := hv
   have q3 := q2.ext E3
   refine Rs.b rfl (Rs.c (putI' (e := e + 1) q3 hb') fun v g4 hv => ?_)
   obtain ⟨rfl, q4⟩ := hv
   exact Rs.b rfl (Rs.fin ⟨rfl, q4.out⟩)
  ·rw [if_neg (fun h => hp (hz.2 h.2))]
   refine Rs.ct (decide_eq_true hneg) (Rs.b rfl (Rs.b rfl (Rs.b d0 (Rs.c (u184 (e := e + 1) q2 2 (i : Int)) fun v g3 hv => ?_))))
   exact Rs.fin ⟨rfl, hv.2.out⟩
 ·obtain ⟨o1, o2⟩ := ho (by omega)
  obtain ⟨F, R, hfs, lf⟩ := q1.fn
  rw [hfs] at o2
  have z0 : 0 ≤ k.B.bd.getD i 0 := by omega
  generalize hz : k.B.bd.getD i 0 = z at z0 o1 o2 hpos b2 ⊢
  obtain ⟨j, rfl⟩ : ∃ j : Nat, z = j := ⟨z.toNat, by omega⟩
  have hj : j < k.T.length := by omega
  obtain ⟨_, _, w3, w4, w5, w6, w7, w8, w9⟩ := bdAt ok hj q1.e
  rw [s213_0_j, s213_0_eq, nameM_pos hz hfs]
  rw [Int.toNat_natCast] at o2
  refine Rs.cf rfl (Rs.cf (decide_eq_false hpos) (Rs.b rfl (Rs.b rfl (Rs.b c0 (Rs.b rfl (Rs.b rfl (Rs.b c2 (Rs.b rfl (Rs.b rfl (Rs.b w9 (Rs.b w3 (Rs.b w4 (Rs.b rfl (Rs.b rfl (Rs.b rfl (Rs.b lf (Rs.b rfl ?_)))))))))))))))))
  by_cases hO : k.B.ow.getD j 0 = F.fn
  ·rw [if_neg (fun h => h hO)]
   obtain ⟨mp, z2, l7, lz⟩ := q1.slot (j : Int)
   have fin : ∀ op : Int, Rs (PM k Q (p :: ps) m.put) ((aNil (ptr p 0)).bind fun v64 => (aOff v64 7).bind fun v65 => (aLd1 g v65).bind fun v66 => (aMget g v66 (.int .i64 (j : Int)) (.int .i64 0) false).bind fun v67 => (asI .i64 v67).bind fun n68 => (call Tp Ms (e + 2) 182 [ptr p 0, .int .i64 op, .int .i64 n68] g).bind fun r69 => (asI .i64 r69.1).bind fun n70 => some (.tuple (List.toArray []), r69.2)) := fun op => by
    refine Rs.b rfl (Rs.b rfl (Rs.b l7 (Rs.b lz (Rs.b rfl (Rs.c (putI' (e := e + 1) q1 hb') fun v g4 hv => ?_)))))
    obtain ⟨rfl, q4⟩ := hv
    exact Rs.b rfl (Rs.fin ⟨rfl, q4.out⟩)
   refine Rs.cf (nF hO) (Rs.b rfl (Rs.b rfl (Rs.b c0 (Rs.b rfl (Rs.b rfl (Rs.b c2 (Rs.b rfl (Rs.b rfl (Rs.b w8 (Rs.b w5 (Rs.b w6 (Rs.b rfl ?_))))))))))))
   cases k.B.bx.getD j false with
   | true => exact fin 6
   | false => exact fin 5
  ·rw [if_pos hO]
   have hex : ∃ O ∈ m.fs.tail, O.fn = k.B.ow.getD (j : Int).toNat 0 := by
    rw [Int.toNat_natCast, hfs]
    rcases List.mem_cons.1 o2 with h | h
    ·exact absurd h hO
    ·obtain ⟨O, h1, h2⟩ := List.mem_map.1 h
     exact ⟨O, h1, h2⟩
   refine Rs.ct (nT hO) (Rs.c (u230 (e := e + 1) ok q1 hb' (by omega) (by omega) hex (by omega)) fun v g3 hv => ?_)
   obtain ⟨a, rfl, q3⟩ := hv
   rw [Int.toNat_natCast] at q3
   have hb3 : Bm 1000000 ({ m with fs := upM (k.B.ow.getD j 0) (j : Int) m.fs } : MG) := ((GdM.ups m (k.B.ow.getD j 0) (j : Int)).v _ hb).mono (by omega)
   refine Rs.b rfl (Rs.c (putI' (e := e + 1) q3 hb3) fun v g4 hv => ?_)
   obtain ⟨rfl, q4⟩ := hv
   exact Rs.b rfl (Rs.fin ⟨rfl, q4.out⟩)
theorem u218 {e i : Nat} {n : Kn} (ok : k.Ok) (hn : k.T[i]? = some n) (q : MpM k Q (p :: ps) m h) (hb : Bm 900000 m) (ho : OwOk k i (m.fs.map (·.fn))) (he : 20000000 ≤ e) :
  Rs (PM k Q (p :: ps) (nameM k.T k.B true (i : Int) m)) (call Tp Ms (e + 3) 218 [ptr p 0, .int .i64 (i : Int)] h) := by
 have hiT := (List.getElem?_eq_some_iff.1 hn).1
 have hb' : Bm 1000000 m := hb.mono (by omega)
 rw [c218, e218]
 obtain ⟨c0, c1, c2, _, _⟩ := q.c
 obtain ⟨b1, b2, b3, b4, b5, b6, b7, b8, b9⟩ := bdAt ok hiT q.e
 refine Rs.b rfl (Rs.b rfl (Rs.b c0 (Rs.b rfl (Rs.b rfl (Rs.b c2 (Rs.b rfl (Rs.b rfl (Rs.b b7 (Rs.b b1 (Rs.b b2 (Rs.b rfl ?_)))))))))))
 refine Rs.i (fun hneg => ?_) (fun hpos => ?_)
 ·rw [nameM_neg hneg, if_neg (fun h => by cases h.1)]
  refine Rs.b rfl (Rs.b rfl (Rs.b c0 (Rs.c (u184 (e := e + 1) q 2 (i : Int)) fun v g3 hv => ?_)))
  exact Rs.fin ⟨rfl, hv.2⟩
 ·obtain ⟨o1, o2⟩ := ho (by omega)
  obtain ⟨F, R, hfs, lf⟩ := q.fn
  rw [hfs] at o2
  have z0 : 0 ≤ k.B.bd.getD i 0 := by omega
  generalize hz : k.B.bd.getD i 0 = z at z0 o1 o2 hpos b2 ⊢
  obtain ⟨j, rfl⟩ : ∃ j : Nat, z = j := ⟨z.toNat, by omega⟩
  have hj : j < k.T.length := by omega
  obtain ⟨_, _, w3, w4, w5, w6, w7, w8, w9⟩ := bdAt ok hj q.e
  rw [nameM_pos hz hfs]
  rw [Int.toNat_natCast] at o2
  refine Rs.b rfl (Rs.b rfl (Rs.b c0 (Rs.b rfl (Rs.b rfl (Rs.b c2 (Rs.b rfl (Rs.b rfl (Rs.b w9 (Rs.b w3 (Rs.b w4 (Rs.b rfl (Rs.b rfl (Rs.b rfl (Rs.b lf (Rs.b rfl ?_)))))))))))))))
  by_cases hO : k.B.ow.getD j 0 = F.fn
  ·rw [if_neg (fun h => h hO)]
   obtain ⟨mp, z2, l7, lz⟩ := q.slot (j : Int)
   have fin : ∀ op : Int, Rs (PM k Q (p :: ps) m.put) ((aNil (ptr p 0)).bind fun v64 => (aOff v64 7).bind fun v65 => (aLd1 h v65).bind fun v66 => (aMget h v66 (.int .i64 (j : Int)) (.int .i64 0) false).bind fun v67 => (asI .i64 v67).bind fun n68 => (call Tp Ms (e + 2) 182 [ptr p 0, .int .i64 op, .int .i64 n68] h).bind fun r69 => (asI .i64 r69.1).bind fun n70 => some (.tuple (List.toArray []), r69.2)) := fun op => by
    refine Rs.b rfl (Rs.b rfl (Rs.b l7 (Rs.b lz (Rs.b rfl (Rs.c (putI' (e := e + 1) q hb') fun v g4 hv => ?_)))))
    obtain ⟨rfl, q4⟩ := hv
    exact Rs.b rfl (Rs.fin ⟨rfl, q4⟩)
   refine Rs.cf (nF hO) (Rs.b rfl (Rs.b rfl (Rs.b c0 (Rs.b rfl (Rs.b rfl (Rs.b c2 (Rs.b rfl (Rs.b rfl (Rs.b w8 (Rs.b w5 (Rs.b w6 (Rs.b rfl ?_))))))))))))
   cases k.B.bx.getD j false with
   | true => exact fin 9
   | false => exact fin 8
  ·rw [if_pos hO]
   have hex : ∃ O ∈ m.fs.tail, O.fn = k.B.ow.getD (j : Int).toNat 0 := by
    rw [Int.toNat_natCast, hfs]
    rcases List.mem_cons.1 o2 with h | h
    ·exact absurd h hO
    ·obtain ⟨O, h1, h2⟩ := List.mem_map.1 h
     exact ⟨O, h1, h2⟩
   refine Rs.ct (nT hO) (Rs.c (u230 (e := e + 1) ok q hb' (by omega) (by omega) hex (by omega)) fun v g3 hv => ?_)
   obtain ⟨a, rfl, q3⟩ := hv
   rw [Int.toNat_natCast] at q3
   have hb3 : Bm 1000000 ({ m with fs := upM (k.B.ow.getD j 0) (j : Int) m.fs } : MG) := ((GdM.ups m (k.B.ow.getD j 0) (j : Int)).v _ hb).mono (by omega)
   refine Rs.b rfl (Rs.c (putI' (e := e + 1) q3 hb3) fun v g4 hv => ?_)
   obtain ⟨rfl, q4⟩ := hv
   exact Rs.b rfl (Rs.fin ⟨rfl, q4⟩)
end
open Go.AM (Rs)
section
variable {k : Km} {Q : List AM.ORow} {X : List AM.MRow} {m m' : MG} {h g : AHeap} {W : WM} {ps : List Nat} {p : Nat} {F : MF} {R : List MF} {r : MR} {rs : List MR} {K w : Nat}
theorem hdLm_put {m : MG} (h : m.fs ≠ []) : hdLm m.put = hdLm m + 1 := by
 unfold hdLm MG.put MG.hd
 cases e : m.fs with
 | nil => exact absurd e h
 | cons F R => rfl
theorem hdLm_mo (a : Mm m m') : hdLm m ≤ hdLm m' := by
 unfold Mm at a
 unfold hdLm
 cases e : m.fs with
 | nil => exact Nat.zero_le _
 | cons F R =>
  cases e' : m'.fs with
  | nil => rw [e, e'] at a; exact a.elim
  | cons F' R' =>
   rw [e, e'] at a
   exact a.2.1
theorem MpM.ne (q : MpM k Q (p :: ps) m h) : m.fs ≠ [] := by
 obtain ⟨F, R, _, _, _, hfs, _⟩ := q.open
 rw [hfs]; simp
def EvM (k : Km) (i : Int) (f : Nat) : Prop := ∀ (e : Nat) (Q : List AM.ORow) (p : Nat) (ps : List Nat) (m : MG) (h : AHeap) (K fb : Nat), eE + 8 * f ≤ e → MpM k Q (p :: ps) m h → Bm K m → K + 5 * sz k.T i ≤ 900000 → i.toNat < fb → okP k.T k.B fb i (m.fs.map (·.fn)) →
 Rs (PM k Q (p :: ps) (runM k.T k.B f i m)) (call Tp Ms e 183 [ptr p 0, .int .i64 i] h)
def VK (k : Km) (x : Int) : Prop := 0 ≤ x ∧ 1 ≤ kk k.T x ∧ kk k.T x ≤ 21
theorem gdM_ev (ok : k.Ok) {f : Nat} {i : Int} (hv : VK k i) (m : MG) : GdM (5 * sz k.T i) m (runM k.T k.B f i m) := gdM_run ok.S f i hv.1 hv.2 m
theorem runM_fns (ok : k.Ok) {f : Nat} {i : Int} (hv : VK k i) (m : MG) : (runM k.T k.B f i m).fs.map (·.fn) = m.fs.map (·.fn) := MmL.fns (gdM_ev ok hv m).g
theorem put_fns (m : MG) : m.put.fs.map (·.fn) = m.fs.map (·.fn) := MmL.fns (GdM.put m).g
theorem patchM {e : Nat} {P : Value → AHeap → Prop} {kk : AHeap → Option (Value × AHeap)} (q : MpM k Q (p :: ps) m h) {a : Nat} (ha : a < hdLm m) (hk : ∀ g, MpM k Q (p :: ps) m g → Rs P (kk g)) :
  Rs P ((aNil (ptr p 0)).bind fun v86 => (aOff v86 3).bind fun v87 => (aOff v87 3).bind fun v88 => (aLd1 h v88).bind fun v89 => (call Tp Ms (e + 1) 217 [ptr p 0] h).bind fun r90 => (asI .i64 r90.1).bind fun n91 => ((aLd1 r90.2 v88).bind fun v92 => some (vbeq v92 v89)).bind fun b93 => bif b93 then (aIdx v89 (.int .i64 (a : Int)) 2).bind fun v94 => (aOff v94 1).bind fun v95 => (aSt r90.2 v95 (.int .i64 n91) 1).bind fun h96 => kk h96 else none) := by
 have q0 := q
 obtain ⟨F, R, W, r, rs, hfs, hrs, hp, hps, qq⟩ := q.open
 obtain ⟨fs, ts, cd⟩ := m
 obtain ⟨pm, tx, wrs, oc, nd⟩ := W
 dsimp only at hfs hrs
 subst hfs hrs hp
 obtain ⟨ri, pr, pu, ⟨ci, crt, clv⟩, up, uc, cc, mp, ml⟩ := r
 have y := qq.y
 have kk' := qq.w
 dsimp only at y kk' hps ⊢
 have hcc : cc.length = F.ln * 2 := kk'.2.1
 have ha' : a < F.ln := ha
 obtain ⟨ix, hlv⟩ := y.ix 5 (r := ⟨ci, crt, clv⟩) (e := 206) (cs := cc) (k := F.ln) (esz := 2) (j := a) rfl (by omega) (by decide) ha'
 dsimp only at hlv
 subst hlv
 refine Rs.b rfl (Rs.b rfl (Rs.b rfl (Rs.b (y.ldO 3 6 rfl rfl) (Rs.c (u217 (e := e) q0) fun v g hv => ?_))))
 obtain ⟨rfl, rfl⟩ := hv
 obtain ⟨g2, a2, E2, y2, _⟩ := y.st 5 (off := a * 2 + 1) (m := 1) (vs := [.int .i64 (hdLm ⟨F :: R, ts, cd⟩ : Int)]) (v := .int .i64 (hdLm ⟨F :: R, ts, cd⟩ : Int)) rfl rfl rfl (by show _ ≤ cc.length; omega)
 refine Rs.b rfl (Rs.b (ag (y.ldO 3 6 rfl rfl) (AM.SR.vb _ _)) (Rs.ct rfl (Rs.b ix (Rs.b rfl (Rs.b a2 (hk g2 ?_))))))
 refine ⟨⟨pm, tx, ⟨ri, pr, pu, ⟨ci, crt, true⟩, up, uc, splice cc (a * 2 + 1) [Value.int .i64 (hdLm ⟨F :: R, ts, cd⟩ : Int)], mp, ml⟩ :: rs, oc, nd⟩, by show ri :: rs.map (·.i) = _; rw [hps], ⟨y2, qq.E.trans E2, ⟨kk'.1, ?_, kk'.2.2.1, kk'.2.2.2⟩, qq.o⟩⟩
 show (splice cc (a * 2 + 1) [_]).length = F.ln * 2
 unfold splice
 simp
 omega
theorem l216 {e N f : Nat} {kv : Value} {ks : List Int} (ok : k.Ok) (kd : KdH k.b k.h0 kv ks) (hv : ∀ x ∈ ks, VK k x) (hl : ks.length ≤ 1100000) (he : eE + 8 * f ≤ e) (hE : ∀ x ∈ ks, EvM k x f) {fns : List Int} (hok : ∀ x ∈ ks, ∃ fb, x.toNat < fb ∧ okP k.T k.B fb x fns) :
  ∀ (j0 j n : Nat) (m : MG) (h : AHeap) (K : Nat), ks.length - j = j0 → j ≤ ks.length → j0 < n → MpM k Q (p :: ps) m h → Bm K m → m.fs.map (·.fn) = fns → K + 5 * ((ks.drop j).map (sz k.T)).sum ≤ 900000 →
   Rs (PM k Q (p :: ps) ((ks.drop j).foldl (fun g x => runM k.T k.B f x g) m)) (s216_0 hk0 (call Tp Ms e) N n (ptr p 0) kv (ks.length : Int) (j : Int) h) := by
 intro j0
 induction j0 with
 | zero =>
  intro j n m h K hk hj hn q hb hf hK
  obtain ⟨n, rfl⟩ : ∃ q, n = q + 1 := ⟨n - 1, by omega⟩
  rw [List.drop_eq_nil_of_le (by omega), s216_0_eq]
  exact Rs.cf (decide_eq_false (by omega)) (Rs.fin ⟨rfl, q⟩)
 | succ j0 ih =>
  intro j n m h K hk hj hn q hb hf hK
  obtain ⟨n, rfl⟩ : ∃ q, n = q + 1 := ⟨n - 1, by omega⟩
  have hlt : j < ks.length := by omega
  have hmem : ks[j] ∈ ks := List.getElem_mem hlt
  rw [List.drop_eq_getElem_cons hlt] at hK ⊢
  rw [List.map_cons, List.sum_cons] at hK
  rw [List.foldl_cons]
  obtain ⟨pp, k1, k2⟩ := kd.at' j ks[j] (List.getElem?_eq_getElem hlt)
  obtain ⟨fb, h1, h2⟩ := hok _ hmem
  have hg := gdM_ev ok (f := f) (hv _ hmem) m
  rw [s216_0_eq]
  refine Rs.ct (decide_eq_true (by omega)) (Rs.b k1 (Rs.b (k2 h q.e) (Rs.b rfl (Rs.c (hE _ hmem e _ _ _ _ _ K fb he q hb (by omega) h1 (by rw [hf]; exact h2)) fun v g hv' => ?_))))
  obtain ⟨rfl, q2⟩ := hv'
  rw [wq (by omega) (by omega), show ((j : Int) + 1) = ((j + 1 : Nat) : Int) by omega]
  exact ih (j + 1) n _ g _ (by omega) (by omega) (by omega) q2 (hg.v K hb) ((runM_fns ok (hv _ hmem) m).trans hf) (by omega)
theorem u216 {e f : Nat} {kv : Value} {ks : List Int} (ok : k.Ok) (kd : KdH k.b k.h0 kv ks) (hv : ∀ x ∈ ks, VK k x) (hl : ks.length ≤ 1100000) (he : eE + 8 * f ≤ e) (hE : ∀ x ∈ ks, EvM k x f) (hok : ∀ x ∈ ks, ∃ fb, x.toNat < fb ∧ okP k.T k.B fb x (m.fs.map (·.fn)))
  (q : MpM k Q (p :: ps) m h) (hb : Bm K m) (hK : K + 5 * (ks.map (sz k.T)).sum ≤ 900000) :
  Rs (PM k Q (p :: ps) (ks.foldl (fun g x => runM k.T k.B f x g) m)) (call Tp Ms (e + 1) 216 [ptr p 0, kv] h) := by
 have he' : 20000000 ≤ e := by unfold eE at he; omega
 rw [c216, e216]
 have := l216 (Q := Q) (p := p) (ps := ps) (N := e) ok kd hv hl he hE hok ks.length 0 e m h K (by omega) (by omega) (by omega) q hb rfl (by rw [List.drop_zero]; exact hK)
 rw [List.drop_zero] at this
 exact Rs.b kd.len (Rs.b rfl this)
theorem kidsGd (ok : k.Ok) {f : Nat} {ks : List Int} (hv : ∀ x ∈ ks, VK k x) (m : MG) : GdM (5 * (ks.map (sz k.T)).sum) m (ks.foldl (fun g x => runM k.T k.B f x g) m) := by
 have := gdM_fold (R := fun g x => runM k.T k.B f x g) (w := fun x => 5 * sz k.T x) ks (fun x hx m => gdM_ev ok (hv x hx) m) m
 rwa [sum5] at this
theorem MpM.node {i : Nat} {n : Kn} (ok : k.Ok) (q : MpM k Q (p :: ps) m h) (hn : k.T[i]? = some n) : ∃ (tq : Nat) (kv : Value), aIdx k.nv (.int .i64 (i : Int)) 4 = some (ptr tq (i * 4)) ∧ aLdN h (ptr tq (i * 4)) 4 = some (knVal n kv) ∧ KdH k.b k.h0 kv n.ks ∧ aCells (knVal n kv) = some (knCells n kv) ∧ aLd1 k.h0 (ptr tq (i * 4 + 3)) = some kv := by
 obtain ⟨tq, kv, t1, kd, t2⟩ := ok.tr.at' i n hn
 refine ⟨tq, kv, t1, (t2 h q.e).1, kd, ?_, (t2 k.h0 (AM.Ext.refl _ _)).2.2.2.2⟩
 have e : (List.all (List.toArray (knCells n kv)).toList isCell) = true := by
  show (true && (true && (true && (isCell kv && true)))) = true
  rw [kd.cell.1]; rfl
 show (if (List.all (List.toArray (knCells n kv)).toList isCell) = true then some (List.toArray (knCells n kv)).toList else none) = _
 rw [if_pos e]
theorem MpM.put {P : Value → AHeap → Prop} {n : Kn} {kv : Value} {kk : AHeap → Value → Option (Value × AHeap)} (q : MpM k Q ps m h) (hc : aCells (knVal n kv) = some (knCells n kv)) (hk : ∀ i g, MpM k (⟨i, i, 73, true, knCells n kv⟩ :: Q) ps m g → Rs P (kk g (ptr i 0))) :
  Rs P (aNew h 73 [.int .i64 0, .string ⟨#[]⟩, .int .i64 0, .slice none 0 0] fun p7 h8 => (aSt h8 p7 (knVal n kv) 4).bind fun h9 => kk h9 p7) := by
 obtain ⟨W, a, q0⟩ := q
 have q2 := Mp.mk' (q0.y.new 73 [.int .i64 0, .string ⟨#[]⟩, .int .i64 0, .slice none 0 0]) (q0.E.trans (q0.y.nw 73 [.int .i64 0, .string ⟨#[]⟩, .int .i64 0, .slice none 0 0])) q0.w q0.o
 obtain ⟨g, c1, q3⟩ := q2.stQ (off := 0) (n := 4) (vs := knCells n kv) (v := knVal n kv) hc rfl (by show 4 ≤ 4; decide)
 exact Rs.b c1 (hk _ _ ⟨W, a, q3⟩)
structure KdsOk (k : Km) (n : Kn) (f : Nat) (fns : List Int) : Prop where
 v : ∀ x ∈ n.ks, VK k x
 l : n.ks.length ≤ 1100000
 E : ∀ x ∈ n.ks, EvM k x f
 o : ∀ x ∈ n.ks, ∃ fb, x.toNat < fb ∧ okP k.T k.B fb x fns
theorem MpM.tree (ok : k.Ok) (q : MpM k Q ps m h) : aLd1 h (ptr k.t0 0) = some k.nv ∧ aLd1 h (ptr k.t0 1) = some (.int .i64 k.top) := ⟨(ok.rt h q.e).1.ld1 rfl, (ok.rt h q.e).1.ld1 rfl⟩
theorem l215_0 {e N f : Nat} {i : Nat} {n : Kn} {kv : Value} (ok : k.Ok) (hN : 1100000 < N) (kd : KdH k.b k.h0 kv n.ks) (lo : ∀ x ∈ n.ks, 0 ≤ x ∧ x < (i : Int)) (hi : i ≤ k.T.length) (hl : n.ks.length ≤ 1100000) (he : eE + 8 * f ≤ e) {fns : List Int}
  (hI : ∀ x ∈ n.ks, ∀ (j : Nat) (mm : Kn), x = j → k.T[j]? = some mm → KdsOk k mm f fns) :
  ∀ (j0 j n' : Nat) (it : Nat) (m : MG) (h : AHeap) (K : Nat), n.ks.length - j = j0 → j ≤ n.ks.length → j0 < n' → it ≤ j → MpM k Q (p :: ps) m h → Bm K m → m.fs.map (·.fn) = fns → K + 5 * ((n.ks.drop j).map (sz k.T)).sum ≤ 900000 →
   Rs (PM k Q (p :: ps) ((n.ks.drop j).foldl (itemM k.T (runM k.T k.B f)) m)) (s215_0 hk0 (call Tp Ms (e + 1)) N n' (ptr p 0) (it : Int) kv (n.ks.length : Int) (j : Int) h) := by
 intro j0
 induction j0 with
 | zero =>
  intro j n' it m h K hk hj hn hit q hb hf hK
  obtain ⟨n', rfl⟩ : ∃ q, n' = q + 1 := ⟨n' - 1, by omega⟩
  rw [List.drop_eq_nil_of_le (by omega), s215_0_eq]
  exact Rs.cf (decide_eq_false (by omega)) (Rs.fin ⟨rfl, q⟩)
 | succ j0 ih =>
  intro j n' it m h K hk hj hn hit q hb hf hK
  obtain ⟨n', rfl⟩ : ∃ q, n' = q + 1 := ⟨n' - 1, by omega⟩
  have hlt : j < n.ks.length := by omega
  rw [List.drop_eq_getElem_cons hlt] at hK ⊢
  rw [List.map_cons, List.sum_cons] at hK
  rw [List.foldl_cons]
  have hmem : n.ks[j] ∈ n.ks := List.getElem_mem hlt
  have lox := lo _ hmem
  obtain ⟨x, ex⟩ : ∃ x : Nat, n.ks[j] = x := ⟨n.ks[j].toNat, by omega⟩
  have hxT : x < k.T.length := by omega
  obtain ⟨mx, hmx⟩ : ∃ mx, k.T[x]? = some mx := ⟨k.T[x], by simp [hxT]⟩
  have ko := hI _ hmem x mx ex hmx
  obtain ⟨p', k1, k2⟩ := kd.at' j n.ks[j] (List.getElem?_eq_getElem hlt)
  obtain ⟨tq, kx, t1, t2, kdx, hcx, _⟩ := q.node ok hmx
  have hsz := sz_s ok.S.lo hmx
  rw [ex] at hK k2 ⊢
  obtain ⟨c0, c1, c2, _, _⟩ := q.c
  rw [s215_0_eq]
  refine Rs.ct (decide_eq_true (by omega)) (Rs.b k1 (Rs.b (k2 h q.e) (Rs.b rfl (Rs.b rfl (Rs.b rfl (Rs.b c0 (Rs.b rfl (Rs.b rfl (Rs.b c1 (Rs.b rfl (Rs.b rfl (Rs.b (q.tree ok).1 (Rs.b t1 (Rs.b t2 (q.put hcx fun p2 g3 q3 => ?_)))))))))))))))
  refine Rs.c (putI' (e := e) q3 (hb.mono (by omega))) fun v g4 hv => ?_
  obtain ⟨rfl, q4⟩ := hv
  have b4 := (GdM.put m).v K hb
  have em : itemM k.T (runM k.T k.B f) m (x : Int) = (mx.ks.foldl (fun g x => runM k.T k.B f x g) (if mx.k = 23 then m.put.put else m.put)).put := by
   unfold itemM
   rw [Int.toNat_natCast, hmx]
  have fin : ∀ (g5 : AHeap) (it' : Nat) (m5 : MG), it' ≤ j + 1 → MpM k (⟨p2, p2, 73, true, knCells mx kx⟩ :: Q) (p :: ps) m5 g5 → Bm (K + 2) m5 → m5.fs.map (·.fn) = fns → m5 = (if mx.k = 23 then m.put.put else m.put) →
    Rs (PM k Q (p :: ps) ((n.ks.drop (j + 1)).foldl (itemM k.T (runM k.T k.B f)) (itemM k.T (runM k.T k.B f) m (x : Int)))) (s215_1 hk0 (call Tp Ms (e + 1)) N n' (ptr p 0) (it' : Int) (ptr p2 0) kv (n.ks.length : Int) (j : Int) g5) := fun g5 it' m5 hit' q5 b5 f5 e5 => by
   rw [s215_1_j, s215_1_eq, em, ← e5]
   refine Rs.b rfl (Rs.b (q5.ld (j := 3) rfl) (Rs.c (u216 (e := e) ok kdx ko.v ko.l he ko.E (by rw [f5]; exact ko.o) q5 b5 (by omega)) fun v g6 hv => ?_))
   obtain ⟨rfl, q6⟩ := hv
   have kg := kidsGd ok (f := f) ko.v m5
   have b6 := kg.v _ b5
   have f6 := (MmL.fns kg.g).trans f5
   generalize mx.ks.foldl (fun g x => runM k.T k.B f x g) m5 = m6 at q6 b6 f6 ⊢
   refine Rs.c (putI' (e := e) q6 (b6.mono (by omega))) fun v g7 hv => ?_
   obtain ⟨rfl, q7⟩ := hv
   refine Rs.b rfl ?_
   rw [wq (by omega) (by omega), show ((j : Int) + 1) = ((j + 1 : Nat) : Int) by omega]
   exact ih (j + 1) n' it' _ g7 _ (by omega) (by omega) (by omega) hit' q7.out ((GdM.put m6).v _ b6) ((put_fns m6).trans f6) (by omega)
  refine Rs.b rfl (Rs.b rfl (Rs.b (q4.ld (j := 0) rfl) (Rs.b rfl ?_)))
  by_cases h23 : mx.k = 23
  ·refine Rs.ct (bT h23) ?_
   rw [wq (by omega) (by omega), show ((it : Int) + 1) = ((it + 1 : Nat) : Int) by omega]
   refine Rs.c (putI' (e := e) q4 (b4.mono (by omega))) fun v g5 hv => ?_
   obtain ⟨rfl, q5⟩ := hv
   exact Rs.b rfl (fin g5 (it + 1) _ (by omega) q5 ((GdM.put m.put).v _ b4) ((put_fns _).trans ((put_fns m).trans hf)) (by rw [if_pos h23]))
  ·exact Rs.cf (bF h23) (fin g4 it _ (by omega) q4 (b4.mono (by omega)) ((put_fns m).trans hf) (by rw [if_neg h23]))
theorem u215 {e i f : Nat} {n : Kn} {kv : Value} (ok : k.Ok) (hn : k.T[i]? = some n) (kd : KdH k.b k.h0 kv n.ks) (hc : aCells (knVal n kv) = some (knCells n kv)) (hl : n.ks.length ≤ 1100000) (he : eE + 8 * f ≤ e)
  (hI : ∀ x ∈ n.ks, ∀ (j : Nat) (mm : Kn), x = j → k.T[j]? = some mm → KdsOk k mm f (m.fs.map (·.fn))) (q : MpM k Q (p :: ps) m h) (hb : Bm K m) (hK : K + 5 * sz k.T (i : Int) ≤ 900000) :
  Rs (PM k Q (p :: ps) (n.ks.foldl (itemM k.T (runM k.T k.B f)) m.put)) (call Tp Ms (e + 2) 215 [ptr p 0, knVal n kv] h) := by
 have he' : 20000000 ≤ e := by unfold eE at he; omega
 have hsz := sz_s ok.S.lo hn
 have hiT : i < k.T.length := (List.getElem?_eq_some_iff.1 hn).1
 rw [c215, e215]
 refine Rs.b hc (q.nw fun p2 g1 q1 => Rs.c (putI' (e := e) q1 (hb.mono (by omega))) fun v g2 hv => ?_)
 obtain ⟨rfl, q2⟩ := hv
 refine Rs.b rfl (Rs.b rfl (Rs.b (q2.ld (j := 3) rfl) (Rs.b kd.len (Rs.b rfl ?_))))
 have := l215_0 (Q := Q) (p := p) (ps := ps) (N := e + 1) (e := e) (f := f) (i := i) ok (by omega) kd (ok.S.lo i n hn) (by omega) hl he hI n.ks.length 0 (e + 1) 0 m.put g2 (K + 1) (by omega) (by omega) (by omega) (by omega) q2.out ((GdM.put m).v K hb) (put_fns m) (by rw [List.drop_zero]; omega)
 rw [List.drop_zero] at this
 exact this
end
end Go.Proofs.Ytadmoackacickaa
