import Derived.Test.YtadmoackacickaaXAK
import Derived.Test.YtadmoackacickaaXAD
import Derived.KernelRfl
import Derived.Test.YtadmoackacickaaProg
/- The reference's tokens of a tree (in part printed by prt_spec.py). -/
set_option linter.unusedSimpArgs false
namespace Go.Proofs.Ytadmoackacickaa
open Go Go.AH

theorem knotAt {g : AHeap} {nv : Value} {T : List Kn} {i : Nat} {n : Kn} (ks : KSe g.size g nv T) (hi : T[i]? = some n) : ∃ q kv, aIdx nv (.int .i64 (i : Int)) 4 = some q ∧ aLdN g q 4 = some (knVal n kv) ∧ ISl g.size g kv n.ks := by
  obtain ⟨hlt, rfl⟩ := List.getElem?_eq_some_iff.1 hi
  obtain ⟨q, kv, a, b, c⟩ := ks.ksl.at hlt
  exact ⟨_, kv, a, (c g (Ext.refl _ _)).1, b⟩
theorem t80_x {e : Nat} {nv : Value} {top : Int} {T : List Kn} {F : Int → List BA} {n : Kn} {i : Nat} {h : AHeap} (ks : KSe h.size h nv T) (hi : T[i]? = some n) (hK : ∀ k ∈ n.ks, TokOk nv top T F (e + 2) k) (hc : cls n.k = 1) (hX : ∀ g kv, KSe g.size g nv T → ISl g.size g kv n.ks → RS g (ntoks F n) (call Try.prog Ms (e + 2) 126 [trVal nv top, knVal n kv] g)) :
    RS h (ntoks F n) (call Try.prog Ms (e + 3) 80 [trVal nv top, .int .i64 (i : Int)] h) := by
  rw [c80, e80, tr_aCells ks.ksl, Option.bind_some]
  refine new_step (P := RS h (ntoks F n)) fun p2 h1 x1 o1 _ => ?_
  obtain ⟨q, kv, q1, q2, is⟩ := knotAt ((ks.lf (SF.ext x1).lf).mono x1.size) hi
  have r1 := Own.rowE o1
  refine RS.b rfl (RS.b (ld2 r1.row).1 (RS.b q1 (RS.b q2 ?_)))
  refine newSt_step (P := RS h (ntoks F n)) (kn_aCells is) rfl rfl fun p8 g0 x2 o2 _ => ?_
  have E0 := Ext.tr x1 x2
  have y0 : Env g0 p2 p8 nv top T n kv := ⟨r1.lf (SF.ext x2).lf (by decide) (by decide) (by decide), Own.rowE o2, (ks.lf (SF.ext E0).lf).mono E0.size, (is.lf (SF.ext x2).lf).mono x2.size⟩
  clear x1 x2 o1 o2
  refine RS.b rfl (RS.b y0.f0 (RS.b rfl (RS.b (l99 _ _ _) (RS.b rfl (RS.ct (by rw [hc]; rfl) (RS.b y0.t (RS.b y0.all ?_)))))))
  refine RS.c (hX g0 _ y0.ksl y0.isl) fun v1 g1 ⟨x1, o1⟩ => ?_
  have E1 := Ext.tr E0 x1
  have y1 := y0.ext x1
  exact RS.fin E1 o1 (E0).size rfl
theorem t80_s {e : Nat} {nv : Value} {top : Int} {T : List Kn} {F : Int → List BA} {n : Kn} {i : Nat} {h : AHeap} (ks : KSe h.size h nv T) (hi : T[i]? = some n) (hK : ∀ k ∈ n.ks, TokOk nv top T F (e + 2) k) (hc : cls n.k = 2) (hX : ∀ g kv, KSe g.size g nv T → ISl g.size g kv n.ks → RS g (ntoks F n) (call Try.prog Ms (e + 2) 127 [trVal nv top, knVal n kv] g)) :
    RS h (ntoks F n) (call Try.prog Ms (e + 3) 80 [trVal nv top, .int .i64 (i : Int)] h) := by
  rw [c80, e80, tr_aCells ks.ksl, Option.bind_some]
  refine new_step (P := RS h (ntoks F n)) fun p2 h1 x1 o1 _ => ?_
  obtain ⟨q, kv, q1, q2, is⟩ := knotAt ((ks.lf (SF.ext x1).lf).mono x1.size) hi
  have r1 := Own.rowE o1
  refine RS.b rfl (RS.b (ld2 r1.row).1 (RS.b q1 (RS.b q2 ?_)))
  refine newSt_step (P := RS h (ntoks F n)) (kn_aCells is) rfl rfl fun p8 g0 x2 o2 _ => ?_
  have E0 := Ext.tr x1 x2
  have y0 : Env g0 p2 p8 nv top T n kv := ⟨r1.lf (SF.ext x2).lf (by decide) (by decide) (by decide), Own.rowE o2, (ks.lf (SF.ext E0).lf).mono E0.size, (is.lf (SF.ext x2).lf).mono x2.size⟩
  clear x1 x2 o1 o2
  refine RS.b rfl (RS.b y0.f0 (RS.b rfl (RS.b (l99 _ _ _) (RS.b rfl (RS.cf (by rw [hc]; rfl) (RS.ct (by rw [hc]; rfl) (RS.b y0.t (RS.b y0.all ?_))))))))
  refine RS.c (hX g0 _ y0.ksl y0.isl) fun v1 g1 ⟨x1, o1⟩ => ?_
  have E1 := Ext.tr E0 x1
  have y1 := y0.ext x1
  exact RS.fin E1 o1 (E0).size rfl
theorem t80_p {e : Nat} {nv : Value} {top : Int} {T : List Kn} {F : Int → List BA} {n : Kn} {i : Nat} {h : AHeap} (ks : KSe h.size h nv T) (hi : T[i]? = some n) (hK : ∀ k ∈ n.ks, TokOk nv top T F (e + 2) k) (hk : n.k = 22) (hc : cls n.k = 4) :
    RS h (ntoks F n) (call Try.prog Ms (e + 3) 80 [trVal nv top, .int .i64 (i : Int)] h) := by
  rw [c80, e80, tr_aCells ks.ksl, Option.bind_some]
  refine new_step (P := RS h (ntoks F n)) fun p2 h1 x1 o1 _ => ?_
  obtain ⟨q, kv, q1, q2, is⟩ := knotAt ((ks.lf (SF.ext x1).lf).mono x1.size) hi
  have r1 := Own.rowE o1
  refine RS.b rfl (RS.b (ld2 r1.row).1 (RS.b q1 (RS.b q2 ?_)))
  refine newSt_step (P := RS h (ntoks F n)) (kn_aCells is) rfl rfl fun p8 g0 x2 o2 _ => ?_
  have E0 := Ext.tr x1 x2
  have y0 : Env g0 p2 p8 nv top T n kv := ⟨r1.lf (SF.ext x2).lf (by decide) (by decide) (by decide), Own.rowE o2, (ks.lf (SF.ext E0).lf).mono E0.size, (is.lf (SF.ext x2).lf).mono x2.size⟩
  clear x1 x2 o1 o2
  refine RS.b rfl (RS.b y0.f0 (RS.b rfl (RS.b (l99 _ _ _) (RS.b rfl (RS.cf (by rw [hc]; rfl) (RS.cf (by rw [hc]; rfl) (RS.cf (by rw [hc]; rfl) (RS.cf (by rw [hc]; rfl) (RS.b rfl (RS.b y0.f1 (RS.b rfl ?_)))))))))))
  refine RS.lit [n.t] rfl rfl fun v1 g1 x1 o1 => ?_
  have E1 := Ext.tr E0 x1
  have y1 := y0.ext x1
  exact RS.fin E1 o1 (E0).size (by simp [ntoks, hk])
theorem t80_i {e : Nat} {nv : Value} {top : Int} {T : List Kn} {F : Int → List BA} {n : Kn} {i : Nat} {h : AHeap} (ks : KSe h.size h nv T) (hi : T[i]? = some n) (hK : ∀ k ∈ n.ks, TokOk nv top T F (e + 2) k) (hk : n.k = 23) (hc : cls n.k = 5) (k0 : 0 < n.ks.length) :
    RS h (ntoks F n) (call Try.prog Ms (e + 3) 80 [trVal nv top, .int .i64 (i : Int)] h) := by
  have b0 := (hK _ (kd_mem k0)).1
  rw [c80, e80, tr_aCells ks.ksl, Option.bind_some]
  refine new_step (P := RS h (ntoks F n)) fun p2 h1 x1 o1 _ => ?_
  obtain ⟨q, kv, q1, q2, is⟩ := knotAt ((ks.lf (SF.ext x1).lf).mono x1.size) hi
  have r1 := Own.rowE o1
  refine RS.b rfl (RS.b (ld2 r1.row).1 (RS.b q1 (RS.b q2 ?_)))
  refine newSt_step (P := RS h (ntoks F n)) (kn_aCells is) rfl rfl fun p8 g0 x2 o2 _ => ?_
  have E0 := Ext.tr x1 x2
  have y0 : Env g0 p2 p8 nv top T n kv := ⟨r1.lf (SF.ext x2).lf (by decide) (by decide) (by decide), Own.rowE o2, (ks.lf (SF.ext E0).lf).mono E0.size, (is.lf (SF.ext x2).lf).mono x2.size⟩
  clear x1 x2 o1 o2
  refine RS.b rfl (RS.b y0.f0 (RS.b rfl (RS.b (l99 _ _ _) (RS.b rfl (RS.cf (by rw [hc]; rfl) (RS.cf (by rw [hc]; rfl) (RS.cf (by rw [hc]; rfl) (RS.ct (by rw [hc]; rfl) (RS.b rfl (RS.b y0.f0 (RS.b rfl (RS.cf (by rw [hk]; rfl) (RS.b y0.t (RS.b rfl (RS.b y0.f3 (RS.b (y0.q0 k0) (RS.b (y0.r k0) (RS.b rfl ?_))))))))))))))))))
  refine RS.c ((hK _ (kd_mem k0)).2 g0 y0.ksl) fun v1 g1 ⟨x1, o1⟩ => ?_
  have E1 := Ext.tr E0 x1
  have y1 := y0.ext x1
  exact RS.fin E1 o1 (E0).size (by simp [ntoks, hk])
theorem t80_r {e : Nat} {nv : Value} {top : Int} {T : List Kn} {F : Int → List BA} {n : Kn} {i : Nat} {h : AHeap} (ks : KSe h.size h nv T) (hi : T[i]? = some n) (hK : ∀ k ∈ n.ks, TokOk nv top T F (e + 2) k) (hk : n.k = 24) (hc : cls n.k = 5) (k0 : 0 < n.ks.length) (k1 : 1 < n.ks.length) :
    RS h (ntoks F n) (call Try.prog Ms (e + 3) 80 [trVal nv top, .int .i64 (i : Int)] h) := by
  have b0 := (hK _ (kd_mem k0)).1
  have b1 := (hK _ (kd_mem k1)).1
  rw [c80, e80, tr_aCells ks.ksl, Option.bind_some]
  refine new_step (P := RS h (ntoks F n)) fun p2 h1 x1 o1 _ => ?_
  obtain ⟨q, kv, q1, q2, is⟩ := knotAt ((ks.lf (SF.ext x1).lf).mono x1.size) hi
  have r1 := Own.rowE o1
  refine RS.b rfl (RS.b (ld2 r1.row).1 (RS.b q1 (RS.b q2 ?_)))
  refine newSt_step (P := RS h (ntoks F n)) (kn_aCells is) rfl rfl fun p8 g0 x2 o2 _ => ?_
  have E0 := Ext.tr x1 x2
  have y0 : Env g0 p2 p8 nv top T n kv := ⟨r1.lf (SF.ext x2).lf (by decide) (by decide) (by decide), Own.rowE o2, (ks.lf (SF.ext E0).lf).mono E0.size, (is.lf (SF.ext x2).lf).mono x2.size⟩
  clear x1 x2 o1 o2
  refine RS.b rfl (RS.b y0.f0 (RS.b rfl (RS.b (l99 _ _ _) (RS.b rfl (RS.cf (by rw [hc]; rfl) (RS.cf (by rw [hc]; rfl) (RS.cf (by rw [hc]; rfl) (RS.ct (by rw [hc]; rfl) (RS.b rfl (RS.b y0.f0 (RS.b rfl (RS.ct (by rw [hk]; rfl) ?_))))))))))))
  refine RS.lit [⟨#[91]⟩] rfl rfl fun v1 g1 x1 o1 => ?_
  have E1 := Ext.tr E0 x1
  have y1 := y0.ext x1
  refine RS.b y1.t (RS.b rfl (RS.b y1.f3 (RS.b (y1.q0 k0) (RS.b (y1.r k0) (RS.b rfl ?_)))))
  refine RS.lit [⟨#[93]⟩, ⟨#[61]⟩] rfl rfl fun v2 g2 x2 o2 => ?_
  have E2 := Ext.tr E1 x2
  have y2 := y1.ext x2
  refine RS.c ((hK _ (kd_mem k0)).2 g2 y2.ksl) fun v3 g3 ⟨x3, o3⟩ => ?_
  have E3 := Ext.tr E2 x3
  have y3 := y2.ext x3
  refine RS.c (l128 (d := (e + 1)) (o1.src.sf (SF.ext (Ext.tr x2 x3))) o3.src (o2.src.sf (SF.ext x3)) (by simp; omega)) fun v4 g4 ⟨x4, o4⟩ => ?_
  have E4 := Ext.tr E3 x4
  have y4 := y3.ext x4
  refine RS.b y4.t (RS.b rfl (RS.b y4.f3 (RS.b (y4.q1 k1) (RS.b (y4.r k1) (RS.b rfl ?_)))))
  refine RS.c ((hK _ (kd_mem k1)).2 g4 y4.ksl) fun v5 g5 ⟨x5, o5⟩ => ?_
  have E5 := Ext.tr E4 x5
  have y5 := y4.ext x5
  refine RS.c (l128 (d := (e + 1)) (o4.src.sf (SF.ext x5)) o5.src (SSrc.nil _) (by simp; omega)) fun v6 g6 ⟨x6, o6⟩ => ?_
  have E6 := Ext.tr E5 x6
  have y6 := y5.ext x6
  exact RS.fin E6 o6 (Ext.tr E0 (Ext.tr (Ext.tr (Ext.tr (Ext.tr x1 x2) x3) x4) x5)).size (by simp [ntoks, hk])
/-- A block's loop. -/
theorem block_loop {e N : Nat} {nv kv : Value} {top : Int} {T : List Kn} {F : Int → List BA} {n : Kn} {h : AHeap} {p2 p8 : Nat} (hl : n.ks.length ≤ 1048576) (hK : ∀ k ∈ n.ks, TokOk nv top T F e k) :
    ∀ (k j m : Nat) (g : AHeap) (ov : Value) (out : List BA), n.ks.length - j = k → j ≤ n.ks.length → k < m → Ext h.size h g → Env g p2 p8 nv top T n kv → SOwn h.size g ov out → out.length ≤ 1 + j * 100000 →
    RS h (out ++ (n.ks.drop j).flatMap F ++ [(⟨#[125]⟩ : BA)]) (s80_0 hk0 (call Try.prog Ms e) N m (ptr p2 0) (ptr p8 0) ov (j : Int) g) := by
  intro k
  induction k with
  | zero =>
    intro j m g ov out hk hj hm E y o hol
    obtain ⟨m, rfl⟩ : ∃ q, m = q + 1 := ⟨m - 1, by omega⟩
    have : ¬ ((j : Int) < (n.ks.length : Int)) := by omega
    rw [s80_0_eq]
    refine RS.b rfl (RS.b y.f3 (RS.b y.len (RS.b rfl (RS.cf (decide_eq_false this) ?_))))
    refine RS.lit [(⟨#[125]⟩ : BA)] rfl rfl fun v1 g1 x1 o1 => ?_
    refine RS.c (SOwn.app (o.ext x1) (Nat.le_trans E.size x1.size) o1.src (by simp; omega)) fun v2 g2 ⟨x2, o2, _⟩ => ?_
    have hd : n.ks.drop j = [] := List.drop_eq_nil_of_le (by omega)
    exact RS.fin ((Ext.tr E x1).trans x2) o2 (Nat.le_refl _) (by rw [hd]; simp)
  | succ k ih =>
    intro j m g ov out hk hj hm E y o hol
    obtain ⟨m, rfl⟩ : ∃ q, m = q + 1 := ⟨m - 1, by omega⟩
    have hI : ((j : Int) < (n.ks.length : Int)) := by omega
    have hjl : j < n.ks.length := by omega
    have wj : IntKind.i64.wrap ((j : Int) + 1) = ((j + 1 : Nat) : Int) := by rw [wr (by omega) (by omega)]; omega
    have hb := (hK _ (kd_mem hjl)).1
    rw [s80_0_eq]
    refine RS.b rfl (RS.b y.f3 (RS.b y.len (RS.b rfl (RS.ct (decide_eq_true hI) ?_))))
    refine RS.b y.t (RS.b rfl (RS.b y.f3 (RS.b (y.isl.ird.at' j hjl).1 (RS.b (y.r hjl) (RS.b rfl ?_)))))
    refine RS.c ((hK _ (kd_mem hjl)).2 g y.ksl) fun v1 g1 ⟨x1, o1⟩ => ?_
    refine RS.c (SOwn.app (o.ext x1) (Nat.le_trans E.size x1.size) o1.src (by omega)) fun v2 g2 ⟨x2, o2, L2⟩ => ?_
    have y2 := (y.ext x1).lf L2
    show RS h _ (s80_0 hk0 (call Try.prog Ms e) N m (ptr p2 0) (ptr p8 0) v2 (IntKind.i64.wrap ((j : Int) + 1)) g2)
    rw [wj]
    have := ih (j + 1) m g2 v2 _ (by omega) (by omega) (by omega) ((Ext.tr E x1).trans x2) y2 o2 (by rw [List.length_append]; omega)
    rw [drop_get hjl]
    simpa only [List.flatMap_cons, List.append_assoc, Kn.kd] using this
theorem t80_b {e : Nat} (he : 1048577 < e) {nv : Value} {top : Int} {T : List Kn} {F : Int → List BA} {n : Kn} {i : Nat} {h : AHeap} (ks : KSe h.size h nv T) (hi : T[i]? = some n) (hl : n.ks.length ≤ 1048576) (hK : ∀ k ∈ n.ks, TokOk nv top T F (e + 2) k) (hk : n.k = 21) (hc : cls n.k = 3) :
    RS h (ntoks F n) (call Try.prog Ms (e + 3) 80 [trVal nv top, .int .i64 (i : Int)] h) := by
  rw [c80, e80, tr_aCells ks.ksl, Option.bind_some]
  refine new_step (P := RS h (ntoks F n)) fun p2 h1 x1 o1 _ => ?_
  obtain ⟨q, kv, q1, q2, is⟩ := knotAt ((ks.lf (SF.ext x1).lf).mono x1.size) hi
  have r1 := Own.rowE o1
  refine RS.b rfl (RS.b (ld2 r1.row).1 (RS.b q1 (RS.b q2 ?_)))
  refine newSt_step (P := RS h (ntoks F n)) (kn_aCells is) rfl rfl fun p8 g0 x2 o2 _ => ?_
  have E0 := Ext.tr x1 x2
  have y0 : Env g0 p2 p8 nv top T n kv := ⟨r1.lf (SF.ext x2).lf (by decide) (by decide) (by decide), Own.rowE o2, (ks.lf (SF.ext E0).lf).mono E0.size, (is.lf (SF.ext x2).lf).mono x2.size⟩
  refine RS.b rfl (RS.b y0.f0 (RS.b rfl (RS.b (l99 _ _ _) (RS.b rfl (RS.cf (by rw [hc]; rfl) (RS.cf (by rw [hc]; rfl) (RS.ct (by rw [hc]; rfl) ?_)))))))
  refine RS.lit [(⟨#[123]⟩ : BA)] rfl rfl fun v1 g1 x3 o3 => ?_
  have := block_loop (N := e + 2) hl hK n.ks.length 0 (e + 2) g1 v1 _ (by omega) (by omega) (by omega) (Ext.tr E0 x3) (y0.ext x3) (o3.mono E0.size) (by simp)
  have hT : ntoks F n = [(⟨#[123]⟩ : BA)] ++ (n.ks.drop 0).flatMap F ++ [(⟨#[125]⟩ : BA)] := by simp [ntoks, hk]
  rw [hT]; exact this
end Go.Proofs.Ytadmoackacickaa
/- The reference's tokens of a right tree. -/
set_option linter.unusedSimpArgs false
namespace Go.Proofs.Ytadmoackacickaa
open Go Go.AH

theorem kids_reach {T : List Kn} {f : Nat} {i : Int} : ∀ (ks : List Int) (fr : Int), 0 ≤ numGo' (numP T f) i ks fr → 0 ≤ fr → ∀ k ∈ ks, ∃ fr', 0 ≤ fr' ∧ numP T f k fr' = k + 1
  | [], _, _, _, k, hk => by simp at hk
  | k :: ks, fr, h, h0, k', hk => by
    rw [numGo'] at h
    by_cases hn : numP T f k fr < 0
    · rw [if_pos hn] at h; exact absurd h (by decide)
    · rw [if_neg hn] at h
      have a := num_le T f k fr (by omega) h0
      rcases List.mem_cons.1 hk with rfl | hk
      · exact ⟨fr, h0, a.1⟩
      · exact kids_reach ks _ h (by omega) k' hk
def wgt (F : Int → List BA) (ks : List Int) : Nat := (ks.map fun k => (F k).length + 1).sum
theorem kids_wgt' {T : List Kn} {f : Nat} {F : Int → List BA} (hF : ∀ k fr : Int, 0 ≤ k → 0 ≤ fr → numP T f k fr = k + 1 → (F k).length + 1 ≤ 8 * (k + 1 - fr).toNat) {i : Int} : ∀ (ks : List Int) (fr : Int), (∀ k ∈ ks, 0 ≤ k) → 0 ≤ numGo' (numP T f) i ks fr → 0 ≤ fr → fr ≤ i ∧ wgt F ks ≤ 8 * (i - fr).toNat
  | [], fr, _, h, h0 => by
    rw [numGo'] at h
    by_cases he : i = fr
    · exact ⟨by omega, by simp [wgt]⟩
    · rw [if_neg he] at h; exact absurd h (by decide)
  | k :: ks, fr, hk, h, h0 => by
    rw [numGo'] at h
    by_cases hn : numP T f k fr < 0
    · rw [if_pos hn] at h; exact absurd h (by decide)
    · rw [if_neg hn] at h
      have a := num_le T f k fr (by omega) h0
      obtain ⟨b1, b2⟩ := kids_wgt' hF ks _ (fun k h => hk k (List.mem_cons_of_mem _ h)) h (by omega)
      have c := hF k fr (hk k (by simp)) h0 a.1
      refine ⟨by omega, ?_⟩
      have : wgt F (k :: ks) = (F k).length + 1 + wgt F ks := by simp [wgt]
      rw [a.1] at b1 b2
      omega
theorem cm_wgt (F : Int → List BA) : ∀ (ks : List Int) (j : Nat), (cm F j ks).length ≤ wgt F ks
  | [], j => by simp [cm]
  | k :: ks, 0 => by
    have := cm_wgt F ks 1
    simp [cm, wgt] at *; omega
  | k :: ks, j + 1 => by
    have := cm_wgt F ks (j + 2)
    simp [cm, wgt] at *; omega
theorem flat_wgt (F : Int → List BA) : ∀ (ks : List Int), (ks.flatMap F).length ≤ wgt F ks
  | [] => by simp
  | k :: ks => by
    have := flat_wgt F ks
    simp [wgt] at *; omega
theorem list1 {xs : List Int} (h : xs.length = 1) : ∃ a, xs = [a] := List.length_eq_one_iff.1 h
theorem list2 {xs : List Int} (h : xs.length = 2) : ∃ a b, xs = [a, b] := by
  match xs, h with
  | [a, b], _ => exact ⟨a, b, rfl⟩
theorem list3 {xs : List Int} (h : xs.length = 3) : ∃ a b c, xs = [a, b, c] := by
  match xs, h with
  | [a, b, c], _ => exact ⟨a, b, c, rfl⟩
/-- The kinds, with how many kids they have. -/
theorem Good.kinds {T : List Kn} {j : Nat} {n : Kn} (g : Good T j n) :
    (n.k ∈ [(1 : Int), 2, 3, 4, 5, 22] ∧ n.ks = []) ∨ ((n.k = 6 ∨ n.k = 9) ∧ 0 < n.ks.length) ∨ (n.k = 7 ∨ n.k = 21) ∨ (n.k ∈ [(8 : Int), 10, 12, 13, 24, 18] ∧ n.ks.length = 2) ∨ (n.k ∈ [(11 : Int), 14, 15, 19, 23, 20] ∧ n.ks.length = 1) ∨ (n.k = 16 ∧ n.ks.length = 3) ∨ (n.k = 17 ∧ (n.ks.length = 2 ∨ n.ks.length = 3)) := by
  have hl := g.len
  have hr := g.knd
  have : n.k = 1 ∨ n.k = 2 ∨ n.k = 3 ∨ n.k = 4 ∨ n.k = 5 ∨ n.k = 6 ∨ n.k = 7 ∨ n.k = 8 ∨ n.k = 9 ∨ n.k = 10 ∨ n.k = 11 ∨ n.k = 12 ∨ n.k = 13 ∨ n.k = 14 ∨ n.k = 15 ∨ n.k = 16 ∨ n.k = 17 ∨ n.k = 18 ∨ n.k = 19 ∨ n.k = 20 ∨ n.k = 21 ∨ n.k = 22 ∨ n.k = 23 ∨ n.k = 24 := by omega
  have z : ∀ k : Int, n.k = k → shape k n.ks.length = [] → n.ks = [] := fun k hk hs => by
    rw [hk, hs] at hl; exact List.eq_nil_of_length_eq_zero hl.symm
  have w : ∀ (k : Int) (l : List Int), n.k = k → shape k n.ks.length = l → n.ks.length = l.length := fun k l hk hs => by rw [hk, hs] at hl; exact hl.symm
  rcases this with h | h | h | h | h | h | h | h | h | h | h | h | h | h | h | h | h | h | h | h | h | h | h | h
  · exact .inl ⟨by simp [h], z _ h rfl⟩
  · exact .inl ⟨by simp [h], z _ h rfl⟩
  · exact .inl ⟨by simp [h], z _ h rfl⟩
  · exact .inl ⟨by simp [h], z _ h rfl⟩
  · exact .inl ⟨by simp [h], z _ h rfl⟩
  · refine .inr (.inl ⟨.inl h, ?_⟩)
    have := w 6 (List.replicate (n.ks.length - 1) 4 ++ [3]) h rfl
    simp at this; omega
  · exact .inr (.inr (.inl (.inl h)))
  · exact .inr (.inr (.inr (.inl ⟨by simp [h], w 8 _ h rfl⟩)))
  · refine .inr (.inl ⟨.inr h, ?_⟩)
    have := w 9 ([1] ++ List.replicate (n.ks.length - 1) 1) h rfl
    simp at this; omega
  · exact .inr (.inr (.inr (.inl ⟨by simp [h], w 10 _ h rfl⟩)))
  · exact .inr (.inr (.inr (.inr (.inl ⟨by simp [h], w 11 _ h rfl⟩))))
  · exact .inr (.inr (.inr (.inl ⟨by simp [h], w 12 _ h rfl⟩)))
  · exact .inr (.inr (.inr (.inl ⟨by simp [h], w 13 _ h rfl⟩)))
  · exact .inr (.inr (.inr (.inr (.inl ⟨by simp [h], w 14 _ h rfl⟩))))
  · exact .inr (.inr (.inr (.inr (.inl ⟨by simp [h], w 15 _ h rfl⟩))))
  · exact .inr (.inr (.inr (.inr (.inr (.inl ⟨h, w 16 _ h rfl⟩)))))
  · refine .inr (.inr (.inr (.inr (.inr (.inr ⟨h, ?_⟩)))))
    have := w 17 _ h rfl
    by_cases h3 : n.ks.length = 3
    · exact .inr h3
    · left
      rw [show shape 17 n.ks.length = if n.ks.length = 3 then [(1 : Int), 3, 3] else [1, 3] from rfl, if_neg h3] at this
      exact this
  · exact .inr (.inr (.inr (.inl ⟨by simp [h], w 18 _ h rfl⟩)))
  · exact .inr (.inr (.inr (.inr (.inl ⟨by simp [h], w 19 _ h rfl⟩))))
  · exact .inr (.inr (.inr (.inr (.inl ⟨by simp [h], w 20 _ h rfl⟩))))
  · exact .inr (.inr (.inl (.inr h)))
  · exact .inl ⟨by simp [h], z _ h rfl⟩
  · exact .inr (.inr (.inr (.inr (.inl ⟨by simp [h], w 23 _ h rfl⟩))))
  · exact .inr (.inr (.inr (.inl ⟨by simp [h], w 24 _ h rfl⟩)))
theorem last_get {xs : List Int} (h : 0 < xs.length) : xs = xs.dropLast ++ [xs.getD (xs.length - 1) 0] := by
  have hne : xs ≠ [] := by intro e; rw [e] at h; simp at h
  conv => lhs; rw [← List.dropLast_concat_getLast hne]
  rw [List.getLast_eq_getElem]
  simp [show xs.length - 1 < xs.length by omega]
theorem wgt_app (F : Int → List BA) (xs ys : List Int) : wgt F (xs ++ ys) = wgt F xs + wgt F ys := by simp [wgt]
theorem ntoks_len {T : List Kn} {j : Nat} {n : Kn} (g : Good T j n) (F : Int → List BA) : (ntoks F n).length ≤ wgt F n.ks + 6 := by
  obtain ⟨k, t, i, ks⟩ := n
  rcases g.kinds with ⟨h, rfl⟩ | ⟨h, hp⟩ | h | ⟨h, h2⟩ | ⟨h, h1⟩ | ⟨h, h3⟩ | ⟨h, h4⟩
  · simp at h
    rcases h with rfl | rfl | rfl | rfl | rfl | rfl <;> simp [ntoks]
  · simp at h hp
    rcases h with rfl | rfl
    · have hp' : 0 < ks.length := by cases ks <;> simp_all
      have a := cm_wgt F ks.dropLast 0
      have b : wgt F ks = wgt F ks.dropLast + ((F (ks.getD (ks.length - 1) 0)).length + 1) := by
        conv => lhs; rw [last_get hp', wgt_app]
        simp [wgt]
      simp [ntoks, Kn.kd] at *; omega
    · match ks, hp with
      | a :: ks, _ =>
        have := cm_wgt F ks 0
        simp [ntoks, Kn.kd, wgt] at *; omega
  · simp at h
    rcases h with rfl | rfl
    · have := cm_wgt F ks 0
      simp [ntoks]; omega
    · have := flat_wgt F ks
      simp [ntoks] at *; omega
  · obtain ⟨a, b, rfl⟩ := list2 h2
    simp at h
    rcases h with rfl | rfl | rfl | rfl | rfl | rfl <;> simp [ntoks, Kn.kd, wgt] <;> omega
  · obtain ⟨a, rfl⟩ := list1 h1
    simp at h
    rcases h with rfl | rfl | rfl | rfl | rfl | rfl <;> simp [ntoks, Kn.kd, wgt] <;> omega
  · obtain ⟨a, b, c, rfl⟩ := list3 h3
    simp at h; subst h
    simp [ntoks, Kn.kd, wgt]; omega
  · simp at h; subst h
    rcases h4 with h2 | h3
    · obtain ⟨a, b, rfl⟩ := list2 h2
      simp [ntoks, Kn.kd, wgt]; omega
    · obtain ⟨a, b, c, rfl⟩ := list3 h3
      simp [ntoks, Kn.kd, wgt]; omega
theorem toks_len {T : List Kn} (hG : ∀ (j : Nat) (n : Kn), T[j]? = some n → Good T j n) : ∀ (f : Nat) (i fr : Int), 0 ≤ i → 0 ≤ fr → numP T f i fr = i + 1 → (toks T f i).length + 1 ≤ 8 * (i + 1 - fr).toNat := by
  intro f
  induction f with
  | zero => intro i fr hi h0 h; have : (-1 : Int) = i + 1 := h; omega
  | succ f ih =>
    intro i fr hi h0 h
    rw [numP] at h
    rw [toks]
    cases hT : T[i.toNat]? with
    | none => rw [hT] at h; simp only [] at h; omega
    | some n =>
      rw [hT] at h
      simp only [] at h ⊢
      have g := hG _ n hT
      have hk : ∀ k ∈ n.ks, 0 ≤ k := fun k hk => (g.rng k hk).1
      have := kids_wgt' (F := toks T f) (fun k fr hk => ih k fr hk) n.ks fr hk (by rw [h]; omega) h0
      have hl := ntoks_len g (toks T f)
      omega
end Go.Proofs.Ytadmoackacickaa
/- The reference's tokens of a right tree (2); tokens in a row. -/
set_option linter.unusedSimpArgs false
namespace Go.Proofs.Ytadmoackacickaa
open Go Go.AH

theorem has2 {n : Kn} (h : hasP n = true) (hk : n.k = 2) : 0 ≤ n.i ∧ n.i ≤ 1 := by
  have : hasP n = (emp n.t && inR n.i 0 1) := by unfold hasP; rw [hk]; rfl
  rw [this] at h; simp [inR] at h; omega
theorem has3 {n : Kn} (h : hasP n = true) (hk : n.k = 3) : 0 ≤ n.i ∧ n.i ≤ 999999999999999 := by
  have : hasP n = (emp n.t && inR n.i 0 999999999999999) := by unfold hasP; rw [hk]; rfl
  rw [this] at h; simp [inR] at h; omega
theorem has4 {n : Kn} (h : hasP n = true) (hk : n.k = 4) : n.t.size ≤ 160 := by
  have : hasP n = (textP n.t && n.i == 0) := by unfold hasP; rw [hk]; rfl
  rw [this] at h; simp [textP] at h; omega
theorem has10 {n : Kn} (h : hasP n = true) (hk : n.k = 10) : 1 ≤ n.i ∧ n.i ≤ 10 := by
  have : hasP n = (emp n.t && inR n.i 1 10) := by unfold hasP; rw [hk]; rfl
  rw [this] at h; simp [inR] at h; omega
theorem has11 {n : Kn} (h : hasP n = true) (hk : n.k = 11) : 1 ≤ n.i ∧ n.i ≤ 3 := by
  have : hasP n = (emp n.t && inR n.i 1 3) := by unfold hasP; rw [hk]; rfl
  rw [this] at h; simp [inR] at h; omega
theorem has12 {n : Kn} (h : hasP n = true) (hk : n.k = 12 ∨ n.k = 13) : n.i = 0 := by
  have : hasP n = (emp n.t && n.i == 0) := by unfold hasP; rcases hk with hk | hk <;> rw [hk] <;> rfl
  rw [this] at h; simp at h; exact h.2
theorem hasN {n : Kn} (h : hasP n = true) (hk : nm4 n.k = true) : 1 ≤ n.t.size ∧ n.t.size ≤ 12 := by
  have : hasP n = (nameP n.t && n.i == 0) := by unfold hasP; rw [if_pos hk]
  rw [this] at h; simp [nameP, inR] at h; omega
theorem tok_ok {nv : Value} {top : Int} {T : List Kn} (hT : T.length ≤ 3000) (hN : ∀ n ∈ T, n.t.size ≤ 1048576 ∧ n.ks.length ≤ 1048576) (hG : ∀ (j : Nat) (n : Kn), T[j]? = some n → Good T j n) :
    ∀ (f : Nat) (i fr : Int), 0 ≤ i → i < T.length → 0 ≤ fr → numP T f i fr = i + 1 → ∀ e, 1048580 + 4 * f ≤ e → TokOk nv top T (toks T f) e i := by
  intro f
  induction f with
  | zero => intro i fr hi _ h0 h; have : (-1 : Int) = i + 1 := h; omega
  | succ f ih =>
    intro i fr hi hlt h0 h e he
    have hlen := toks_len hG (f + 1) i fr hi h0 h
    refine ⟨by omega, fun g ks => ?_⟩
    obtain ⟨iN, rfl⟩ : ∃ m : Nat, i = m := ⟨i.toNat, by omega⟩
    have hn : T[iN]? = some T[iN] := List.getElem?_eq_getElem (by omega)
    generalize hnn : T[iN] = n at hn
    have gd := hG _ n hn
    have hmem : n ∈ T := List.mem_of_getElem? hn
    have hl := (hN n hmem).2
    have htk : toks T (f + 1) (iN : Int) = ntoks (toks T f) n := by rw [toks, Int.toNat_natCast, hn]
    rw [htk]
    rw [numP, Int.toNat_natCast, hn] at h
    simp only [] at h
    have hK : ∀ e', 1048580 + 4 * f ≤ e' → ∀ k ∈ n.ks, TokOk nv top T (toks T f) e' k := fun e' he' k hk => by
      obtain ⟨fr', a, b⟩ := kids_reach n.ks fr (by rw [h]; omega) h0 k hk
      have r := gd.rng k hk
      exact ih k fr' r.1 (by omega) a b e' he'
    obtain ⟨e, rfl⟩ : ∃ q, e = q + 3 := ⟨e - 3, by omega⟩
    have K2 := hK (e + 2) (by omega)
    have K1 := hK (e + 1) (by omega)
    have K0 := hK e (by omega)
    have be : 1048577 < e := by omega
    have hh := gd.has
    have X1 : ∀ {k : Int}, n.k = k → cls k = 1 → (∀ g kv, KSe g.size g nv T → ISl g.size g kv n.ks → RS g (ntoks (toks T f) n) (call Try.prog Ms (e + 2) 126 [trVal nv top, knVal n kv] g)) → RS g (ntoks (toks T f) n) (call Try.prog Ms (e + 3) 80 [trVal nv top, .int .i64 (iN : Int)] g) :=
      fun hk hc hX => t80_x ks hn K2 (by rw [hk]; exact hc) hX
    have X2 : ∀ {k : Int}, n.k = k → cls k = 2 → (∀ g kv, KSe g.size g nv T → ISl g.size g kv n.ks → RS g (ntoks (toks T f) n) (call Try.prog Ms (e + 2) 127 [trVal nv top, knVal n kv] g)) → RS g (ntoks (toks T f) n) (call Try.prog Ms (e + 3) 80 [trVal nv top, .int .i64 (iN : Int)] g) :=
      fun hk hc hX => t80_s ks hn K2 (by rw [hk]; exact hc) hX
    rcases gd.kinds with ⟨hk, hz⟩ | ⟨hk, hp⟩ | hk | ⟨hk, h2⟩ | ⟨hk, h1⟩ | ⟨hk, h3⟩ | ⟨hk, h4⟩
    · simp only [List.mem_cons, List.not_mem_nil, or_false] at hk
      rcases hk with hk | hk | hk | hk | hk | hk
      · exact X1 hk rfl fun g kv a b => t126_1 be a b hl K1 K0 hk
      · have := has2 hh hk
        exact X1 hk rfl fun g kv a b => t126_2 be a b hl K1 K0 hk (by omega) (by show n.i.toNat < 2; omega)
      · have := has3 hh hk
        exact X1 hk rfl fun g kv a b => t126_3 be a b hl K1 K0 hk (by omega) (by omega)
      · have := has4 hh hk
        exact X1 hk rfl fun g kv a b => t126_4 be a b hl K1 K0 hk (by show 1 + _ ≤ _; omega) (by rw [ByteArray.size_append]; show 1 + _ + 1 ≤ _; omega)
      · exact X1 hk rfl fun g kv a b => t126_5 be a b hl K1 K0 hk
      · exact t80_p ks hn K2 hk (by rw [hk]; rfl)
    · rcases hk with hk | hk
      · exact X1 hk rfl fun g kv a b => t126_6 be a b hl K1 K0 hk hp (by omega) (by rw [wr (by omega) (by omega)]; omega)
      · exact X1 hk rfl fun g kv a b => t126_9 be a b hl K1 K0 hk hp
    · rcases hk with hk | hk
      · exact X1 hk rfl fun g kv a b => t126_7 be a b hl K1 K0 hk
      · exact t80_b be ks hn hl K2 hk (by rw [hk]; rfl)
    · simp only [List.mem_cons, List.not_mem_nil, or_false] at hk
      rcases hk with hk | hk | hk | hk | hk | hk
      · exact X1 hk rfl fun g kv a b => t126_8 be a b hl K1 K0 hk (by omega) (by omega)
      · have := has10 hh hk
        exact X1 hk rfl fun g kv a b => t126_10 be a b hl K1 K0 hk (by omega) (by omega) (by omega) (by show n.i.toNat < 11; omega)
      · have := has12 hh (.inl hk)
        exact X1 hk rfl fun g kv a b => t126_12 be a b hl K1 K0 hk (by omega) (by omega) (by omega) (by show n.i.toNat < 11; omega)
      · have := has12 hh (.inr hk)
        exact X1 hk rfl fun g kv a b => t126_13 be a b hl K1 K0 hk (by omega) (by omega) (by omega) (by show n.i.toNat < 11; omega)
      · exact t80_r ks hn K2 hk (by rw [hk]; rfl) (by omega) (by omega)
      · exact X2 hk rfl fun g kv a b => t127_18 be a b hl K1 K0 hk (by omega) (by omega)
    · simp only [List.mem_cons, List.not_mem_nil, or_false] at hk
      rcases hk with hk | hk | hk | hk | hk | hk
      · have := has11 hh hk
        exact X1 hk rfl fun g kv a b => t126_11 be a b hl K1 K0 hk (by omega) (by omega) (by show n.i.toNat < 4; omega)
      · exact X2 hk rfl fun g kv a b => t127_14 be a b hl K1 K0 hk (by omega)
      · exact X2 hk rfl fun g kv a b => t127_15 be a b hl K1 K0 hk (by omega)
      · exact X2 hk rfl fun g kv a b => t127_19 be a b hl K1 K0 hk (by omega)
      · exact t80_i ks hn K2 hk (by rw [hk]; rfl) (by omega)
      · exact X2 hk rfl fun g kv a b => t127_20 be a b hl K1 K0 hk (by omega)
    · exact X2 hk rfl fun g kv a b => t127_16 be a b hl K1 K0 hk (by omega) (by omega) (by omega)
    · rcases h4 with h2 | h3
      · exact X2 hk rfl fun g kv a b => t127_17a be a b hl K1 K0 hk (by omega) (by omega) h2 (by rw [h2]; rfl)
      · exact X2 hk rfl fun g kv a b => t127_17b be a b hl K1 K0 hk (by omega) (by omega) (by omega) h3 (by rw [h3]; rfl)

/-! ### tokens in a row -/
/-- Tokens behind what there is, with a blank between. -/
def js (b : BA) : List BA → BA
  | [] => b
  | x :: xs => js ((if 0 < b.size then b ++ ⟨#[32]⟩ else b) ++ x) xs
theorem js_app (b : BA) : ∀ (xs ys : List BA), js b (xs ++ ys) = js (js b xs) ys := by
  intro xs
  induction xs generalizing b with
  | nil => intro ys; rfl
  | cons x xs ih => intro ys; exact ih _ ys
def tkOk (x : BA) : Prop := 0 < x.size ∧ x.size ≤ 200
theorem cm_ok {F : Int → List BA} : ∀ (ks : List Int) (j : Nat), (∀ k ∈ ks, ∀ x ∈ F k, tkOk x) → ∀ x ∈ cm F j ks, tkOk x
  | [], j, _, x, hx => by simp [cm] at hx
  | k :: ks, 0, h, x, hx => by
    simp only [cm, List.mem_append] at hx
    exact hx.elim (h k (by simp) x) (cm_ok ks 1 (fun k hk => h k (List.mem_cons_of_mem _ hk)) x)
  | k :: ks, j + 1, h, x, hx => by
    simp only [cm, List.mem_append, List.mem_singleton] at hx
    rcases hx with (rfl | hx) | hx
    · exact ⟨by decide, by decide⟩
    · exact h k (by simp) x hx
    · exact cm_ok ks (j + 2) (fun k hk => h k (List.mem_cons_of_mem _ hk)) x hx
theorem dg_pos : ∀ (f : Nat) (n : Int) (t : BA), 0 < f → 0 < (dg f n t).size
  | f + 1, n, t, _ => by
    have h1 : ∀ m, (dgt m ++ t).size = 1 + t.size := fun m => by rw [ByteArray.size_append]; rfl
    rw [dg]
    split
    · rw [h1]; omega
    · cases f with
      | zero => rw [dg, h1]; omega
      | succ f => exact dg_pos (f + 1) _ _ (by omega)
theorem words_ok {l : List BA} {i : Int} (hl : ∀ x ∈ l.tail, tkOk x) (h0 : 1 ≤ i) (h1 : i.toNat < l.length) : tkOk (l.getD i.toNat ⟨#[]⟩) := by
  obtain ⟨m, hm⟩ : ∃ m, i.toNat = m + 1 := ⟨i.toNat - 1, by omega⟩
  rw [hm] at h1 ⊢
  cases l with
  | nil => simp at h1
  | cons a l =>
    simp at h1
    refine hl _ ?_
    simp [h1]
theorem opW_ok : ∀ x ∈ opW.tail, tkOk x := by
  intro x hx
  simp [opW] at hx
  rcases hx with rfl | rfl | rfl | rfl | rfl | rfl | rfl | rfl | rfl | rfl <;> exact ⟨by decide, by decide⟩
theorem turnW_ok : ∀ x ∈ turnW.tail, tkOk x := by
  intro x hx
  simp [turnW] at hx
  rcases hx with rfl | rfl | rfl <;> exact ⟨by decide, by decide⟩
theorem ntoks_ok {T : List Kn} {j : Nat} {n : Kn} (g : Good T j n) {F : Int → List BA} (hF : ∀ k ∈ n.ks, ∀ x ∈ F k, tkOk x) : ∀ x ∈ ntoks F n, tkOk x := by
  have hh := g.has
  have hd : ∀ j, j < n.ks.length → ∀ x ∈ F (n.kd j), tkOk x := fun j hj => hF _ (kd_mem hj)
  intro x hx
  rcases g.kinds with ⟨hk, hz⟩ | ⟨hk, hp⟩ | hk | ⟨hk, h2⟩ | ⟨hk, h1⟩ | ⟨hk, h3⟩ | ⟨hk, h4⟩
  · simp only [List.mem_cons, List.not_mem_nil, or_false] at hk
    rcases hk with hk | hk | hk | hk | hk | hk <;> simp only [ntoks, hk] at hx <;> simp at hx <;> subst hx
    · exact ⟨by decide, by decide⟩
    · have := has2 hh hk
      have : n.i = 0 ∨ n.i = 1 := by omega
      rcases this with e | e <;> rw [e] <;> exact ⟨by decide, by decide⟩
    · have := dg_size 20 n.i ⟨#[]⟩
      exact ⟨dg_pos 20 _ _ (by omega), by unfold digs; have e : (⟨#[]⟩ : BA).size = 0 := rfl; omega⟩
    · have := has4 hh hk
      have e : (⟨#[34]⟩ : BA).size = 1 := rfl
      unfold tkOk
      rw [ByteArray.size_append, ByteArray.size_append, e]; omega
    · have := hasN hh (by rw [hk]; rfl); unfold tkOk; omega
    · have := hasN hh (by rw [hk]; rfl); unfold tkOk; omega
  · rcases hk with hk | hk <;> simp only [ntoks, hk] at hx <;> simp at hx <;> (repeat' (refine Or.elim hx (fun hx => ?_) (fun hx => ?_))) <;> first | (subst hx; exact ⟨by decide, by decide⟩) | exact hd _ (by omega) x hx | exact cm_ok _ _ (fun k hk => hF k (List.dropLast_subset _ hk)) x hx | exact cm_ok _ _ (fun k hk => hF k (List.mem_of_mem_tail hk)) x hx | exact cm_ok _ _ hF x hx | (subst hx; assumption) | (obtain ⟨k, hk, hx⟩ := hx; exact hF k hk x hx)
  · rcases hk with hk | hk <;> simp only [ntoks, hk] at hx <;> simp at hx <;> (repeat' (refine Or.elim hx (fun hx => ?_) (fun hx => ?_))) <;> first | (subst hx; exact ⟨by decide, by decide⟩) | exact hd _ (by omega) x hx | exact cm_ok _ _ (fun k hk => hF k (List.dropLast_subset _ hk)) x hx | exact cm_ok _ _ (fun k hk => hF k (List.mem_of_mem_tail hk)) x hx | exact cm_ok _ _ hF x hx | (subst hx; assumption) | (obtain ⟨k, hk, hx⟩ := hx; exact hF k hk x hx)
  · simp only [List.mem_cons, List.not_mem_nil, or_false] at hk
    have w10 : n.k = 10 → tkOk (opW.getD n.i.toNat ⟨#[]⟩) := fun hk => by
      have := has10 hh hk
      exact words_ok opW_ok (by omega) (by show n.i.toNat < 11; omega)
    rcases hk with hk | hk | hk | hk | hk | hk <;> simp only [hk] at w10 <;> simp only [ntoks, hk] at hx <;> simp at hx w10 <;> (repeat' (refine Or.elim hx (fun hx => ?_) (fun hx => ?_))) <;> first | (subst hx; exact ⟨by decide, by decide⟩) | exact hd _ (by omega) x hx | exact cm_ok _ _ (fun k hk => hF k (List.dropLast_subset _ hk)) x hx | exact cm_ok _ _ (fun k hk => hF k (List.mem_of_mem_tail hk)) x hx | exact cm_ok _ _ hF x hx | (subst hx; assumption) | (obtain ⟨k, hk, hx⟩ := hx; exact hF k hk x hx)
  · simp only [List.mem_cons, List.not_mem_nil, or_false] at hk
    have w11 : n.k = 11 → tkOk (turnW.getD n.i.toNat ⟨#[]⟩) := fun hk => by
      have := has11 hh hk
      exact words_ok turnW_ok (by omega) (by show n.i.toNat < 4; omega)
    have wn : nm4 n.k = true → tkOk n.t := fun hk => by have := hasN hh hk; unfold tkOk; omega
    rcases hk with hk | hk | hk | hk | hk | hk <;> simp only [hk] at w11 wn <;> simp only [ntoks, hk] at hx <;> simp [nm4] at hx w11 wn <;> (repeat' (refine Or.elim hx (fun hx => ?_) (fun hx => ?_))) <;> first | (subst hx; exact ⟨by decide, by decide⟩) | exact hd _ (by omega) x hx | exact cm_ok _ _ (fun k hk => hF k (List.dropLast_subset _ hk)) x hx | exact cm_ok _ _ (fun k hk => hF k (List.mem_of_mem_tail hk)) x hx | exact cm_ok _ _ hF x hx | (subst hx; assumption) | (obtain ⟨k, hk, hx⟩ := hx; exact hF k hk x hx)
  · simp only [ntoks, hk] at hx; simp at hx; (repeat' (refine Or.elim hx (fun hx => ?_) (fun hx => ?_))) <;> first | (subst hx; exact ⟨by decide, by decide⟩) | exact hd _ (by omega) x hx | exact cm_ok _ _ (fun k hk => hF k (List.dropLast_subset _ hk)) x hx | exact cm_ok _ _ (fun k hk => hF k (List.mem_of_mem_tail hk)) x hx | exact cm_ok _ _ hF x hx | (subst hx; assumption) | (obtain ⟨k, hk, hx⟩ := hx; exact hF k hk x hx)
  · rcases h4 with h4 | h4 <;> simp only [ntoks, hk, h4] at hx <;> simp at hx <;> (repeat' (refine Or.elim hx (fun hx => ?_) (fun hx => ?_))) <;> first | (subst hx; exact ⟨by decide, by decide⟩) | exact hd _ (by omega) x hx | exact cm_ok _ _ (fun k hk => hF k (List.dropLast_subset _ hk)) x hx | exact cm_ok _ _ (fun k hk => hF k (List.mem_of_mem_tail hk)) x hx | exact cm_ok _ _ hF x hx | (subst hx; assumption) | (obtain ⟨k, hk, hx⟩ := hx; exact hF k hk x hx)
theorem toks_ok {T : List Kn} (hG : ∀ (j : Nat) (n : Kn), T[j]? = some n → Good T j n) : ∀ (f : Nat) (i : Int), 0 ≤ i → ∀ x ∈ toks T f i, tkOk x := by
  intro f
  induction f with
  | zero => intro i _ x hx; simp [toks] at hx
  | succ f ih =>
    intro i hi x hx
    rw [toks] at hx
    cases hT : T[i.toNat]? with
    | none => rw [hT] at hx; simp at hx
    | some n =>
      rw [hT] at hx
      have g := hG _ n hT
      exact ntoks_ok g (fun k hk => ih k (g.rng k hk).1) x hx
theorem js_size : ∀ (xs : List BA) (b : BA), (∀ x ∈ xs, tkOk x) → (js b xs).size ≤ b.size + xs.length * 201
  | [], b, _ => by simp [js]
  | x :: xs, b, h => by
    have := js_size xs ((if 0 < b.size then b ++ ⟨#[32]⟩ else b) ++ x) fun y hy => h y (List.mem_cons_of_mem _ hy)
    have hx := (h x (by simp)).2
    have h1 : (⟨#[32]⟩ : BA).size = 1 := rfl
    rw [js]
    rw [ByteArray.size_append] at this
    split at this
    · rename_i hp
      rw [if_pos hp]
      rw [ByteArray.size_append, h1] at this
      simp only [List.length_cons]; omega
    · rename_i hp
      rw [if_neg hp]
      simp only [List.length_cons]; omega
end Go.Proofs.Ytadmoackacickaa
/- The reference's Print. -/
set_option linter.unusedSimpArgs false
namespace Go.Proofs.Ytadmoackacickaa
open Go Go.AH

structure Right (T : List Kn) (top : Int) : Prop where
  len : T.length ≤ 3000
  pos : 0 < T.length
  top : top = (T.length : Int) - 1
  good : ∀ (j : Nat) (n : Kn), T[j]? = some n → Good T j n
  num : numP T (T.length + 1) ((T.length : Int) - 1) 0 = (T.length : Int)
  blk : kd T ((T.length : Int) - 1) = 21
theorem right_of {T : List Kn} {top : Int} (h : specOk T top = true) : Right T top := by
  have h2 : implOk T top = true := by rw [← ok_same]; exact h
  unfold implOk at h2
  by_cases hc : T.length > 3000 ∨ T.length = 0 ∨ top ≠ (T.length : Int) - 1 ∨ kd T ((T.length : Int) - 1) ≠ 21
  · rw [if_pos hc] at h2; cases h2
  · rw [if_neg hc, Bool.and_eq_true] at h2
    have c1 : ¬ T.length > 3000 := fun e => hc (.inl e)
    have c2 : ¬ T.length = 0 := fun e => hc (.inr (.inl e))
    have c3 : top = (T.length : Int) - 1 := Classical.byContradiction fun e => hc (.inr (.inr (.inl e)))
    have c4 : kd T ((T.length : Int) - 1) = 21 := Classical.byContradiction fun e => hc (.inr (.inr (.inr e)))
    refine ⟨by omega, by omega, c3, fun j n hn => ?_, by simpa using h2.2, c4⟩
    have hj : j < T.length := (List.getElem?_eq_some_iff.1 hn).1
    have := (okFrom_all _ _).1 h2.1 j (by omega) (by omega)
    unfold nodeOkI at this
    rw [hn] at this
    exact good_iff.1 this
def prBody (T : List Kn) : List BA := (toks T (T.length + 1) ((T.length : Int) - 1)).tail.dropLast
def prS (T : List Kn) (top : Int) : BA := if specOk T top = true then js ⟨#[]⟩ (prBody T) ++ ⟨#[10]⟩ else ⟨#[]⟩
theorem js_pos {b : BA} {x : BA} (hx : 0 < x.size) : 0 < ((if 0 < b.size then b ++ ⟨#[32]⟩ else b) ++ x).size := by rw [ByteArray.size_append]; omega
theorem pr_loop {C : ACall} {N : Nat} {v : Value} {L : List BA} {g : AHeap} (s : SSrc g v L) (hL : L.length ≤ 1000000) (hx : ∀ x ∈ L, tkOk x) : ∀ (k i m : Nat) (out : BA), L.length - 1 - i = k → 1 ≤ i → i < L.length → k < m → (i > 1 ↔ 0 < out.size) → out.size + k * 201 ≤ 1000000000 →
    s45_0 hk0 C N m v out (i : Int) g = some (.tuple (List.toArray [.string (js out (L.dropLast.drop i) ++ ⟨#[10]⟩), .bool true]), g) := by
  intro k
  induction k with
  | zero =>
    intro i m out hk h1 hi hm hs hb
    obtain ⟨m, rfl⟩ : ∃ q, m = q + 1 := ⟨m - 1, by omega⟩
    have wi : IntKind.i64.wrap ((i : Int) + 1) = (i : Int) + 1 := wr (by omega) (by omega)
    have : ¬ (IntKind.i64.wrap ((i : Int) + 1) < (L.length : Int)) := by rw [wi]; omega
    have hd : L.dropLast.drop i = [] := List.drop_eq_nil_of_le (by simp; omega)
    rw [s45_0_eq, hd, js]
    exact eb s.len (eb rfl (ecf (decide_eq_false this) (eb (sAdd (by have e : (⟨#[10]⟩ : BA).size = 1 := rfl; omega)) (eb rfl rfl))))
  | succ k ih =>
    intro i m out hk h1 hi hm hs hb
    obtain ⟨m, rfl⟩ : ∃ q, m = q + 1 := ⟨m - 1, by omega⟩
    have wi : IntKind.i64.wrap ((i : Int) + 1) = ((i + 1 : Nat) : Int) := by rw [wr (by omega) (by omega)]; omega
    have hlt : (IntKind.i64.wrap ((i : Int) + 1) < (L.length : Int)) := by rw [wi]; omega
    have hmem : L[i] ∈ L := List.getElem_mem hi
    have hk2 := hx _ hmem
    obtain ⟨a1, a2⟩ := s.at' i hi
    have hdr : L.dropLast.drop i = L[i] :: L.dropLast.drop (i + 1) := by
      rw [List.drop_eq_getElem_cons (by simp; omega)]; simp [List.getElem_dropLast]
    have e32 : (⟨#[32]⟩ : BA).size = 1 := rfl
    have fin : ∀ out' : BA, out'.size + k * 201 + 200 ≤ 1000000000 → s45_1 hk0 C N m v out' (i : Int) g = some (.tuple (List.toArray [.string (js (out' ++ L[i]) (L.dropLast.drop (i + 1)) ++ ⟨#[10]⟩), .bool true]), g) := by
      intro out' hb'
      have hsz : (out' ++ L[i]).size = out'.size + L[i].size := ByteArray.size_append
      have z := ih (i + 1) m (out' ++ L[i]) (by omega) (by omega) (by omega) (by omega) ⟨fun _ => by have := hk2.1; omega, fun _ => by omega⟩ (by have := hk2.2; omega)
      rw [s45_1_j, s45_1_eq]
      refine eb a1 (eb (a2 g (SF.refl _)) (eb rfl (eb (sAdd (by have := hk2.2; omega)) (eb rfl ?_))))
      rw [wi]; exact z
    rw [s45_0_eq, hdr, js]
    refine eb s.len (eb rfl (ect (decide_eq_true hlt) ?_))
    by_cases h2 : i > 1
    · have : ((i : Int) > 1) := by omega
      rw [if_pos (hs.1 h2)]
      refine ect (decide_eq_true this) (eb (sAdd (by omega)) (eb rfl ?_))
      exact fin _ (by rw [ByteArray.size_append, e32]; omega)
    · have : ¬ ((i : Int) > 1) := by omega
      rw [if_neg (fun e => h2 (hs.2 e))]
      refine ecf (decide_eq_false this) ?_
      exact fin _ (by omega)
theorem l45 {d : Nat} (hd : 1048577 < d) {nv : Value} {T : List Kn} {top : Int} {h : AHeap} (x : KSe h.size h nv T) (hb : T.length ≤ 1048576) (hN : ∀ n ∈ T, n.t.size ≤ 1048576 ∧ n.ks.length ≤ 1048576) :
    ∃ h', call Try.prog Ms (d + 13010 + 8) 45 [trVal nv top] h = some (.tuple (List.toArray [.string (prS T top), .bool (specOk T top)]), h') ∧ Ext h.size h h' := by
  have hcall : call Try.prog Ms (d + 13010 + 8) 45 [trVal nv top] h = evFn hk0 Try.prog (call Try.prog Ms (d + 13010 + 7)) M45 (d + 13010 + 7) Try.f45 [trVal nv top] h := c45 _ _ _
  rw [hcall, e45, tr_aCells x.ksl, Option.bind_some]
  have e1 := Ext.new (Nat.le_refl h.size) 35 [nv, .int .i64 top]
  have r1 := RowE.new h 35 [nv, .int .i64 top]
  simp only [aNew]
  have x1 := (x.lf (SF.ext e1).lf).mono e1.size
  generalize h.new 35 [nv, .int .i64 top] = h1 at e1 r1 x1 ⊢
  obtain ⟨a0, a1, aN⟩ := ld2 r1.row
  have aN' : aLdN h1 (ptr h.size 0) 2 = some (trVal nv top) := aN
  obtain ⟨h2, c2, e2⟩ := l20 (d := d + 10000) (by omega) (top := top) x1.ksl (Nat.le_refl _) hb hN
  have c2' : call Try.prog Ms (d + 13010 + 7) 20 [trVal nv top] h1 = some (.bool (specOk T top), h2) := by rw [show d + 13010 + 7 = d + 10000 + 3010 + 7 by omega]; exact c2
  rw [aN', Option.bind_some, c2', Option.bind_some]
  simp only [asB, Option.bind_some]
  cases hok : specOk T top with
  | false =>
    refine ⟨h2, ?_, Ext.tr e1 e2⟩
    rw [Bool.not_false, cond_true]
    unfold prS; rw [hok]; rfl
  | true =>
    rw [Bool.not_true, cond_false]
    have R := right_of hok
    have hT := R.top
    subst hT
    have L2 := (SF.ext e2).lf
    have r2 := r1.lf L2 (by decide) (by decide) (by decide)
    have x2 := (x1.lf L2).mono L2.1
    obtain ⟨b0, b1, bN⟩ := ld2 r2.row
    have bN' : aLdN h2 (ptr h.size 0) 2 = some (trVal nv ((T.length : Int) - 1)) := bN
    have hpos := R.pos
    have hlen := R.len
    have hb1 := toks_len R.good (T.length + 1) ((T.length : Int) - 1) 0 (by omega) (by omega) (by rw [R.num]; omega)
    have tk := (tok_ok (nv := nv) (top := (T.length : Int) - 1) R.len hN R.good (T.length + 1) ((T.length : Int) - 1) 0 (by omega) (by omega) (by omega) (by rw [R.num]; omega) (d + 13010 + 7) (by omega)).2 h2 x2
    obtain ⟨v, h3, c3, e3, o3⟩ := tk
    rw [bN', Option.bind_some]
    simp only [aOff_ptr, Nat.zero_add, Option.bind_some, b1, asI, if_true]
    rw [c3, Option.bind_some]
    refine ⟨h3, ?_, Ext.tr (Ext.tr e1 e2) e3⟩
    -- the top is a block
    obtain ⟨n, hn⟩ : ∃ n, T[T.length - 1]? = some n := ⟨_, List.getElem?_eq_getElem (by omega)⟩
    have hi : ((T.length : Int) - 1).toNat = T.length - 1 := by omega
    have hk21 : n.k = 21 := by
      have := R.blk
      unfold kd at this; rw [hi, hn] at this; simpa using this
    have hL : toks T (T.length + 1) ((T.length : Int) - 1) = [(⟨#[123]⟩ : BA)] ++ n.ks.flatMap (toks T T.length) ++ [(⟨#[125]⟩ : BA)] := by
      rw [toks, hi, hn]; simp [ntoks, hk21]
    have hlen2 : 2 ≤ (toks T (T.length + 1) ((T.length : Int) - 1)).length := by rw [hL]; simp
    have := pr_loop (C := call Try.prog Ms (d + 13010 + 7)) (N := d + 13010 + 7) o3.src (by omega) (toks_ok R.good _ _ (by omega)) _ 1 (d + 13010 + 7) ⟨#[]⟩ rfl (by omega) (by omega) (by omega) ⟨fun h => absurd h (by omega), fun h => absurd h (by decide)⟩ (by show 0 + _ ≤ _; omega)
    have hbd : (toks T (T.length + 1) ((T.length : Int) - 1)).dropLast.drop 1 = prBody T := by
      unfold prBody
      rw [hL]
      generalize n.ks.flatMap (toks T T.length) = X
      rw [List.dropLast_concat]
      show X = (X ++ [(⟨#[125]⟩ : BA)]).dropLast
      rw [List.dropLast_concat]
    have hps : prS T ((T.length : Int) - 1) = js ⟨#[]⟩ (prBody T) ++ ⟨#[10]⟩ := by unfold prS; rw [if_pos hok]
    rw [hps, ← hbd]
    exact this
end Go.Proofs.Ytadmoackacickaa
set_option linter.unusedVariables false
namespace Go.Proofs.Ytadmoackacickaa
open Go Go.AH
/-! 109 (*loop.example/g00101/impl.parser).want -/
theorem e109 (hk : Hk (Value × AHeap)) (C : ACall) (N : Nat) (x0 : Value) (x1 : ByteArray) (h : AHeap) : evFn hk Try.prog C M109 N Try.f109 [x0, .string x1] h =
    (C 107 [x0, .string x1] h).bind fun r1 => (asB r1.1).bind fun b2 => bif !b2 then (C 156 [x0, .int .i64 2] r1.2).bind fun r3 => some (.tuple (List.toArray []), r3.2) else some (.tuple (List.toArray []), r1.2) := by kernel_rfl
theorem c109 (d : Nat) (args : List Value) (h : AHeap) : call Try.prog Ms (d + 1) 109 args h = evFn hk0 Try.prog (call Try.prog Ms d) M109 d Try.f109 args h := by kernel_rfl

/-! 110 (*loop.example/g00101/impl.parser).whole -/
theorem e110 (hk : Hk (Value × AHeap)) (C : ACall) (N : Nat) (x0 : Value) (h : AHeap) : evFn hk Try.prog C M110 N Try.f110 [x0] h =
    (C 157 [x0] h).bind fun r1 => (C 158 [x0] r1.2).bind fun r2 => (asI .i64 r2.1).bind fun n3 => (aNil x0).bind fun v4 => (aOff v4 3).bind fun v5 => (aLd1 r2.2 v5).bind fun v6 => (asI .i64 v6).bind fun n7 => (aNil x0).bind fun v8 => (aOff v8 3).bind fun v9 => (aSt r2.2 v9 (.int .i64 (IntKind.i64.wrap (n7 - 1))) 1).bind fun h10 => some (.int .i64 n3, h10) := by kernel_rfl
theorem c110 (d : Nat) (args : List Value) (h : AHeap) : call Try.prog Ms (d + 1) 110 args h = evFn hk0 Try.prog (call Try.prog Ms d) M110 d Try.f110 args h := by kernel_rfl

/-! 111 (*loop.example/g00101/impl.parser).block -/
noncomputable def F111_0 (hk : Hk (Value × AHeap)) (C : ACall) (N : Nat) (n1 : Nat) : Nx (Value × AHeap) := evSt hk Try.prog C M111 N Try.f111 [1, 1, 1, 1, 0, 2, 6] [n1]
noncomputable def s111_0 (hk : Hk (Value × AHeap)) (C : ACall) (N : Nat) (n1 : Nat) (x0 : Value) (x3 : Value) (h : AHeap) := F111_0 hk C N n1 (⟨38, [(0, x0), (3, x3)]⟩) h
noncomputable def F111_1 (hk : Hk (Value × AHeap)) (C : ACall) (N : Nat) (n1 : Nat) : Nx (Value × AHeap) := evSt hk Try.prog C M111 N Try.f111 [1, 1, 1, 1, 0, 2, 3, 1] [n1]
noncomputable def s111_1 (hk : Hk (Value × AHeap)) (C : ACall) (N : Nat) (n1 : Nat) (x0 : Value) (x3 : Value) (h : AHeap) := hk 5 (⟨38, [(0, x0), (3, x3)]⟩) h (F111_1 hk C N n1)
theorem e111 (hk : Hk (Value × AHeap)) (C : ACall) (N : Nat) (x0 : Value) (h : AHeap) : evFn hk Try.prog C M111 N Try.f111 [x0] h =
    (C 157 [x0] h).bind fun r1 => (C 109 [x0, .string (⟨#[123]⟩)] r1.2).bind fun r2 => aNewS r2.2 3 [] 0 fun p3 h4 => s111_0 hk C N N x0 p3 h4 := by kernel_rfl
theorem s111_0_eq (hk : Hk (Value × AHeap)) (C : ACall) (N : Nat) (n1 : Nat) (x0 : Value) (x3 : Value) (h : AHeap) : s111_0 hk C N (n1 + 1) x0 x3 h =
    (aNil x0).bind fun v5 => (aOff v5 5).bind fun v6 => (aLd1 h v6).bind fun v7 => (asI .i64 v7).bind fun n8 => bif n8 == 0 then (C 154 [x0, .string (⟨#[125]⟩)] h).bind fun r9 => (asB r9.1).bind fun b10 => bif !b10 then s111_1 hk C N n1 x0 x3 r9.2 else (C 109 [x0, .string (⟨#[125]⟩)] r9.2).bind fun r11 => (aNil x0).bind fun v12 => (aOff v12 3).bind fun v13 => (aLd1 r11.2 v13).bind fun v14 => (asI .i64 v14).bind fun n15 => (aNil x0).bind fun v16 => (aOff v16 3).bind fun v17 => (aSt r11.2 v17 (.int .i64 (IntKind.i64.wrap (n15 - 1))) 1).bind fun h18 => (C 64 [x0, .int .i64 21, .string ⟨#[]⟩, .int .i64 0, x3] h18).bind fun r19 => (asI .i64 r19.1).bind fun n20 => some (.int .i64 n20, r19.2) else (C 109 [x0, .string (⟨#[125]⟩)] h).bind fun r21 => (aNil x0).bind fun v22 => (aOff v22 3).bind fun v23 => (aLd1 r21.2 v23).bind fun v24 => (asI .i64 v24).bind fun n25 => (aNil x0).bind fun v26 => (aOff v26 3).bind fun v27 => (aSt r21.2 v27 (.int .i64 (IntKind.i64.wrap (n25 - 1))) 1).bind fun h28 => (C 64 [x0, .int .i64 21, .string ⟨#[]⟩, .int .i64 0, x3] h28).bind fun r29 => (asI .i64 r29.1).bind fun n30 => some (.int .i64 n30, r29.2) := by kernel_rfl
theorem s111_1_j (C : ACall) (N : Nat) (n1 : Nat) (x0 : Value) (x3 : Value) (h : AHeap) : s111_1 hk0 C N n1 x0 x3 h = F111_1 hk0 C N n1 (⟨38, [(0, x0), (3, x3)]⟩) h := by delta s111_1; exact hk0_app _ _ _ _
theorem s111_1_eq (hk : Hk (Value × AHeap)) (C : ACall) (N : Nat) (n1 : Nat) (x0 : Value) (x3 : Value) (h : AHeap) : F111_1 hk C N n1 (⟨38, [(0, x0), (3, x3)]⟩) h =
    (C 63 [x0] h).bind fun r31 => (asI .i64 r31.1).bind fun n32 => aNewS r31.2 3 [.int .i64 n32] 1 fun p33 h34 => (aApp h34 3 1 8 x3 p33).bind fun r35 => s111_0 hk C N n1 x0 r35.1 r35.2 := by kernel_rfl
theorem c111 (d : Nat) (args : List Value) (h : AHeap) : call Try.prog Ms (d + 1) 111 args h = evFn hk0 Try.prog (call Try.prog Ms d) M111 d Try.f111 args h := by kernel_rfl

/-! 112 (*loop.example/g00101/impl.parser).begun -/
noncomputable def F112_0 (hk : Hk (Value × AHeap)) (C : ACall) (N : Nat) : Nx (Value × AHeap) := evSt hk Try.prog C M112 N Try.f112 [1, 1, 1, 1, 0, 2, 1] []
noncomputable def s112_0 (hk : Hk (Value × AHeap)) (C : ACall) (N : Nat) (x0 : Value) (x3 : Int) (x4 : Value) (x21 : Bool) (h : AHeap) := hk 100006 (⟨95, [(0, x0), (3, .int .i64 x3), (4, x4), (21, .bool x21)]⟩) h (F112_0 hk C N)
noncomputable def F112_1 (hk : Hk (Value × AHeap)) (C : ACall) (N : Nat) : Nx (Value × AHeap) := evSt hk Try.prog C M112 N Try.f112 [1, 1, 1, 1, 0, 2, 1, 5, 1] []
noncomputable def s112_1 (hk : Hk (Value × AHeap)) (C : ACall) (N : Nat) (x0 : Value) (x3 : Int) (x4 : Value) (x33 : Bool) (h : AHeap) := hk 100008 (⟨95, [(0, x0), (3, .int .i64 x3), (4, x4), (33, .bool x33)]⟩) h (F112_1 hk C N)
noncomputable def F112_2 (hk : Hk (Value × AHeap)) (C : ACall) (N : Nat) : Nx (Value × AHeap) := evSt hk Try.prog C M112 N Try.f112 [1, 1, 1, 1, 0, 2, 1, 5, 1, 5, 1] []
noncomputable def s112_2 (hk : Hk (Value × AHeap)) (C : ACall) (N : Nat) (x0 : Value) (x3 : Int) (x4 : Value) (x60 : Bool) (h : AHeap) := hk 100013 (⟨95, [(0, x0), (3, .int .i64 x3), (4, x4), (60, .bool x60)]⟩) h (F112_2 hk C N)
noncomputable def F112_3 (hk : Hk (Value × AHeap)) (C : ACall) (N : Nat) : Nx (Value × AHeap) := evSt hk Try.prog C M112 N Try.f112 [1, 1, 1, 1, 1] []
noncomputable def s112_3 (hk : Hk (Value × AHeap)) (C : ACall) (N : Nat) (x0 : Value) (h : AHeap) := hk 17 (⟨95, [(0, x0)]⟩) h (F112_3 hk C N)
theorem e112 (hk : Hk (Value × AHeap)) (C : ACall) (N : Nat) (x0 : Value) (h : AHeap) : evFn hk Try.prog C M112 N Try.f112 [x0] h =
    (C 110 [x0] h).bind fun r1 => (asI .i64 r1.1).bind fun n2 => (aNil x0).bind fun v3 => (aOff v3 5).bind fun v4 => (aLd1 r1.2 v4).bind fun v5 => (asI .i64 v5).bind fun n6 => bif n6 != 0 then some (.int .i64 0, r1.2) else (aNil x0).bind fun v7 => (aOff v7 4).bind fun v8 => (aLd1 r1.2 v8).bind fun v9 => (aIdx v9 (.int .i64 n2) 4).bind fun v10 => (aLdN r1.2 v10 4).bind fun v11 => aNew r1.2 73 [.int .i64 0, .string ⟨#[]⟩, .int .i64 0, .slice none 0 0] fun p12 h13 => (aSt h13 p12 v11 4).bind fun h14 => (aOff p12 0).bind fun v15 => (aLd1 h14 v15).bind fun v16 => (asI .i64 v16).bind fun n17 => bif n17 == 9 then (C 107 [x0, .string (⟨#[59]⟩)] h14).bind fun r18 => (asB r18.1).bind fun b19 => s112_0 hk C N x0 n2 p12 b19 r18.2 else s112_0 hk C N x0 n2 p12 false h14 := by kernel_rfl
theorem s112_0_j (C : ACall) (N : Nat) (x0 : Value) (x3 : Int) (x4 : Value) (x21 : Bool) (h : AHeap) : s112_0 hk0 C N x0 x3 x4 x21 h = F112_0 hk0 C N (⟨95, [(0, x0), (3, .int .i64 x3), (4, x4), (21, .bool x21)]⟩) h := by delta s112_0; exact hk0_app _ _ _ _
theorem s112_0_eq (hk : Hk (Value × AHeap)) (C : ACall) (N : Nat) (x0 : Value) (x3 : Int) (x4 : Value) (x21 : Bool) (h : AHeap) : F112_0 hk C N (⟨95, [(0, x0), (3, .int .i64 x3), (4, x4), (21, .bool x21)]⟩) h =
    bif x21 then aNewS h 3 [.int .i64 x3] 1 fun p20 h21 => (C 64 [x0, .int .i64 20, .string ⟨#[]⟩, .int .i64 0, p20] h21).bind fun r22 => (asI .i64 r22.1).bind fun n23 => some (.int .i64 n23, r22.2) else (aOff x4 0).bind fun v24 => (aLd1 h v24).bind fun v25 => (asI .i64 v25).bind fun n26 => bif n26 == 5 then (C 107 [x0, .string (⟨#[61]⟩)] h).bind fun r27 => (asB r27.1).bind fun b28 => s112_1 hk C N x0 x3 x4 b28 r27.2 else s112_1 hk C N x0 x3 x4 false h := by kernel_rfl
theorem s112_1_j (C : ACall) (N : Nat) (x0 : Value) (x3 : Int) (x4 : Value) (x33 : Bool) (h : AHeap) : s112_1 hk0 C N x0 x3 x4 x33 h = F112_1 hk0 C N (⟨95, [(0, x0), (3, .int .i64 x3), (4, x4), (33, .bool x33)]⟩) h := by delta s112_1; exact hk0_app _ _ _ _
theorem s112_1_eq (hk : Hk (Value × AHeap)) (C : ACall) (N : Nat) (x0 : Value) (x3 : Int) (x4 : Value) (x33 : Bool) (h : AHeap) : F112_1 hk C N (⟨95, [(0, x0), (3, .int .i64 x3), (4, x4), (33, .bool x33)]⟩) h =
    bif x33 then (aNil x0).bind fun v29 => (aOff v29 4).bind fun v30 => (aLd1 h v30).bind fun v31 => (aSub h 73 v31 none (some (.int .i64 x3)) 4).bind fun v32 => (aNil x0).bind fun v33 => (aOff v33 4).bind fun v34 => (aSt h v34 v32 1).bind fun h35 => (C 110 [x0] h35).bind fun r36 => (asI .i64 r36.1).bind fun n37 => (C 109 [x0, .string (⟨#[59]⟩)] r36.2).bind fun r38 => (aOff x4 1).bind fun v39 => (aLd1 r38.2 v39).bind fun v40 => (asS v40).bind fun t41 => aNewS r38.2 3 [.int .i64 n37] 1 fun p42 h43 => (C 64 [x0, .int .i64 15, .string t41, .int .i64 0, p42] h43).bind fun r44 => (asI .i64 r44.1).bind fun n45 => some (.int .i64 n45, r44.2) else (aOff x4 0).bind fun v46 => (aLd1 h v46).bind fun v47 => (asI .i64 v47).bind fun n48 => bif n48 == 8 then (C 107 [x0, .string (⟨#[61]⟩)] h).bind fun r49 => (asB r49.1).bind fun b50 => s112_2 hk C N x0 x3 x4 b50 r49.2 else s112_2 hk C N x0 x3 x4 false h := by kernel_rfl
theorem s112_2_j (C : ACall) (N : Nat) (x0 : Value) (x3 : Int) (x4 : Value) (x60 : Bool) (h : AHeap) : s112_2 hk0 C N x0 x3 x4 x60 h = F112_2 hk0 C N (⟨95, [(0, x0), (3, .int .i64 x3), (4, x4), (60, .bool x60)]⟩) h := by delta s112_2; exact hk0_app _ _ _ _
theorem s112_2_eq (hk : Hk (Value × AHeap)) (C : ACall) (N : Nat) (x0 : Value) (x3 : Int) (x4 : Value) (x60 : Bool) (h : AHeap) : F112_2 hk C N (⟨95, [(0, x0), (3, .int .i64 x3), (4, x4), (60, .bool x60)]⟩) h =
    bif x60 then (aNil x0).bind fun v51 => (aOff v51 4).bind fun v52 => (aLd1 h v52).bind fun v53 => (aSub h 73 v53 none (some (.int .i64 x3)) 4).bind fun v54 => (aNil x0).bind fun v55 => (aOff v55 4).bind fun v56 => (aSt h v56 v54 1).bind fun h57 => (C 110 [x0] h57).bind fun r58 => (asI .i64 r58.1).bind fun n59 => (C 109 [x0, .string (⟨#[59]⟩)] r58.2).bind fun r60 => (aOff x4 3).bind fun v61 => (aLd1 r60.2 v61).bind fun v62 => (aIdx v62 (.int .i64 0) 1).bind fun v63 => (aLd1 r60.2 v63).bind fun v64 => (asI .i64 v64).bind fun n65 => (aOff x4 3).bind fun v66 => (aLd1 r60.2 v66).bind fun v67 => (aIdx v67 (.int .i64 1) 1).bind fun v68 => (aLd1 r60.2 v68).bind fun v69 => (asI .i64 v69).bind fun n70 => aNewS r60.2 3 [.int .i64 n65, .int .i64 n70, .int .i64 n59] 3 fun p71 h72 => (C 64 [x0, .int .i64 16, .string ⟨#[]⟩, .int .i64 0, p71] h72).bind fun r73 => (asI .i64 r73.1).bind fun n74 => some (.int .i64 n74, r73.2) else s112_3 hk C N x0 h := by kernel_rfl
theorem s112_3_j (C : ACall) (N : Nat) (x0 : Value) (h : AHeap) : s112_3 hk0 C N x0 h = F112_3 hk0 C N (⟨95, [(0, x0)]⟩) h := by delta s112_3; exact hk0_app _ _ _ _
theorem s112_3_eq (hk : Hk (Value × AHeap)) (C : ACall) (N : Nat) (x0 : Value) (h : AHeap) : F112_3 hk C N (⟨95, [(0, x0)]⟩) h =
    (C 156 [x0, .int .i64 2] h).bind fun r75 => some (.int .i64 0, r75.2) := by kernel_rfl
theorem c112 (d : Nat) (args : List Value) (h : AHeap) : call Try.prog Ms (d + 1) 112 args h = evFn hk0 Try.prog (call Try.prog Ms d) M112 d Try.f112 args h := by kernel_rfl

/-! 120 slices.Index[[]string,string] -/
noncomputable def F120_0 (hk : Hk (Value × AHeap)) (C : ACall) (N : Nat) (n1 : Nat) : Nx (Value × AHeap) := evSt hk Try.prog C M120 N Try.f120 [1, 0, 1, 2, 6] [n1]
noncomputable def s120_0 (hk : Hk (Value × AHeap)) (C : ACall) (N : Nat) (n1 : Nat) (x0 : Value) (x1 : ByteArray) (x7 : Int) (x8 : Int) (h : AHeap) := F120_0 hk C N n1 (⟨19, [(0, x0), (1, .string x1), (7, .int .i64 x7), (8, .int .i64 x8)]⟩) h
theorem e120 (hk : Hk (Value × AHeap)) (C : ACall) (N : Nat) (x0 : Value) (x1 : ByteArray) (h : AHeap) : evFn hk Try.prog C M120 N Try.f120 [x0, .string x1] h =
    (aLen x0).bind fun v1 => (asI .i64 v1).bind fun n2 => s120_0 hk C N N x0 x1 n2 0 h := by kernel_rfl
theorem s120_0_eq (hk : Hk (Value × AHeap)) (C : ACall) (N : Nat) (n1 : Nat) (x0 : Value) (x1 : ByteArray) (x7 : Int) (x8 : Int) (h : AHeap) : s120_0 hk C N (n1 + 1) x0 x1 x7 x8 h =
    bif decide (x8 < x7) then (aIdx x0 (.int .i64 x8) 1).bind fun v3 => (aLd1 h v3).bind fun v4 => (asS v4).bind fun t5 => bif x1.toList == t5.toList then some (.int .i64 x8, h) else s120_0 hk C N n1 x0 x1 x7 (IntKind.i64.wrap (x8 + 1)) h else some (.int .i64 (-1), h) := by kernel_rfl
theorem c120 (d : Nat) (args : List Value) (h : AHeap) : call Try.prog Ms (d + 1) 120 args h = evFn hk0 Try.prog (call Try.prog Ms d) M120 d Try.f120 args h := by kernel_rfl

/-! 154 (*loop.example/g00101/impl.parser).is -/
theorem e154 (hk : Hk (Value × AHeap)) (C : ACall) (N : Nat) (x0 : Value) (x1 : ByteArray) (h : AHeap) : evFn hk Try.prog C M154 N Try.f154 [x0, .string x1] h =
    (C 155 [x0] h).bind fun r1 => aNew r1.2 53 [.int .i64 0, .int .i64 0, .string ⟨#[]⟩, .int .i64 0] fun p2 h3 => (aSt h3 p2 r1.1 4).bind fun h4 => (aOff p2 0).bind fun v5 => (aLd1 h4 v5).bind fun v6 => (asI .i64 v6).bind fun n7 => bif n7 == 5 then (aOff p2 2).bind fun v8 => (aLd1 h4 v8).bind fun v9 => (asS v9).bind fun t10 => some (.bool (t10.toList == x1.toList), h4) else (aOff p2 0).bind fun v11 => (aLd1 h4 v11).bind fun v12 => (asI .i64 v12).bind fun n13 => bif n13 == 2 then (aOff p2 2).bind fun v14 => (aLd1 h4 v14).bind fun v15 => (asS v15).bind fun t16 => some (.bool (t16.toList == x1.toList), h4) else some (.bool false, h4) := by kernel_rfl
theorem c154 (d : Nat) (args : List Value) (h : AHeap) : call Try.prog Ms (d + 1) 154 args h = evFn hk0 Try.prog (call Try.prog Ms d) M154 d Try.f154 args h := by kernel_rfl

/-! 155 (*loop.example/g00101/impl.parser).peek -/
noncomputable def F155_0 (hk : Hk (Value × AHeap)) (C : ACall) (N : Nat) : Nx (Value × AHeap) := evSt hk Try.prog C M155 N Try.f155 [1, 0, 1] []
noncomputable def s155_0 (hk : Hk (Value × AHeap)) (C : ACall) (N : Nat) (x0 : Value) (x2 : Value) (x19 : Bool) (h : AHeap) := hk 100002 (⟨35, [(0, x0), (2, x2), (19, .bool x19)]⟩) h (F155_0 hk C N)
noncomputable def F155_1 (hk : Hk (Value × AHeap)) (C : ACall) (N : Nat) : Nx (Value × AHeap) := evSt hk Try.prog C M155 N Try.f155 [1, 1] []
noncomputable def s155_1 (hk : Hk (Value × AHeap)) (C : ACall) (N : Nat) (x0 : Value) (x2 : Value) (h : AHeap) := hk 3 (⟨35, [(0, x0), (2, x2)]⟩) h (F155_1 hk C N)
theorem e155 (hk : Hk (Value × AHeap)) (C : ACall) (N : Nat) (x0 : Value) (h : AHeap) : evFn hk Try.prog C M155 N Try.f155 [x0] h =
    aNew h 53 [.int .i64 0, .int .i64 0, .string ⟨#[]⟩, .int .i64 0] fun p1 h2 => (aNil x0).bind fun v3 => (aOff v3 5).bind fun v4 => (aLd1 h2 v4).bind fun v5 => (asI .i64 v5).bind fun n6 => bif n6 != 0 then s155_0 hk C N x0 p1 true h2 else (aNil x0).bind fun v7 => (aOff v7 1).bind fun v8 => (aLd1 h2 v8).bind fun v9 => (asI .i64 v9).bind fun n10 => (aNil x0).bind fun v11 => (aOff v11 0).bind fun v12 => (aLd1 h2 v12).bind fun v13 => (aLen v13).bind fun v14 => (asI .i64 v14).bind fun n15 => s155_0 hk C N x0 p1 (decide (n10 ≥ n15)) h2 := by kernel_rfl
theorem s155_0_j (C : ACall) (N : Nat) (x0 : Value) (x2 : Value) (x19 : Bool) (h : AHeap) : s155_0 hk0 C N x0 x2 x19 h = F155_0 hk0 C N (⟨35, [(0, x0), (2, x2), (19, .bool x19)]⟩) h := by delta s155_0; exact hk0_app _ _ _ _
theorem s155_0_eq (hk : Hk (Value × AHeap)) (C : ACall) (N : Nat) (x0 : Value) (x2 : Value) (x19 : Bool) (h : AHeap) : F155_0 hk C N (⟨35, [(0, x0), (2, x2), (19, .bool x19)]⟩) h =
    bif x19 then (aNil x0).bind fun v16 => (aOff v16 2).bind fun v17 => (aLd1 h v17).bind fun v18 => (asI .i64 v18).bind fun n19 => (aSt h x2 (.agg (List.toArray [.int .i64 0, .int .i64 n19, .string ⟨#[]⟩, .int .i64 0])) 4).bind fun h20 => (aLdN h20 x2 4).bind fun v21 => some (v21, h20) else s155_1 hk C N x0 x2 h := by kernel_rfl
theorem s155_1_j (C : ACall) (N : Nat) (x0 : Value) (x2 : Value) (h : AHeap) : s155_1 hk0 C N x0 x2 h = F155_1 hk0 C N (⟨35, [(0, x0), (2, x2)]⟩) h := by delta s155_1; exact hk0_app _ _ _ _
theorem s155_1_eq (hk : Hk (Value × AHeap)) (C : ACall) (N : Nat) (x0 : Value) (x2 : Value) (h : AHeap) : F155_1 hk C N (⟨35, [(0, x0), (2, x2)]⟩) h =
    (aNil x0).bind fun v22 => (aOff v22 0).bind fun v23 => (aLd1 h v23).bind fun v24 => (aNil x0).bind fun v25 => (aOff v25 1).bind fun v26 => (aLd1 h v26).bind fun v27 => (asI .i64 v27).bind fun n28 => (aIdx v24 (.int .i64 n28) 4).bind fun v29 => (aLdN h v29 4).bind fun v30 => (aSt h x2 v30 4).bind fun h31 => (aLdN h31 x2 4).bind fun v32 => some (v32, h31) := by kernel_rfl
theorem c155 (d : Nat) (args : List Value) (h : AHeap) : call Try.prog Ms (d + 1) 155 args h = evFn hk0 Try.prog (call Try.prog Ms d) M155 d Try.f155 args h := by kernel_rfl

/-! 156 (*loop.example/g00101/impl.parser).fail -/
theorem e156 (hk : Hk (Value × AHeap)) (C : ACall) (N : Nat) (x0 : Value) (x1 : Int) (h : AHeap) : evFn hk Try.prog C M156 N Try.f156 [x0, .int .i64 x1] h =
    (aNil x0).bind fun v1 => (aOff v1 5).bind fun v2 => (aLd1 h v2).bind fun v3 => (asI .i64 v3).bind fun n4 => bif n4 == 0 then (C 155 [x0] h).bind fun r5 => (aPart r5.1 1 1 false).bind fun v6 => (asI .i64 v6).bind fun n7 => (aNil x0).bind fun v8 => (aOff v8 6).bind fun v9 => (aSt r5.2 v9 (.int .i64 n7) 1).bind fun h10 => (aNil x0).bind fun v11 => (aOff v11 5).bind fun v12 => (aSt h10 v12 (.int .i64 x1) 1).bind fun h13 => some (.tuple (List.toArray []), h13) else some (.tuple (List.toArray []), h) := by kernel_rfl
theorem c156 (d : Nat) (args : List Value) (h : AHeap) : call Try.prog Ms (d + 1) 156 args h = evFn hk0 Try.prog (call Try.prog Ms d) M156 d Try.f156 args h := by kernel_rfl

/-! 157 (*loop.example/g00101/impl.parser).open -/
noncomputable def F157_0 (hk : Hk (Value × AHeap)) (C : ACall) (N : Nat) : Nx (Value × AHeap) := evSt hk Try.prog C M157 N Try.f157 [0, 1] []
noncomputable def s157_0 (hk : Hk (Value × AHeap)) (C : ACall) (N : Nat) (x0 : Value) (x12 : Bool) (h : AHeap) := hk 100001 (⟨22, [(0, x0), (12, .bool x12)]⟩) h (F157_0 hk C N)
noncomputable def F157_1 (hk : Hk (Value × AHeap)) (C : ACall) (N : Nat) : Nx (Value × AHeap) := evSt hk Try.prog C M157 N Try.f157 [1] []
noncomputable def s157_1 (hk : Hk (Value × AHeap)) (C : ACall) (N : Nat) (x0 : Value) (h : AHeap) := hk 2 (⟨22, [(0, x0)]⟩) h (F157_1 hk C N)
theorem e157 (hk : Hk (Value × AHeap)) (C : ACall) (N : Nat) (x0 : Value) (h : AHeap) : evFn hk Try.prog C M157 N Try.f157 [x0] h =
    (C 155 [x0] h).bind fun r1 => (aPart r1.1 0 1 false).bind fun v2 => (asI .i64 v2).bind fun n3 => bif n3 != 0 then (aNil x0).bind fun v4 => (aOff v4 3).bind fun v5 => (aLd1 r1.2 v5).bind fun v6 => (asI .i64 v6).bind fun n7 => s157_0 hk C N x0 (n7 == 30) r1.2 else s157_0 hk C N x0 false r1.2 := by kernel_rfl
theorem s157_0_j (C : ACall) (N : Nat) (x0 : Value) (x12 : Bool) (h : AHeap) : s157_0 hk0 C N x0 x12 h = F157_0 hk0 C N (⟨22, [(0, x0), (12, .bool x12)]⟩) h := by delta s157_0; exact hk0_app _ _ _ _
theorem s157_0_eq (hk : Hk (Value × AHeap)) (C : ACall) (N : Nat) (x0 : Value) (x12 : Bool) (h : AHeap) : F157_0 hk C N (⟨22, [(0, x0), (12, .bool x12)]⟩) h =
    bif x12 then (C 156 [x0, .int .i64 3] h).bind fun r8 => s157_1 hk C N x0 r8.2 else s157_1 hk C N x0 h := by kernel_rfl
theorem s157_1_j (C : ACall) (N : Nat) (x0 : Value) (h : AHeap) : s157_1 hk0 C N x0 h = F157_1 hk0 C N (⟨22, [(0, x0)]⟩) h := by delta s157_1; exact hk0_app _ _ _ _
theorem s157_1_eq (hk : Hk (Value × AHeap)) (C : ACall) (N : Nat) (x0 : Value) (h : AHeap) : F157_1 hk C N (⟨22, [(0, x0)]⟩) h =
    (aNil x0).bind fun v9 => (aOff v9 3).bind fun v10 => (aLd1 h v10).bind fun v11 => (asI .i64 v11).bind fun n12 => (aNil x0).bind fun v13 => (aOff v13 3).bind fun v14 => (aSt h v14 (.int .i64 (IntKind.i64.wrap (n12 + 1))) 1).bind fun h15 => some (.tuple (List.toArray []), h15) := by kernel_rfl
theorem c157 (d : Nat) (args : List Value) (h : AHeap) : call Try.prog Ms (d + 1) 157 args h = evFn hk0 Try.prog (call Try.prog Ms d) M157 d Try.f157 args h := by kernel_rfl

/-! 158 (*loop.example/g00101/impl.parser).or -/
noncomputable def F158_0 (hk : Hk (Value × AHeap)) (C : ACall) (N : Nat) (n1 : Nat) : Nx (Value × AHeap) := evSt hk Try.prog C M158 N Try.f158 [1, 1, 0, 2, 6] [n1]
noncomputable def s158_0 (hk : Hk (Value × AHeap)) (C : ACall) (N : Nat) (n1 : Nat) (x0 : Value) (x3 : Int) (h : AHeap) := F158_0 hk C N n1 (⟨17, [(0, x0), (3, .int .i64 x3)]⟩) h
theorem e158 (hk : Hk (Value × AHeap)) (C : ACall) (N : Nat) (x0 : Value) (h : AHeap) : evFn hk Try.prog C M158 N Try.f158 [x0] h =
    (C 188 [x0] h).bind fun r1 => (asI .i64 r1.1).bind fun n2 => s158_0 hk C N N x0 n2 r1.2 := by kernel_rfl
theorem s158_0_eq (hk : Hk (Value × AHeap)) (C : ACall) (N : Nat) (n1 : Nat) (x0 : Value) (x3 : Int) (h : AHeap) : s158_0 hk C N (n1 + 1) x0 x3 h =
    (C 107 [x0, .string (⟨#[111, 114]⟩)] h).bind fun r3 => (asB r3.1).bind fun b4 => bif b4 then (C 188 [x0] r3.2).bind fun r5 => (asI .i64 r5.1).bind fun n6 => aNewS r5.2 3 [.int .i64 x3, .int .i64 n6] 2 fun p7 h8 => (C 64 [x0, .int .i64 13, .string ⟨#[]⟩, .int .i64 0, p7] h8).bind fun r9 => (asI .i64 r9.1).bind fun n10 => s158_0 hk C N n1 x0 n10 r9.2 else some (.int .i64 x3, r3.2) := by kernel_rfl
theorem c158 (d : Nat) (args : List Value) (h : AHeap) : call Try.prog Ms (d + 1) 158 args h = evFn hk0 Try.prog (call Try.prog Ms d) M158 d Try.f158 args h := by kernel_rfl

/-! 172 loop.example/g00101/impl.opTexts -/
theorem e172 (hk : Hk (Value × AHeap)) (C : ACall) (N : Nat) (h : AHeap) : evFn hk Try.prog C M172 N Try.f172 [] h =
    aNewS h 9 [.string (⟨#[43]⟩), .string (⟨#[45]⟩), .string (⟨#[42]⟩), .string (⟨#[47]⟩), .string (⟨#[37]⟩), .string (⟨#[46, 46]⟩), .string (⟨#[61, 61]⟩), .string (⟨#[126, 61]⟩), .string (⟨#[60]⟩), .string (⟨#[60, 61]⟩)] 10 fun p1 h2 => some (p1, h2) := by kernel_rfl
theorem c172 (d : Nat) (args : List Value) (h : AHeap) : call Try.prog Ms (d + 1) 172 args h = evFn hk0 Try.prog (call Try.prog Ms d) M172 d Try.f172 args h := by kernel_rfl

/-! 188 (*loop.example/g00101/impl.parser).and -/
noncomputable def F188_0 (hk : Hk (Value × AHeap)) (C : ACall) (N : Nat) (n1 : Nat) : Nx (Value × AHeap) := evSt hk Try.prog C M188 N Try.f188 [1, 1, 0, 2, 6] [n1]
noncomputable def s188_0 (hk : Hk (Value × AHeap)) (C : ACall) (N : Nat) (n1 : Nat) (x0 : Value) (x3 : Int) (h : AHeap) := F188_0 hk C N n1 (⟨17, [(0, x0), (3, .int .i64 x3)]⟩) h
theorem e188 (hk : Hk (Value × AHeap)) (C : ACall) (N : Nat) (x0 : Value) (h : AHeap) : evFn hk Try.prog C M188 N Try.f188 [x0] h =
    (C 203 [x0] h).bind fun r1 => (asI .i64 r1.1).bind fun n2 => s188_0 hk C N N x0 n2 r1.2 := by kernel_rfl
theorem s188_0_eq (hk : Hk (Value × AHeap)) (C : ACall) (N : Nat) (n1 : Nat) (x0 : Value) (x3 : Int) (h : AHeap) : s188_0 hk C N (n1 + 1) x0 x3 h =
    (C 107 [x0, .string (⟨#[97, 110, 100]⟩)] h).bind fun r3 => (asB r3.1).bind fun b4 => bif b4 then (C 203 [x0] r3.2).bind fun r5 => (asI .i64 r5.1).bind fun n6 => aNewS r5.2 3 [.int .i64 x3, .int .i64 n6] 2 fun p7 h8 => (C 64 [x0, .int .i64 12, .string ⟨#[]⟩, .int .i64 0, p7] h8).bind fun r9 => (asI .i64 r9.1).bind fun n10 => s188_0 hk C N n1 x0 n10 r9.2 else some (.int .i64 x3, r3.2) := by kernel_rfl
theorem c188 (d : Nat) (args : List Value) (h : AHeap) : call Try.prog Ms (d + 1) 188 args h = evFn hk0 Try.prog (call Try.prog Ms d) M188 d Try.f188 args h := by kernel_rfl
end Go.Proofs.Ytadmoackacickaa
/- The program's printer: its state, small steps. -/
set_option linter.unusedSimpArgs false
namespace Go.Proofs.Ytadmoackacickaa
open Go Go.AH

def bcells (b : BA) : List Value := b.data.toList.map fun x => .int .u8 x.toNat
theorem bcells_len (b : BA) : (bcells b).length = b.size := by simp [bcells]
theorem bcells_app (a b : BA) : bcells (a ++ b) = bcells a ++ bcells b := by simp [bcells]
/-- Frames: all but bytes. -/
def BF (h g : AHeap) : Prop := h.size ≤ g.size ∧ ∀ j o, h.at? j = some o → o.elem ≠ 5 → g.at? j = some o
theorem BF.sf {h g : AHeap} (x : BF h g) : SF h g := ⟨x.1, fun j o a b _ => x.2 j o a b⟩
theorem BF.ext {h g : AHeap} (x : Ext h.size h g) : BF h g := ⟨x.size, fun j o a _ => x.at? (at?_obj a).2.1 a⟩
theorem BF.trans {h g k : AHeap} (x : BF h g) (y : BF g k) : BF h k := ⟨Nat.le_trans x.1 y.1, fun j o a b => y.2 j o (x.2 j o a b) b⟩
def BOwn (g : AHeap) (v : Value) (b : BA) : Prop := (v = .slice none 0 0 ∧ b.size = 0) ∨ ∃ i rt, v = slc i 0 b.size ∧ OwnR g i rt 5 (bcells b)
theorem BOwn.len {g : AHeap} {v : Value} {b : BA} (x : BOwn g v b) : aLen v = some (.int .i64 b.size) := by
  rcases x with ⟨rfl, h⟩ | ⟨i, rt, rfl, _⟩
  · rw [h]; rfl
  · rfl
theorem BOwn.cell {g : AHeap} {v : Value} {b : BA} (x : BOwn g v b) : isCell v = true := by
  rcases x with ⟨rfl, h⟩ | ⟨i, rt, rfl, _⟩ <;> rfl
theorem BOwn.ext {h g : AHeap} {v : Value} {b : BA} (x : BOwn h v b) (e : Ext h.size h g) : BOwn g v b := by
  rcases x with x | ⟨i, rt, h1, ep, h2⟩
  · exact .inl x
  · exact .inr ⟨i, rt, h1, ep, e.at? (at?_obj h2).2.1 h2⟩
theorem size_zero {b : BA} (h : b.size = 0) : b = ⟨#[]⟩ := by
  obtain ⟨d⟩ := b
  have : d = #[] := Array.eq_empty_of_size_eq_zero h
  rw [this]
theorem BOwn.app {g : AHeap} {v : Value} {b s : BA} {src : Option (Nat × List Value)} (x : BOwn g v b) (hs : src = some (s.size, bcells s)) (hl : b.size + s.size ≤ 1000000000000) :
    ∃ v' g', aAppG g 5 1 1 v src = some (v', g') ∧ BF g g' ∧ BOwn g' v' (b ++ s) := by
  subst hs
  have m1 : s.size ≤ most := by unfold most; omega
  rcases x with ⟨rfl, h0⟩ | ⟨i, rt, rfl, ep, ha⟩
  · by_cases hz : s.size = 0
    · refine ⟨.slice none 0 0, g, by simp [aAppG, hz], ⟨Nat.le_refl _, fun _ _ a _ => a⟩, .inl ⟨rfl, by rw [ByteArray.size_append]; omega⟩⟩
    · have hb : b ++ s = s := by rw [size_zero h0]; exact ByteArray.ext (by simp)
      rw [hb]
      refine ⟨slc g.size 0 s.size, g.new 5 (bcells s), by simp [aAppG, hz, m1], BF.ext (Ext.new (Nat.le_refl _) _ _), .inr ⟨g.size, g.size, rfl, OwnR.new g 5 (bcells s)⟩⟩
  · have m2 : b.size + s.size ≤ most := by unfold most; omega
    have hsz : (b ++ s).size = b.size + s.size := ByteArray.size_append
    refine ⟨slc g.size 0 (b.size + s.size), g.app ⟨rt, ep, false, 5, bcells b⟩ b.size (bcells b ++ bcells s), ?_, ⟨by simp [AHeap.app], fun j o hj h5 => at?_app_old hj _ fun e => absurd e.1 h5⟩, .inr ⟨g.size, rt, by rw [hsz], _, by rw [bcells_app]; exact at?_app_same ha _ _⟩⟩
    have h3 : (bcells b).take b.size = bcells b := List.take_of_length_le (by rw [bcells_len]; exact Nat.le_refl _)
    simp [aAppG, slc, ha, m2, h3, bcells_len]
/-- A printer. -/
def Pr (g : AHeap) (p t0 : Nat) (b : BA) : Prop := ∃ ov, OwnR g p p 110 [ptr t0 0, ov] ∧ BOwn g ov b
theorem Pr.ext {h g : AHeap} {p t0 : Nat} {b : BA} (x : Pr h p t0 b) (e : Ext h.size h g) : Pr g p t0 b := let ⟨ov, ⟨ep, a⟩, o⟩ := x; ⟨ov, ⟨ep, e.at? (at?_obj a).2.1 a⟩, o.ext e⟩
/-- Bytes behind those of a printer. -/
theorem Pr.add {g : AHeap} {p t0 : Nat} {b s : BA} {ov : Value} {src : Option (Nat × List Value)} (r : OwnR g p p 110 [ptr t0 0, ov]) (x : BOwn g ov b) (hs : src = some (s.size, bcells s)) (hl : b.size + s.size ≤ 1000000000000) :
    ∃ v' g', aAppG g 5 1 1 ov src = some (v', g') ∧ ∃ g2, aSt g' (ptr p 1) v' 1 = some g2 ∧ SF g g2 ∧ Pr g2 p t0 (b ++ s) := by
  obtain ⟨v', g', a1, f1, o1⟩ := x.app hs hl
  obtain ⟨ep, ha⟩ := r
  have ha' := f1.2 p _ ha (by show (110 : TypeId) ≠ 5; decide)
  refine ⟨v', g', a1, g'.put p ⟨p, ep, false, 110, [ptr t0 0, ov]⟩ [ptr t0 0, v'], ?_, ?_, ?_⟩
  · simp [aSt, ptr, ha', aCells_one o1.cell, splice]
  · refine f1.sf.trans ⟨Nat.le_refl _, fun j o hj h5 h110 => ?_⟩
    refine at?_put_other hj (fun e => ?_) _ (fun e => h110 e.1)
    subst e; rw [ha'] at hj; cases hj; exact h110 rfl
  · refine ⟨v', ⟨_, at?_put_same ha' _⟩, ?_⟩
    rcases o1 with o1 | ⟨i, rt, h1, ep', h2⟩
    · exact .inl o1
    · refine .inr ⟨i, rt, h1, ep', at?_put_other h2 (fun e => ?_) _ (fun e => absurd e.1 (by show (5 : TypeId) ≠ 110; decide))⟩
      subst e; rw [ha'] at h2; cases h2
/-- Is a token a right one? -/
def tkB (x : BA) : Bool := decide (0 < x.size) && decide (x.size ≤ 200)
theorem tkB_ok {x : BA} : tkB x = true ↔ tkOk x := by simp [tkB, tkOk]
theorem tk_nil : ([] : List BA).all tkB = true := rfl
theorem tk_cons {x : BA} {xs : List BA} (h : tkB x = true) (h2 : xs.all tkB = true) : (x :: xs).all tkB = true := by rw [List.all_cons, h, h2]; rfl
theorem srcS_bytes (t : BA) : aSrcS (.string t) = some (t.size, bcells t) := rfl
/-- put -/
theorem put_loop {C : ACall} {N p t0 : Nat} {v : Value} {xs : List BA} (hx : xs.all tkB = true) : ∀ (k j m : Nat) (g : AHeap) (b : BA), xs.length - j = k → j ≤ xs.length → k < m → xs.length ≤ 1000000 → SSrc g v xs → Pr g p t0 b → b.size + k * 201 ≤ 1000000000 →
    ∃ g', s129_0 hk0 C N m (ptr p 0) v (xs.length : Int) (j : Int) g = some (.tuple (List.toArray []), g') ∧ SF g g' ∧ Pr g' p t0 (js b (xs.drop j)) := by
  intro k
  induction k with
  | zero =>
    intro j m g b hk hj hm hl s x hb
    obtain ⟨m, rfl⟩ : ∃ q, m = q + 1 := ⟨m - 1, by omega⟩
    have : ¬ ((j : Int) < (xs.length : Int)) := by omega
    have hd : xs.drop j = [] := List.drop_eq_nil_of_le (by omega)
    rw [s129_0_eq, hd]
    exact ⟨g, ecf (decide_eq_false this) rfl, SF.refl _, x⟩
  | succ k ih =>
    intro j m g b hk hj hm hl s x hb
    obtain ⟨m, rfl⟩ : ∃ q, m = q + 1 := ⟨m - 1, by omega⟩
    have hI : ((j : Int) < (xs.length : Int)) := by omega
    have hjl : j < xs.length := by omega
    have wj : IntKind.i64.wrap ((j : Int) + 1) = ((j + 1 : Nat) : Int) := by rw [wr (by omega) (by omega)]; omega
    obtain ⟨a1, a2⟩ := s.at' j hjl
    have htk : tkOk xs[j] := tkB_ok.1 (List.all_eq_true.1 hx _ (List.getElem_mem hjl))
    have hdr : xs.drop j = xs[j] :: xs.drop (j + 1) := List.drop_eq_getElem_cons hjl
    have fin : ∀ (g : AHeap) (b : BA), SSrc g v xs → Pr g p t0 b → b.size + k * 201 + 200 ≤ 1000000000 → ∃ g', s129_1 hk0 C N m (ptr p 0) xs[j] v (xs.length : Int) (j : Int) g = some (.tuple (List.toArray []), g') ∧ SF g g' ∧ Pr g' p t0 (js (b ++ xs[j]) (xs.drop (j + 1))) := by
      intro g b s ⟨ov, r, x⟩ hb
      have hsz : (b ++ xs[j]).size = b.size + xs[j].size := ByteArray.size_append
      have ha := (r.row).ld1 (off := 1) (v := ov) rfl
      obtain ⟨v', g', c1, g2, c2, f2, x2⟩ := Pr.add r x (srcS_bytes xs[j]) (by have := htk.2; omega)
      obtain ⟨g3, c3, f3, x3⟩ := ih (j + 1) m g2 (b ++ xs[j]) (by omega) (by omega) (by omega) hl (s.sf f2) x2 (by have := htk.2; omega)
      refine ⟨g3, ?_, f2.trans f3, x3⟩
      rw [s129_1_j, s129_1_eq]
      refine eb rfl (eb rfl (eb ha (eb c1 (eb rfl (eb rfl (eb c2 ?_))))))
      rw [wj]; exact c3
    obtain ⟨ov, r, y⟩ := x
    have ha := (r.row).ld1 (off := 1) (v := ov) rfl
    rw [s129_0_eq, hdr, js]
    have e32 : (⟨#[32]⟩ : BA).size = 1 := rfl
    by_cases h0 : 0 < b.size
    · rw [if_pos h0]
      have hp : ((b.size : Int) > 0) := by omega
      have e1 := Ext.new (Nat.le_refl g.size) 5 [.int .u8 32]
      have src1 : aSrc (g.new 5 [.int .u8 32]) 1 (slc g.size 0 1) = some ((⟨#[32]⟩ : BA).size, bcells ⟨#[32]⟩) := ((Own.new (Nat.le_refl g.size) 5 [Value.int .u8 32]).row).src (off := 0) (n := 1) (esz := 1) (by simp)
      obtain ⟨ep, ra⟩ := r
      obtain ⟨v', g', c1, g2, c2, f2, x2⟩ := Pr.add ⟨ep, e1.at? (at?_obj ra).2.1 ra⟩ (y.ext e1) src1 (by omega)
      obtain ⟨g3, c3, f3, x3⟩ := fin g2 (b ++ ⟨#[32]⟩) (s.sf ((SF.ext e1).trans f2)) x2 (by rw [ByteArray.size_append, e32]; omega)
      refine ⟨g3, ?_, ((SF.ext e1).trans f2).trans f3, x3⟩
      refine ect (decide_eq_true hI) (eb a1 (eb (a2 g (SF.refl _)) (eb rfl (eb rfl (eb rfl (eb ha (eb y.len (eb rfl (ect (decide_eq_true hp) (eb rfl (eb rfl (eb ha ?_))))))))))))
      exact eb c1 (eb rfl (eb rfl (eb c2 c3)))
    · rw [if_neg h0]
      have hp : ¬ ((b.size : Int) > 0) := by omega
      obtain ⟨g3, c3, f3, x3⟩ := fin g b s ⟨ov, r, y⟩ (by omega)
      refine ⟨g3, ?_, f3, x3⟩
      exact ect (decide_eq_true hI) (eb a1 (eb (a2 g (SF.refl _)) (eb rfl (eb rfl (eb rfl (eb ha (eb y.len (eb rfl (ecf (decide_eq_false hp) c3)))))))))
/-- What a printer has written. -/
structure PrX (g : AHeap) (p t0 : Nat) (X : List BA) : Prop where
  pr : Pr g p t0 (js ⟨#[]⟩ X)
  ok : X.all tkB = true
theorem PrX.ext {h g : AHeap} {p t0 : Nat} {X : List BA} (x : PrX h p t0 X) (e : Ext h.size h g) : PrX g p t0 X := ⟨x.pr.ext e, x.ok⟩
theorem l129 {d p t0 : Nat} (hd : 1048577 < d) {v : Value} {X xs : List BA} {g : AHeap} (z : PrX g p t0 X) (s : SSrc g v xs) (hx : xs.all tkB = true) (hl : X.length + xs.length ≤ 1000000) :
    ∃ u g', call Try.prog Ms (d + 1) 129 [ptr p 0, v] g = some (u, g') ∧ SF g g' ∧ PrX g' p t0 (X ++ xs) := by
  have hb := js_size X ⟨#[]⟩ fun x hx => tkB_ok.1 (List.all_eq_true.1 z.ok x hx)
  have e0 : (⟨#[]⟩ : BA).size = 0 := rfl
  obtain ⟨g', c, f, x⟩ := put_loop (C := call Try.prog Ms d) (N := d) hx xs.length 0 d g (js ⟨#[]⟩ X) (by omega) (by omega) (by omega) (by omega) s z.pr (by omega)
  refine ⟨.tuple (List.toArray []), g', ?_, f, ⟨by rw [js_app]; simpa using x, by rw [List.all_append, z.ok, hx]; rfl⟩⟩
  rw [c129, e129]
  exact eb s.len (eb rfl c)
/-- Digits: the program's. -/
theorem digit_loop2 {d : Nat} {x0 : Int} (hx : 0 ≤ x0) : ∀ (f m : Nat) (n : Int) (t : BA) (g : AHeap), 0 ≤ n → n ≤ 1000000000000000 → n < 10 ^ f → 0 < f → f < m → f + t.size ≤ 1000 → ∃ g', s130_0 hk0 (call Try.prog Ms (d + 1)) (d + 1) m x0 t n g = some (.string (dg f n t), g') ∧ Ext g.size g g' := by
  intro f
  induction f with
  | zero => intro m n t g h0 _ h1 hf; omega
  | succ f ih =>
    intro m n t g h0 hB h1 _ hm ht
    obtain ⟨m, rfl⟩ : ∃ q, m = q + 1 := ⟨m - 1, by omega⟩
    have hmod : Int.tmod n 10 = n % 10 := Int.tmod_eq_emod_of_nonneg (by omega)
    have hdiv : Int.tdiv n 10 = n / 10 := Int.tdiv_eq_ediv_of_nonneg (by omega)
    have hneg : decide (Int.tmod n 10 < 0) = false := by rw [hmod]; simp; omega
    have e1 := Ext.new (Nat.le_refl g.size) 5 [.int .u8 (IntKind.u8.wrap (IntKind.i64.wrap (48 + n % 10)))]
    have hs : (dgt (n % 10) ++ t).size = 1 + t.size := by rw [ByteArray.size_append]; rfl
    have h1s : (dgt (n % 10)).size = 1 := rfl
    have hx0 : decide (x0 < 0) = false := by simp; omega
    rw [s130_0_eq]
    by_cases hlt : n < 10
    · have hr : inR n (-9) 9 = true := by unfold inR; simp; omega
      have hnn : n % 10 = n := by omega
      refine ⟨g.new 5 [.int .u8 (IntKind.u8.wrap (IntKind.i64.wrap (48 + n % 10)))], ?_, e1⟩
      refine ecf hneg ?_
      rw [s130_1_j, s130_1_eq, hmod]
      simp only [aNewS]
      refine eb (dgt_str (n % 10) (by omega) (by omega) g) (eb rfl (eb (sAdd (by omega)) (eb rfl (eb (l103 d n (-9) 9 _) (eb rfl (ect hr (ecf hx0 ?_)))))))
      rw [dg, if_pos hlt, hnn]
    · have hr : inR n (-9) 9 = false := by unfold inR; simp; omega
      have hsm : n / 10 < 10 ^ f := by
        have : (10 : Int) ^ (f + 1) = 10 ^ f * 10 := Int.pow_succ _ _
        omega
      have hf : 0 < f := by
        rcases Nat.eq_zero_or_pos f with rfl | h
        · simp at h1; omega
        · exact h
      have hw : IntKind.i64.wrap (Int.tdiv n 10) = n / 10 := by rw [hdiv, wr (by omega) (by omega)]
      obtain ⟨g', a, b⟩ := ih m (n / 10) (dgt (n % 10) ++ t) (g.new 5 [.int .u8 (IntKind.u8.wrap (IntKind.i64.wrap (48 + n % 10)))]) (by omega) (by omega) hsm hf (by omega) (by omega)
      refine ⟨g', ?_, Ext.tr e1 b⟩
      refine ecf hneg ?_
      rw [s130_1_j, s130_1_eq, hmod]
      simp only [aNewS]
      refine eb (dgt_str (n % 10) (by omega) (by omega) g) (eb rfl (eb (sAdd (by omega)) (eb rfl (eb (l103 d n (-9) 9 _) (eb rfl (ecf hr ?_))))))
      rw [hw, dg, if_neg hlt]; exact a
theorem l130 {d : Nat} (hd : 1000 < d) {n : Int} (h0 : 0 ≤ n) (h1 : n ≤ 999999999999999) (g : AHeap) : ∃ g', call Try.prog Ms (d + 2) 130 [.int .i64 n] g = some (.string (digs n), g') ∧ Ext g.size g g' := by
  rw [c130, e130]
  exact digit_loop2 h0 20 (d + 1) n ⟨#[]⟩ g (by omega) (by omega) (by omega) (by omega) (by omega) (by show 20 + 0 ≤ 1000; omega)
/-! ### steps -/
def opT : List BA := [⟨#[43]⟩, ⟨#[45]⟩, ⟨#[42]⟩, ⟨#[47]⟩, ⟨#[37]⟩, ⟨#[46, 46]⟩, ⟨#[61, 61]⟩, ⟨#[126, 61]⟩, ⟨#[60]⟩, ⟨#[60, 61]⟩]
def turnT : List BA := [⟨#[45]⟩, ⟨#[110, 111, 116]⟩, ⟨#[35]⟩]
theorem opsT (d : Nat) (h : AHeap) : RS h opT (call Try.prog Ms (d + 1) 172 [] h) := by
  rw [c172, e172]
  exact lit_step (P := RS h opT) opT rfl rfl fun v g e o => RS.of e (.inr o)
theorem opT_eq {i : Int} (h : 1 ≤ i) : opT.getD (i - 1).toNat ⟨#[]⟩ = opW.getD i.toNat ⟨#[]⟩ := by
  obtain ⟨m, hm⟩ : ∃ m : Nat, i = m + 1 := ⟨(i - 1).toNat, by omega⟩
  subst hm
  have e1 : ((m : Int) + 1 - 1).toNat = m := by omega
  have e2 : ((m : Int) + 1).toNat = m + 1 := by omega
  rw [e1, e2]; rfl
theorem turnT_eq {i : Int} (h : 1 ≤ i) : turnT.getD (i - 1).toNat ⟨#[]⟩ = turnW.getD i.toNat ⟨#[]⟩ := by
  obtain ⟨m, hm⟩ : ∃ m : Nat, i = m + 1 := ⟨(i - 1).toNat, by omega⟩
  subst hm
  have e1 : ((m : Int) + 1 - 1).toNat = m := by omega
  have e2 : ((m : Int) + 1).toNat = m + 1 := by omega
  rw [e1, e2]; rfl
theorem SSrc.atW {g : AHeap} {v : Value} {xs : List BA} {i j : Int} (x : SSrc g v xs) (hj : j = i) (h0 : 0 ≤ i) (h1 : i.toNat < xs.length) : aIdx v (.int .i64 j) 1 = some (ixP v i.toNat) ∧ ∀ g', SF g g' → aLd1 g' (ixP v i.toNat) = some (.string (xs.getD i.toNat ⟨#[]⟩)) := by
  subst hj; exact x.atI h0 h1
def RP (h : AHeap) (p t0 : Nat) (X : List BA) (o : Option (Value × AHeap)) : Prop := ∃ v g, o = some (v, g) ∧ SF h g ∧ PrX g p t0 X
section
variable {h : AHeap} {p t0 : Nat} {X : List BA}
theorem RP.b {α : Type} {o : Option α} {k : α → Option (Value × AHeap)} {v : α} (e : o = some v) (hk : RP h p t0 X (k v)) : RP h p t0 X (o.bind k) := by rw [e]; exact hk
theorem RP.cf {c : Bool} {a b : Option (Value × AHeap)} (e : c = false) (hk : RP h p t0 X b) : RP h p t0 X (bif c then a else b) := by rw [e]; exact hk
theorem RP.ct {c : Bool} {a b : Option (Value × AHeap)} (e : c = true) (hk : RP h p t0 X a) : RP h p t0 X (bif c then a else b) := by rw [e]; exact hk
theorem RP.lit {g : AHeap} {cells : List Value} {n : Nat} {k : Value → AHeap → Option (Value × AHeap)} (xs : List ByteArray) (hc : cells = strs xs) (hn : n = xs.length)
    (hk : ∀ v g', Ext g.size g g' → SOwn g.size g' v xs → RP h p t0 X (k v g')) : RP h p t0 X (aNewS g 9 cells n k) := lit_step (P := RP h p t0 X) xs hc hn hk
theorem RP.c {o : Option (Value × AHeap)} {k : Value × AHeap → Option (Value × AHeap)} {Q : Value → AHeap → Prop} (ho : ∃ v g, o = some (v, g) ∧ Q v g) (hk : ∀ v g, Q v g → RP h p t0 X (k (v, g))) : RP h p t0 X (o.bind k) := bind_step (P := RP h p t0 X) ho hk
theorem RP.fin {g : AHeap} {Y : List BA} {v : Value} (s : SF h g) (z : PrX g p t0 Y) (e : Y = X) : RP h p t0 X (some (v, g)) := ⟨v, g, rfl, s, e ▸ z⟩
end
/-- What is written of a node. -/
def PTok (nv : Value) (top : Int) (T : List Kn) (p t0 : Nat) (F : Int → List BA) (e : Nat) (k : Int) : Prop :=
  (F k).length ≤ 100000 ∧ (F k).all tkB = true ∧ ∀ g X, KSe g.size g nv T → RowE g t0 35 [nv, .int .i64 top] → PrX g p t0 X → X.length + (F k).length ≤ 1000000 → RP g p t0 (X ++ F k) (call Try.prog Ms e 81 [ptr p 0, .int .i64 k] g)
theorem cm_all {F : Int → List BA} {ks : List Int} {j : Nat} (h : ∀ k ∈ ks, (F k).all tkB = true) : (cm F j ks).all tkB = true :=
  List.all_eq_true.2 fun x hx => tkB_ok.2 (cm_ok ks j (fun k hk y hy => tkB_ok.1 (List.all_eq_true.1 (h k hk) y hy)) x hx)
/-- list, its loop -/
theorem list_loop {e : Nat} {nv v : Value} {top : Int} {T : List Kn} {p t0 : Nat} {F : Int → List BA} {xs : List Int} {h0 : AHeap} {N : Nat} (he : 1048577 < e) (hl : xs.length ≤ 1000000) (hF : ∀ k ∈ xs, PTok nv top T p t0 F (e + 1) k) :
    ∀ (k j m : Nat) (g : AHeap) (X : List BA), xs.length - j = k → j ≤ xs.length → k < m → SF h0 g → RowE g t0 35 [nv, .int .i64 top] → KSe g.size g nv T → IRd g v xs → PrX g p t0 X → X.length + (cm F j (xs.drop j)).length ≤ 1000000 →
    RP h0 p t0 (X ++ cm F j (xs.drop j)) (s131_0 hk0 (call Try.prog Ms (e + 1)) N m (ptr p 0) v (xs.length : Int) (j : Int) g) := by
  intro k
  induction k with
  | zero =>
    intro j m g X hk hj hm S r2 ks ir z hX
    obtain ⟨m, rfl⟩ : ∃ q, m = q + 1 := ⟨m - 1, by omega⟩
    have : ¬ ((j : Int) < (xs.length : Int)) := by omega
    have hd : xs.drop j = [] := List.drop_eq_nil_of_le (by omega)
    rw [s131_0_eq, hd]
    exact RP.cf (decide_eq_false this) (RP.fin S z (by cases j <;> simp [cm]))
  | succ k ih =>
    intro j m g X hk hj hm S r2 ks ir z hX
    obtain ⟨m, rfl⟩ : ∃ q, m = q + 1 := ⟨m - 1, by omega⟩
    have hI : ((j : Int) < (xs.length : Int)) := by omega
    have hjl : j < xs.length := by omega
    have wj : IntKind.i64.wrap ((j : Int) + 1) = ((j + 1 : Nat) : Int) := by rw [wr (by omega) (by omega)]; omega
    have hmem : xs.getD j 0 ∈ xs := by simp [hjl]
    obtain ⟨hb, hok, hc⟩ := hF _ hmem
    rw [drop_get hjl] at hX ⊢
    obtain ⟨a1, a2⟩ := ir.at' j hjl
    rw [s131_0_eq]
    refine RP.ct (decide_eq_true hI) (RP.b a1 (RP.b (a2 g (LF.refl _)) (RP.b rfl ?_)))
    cases j with
    | zero =>
      refine RP.cf rfl ?_
      simp only [cm, List.length_append] at hX
      have hX2 : X.length + ((F (xs.getD 0 0)).length + (cm F 1 (xs.drop 1)).length) ≤ 1000000 := hX
      refine RP.c (hc g X ks r2 z (by omega)) fun u g1 ⟨s1, z1⟩ => ?_
      show RP h0 p t0 _ (s131_0 hk0 (call Try.prog Ms (e + 1)) N m (ptr p 0) v (xs.length : Int) (IntKind.i64.wrap (((0 : Nat) : Int) + 1)) g1)
      rw [wj]
      have := ih 1 m g1 _ (by omega) (by omega) (by omega) (S.trans s1) (r2.lf s1.lf (by decide) (by decide) (by decide)) ((ks.lf s1.lf).mono s1.1) (ir.lf s1.lf) z1 (by simp only [List.length_append]; omega)
      simpa only [cm, List.append_assoc] using this
    | succ j =>
      refine RP.ct (decide_eq_true (by omega)) ?_
      simp only [cm, List.length_append, List.length_singleton] at hX
      have hX2 : X.length + (1 + (F (xs.getD (j + 1) 0)).length + (cm F (j + 2) (xs.drop (j + 2))).length) ≤ 1000000 := hX
      refine RP.lit [(⟨#[44]⟩ : BA)] rfl rfl fun v1 g1 x1 o1 => ?_
      have z1 := z.ext x1
      refine RP.c (l129 (d := e) he z1 o1.src rfl (by simp; omega)) fun u2 g2 ⟨s2, z2⟩ => ?_
      have L2 := ((SF.ext x1).trans s2).lf
      refine RP.c (hc g2 _ ((ks.lf L2).mono L2.1) (r2.lf L2 (by decide) (by decide) (by decide)) z2 (by simp only [List.length_append, List.length_singleton]; omega)) fun u3 g3 ⟨s3, z3⟩ => ?_
      have S3 := ((SF.ext x1).trans s2).trans s3
      show RP h0 p t0 _ (s131_0 hk0 (call Try.prog Ms (e + 1)) N m (ptr p 0) v (xs.length : Int) (IntKind.i64.wrap (((j + 1 : Nat) : Int) + 1)) g3)
      rw [wj]
      have := ih (j + 2) m g3 _ (by omega) (by omega) (by omega) (S.trans S3) (r2.lf S3.lf (by decide) (by decide) (by decide)) ((ks.lf S3.lf).mono S3.1) (ir.lf S3.lf) z3 (by simp only [List.length_append, List.length_singleton]; omega)
      simpa only [cm, List.append_assoc] using this
theorem l131 {e : Nat} {nv v : Value} {top : Int} {T : List Kn} {p t0 : Nat} {F : Int → List BA} {xs : List Int} {g : AHeap} {X : List BA} (he : 1048577 < e) (hl : xs.length ≤ 1000000) (hF : ∀ k ∈ xs, PTok nv top T p t0 F (e + 1) k) (ks : KSe g.size g nv T)
    (r2 : RowE g t0 35 [nv, .int .i64 top]) (ir : IRd g v xs) (z : PrX g p t0 X) (hX : X.length + (cm F 0 xs).length ≤ 1000000) : RP g p t0 (X ++ cm F 0 xs) (call Try.prog Ms (e + 2) 131 [ptr p 0, v] g) := by
  rw [c131, e131]
  refine RP.b ir.len (RP.b rfl ?_)
  exact list_loop (N := e + 1) he hl hF xs.length 0 (e + 1) g X (by omega) (by omega) (by omega) (SF.refl _) r2 ks ir z (by simpa using hX)
end Go.Proofs.Ytadmoackacickaa
