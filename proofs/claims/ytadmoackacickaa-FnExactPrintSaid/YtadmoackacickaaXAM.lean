import Derived.Test.YtadmoackacickaaXAL
/- The program's printer: each kind of node (printed by prn_impl.py). -/
set_option linter.unusedSimpArgs false
namespace Go.Proofs.Ytadmoackacickaa
open Go Go.AH

/-- What stands between a node's own parentheses. -/
def inn (F : Int → List BA) (n : Kn) : List BA :=
  if n.k = 6 then [⟨#[102, 110]⟩, ⟨#[40]⟩] ++ cm F 0 n.ks.dropLast ++ [⟨#[41]⟩] ++ F (n.kd (n.ks.length - 1))
  else if n.k = 7 then [⟨#[123]⟩] ++ cm F 0 n.ks ++ [⟨#[125]⟩]
  else if n.k = 11 then [turnW.getD n.i.toNat ⟨#[]⟩] ++ F (n.kd 0)
  else if n.k = 10 then F (n.kd 0) ++ [opW.getD n.i.toNat ⟨#[]⟩] ++ F (n.kd 1)
  else if n.k = 12 then F (n.kd 0) ++ [⟨#[97, 110, 100]⟩] ++ F (n.kd 1)
  else F (n.kd 0) ++ [⟨#[111, 114]⟩] ++ F (n.kd 1)

theorem p81_1 {e : Nat} {nv : Value} {top : Int} {T : List Kn} {F : Int → List BA} {n : Kn} {p t0 : Nat} {X : List BA} {h : AHeap} (he : 1048577 < e) (ks : KSe h.size h nv T) (r2 : RowE h t0 35 [nv, .int .i64 top]) {i : Nat} (hi : T[i]? = some n) (hl : n.ks.length ≤ 1000000) (hK : ∀ k ∈ n.ks, PTok nv top T p t0 F (e + 2) k) (hk : n.k = 1) (z : PrX h p t0 X) (hX : X.length + (ntoks F n).length ≤ 1000000) :
    RP h p t0 (X ++ ntoks F n) (call Try.prog Ms (e + 3) 81 [ptr p 0, .int .i64 (i : Int)] h) := by
  simp [ntoks, hk] at hX
  rw [c81, e81]
  obtain ⟨q, kv, q1, q2, is⟩ := knotAt ks hi
  obtain ⟨ov, r, bo⟩ := z.pr
  refine RP.b rfl (RP.b rfl (RP.b (r.row.ld1 (off := 0) (v := ptr t0 0) rfl) (RP.b rfl (RP.b rfl (RP.b (ld2 r2.row).1 (RP.b q1 (RP.b q2 ?_)))))))
  refine newSt_step (P := RP h p t0 (X ++ ntoks F n)) (kn_aCells is) rfl rfl fun p5 g0 x2 o2 _ => ?_
  have S0 := SF.ext x2
  have y0 : Env g0 t0 p5 nv top T n kv := ⟨r2.lf S0.lf (by decide) (by decide) (by decide), Own.rowE o2, (ks.lf S0.lf).mono S0.1, (is.lf S0.lf).mono S0.1⟩
  have z0 := z.ext x2
  refine RP.b rfl (RP.b y0.f0 (RP.b rfl (RP.ct (by rw [hk]; rfl) ?_)))
  refine RP.lit [⟨#[110, 105, 108]⟩] rfl rfl fun v1 g1 x1 o1 => ?_
  have S1 := S0.trans (SF.ext x1)
  have y1 := y0.ext x1
  have z1 := z0.ext x1
  refine RP.c (l129 (d := (e + 1)) (by omega) z1 o1.src (tk_cons rfl tk_nil) (by first | omega | (simp; omega))) fun v2 g2 ⟨s2, z2⟩ => ?_
  have S2 := S1.trans s2
  have y2 := y1.lf s2.lf
  exact RP.fin S2 z2 (by simp [ntoks, hk])
theorem p81_2 {e : Nat} {nv : Value} {top : Int} {T : List Kn} {F : Int → List BA} {n : Kn} {p t0 : Nat} {X : List BA} {h : AHeap} (he : 1048577 < e) (ks : KSe h.size h nv T) (r2 : RowE h t0 35 [nv, .int .i64 top]) {i : Nat} (hi : T[i]? = some n) (hl : n.ks.length ≤ 1000000) (hK : ∀ k ∈ n.ks, PTok nv top T p t0 F (e + 2) k) (hk : n.k = 2) (i0 : 0 ≤ n.i) (i1 : n.i.toNat < boolW.length) (tn : tkB (boolW.getD n.i.toNat ⟨#[]⟩) = true) (z : PrX h p t0 X) (hX : X.length + (ntoks F n).length ≤ 1000000) :
    RP h p t0 (X ++ ntoks F n) (call Try.prog Ms (e + 3) 81 [ptr p 0, .int .i64 (i : Int)] h) := by
  simp [ntoks, hk] at hX
  rw [c81, e81]
  obtain ⟨q, kv, q1, q2, is⟩ := knotAt ks hi
  obtain ⟨ov, r, bo⟩ := z.pr
  refine RP.b rfl (RP.b rfl (RP.b (r.row.ld1 (off := 0) (v := ptr t0 0) rfl) (RP.b rfl (RP.b rfl (RP.b (ld2 r2.row).1 (RP.b q1 (RP.b q2 ?_)))))))
  refine newSt_step (P := RP h p t0 (X ++ ntoks F n)) (kn_aCells is) rfl rfl fun p5 g0 x2 o2 _ => ?_
  have S0 := SF.ext x2
  have y0 : Env g0 t0 p5 nv top T n kv := ⟨r2.lf S0.lf (by decide) (by decide) (by decide), Own.rowE o2, (ks.lf S0.lf).mono S0.1, (is.lf S0.lf).mono S0.1⟩
  have z0 := z.ext x2
  refine RP.b rfl (RP.b y0.f0 (RP.b rfl (RP.cf (by rw [hk]; rfl) (RP.ct (by rw [hk]; rfl) ?_))))
  refine RP.lit boolW rfl rfl fun v1 g1 x1 o1 => ?_
  have S1 := S0.trans (SF.ext x1)
  have y1 := y0.ext x1
  have z1 := z0.ext x1
  refine RP.b rfl (RP.b y1.f2 (RP.b rfl ?_))
  have a1 := (o1.src).atI i0 i1
  refine RP.b a1.1 (RP.b (a1.2 g1 (SF.refl _)) (RP.b rfl ?_))
  refine RP.lit [(boolW.getD n.i.toNat ⟨#[]⟩)] rfl rfl fun v2 g2 x2 o2 => ?_
  have S2 := S1.trans (SF.ext x2)
  have y2 := y1.ext x2
  have z2 := z1.ext x2
  refine RP.c (l129 (d := (e + 1)) (by omega) z2 o2.src (tk_cons tn tk_nil) (by first | omega | (simp; omega))) fun v3 g3 ⟨s3, z3⟩ => ?_
  have S3 := S2.trans s3
  have y3 := y2.lf s3.lf
  exact RP.fin S3 z3 (by simp [ntoks, hk])
theorem p81_3 {e : Nat} {nv : Value} {top : Int} {T : List Kn} {F : Int → List BA} {n : Kn} {p t0 : Nat} {X : List BA} {h : AHeap} (he : 1048577 < e) (ks : KSe h.size h nv T) (r2 : RowE h t0 35 [nv, .int .i64 top]) {i : Nat} (hi : T[i]? = some n) (hl : n.ks.length ≤ 1000000) (hK : ∀ k ∈ n.ks, PTok nv top T p t0 F (e + 2) k) (hk : n.k = 3) (d0 : 0 ≤ n.i) (d1 : n.i ≤ 999999999999999) (tn : tkB (digs n.i) = true) (z : PrX h p t0 X) (hX : X.length + (ntoks F n).length ≤ 1000000) :
    RP h p t0 (X ++ ntoks F n) (call Try.prog Ms (e + 3) 81 [ptr p 0, .int .i64 (i : Int)] h) := by
  simp [ntoks, hk] at hX
  rw [c81, e81]
  obtain ⟨q, kv, q1, q2, is⟩ := knotAt ks hi
  obtain ⟨ov, r, bo⟩ := z.pr
  refine RP.b rfl (RP.b rfl (RP.b (r.row.ld1 (off := 0) (v := ptr t0 0) rfl) (RP.b rfl (RP.b rfl (RP.b (ld2 r2.row).1 (RP.b q1 (RP.b q2 ?_)))))))
  refine newSt_step (P := RP h p t0 (X ++ ntoks F n)) (kn_aCells is) rfl rfl fun p5 g0 x2 o2 _ => ?_
  have S0 := SF.ext x2
  have y0 : Env g0 t0 p5 nv top T n kv := ⟨r2.lf S0.lf (by decide) (by decide) (by decide), Own.rowE o2, (ks.lf S0.lf).mono S0.1, (is.lf S0.lf).mono S0.1⟩
  have z0 := z.ext x2
  refine RP.b rfl (RP.b y0.f0 (RP.b rfl (RP.cf (by rw [hk]; rfl) (RP.cf (by rw [hk]; rfl) (RP.ct (by rw [hk]; rfl) (RP.b rfl (RP.b y0.f2 (RP.b rfl ?_))))))))
  obtain ⟨g1, c1, x1⟩ := l130 (d := e) (by omega) d0 d1 g0
  have S1 := S0.trans (SF.ext x1)
  have y1 := y0.ext x1
  have z1 := z0.ext x1
  refine RP.b c1 (RP.b rfl ?_)
  refine RP.lit [(digs n.i)] rfl rfl fun v2 g2 x2 o2 => ?_
  have S2 := S1.trans (SF.ext x2)
  have y2 := y1.ext x2
  have z2 := z1.ext x2
  refine RP.c (l129 (d := (e + 1)) (by omega) z2 o2.src (tk_cons tn tk_nil) (by first | omega | (simp; omega))) fun v3 g3 ⟨s3, z3⟩ => ?_
  have S3 := S2.trans s3
  have y3 := y2.lf s3.lf
  exact RP.fin S3 z3 (by simp [ntoks, hk])
theorem p81_4 {e : Nat} {nv : Value} {top : Int} {T : List Kn} {F : Int → List BA} {n : Kn} {p t0 : Nat} {X : List BA} {h : AHeap} (he : 1048577 < e) (ks : KSe h.size h nv T) (r2 : RowE h t0 35 [nv, .int .i64 top]) {i : Nat} (hi : T[i]? = some n) (hl : n.ks.length ≤ 1000000) (hK : ∀ k ∈ n.ks, PTok nv top T p t0 F (e + 2) k) (hk : n.k = 4) (s1 : (⟨#[34]⟩ : BA).size + n.t.size ≤ 100000000000000) (s2 : ((⟨#[34]⟩ : BA) ++ n.t).size + (⟨#[34]⟩ : BA).size ≤ 100000000000000) (tn : tkB ((⟨#[34]⟩ : BA) ++ n.t ++ ⟨#[34]⟩) = true) (z : PrX h p t0 X) (hX : X.length + (ntoks F n).length ≤ 1000000) :
    RP h p t0 (X ++ ntoks F n) (call Try.prog Ms (e + 3) 81 [ptr p 0, .int .i64 (i : Int)] h) := by
  simp [ntoks, hk] at hX
  rw [c81, e81]
  obtain ⟨q, kv, q1, q2, is⟩ := knotAt ks hi
  obtain ⟨ov, r, bo⟩ := z.pr
  refine RP.b rfl (RP.b rfl (RP.b (r.row.ld1 (off := 0) (v := ptr t0 0) rfl) (RP.b rfl (RP.b rfl (RP.b (ld2 r2.row).1 (RP.b q1 (RP.b q2 ?_)))))))
  refine newSt_step (P := RP h p t0 (X ++ ntoks F n)) (kn_aCells is) rfl rfl fun p5 g0 x2 o2 _ => ?_
  have S0 := SF.ext x2
  have y0 : Env g0 t0 p5 nv top T n kv := ⟨r2.lf S0.lf (by decide) (by decide) (by decide), Own.rowE o2, (ks.lf S0.lf).mono S0.1, (is.lf S0.lf).mono S0.1⟩
  have z0 := z.ext x2
  refine RP.b rfl (RP.b y0.f0 (RP.b rfl (RP.cf (by rw [hk]; rfl) (RP.cf (by rw [hk]; rfl) (RP.cf (by rw [hk]; rfl) (RP.ct (by rw [hk]; rfl) (RP.b rfl (RP.b y0.f1 (RP.b rfl (RP.b (sAdd s1) (RP.b rfl (RP.b (sAdd s2) (RP.b rfl ?_)))))))))))))
  refine RP.lit [(((⟨#[34]⟩ : BA) ++ n.t) ++ (⟨#[34]⟩ : BA))] rfl rfl fun v1 g1 x1 o1 => ?_
  have S1 := S0.trans (SF.ext x1)
  have y1 := y0.ext x1
  have z1 := z0.ext x1
  refine RP.c (l129 (d := (e + 1)) (by omega) z1 o1.src (tk_cons tn tk_nil) (by first | omega | (simp; omega))) fun v2 g2 ⟨s2, z2⟩ => ?_
  have S2 := S1.trans s2
  have y2 := y1.lf s2.lf
  exact RP.fin S2 z2 (by simp [ntoks, hk])
theorem p81_5 {e : Nat} {nv : Value} {top : Int} {T : List Kn} {F : Int → List BA} {n : Kn} {p t0 : Nat} {X : List BA} {h : AHeap} (he : 1048577 < e) (ks : KSe h.size h nv T) (r2 : RowE h t0 35 [nv, .int .i64 top]) {i : Nat} (hi : T[i]? = some n) (hl : n.ks.length ≤ 1000000) (hK : ∀ k ∈ n.ks, PTok nv top T p t0 F (e + 2) k) (hk : n.k = 5) (tn : tkB n.t = true) (z : PrX h p t0 X) (hX : X.length + (ntoks F n).length ≤ 1000000) :
    RP h p t0 (X ++ ntoks F n) (call Try.prog Ms (e + 3) 81 [ptr p 0, .int .i64 (i : Int)] h) := by
  simp [ntoks, hk] at hX
  rw [c81, e81]
  obtain ⟨q, kv, q1, q2, is⟩ := knotAt ks hi
  obtain ⟨ov, r, bo⟩ := z.pr
  refine RP.b rfl (RP.b rfl (RP.b (r.row.ld1 (off := 0) (v := ptr t0 0) rfl) (RP.b rfl (RP.b rfl (RP.b (ld2 r2.row).1 (RP.b q1 (RP.b q2 ?_)))))))
  refine newSt_step (P := RP h p t0 (X ++ ntoks F n)) (kn_aCells is) rfl rfl fun p5 g0 x2 o2 _ => ?_
  have S0 := SF.ext x2
  have y0 : Env g0 t0 p5 nv top T n kv := ⟨r2.lf S0.lf (by decide) (by decide) (by decide), Own.rowE o2, (ks.lf S0.lf).mono S0.1, (is.lf S0.lf).mono S0.1⟩
  have z0 := z.ext x2
  refine RP.b rfl (RP.b y0.f0 (RP.b rfl (RP.cf (by rw [hk]; rfl) (RP.cf (by rw [hk]; rfl) (RP.cf (by rw [hk]; rfl) (RP.cf (by rw [hk]; rfl) (RP.ct (by rw [hk]; rfl) ?_)))))))
  rw [s81_0_j, s81_0_eq]
  refine RP.ct (by rw [hk]; rfl) (RP.b rfl (RP.b y0.f1 (RP.b rfl ?_)))
  refine RP.lit [n.t] rfl rfl fun v1 g1 x1 o1 => ?_
  have S1 := S0.trans (SF.ext x1)
  have y1 := y0.ext x1
  have z1 := z0.ext x1
  refine RP.c (l129 (d := (e + 1)) (by omega) z1 o1.src (tk_cons tn tk_nil) (by first | omega | (simp; omega))) fun v2 g2 ⟨s2, z2⟩ => ?_
  have S2 := S1.trans s2
  have y2 := y1.lf s2.lf
  exact RP.fin S2 z2 (by simp [ntoks, hk])
theorem p81_22 {e : Nat} {nv : Value} {top : Int} {T : List Kn} {F : Int → List BA} {n : Kn} {p t0 : Nat} {X : List BA} {h : AHeap} (he : 1048577 < e) (ks : KSe h.size h nv T) (r2 : RowE h t0 35 [nv, .int .i64 top]) {i : Nat} (hi : T[i]? = some n) (hl : n.ks.length ≤ 1000000) (hK : ∀ k ∈ n.ks, PTok nv top T p t0 F (e + 2) k) (hk : n.k = 22) (tn : tkB n.t = true) (z : PrX h p t0 X) (hX : X.length + (ntoks F n).length ≤ 1000000) :
    RP h p t0 (X ++ ntoks F n) (call Try.prog Ms (e + 3) 81 [ptr p 0, .int .i64 (i : Int)] h) := by
  simp [ntoks, hk] at hX
  rw [c81, e81]
  obtain ⟨q, kv, q1, q2, is⟩ := knotAt ks hi
  obtain ⟨ov, r, bo⟩ := z.pr
  refine RP.b rfl (RP.b rfl (RP.b (r.row.ld1 (off := 0) (v := ptr t0 0) rfl) (RP.b rfl (RP.b rfl (RP.b (ld2 r2.row).1 (RP.b q1 (RP.b q2 ?_)))))))
  refine newSt_step (P := RP h p t0 (X ++ ntoks F n)) (kn_aCells is) rfl rfl fun p5 g0 x2 o2 _ => ?_
  have S0 := SF.ext x2
  have y0 : Env g0 t0 p5 nv top T n kv := ⟨r2.lf S0.lf (by decide) (by decide) (by decide), Own.rowE o2, (ks.lf S0.lf).mono S0.1, (is.lf S0.lf).mono S0.1⟩
  have z0 := z.ext x2
  refine RP.b rfl (RP.b y0.f0 (RP.b rfl (RP.cf (by rw [hk]; rfl) (RP.cf (by rw [hk]; rfl) (RP.cf (by rw [hk]; rfl) (RP.cf (by rw [hk]; rfl) (RP.cf (by rw [hk]; rfl) ?_)))))))
  rw [s81_0_j, s81_0_eq]
  refine RP.ct (by rw [hk]; rfl) (RP.b rfl (RP.b y0.f1 (RP.b rfl ?_)))
  refine RP.lit [n.t] rfl rfl fun v1 g1 x1 o1 => ?_
  have S1 := S0.trans (SF.ext x1)
  have y1 := y0.ext x1
  have z1 := z0.ext x1
  refine RP.c (l129 (d := (e + 1)) (by omega) z1 o1.src (tk_cons tn tk_nil) (by first | omega | (simp; omega))) fun v2 g2 ⟨s2, z2⟩ => ?_
  have S2 := S1.trans s2
  have y2 := y1.lf s2.lf
  exact RP.fin S2 z2 (by simp [ntoks, hk])
theorem p81_8 {e : Nat} {nv : Value} {top : Int} {T : List Kn} {F : Int → List BA} {n : Kn} {p t0 : Nat} {X : List BA} {h : AHeap} (he : 1048577 < e) (ks : KSe h.size h nv T) (r2 : RowE h t0 35 [nv, .int .i64 top]) {i : Nat} (hi : T[i]? = some n) (hl : n.ks.length ≤ 1000000) (hK : ∀ k ∈ n.ks, PTok nv top T p t0 F (e + 2) k) (hk : n.k = 8) (k0 : 0 < n.ks.length) (k1 : 1 < n.ks.length) (z : PrX h p t0 X) (hX : X.length + (ntoks F n).length ≤ 1000000) :
    RP h p t0 (X ++ ntoks F n) (call Try.prog Ms (e + 3) 81 [ptr p 0, .int .i64 (i : Int)] h) := by
  simp [ntoks, hk] at hX
  rw [c81, e81]
  obtain ⟨q, kv, q1, q2, is⟩ := knotAt ks hi
  obtain ⟨ov, r, bo⟩ := z.pr
  refine RP.b rfl (RP.b rfl (RP.b (r.row.ld1 (off := 0) (v := ptr t0 0) rfl) (RP.b rfl (RP.b rfl (RP.b (ld2 r2.row).1 (RP.b q1 (RP.b q2 ?_)))))))
  refine newSt_step (P := RP h p t0 (X ++ ntoks F n)) (kn_aCells is) rfl rfl fun p5 g0 x2 o2 _ => ?_
  have S0 := SF.ext x2
  have y0 : Env g0 t0 p5 nv top T n kv := ⟨r2.lf S0.lf (by decide) (by decide) (by decide), Own.rowE o2, (ks.lf S0.lf).mono S0.1, (is.lf S0.lf).mono S0.1⟩
  have z0 := z.ext x2
  refine RP.b rfl (RP.b y0.f0 (RP.b rfl (RP.cf (by rw [hk]; rfl) (RP.cf (by rw [hk]; rfl) (RP.cf (by rw [hk]; rfl) (RP.cf (by rw [hk]; rfl) (RP.cf (by rw [hk]; rfl) ?_)))))))
  rw [s81_0_j, s81_0_eq]
  refine RP.cf (by rw [hk]; rfl) (RP.ct (by rw [hk]; rfl) (RP.b rfl (RP.b y0.f3 (RP.b (y0.q0 k0) (RP.b (y0.r k0) (RP.b rfl ?_))))))
  refine RP.c ((hK _ (kd_mem k0)).2.2 g0 _ y0.ksl y0.r2 z0 (by first | omega | (simp; omega))) fun v1 g1 ⟨s1, z1⟩ => ?_
  have S1 := S0.trans s1
  have y1 := y0.lf s1.lf
  refine RP.lit [⟨#[91]⟩] rfl rfl fun v2 g2 x2 o2 => ?_
  have S2 := S1.trans (SF.ext x2)
  have y2 := y1.ext x2
  have z2 := z1.ext x2
  refine RP.c (l129 (d := (e + 1)) (by omega) z2 o2.src (tk_cons rfl tk_nil) (by first | omega | (simp; omega))) fun v3 g3 ⟨s3, z3⟩ => ?_
  have S3 := S2.trans s3
  have y3 := y2.lf s3.lf
  refine RP.b rfl (RP.b y3.f3 (RP.b (y3.q1 k1) (RP.b (y3.r k1) (RP.b rfl ?_))))
  refine RP.c ((hK _ (kd_mem k1)).2.2 g3 _ y3.ksl y3.r2 z3 (by first | omega | (simp; omega))) fun v4 g4 ⟨s4, z4⟩ => ?_
  have S4 := S3.trans s4
  have y4 := y3.lf s4.lf
  refine RP.lit [⟨#[93]⟩] rfl rfl fun v5 g5 x5 o5 => ?_
  have S5 := S4.trans (SF.ext x5)
  have y5 := y4.ext x5
  have z5 := z4.ext x5
  refine RP.c (l129 (d := (e + 1)) (by omega) z5 o5.src (tk_cons rfl tk_nil) (by first | omega | (simp; omega))) fun v6 g6 ⟨s6, z6⟩ => ?_
  have S6 := S5.trans s6
  have y6 := y5.lf s6.lf
  exact RP.fin S6 z6 (by simp [ntoks, hk])
theorem p81_9 {e : Nat} {nv : Value} {top : Int} {T : List Kn} {F : Int → List BA} {n : Kn} {p t0 : Nat} {X : List BA} {h : AHeap} (he : 1048577 < e) (ks : KSe h.size h nv T) (r2 : RowE h t0 35 [nv, .int .i64 top]) {i : Nat} (hi : T[i]? = some n) (hl : n.ks.length ≤ 1000000) (hK : ∀ k ∈ n.ks, PTok nv top T p t0 F (e + 2) k) (hk : n.k = 9) (k0 : 0 < n.ks.length) (hK1 : ∀ k ∈ n.ks, PTok nv top T p t0 F (e + 1) k) (z : PrX h p t0 X) (hX : X.length + (ntoks F n).length ≤ 1000000) :
    RP h p t0 (X ++ ntoks F n) (call Try.prog Ms (e + 3) 81 [ptr p 0, .int .i64 (i : Int)] h) := by
  simp [ntoks, hk] at hX
  have HKT : ∀ k ∈ n.ks.tail, PTok nv top T p t0 F (e + 1) k := fun k hk => hK1 k (List.mem_of_mem_tail hk)
  rw [c81, e81]
  obtain ⟨q, kv, q1, q2, is⟩ := knotAt ks hi
  obtain ⟨ov, r, bo⟩ := z.pr
  refine RP.b rfl (RP.b rfl (RP.b (r.row.ld1 (off := 0) (v := ptr t0 0) rfl) (RP.b rfl (RP.b rfl (RP.b (ld2 r2.row).1 (RP.b q1 (RP.b q2 ?_)))))))
  refine newSt_step (P := RP h p t0 (X ++ ntoks F n)) (kn_aCells is) rfl rfl fun p5 g0 x2 o2 _ => ?_
  have S0 := SF.ext x2
  have y0 : Env g0 t0 p5 nv top T n kv := ⟨r2.lf S0.lf (by decide) (by decide) (by decide), Own.rowE o2, (ks.lf S0.lf).mono S0.1, (is.lf S0.lf).mono S0.1⟩
  have z0 := z.ext x2
  refine RP.b rfl (RP.b y0.f0 (RP.b rfl (RP.cf (by rw [hk]; rfl) (RP.cf (by rw [hk]; rfl) (RP.cf (by rw [hk]; rfl) (RP.cf (by rw [hk]; rfl) (RP.cf (by rw [hk]; rfl) ?_)))))))
  rw [s81_0_j, s81_0_eq]
  refine RP.cf (by rw [hk]; rfl) (RP.cf (by rw [hk]; rfl) (RP.ct (by rw [hk]; rfl) (RP.b rfl (RP.b y0.f3 (RP.b (y0.q0 k0) (RP.b (y0.r k0) (RP.b rfl ?_)))))))
  refine RP.c ((hK _ (kd_mem k0)).2.2 g0 _ y0.ksl y0.r2 z0 (by first | omega | (simp; omega))) fun v1 g1 ⟨s1, z1⟩ => ?_
  have S1 := S0.trans s1
  have y1 := y0.lf s1.lf
  refine RP.lit [⟨#[40]⟩] rfl rfl fun v2 g2 x2 o2 => ?_
  have S2 := S1.trans (SF.ext x2)
  have y2 := y1.ext x2
  have z2 := z1.ext x2
  refine RP.c (l129 (d := (e + 1)) (by omega) z2 o2.src (tk_cons rfl tk_nil) (by first | omega | (simp; omega))) fun v3 g3 ⟨s3, z3⟩ => ?_
  have S3 := S2.trans s3
  have y3 := y2.lf s3.lf
  refine RP.b rfl (RP.b y3.f3 (RP.b (y3.isl.ctT k0).1 ?_))
  refine RP.c (l131 (e := e) (by omega) (by first | omega | (simp; omega)) HKT y3.ksl y3.r2 (y3.isl.ctT k0).2.1 z3 (by first | omega | (simp; omega))) fun v4 g4 ⟨s4, z4⟩ => ?_
  have S4 := S3.trans s4
  have y4 := y3.lf s4.lf
  refine RP.lit [⟨#[41]⟩] rfl rfl fun v5 g5 x5 o5 => ?_
  have S5 := S4.trans (SF.ext x5)
  have y5 := y4.ext x5
  have z5 := z4.ext x5
  refine RP.c (l129 (d := (e + 1)) (by omega) z5 o5.src (tk_cons rfl tk_nil) (by first | omega | (simp; omega))) fun v6 g6 ⟨s6, z6⟩ => ?_
  have S6 := S5.trans s6
  have y6 := y5.lf s6.lf
  exact RP.fin S6 z6 (by simp [ntoks, hk])
theorem p81_23 {e : Nat} {nv : Value} {top : Int} {T : List Kn} {F : Int → List BA} {n : Kn} {p t0 : Nat} {X : List BA} {h : AHeap} (he : 1048577 < e) (ks : KSe h.size h nv T) (r2 : RowE h t0 35 [nv, .int .i64 top]) {i : Nat} (hi : T[i]? = some n) (hl : n.ks.length ≤ 1000000) (hK : ∀ k ∈ n.ks, PTok nv top T p t0 F (e + 2) k) (hk : n.k = 23) (k0 : 0 < n.ks.length) (z : PrX h p t0 X) (hX : X.length + (ntoks F n).length ≤ 1000000) :
    RP h p t0 (X ++ ntoks F n) (call Try.prog Ms (e + 3) 81 [ptr p 0, .int .i64 (i : Int)] h) := by
  simp [ntoks, hk] at hX
  rw [c81, e81]
  obtain ⟨q, kv, q1, q2, is⟩ := knotAt ks hi
  obtain ⟨ov, r, bo⟩ := z.pr
  refine RP.b rfl (RP.b rfl (RP.b (r.row.ld1 (off := 0) (v := ptr t0 0) rfl) (RP.b rfl (RP.b rfl (RP.b (ld2 r2.row).1 (RP.b q1 (RP.b q2 ?_)))))))
  refine newSt_step (P := RP h p t0 (X ++ ntoks F n)) (kn_aCells is) rfl rfl fun p5 g0 x2 o2 _ => ?_
  have S0 := SF.ext x2
  have y0 : Env g0 t0 p5 nv top T n kv := ⟨r2.lf S0.lf (by decide) (by decide) (by decide), Own.rowE o2, (ks.lf S0.lf).mono S0.1, (is.lf S0.lf).mono S0.1⟩
  have z0 := z.ext x2
  refine RP.b rfl (RP.b y0.f0 (RP.b rfl (RP.cf (by rw [hk]; rfl) (RP.cf (by rw [hk]; rfl) (RP.cf (by rw [hk]; rfl) (RP.cf (by rw [hk]; rfl) (RP.cf (by rw [hk]; rfl) ?_)))))))
  rw [s81_0_j, s81_0_eq]
  refine RP.cf (by rw [hk]; rfl) (RP.cf (by rw [hk]; rfl) (RP.cf (by rw [hk]; rfl) (RP.ct (by rw [hk]; rfl) (RP.b rfl (RP.b y0.f3 (RP.b (y0.q0 k0) (RP.b (y0.r k0) (RP.b rfl ?_))))))))
  refine RP.c ((hK _ (kd_mem k0)).2.2 g0 _ y0.ksl y0.r2 z0 (by first | omega | (simp; omega))) fun v1 g1 ⟨s1, z1⟩ => ?_
  have S1 := S0.trans s1
  have y1 := y0.lf s1.lf
  exact RP.fin S1 z1 (by simp [ntoks, hk])
theorem p81_24 {e : Nat} {nv : Value} {top : Int} {T : List Kn} {F : Int → List BA} {n : Kn} {p t0 : Nat} {X : List BA} {h : AHeap} (he : 1048577 < e) (ks : KSe h.size h nv T) (r2 : RowE h t0 35 [nv, .int .i64 top]) {i : Nat} (hi : T[i]? = some n) (hl : n.ks.length ≤ 1000000) (hK : ∀ k ∈ n.ks, PTok nv top T p t0 F (e + 2) k) (hk : n.k = 24) (k0 : 0 < n.ks.length) (k1 : 1 < n.ks.length) (z : PrX h p t0 X) (hX : X.length + (ntoks F n).length ≤ 1000000) :
    RP h p t0 (X ++ ntoks F n) (call Try.prog Ms (e + 3) 81 [ptr p 0, .int .i64 (i : Int)] h) := by
  simp [ntoks, hk] at hX
  rw [c81, e81]
  obtain ⟨q, kv, q1, q2, is⟩ := knotAt ks hi
  obtain ⟨ov, r, bo⟩ := z.pr
  refine RP.b rfl (RP.b rfl (RP.b (r.row.ld1 (off := 0) (v := ptr t0 0) rfl) (RP.b rfl (RP.b rfl (RP.b (ld2 r2.row).1 (RP.b q1 (RP.b q2 ?_)))))))
  refine newSt_step (P := RP h p t0 (X ++ ntoks F n)) (kn_aCells is) rfl rfl fun p5 g0 x2 o2 _ => ?_
  have S0 := SF.ext x2
  have y0 : Env g0 t0 p5 nv top T n kv := ⟨r2.lf S0.lf (by decide) (by decide) (by decide), Own.rowE o2, (ks.lf S0.lf).mono S0.1, (is.lf S0.lf).mono S0.1⟩
  have z0 := z.ext x2
  refine RP.b rfl (RP.b y0.f0 (RP.b rfl (RP.cf (by rw [hk]; rfl) (RP.cf (by rw [hk]; rfl) (RP.cf (by rw [hk]; rfl) (RP.cf (by rw [hk]; rfl) (RP.cf (by rw [hk]; rfl) ?_)))))))
  rw [s81_0_j, s81_0_eq]
  refine RP.cf (by rw [hk]; rfl) (RP.cf (by rw [hk]; rfl) (RP.cf (by rw [hk]; rfl) (RP.cf (by rw [hk]; rfl) (RP.ct (by rw [hk]; rfl) ?_))))
  refine RP.lit [⟨#[91]⟩] rfl rfl fun v1 g1 x1 o1 => ?_
  have S1 := S0.trans (SF.ext x1)
  have y1 := y0.ext x1
  have z1 := z0.ext x1
  refine RP.c (l129 (d := (e + 1)) (by omega) z1 o1.src (tk_cons rfl tk_nil) (by first | omega | (simp; omega))) fun v2 g2 ⟨s2, z2⟩ => ?_
  have S2 := S1.trans s2
  have y2 := y1.lf s2.lf
  refine RP.b rfl (RP.b y2.f3 (RP.b (y2.q0 k0) (RP.b (y2.r k0) (RP.b rfl ?_))))
  refine RP.c ((hK _ (kd_mem k0)).2.2 g2 _ y2.ksl y2.r2 z2 (by first | omega | (simp; omega))) fun v3 g3 ⟨s3, z3⟩ => ?_
  have S3 := S2.trans s3
  have y3 := y2.lf s3.lf
  refine RP.lit [⟨#[93]⟩, ⟨#[61]⟩] rfl rfl fun v4 g4 x4 o4 => ?_
  have S4 := S3.trans (SF.ext x4)
  have y4 := y3.ext x4
  have z4 := z3.ext x4
  refine RP.c (l129 (d := (e + 1)) (by omega) z4 o4.src (tk_cons rfl (tk_cons rfl tk_nil)) (by first | omega | (simp; omega))) fun v5 g5 ⟨s5, z5⟩ => ?_
  have S5 := S4.trans s5
  have y5 := y4.lf s5.lf
  refine RP.b rfl (RP.b y5.f3 (RP.b (y5.q1 k1) (RP.b (y5.r k1) (RP.b rfl ?_))))
  refine RP.c ((hK _ (kd_mem k1)).2.2 g5 _ y5.ksl y5.r2 z5 (by first | omega | (simp; omega))) fun v6 g6 ⟨s6, z6⟩ => ?_
  have S6 := S5.trans s6
  have y6 := y5.lf s6.lf
  exact RP.fin S6 z6 (by simp [ntoks, hk])
theorem p132_6 {e : Nat} {nv kv : Value} {top : Int} {T : List Kn} {F : Int → List BA} {n : Kn} {p t0 : Nat} {X : List BA} {h : AHeap} (he : 1048577 < e) (ks : KSe h.size h nv T) (r2 : RowE h t0 35 [nv, .int .i64 top]) (is : ISl h.size h kv n.ks) (hl : n.ks.length ≤ 1000000) (hK : ∀ k ∈ n.ks, PTok nv top T p t0 F (e + 2) k) (hk : n.k = 6) (k0 : 0 < n.ks.length) (hK1 : ∀ k ∈ n.ks, PTok nv top T p t0 F (e + 1) k) (kl : n.ks.length - 1 < n.ks.length) (wl : IntKind.i64.wrap ((n.ks.length : Int) - 1) = ((n.ks.length - 1 : Nat) : Int)) (z : PrX h p t0 X) (hX : X.length + (inn F n).length ≤ 1000000) :
    RP h p t0 (X ++ inn F n) (call Try.prog Ms (e + 3) 132 [ptr p 0, knVal n kv] h) := by
  simp [inn, hk] at hX
  have HKL : ∀ k ∈ n.ks.dropLast, PTok nv top T p t0 F (e + 1) k := fun k hk => hK1 k (List.dropLast_subset _ hk)
  rw [c132, e132]
  refine RP.b (kn_aCells is) ?_
  refine new_step (P := RP h p t0 (X ++ inn F n)) fun p5 g0 x2 o2 _ => ?_
  have S0 := SF.ext x2
  have y0 : Env g0 t0 p5 nv top T n kv := ⟨r2.lf S0.lf (by decide) (by decide) (by decide), Own.rowE o2, (ks.lf S0.lf).mono S0.1, (is.lf S0.lf).mono S0.1⟩
  have z0 := z.ext x2
  refine RP.b rfl (RP.b y0.f0 (RP.b rfl (RP.ct (by rw [hk]; rfl) (RP.b rfl (RP.b y0.f3 (RP.b y0.len (RP.b rfl ?_)))))))
  refine RP.lit [⟨#[102, 110]⟩, ⟨#[40]⟩] rfl rfl fun v1 g1 x1 o1 => ?_
  have S1 := S0.trans (SF.ext x1)
  have y1 := y0.ext x1
  have z1 := z0.ext x1
  refine RP.c (l129 (d := (e + 1)) (by omega) z1 o1.src (tk_cons rfl (tk_cons rfl tk_nil)) (by first | omega | (simp; omega))) fun v2 g2 ⟨s2, z2⟩ => ?_
  have S2 := S1.trans s2
  have y2 := y1.lf s2.lf
  refine RP.b rfl (RP.b y2.f3 (RP.b (y2.cl k0 wl) ?_))
  refine RP.c (l131 (e := e) (by omega) (by first | omega | (simp; omega)) HKL y2.ksl y2.r2 (y2.isl.ctL k0).2.1 z2 (by first | omega | (simp; omega))) fun v3 g3 ⟨s3, z3⟩ => ?_
  have S3 := S2.trans s3
  have y3 := y2.lf s3.lf
  refine RP.lit [⟨#[41]⟩] rfl rfl fun v4 g4 x4 o4 => ?_
  have S4 := S3.trans (SF.ext x4)
  have y4 := y3.ext x4
  have z4 := z3.ext x4
  refine RP.c (l129 (d := (e + 1)) (by omega) z4 o4.src (tk_cons rfl tk_nil) (by first | omega | (simp; omega))) fun v5 g5 ⟨s5, z5⟩ => ?_
  have S5 := S4.trans s5
  have y5 := y4.lf s5.lf
  refine RP.b rfl (RP.b y5.f3 (RP.b (y5.ql k0 wl) (RP.b (y5.r kl) (RP.b rfl ?_))))
  refine RP.c ((hK _ (kd_mem kl)).2.2 g5 _ y5.ksl y5.r2 z5 (by first | omega | (simp; omega))) fun v6 g6 ⟨s6, z6⟩ => ?_
  have S6 := S5.trans s6
  have y6 := y5.lf s6.lf
  exact RP.fin S6 z6 (by simp [inn, hk])
theorem p132_7 {e : Nat} {nv kv : Value} {top : Int} {T : List Kn} {F : Int → List BA} {n : Kn} {p t0 : Nat} {X : List BA} {h : AHeap} (he : 1048577 < e) (ks : KSe h.size h nv T) (r2 : RowE h t0 35 [nv, .int .i64 top]) (is : ISl h.size h kv n.ks) (hl : n.ks.length ≤ 1000000) (hK : ∀ k ∈ n.ks, PTok nv top T p t0 F (e + 2) k) (hk : n.k = 7) (hK1 : ∀ k ∈ n.ks, PTok nv top T p t0 F (e + 1) k) (z : PrX h p t0 X) (hX : X.length + (inn F n).length ≤ 1000000) :
    RP h p t0 (X ++ inn F n) (call Try.prog Ms (e + 3) 132 [ptr p 0, knVal n kv] h) := by
  simp [inn, hk] at hX
  rw [c132, e132]
  refine RP.b (kn_aCells is) ?_
  refine new_step (P := RP h p t0 (X ++ inn F n)) fun p5 g0 x2 o2 _ => ?_
  have S0 := SF.ext x2
  have y0 : Env g0 t0 p5 nv top T n kv := ⟨r2.lf S0.lf (by decide) (by decide) (by decide), Own.rowE o2, (ks.lf S0.lf).mono S0.1, (is.lf S0.lf).mono S0.1⟩
  have z0 := z.ext x2
  refine RP.b rfl (RP.b y0.f0 (RP.b rfl (RP.cf (by rw [hk]; rfl) (RP.ct (by rw [hk]; rfl) ?_))))
  refine RP.lit [⟨#[123]⟩] rfl rfl fun v1 g1 x1 o1 => ?_
  have S1 := S0.trans (SF.ext x1)
  have y1 := y0.ext x1
  have z1 := z0.ext x1
  refine RP.c (l129 (d := (e + 1)) (by omega) z1 o1.src (tk_cons rfl tk_nil) (by first | omega | (simp; omega))) fun v2 g2 ⟨s2, z2⟩ => ?_
  have S2 := S1.trans s2
  have y2 := y1.lf s2.lf
  refine RP.b rfl (RP.b y2.f3 ?_)
  refine RP.c (l131 (e := e) (by omega) (by omega) hK1 y2.ksl y2.r2 y2.isl.ird z2 (by first | omega | (simp; omega))) fun v3 g3 ⟨s3, z3⟩ => ?_
  have S3 := S2.trans s3
  have y3 := y2.lf s3.lf
  refine RP.lit [⟨#[125]⟩] rfl rfl fun v4 g4 x4 o4 => ?_
  have S4 := S3.trans (SF.ext x4)
  have y4 := y3.ext x4
  have z4 := z3.ext x4
  refine RP.c (l129 (d := (e + 1)) (by omega) z4 o4.src (tk_cons rfl tk_nil) (by first | omega | (simp; omega))) fun v5 g5 ⟨s5, z5⟩ => ?_
  have S5 := S4.trans s5
  have y5 := y4.lf s5.lf
  exact RP.fin S5 z5 (by simp [inn, hk])
theorem p132_10 {e : Nat} {nv kv : Value} {top : Int} {T : List Kn} {F : Int → List BA} {n : Kn} {p t0 : Nat} {X : List BA} {h : AHeap} (he : 1048577 < e) (ks : KSe h.size h nv T) (r2 : RowE h t0 35 [nv, .int .i64 top]) (is : ISl h.size h kv n.ks) (hl : n.ks.length ≤ 1000000) (hK : ∀ k ∈ n.ks, PTok nv top T p t0 F (e + 2) k) (hk : n.k = 10) (k0 : 0 < n.ks.length) (k1 : 1 < n.ks.length) (i0 : 0 ≤ n.i - 1) (wi : IntKind.i64.wrap (n.i - 1) = n.i - 1) (i1 : (n.i - 1).toNat < opT.length) (te : opT.getD (n.i - 1).toNat ⟨#[]⟩ = opW.getD n.i.toNat ⟨#[]⟩) (tn : tkB (opT.getD (n.i - 1).toNat ⟨#[]⟩) = true) (z : PrX h p t0 X) (hX : X.length + (inn F n).length ≤ 1000000) :
    RP h p t0 (X ++ inn F n) (call Try.prog Ms (e + 3) 132 [ptr p 0, knVal n kv] h) := by
  simp [inn, hk] at hX
  rw [c132, e132]
  refine RP.b (kn_aCells is) ?_
  refine new_step (P := RP h p t0 (X ++ inn F n)) fun p5 g0 x2 o2 _ => ?_
  have S0 := SF.ext x2
  have y0 : Env g0 t0 p5 nv top T n kv := ⟨r2.lf S0.lf (by decide) (by decide) (by decide), Own.rowE o2, (ks.lf S0.lf).mono S0.1, (is.lf S0.lf).mono S0.1⟩
  have z0 := z.ext x2
  refine RP.b rfl (RP.b y0.f0 (RP.b rfl (RP.cf (by rw [hk]; rfl) (RP.cf (by rw [hk]; rfl) (RP.cf (by rw [hk]; rfl) (RP.b rfl (RP.b y0.f0 (RP.b rfl (RP.ct (by rw [hk]; rfl) (RP.b rfl (RP.b y0.f2 (RP.b rfl ?_))))))))))))
  refine RP.c (opsT (e + 1) g0) fun v1 g1 ⟨x1, o1⟩ => ?_
  have S1 := S0.trans (SF.ext x1)
  have y1 := y0.ext x1
  have z1 := z0.ext x1
  refine RP.b (ag2 y1.f2) (RP.ct (vbI _ _) ?_)
  have a1 := (o1.src).atW wi i0 i1
  refine RP.b a1.1 (RP.b (a1.2 g1 (SF.refl _)) (RP.b rfl ?_))
  rw [s132_0_j, s132_0_eq]
  refine RP.b rfl (RP.b y1.f3 (RP.b (y1.q0 k0) (RP.b (y1.r k0) (RP.b rfl ?_))))
  refine RP.c ((hK _ (kd_mem k0)).2.2 g1 _ y1.ksl y1.r2 z1 (by first | omega | (simp; omega))) fun v2 g2 ⟨s2, z2⟩ => ?_
  have S2 := S1.trans s2
  have y2 := y1.lf s2.lf
  refine RP.lit [(opT.getD (n.i - 1).toNat ⟨#[]⟩)] rfl rfl fun v3 g3 x3 o3 => ?_
  have S3 := S2.trans (SF.ext x3)
  have y3 := y2.ext x3
  have z3 := z2.ext x3
  refine RP.c (l129 (d := (e + 1)) (by omega) z3 o3.src (tk_cons tn tk_nil) (by first | omega | (simp; omega))) fun v4 g4 ⟨s4, z4⟩ => ?_
  have S4 := S3.trans s4
  have y4 := y3.lf s4.lf
  refine RP.b rfl (RP.b y4.f3 (RP.b (y4.q1 k1) (RP.b (y4.r k1) (RP.b rfl ?_))))
  refine RP.c ((hK _ (kd_mem k1)).2.2 g4 _ y4.ksl y4.r2 z4 (by first | omega | (simp; omega))) fun v5 g5 ⟨s5, z5⟩ => ?_
  have S5 := S4.trans s5
  have y5 := y4.lf s5.lf
  exact RP.fin S5 z5 (by rw [te]; simp [inn, hk])
theorem p132_11 {e : Nat} {nv kv : Value} {top : Int} {T : List Kn} {F : Int → List BA} {n : Kn} {p t0 : Nat} {X : List BA} {h : AHeap} (he : 1048577 < e) (ks : KSe h.size h nv T) (r2 : RowE h t0 35 [nv, .int .i64 top]) (is : ISl h.size h kv n.ks) (hl : n.ks.length ≤ 1000000) (hK : ∀ k ∈ n.ks, PTok nv top T p t0 F (e + 2) k) (hk : n.k = 11) (k0 : 0 < n.ks.length) (i0 : 0 ≤ n.i - 1) (wi : IntKind.i64.wrap (n.i - 1) = n.i - 1) (i1 : (n.i - 1).toNat < turnT.length) (te : turnT.getD (n.i - 1).toNat ⟨#[]⟩ = turnW.getD n.i.toNat ⟨#[]⟩) (tn : tkB (turnT.getD (n.i - 1).toNat ⟨#[]⟩) = true) (z : PrX h p t0 X) (hX : X.length + (inn F n).length ≤ 1000000) :
    RP h p t0 (X ++ inn F n) (call Try.prog Ms (e + 3) 132 [ptr p 0, knVal n kv] h) := by
  simp [inn, hk] at hX
  rw [c132, e132]
  refine RP.b (kn_aCells is) ?_
  refine new_step (P := RP h p t0 (X ++ inn F n)) fun p5 g0 x2 o2 _ => ?_
  have S0 := SF.ext x2
  have y0 : Env g0 t0 p5 nv top T n kv := ⟨r2.lf S0.lf (by decide) (by decide) (by decide), Own.rowE o2, (ks.lf S0.lf).mono S0.1, (is.lf S0.lf).mono S0.1⟩
  have z0 := z.ext x2
  refine RP.b rfl (RP.b y0.f0 (RP.b rfl (RP.cf (by rw [hk]; rfl) (RP.cf (by rw [hk]; rfl) (RP.ct (by rw [hk]; rfl) ?_)))))
  refine RP.lit turnT rfl rfl fun v1 g1 x1 o1 => ?_
  have S1 := S0.trans (SF.ext x1)
  have y1 := y0.ext x1
  have z1 := z0.ext x1
  refine RP.b rfl (RP.b y1.f2 (RP.b rfl ?_))
  have a1 := (o1.src).atW wi i0 i1
  refine RP.b a1.1 (RP.b (a1.2 g1 (SF.refl _)) (RP.b rfl ?_))
  refine RP.lit [(turnT.getD (n.i - 1).toNat ⟨#[]⟩)] rfl rfl fun v2 g2 x2 o2 => ?_
  have S2 := S1.trans (SF.ext x2)
  have y2 := y1.ext x2
  have z2 := z1.ext x2
  refine RP.c (l129 (d := (e + 1)) (by omega) z2 o2.src (tk_cons tn tk_nil) (by first | omega | (simp; omega))) fun v3 g3 ⟨s3, z3⟩ => ?_
  have S3 := S2.trans s3
  have y3 := y2.lf s3.lf
  refine RP.b rfl (RP.b y3.f3 (RP.b (y3.q0 k0) (RP.b (y3.r k0) (RP.b rfl ?_))))
  refine RP.c ((hK _ (kd_mem k0)).2.2 g3 _ y3.ksl y3.r2 z3 (by first | omega | (simp; omega))) fun v4 g4 ⟨s4, z4⟩ => ?_
  have S4 := S3.trans s4
  have y4 := y3.lf s4.lf
  exact RP.fin S4 z4 (by rw [te]; simp [inn, hk])
theorem p132_12 {e : Nat} {nv kv : Value} {top : Int} {T : List Kn} {F : Int → List BA} {n : Kn} {p t0 : Nat} {X : List BA} {h : AHeap} (he : 1048577 < e) (ks : KSe h.size h nv T) (r2 : RowE h t0 35 [nv, .int .i64 top]) (is : ISl h.size h kv n.ks) (hl : n.ks.length ≤ 1000000) (hK : ∀ k ∈ n.ks, PTok nv top T p t0 F (e + 2) k) (hk : n.k = 12) (k0 : 0 < n.ks.length) (k1 : 1 < n.ks.length) (z : PrX h p t0 X) (hX : X.length + (inn F n).length ≤ 1000000) :
    RP h p t0 (X ++ inn F n) (call Try.prog Ms (e + 3) 132 [ptr p 0, knVal n kv] h) := by
  simp [inn, hk] at hX
  rw [c132, e132]
  refine RP.b (kn_aCells is) ?_
  refine new_step (P := RP h p t0 (X ++ inn F n)) fun p5 g0 x2 o2 _ => ?_
  have S0 := SF.ext x2
  have y0 : Env g0 t0 p5 nv top T n kv := ⟨r2.lf S0.lf (by decide) (by decide) (by decide), Own.rowE o2, (ks.lf S0.lf).mono S0.1, (is.lf S0.lf).mono S0.1⟩
  have z0 := z.ext x2
  refine RP.b rfl (RP.b y0.f0 (RP.b rfl (RP.cf (by rw [hk]; rfl) (RP.cf (by rw [hk]; rfl) (RP.cf (by rw [hk]; rfl) (RP.b rfl (RP.b y0.f0 (RP.b rfl (RP.cf (by rw [hk]; rfl) (RP.cf (by rw [hk]; rfl) ?_))))))))))
  rw [s132_0_j, s132_0_eq]
  refine RP.b rfl (RP.b y0.f3 (RP.b (y0.q0 k0) (RP.b (y0.r k0) (RP.b rfl ?_))))
  refine RP.c ((hK _ (kd_mem k0)).2.2 g0 _ y0.ksl y0.r2 z0 (by first | omega | (simp; omega))) fun v1 g1 ⟨s1, z1⟩ => ?_
  have S1 := S0.trans s1
  have y1 := y0.lf s1.lf
  refine RP.lit [⟨#[97, 110, 100]⟩] rfl rfl fun v2 g2 x2 o2 => ?_
  have S2 := S1.trans (SF.ext x2)
  have y2 := y1.ext x2
  have z2 := z1.ext x2
  refine RP.c (l129 (d := (e + 1)) (by omega) z2 o2.src (tk_cons rfl tk_nil) (by first | omega | (simp; omega))) fun v3 g3 ⟨s3, z3⟩ => ?_
  have S3 := S2.trans s3
  have y3 := y2.lf s3.lf
  refine RP.b rfl (RP.b y3.f3 (RP.b (y3.q1 k1) (RP.b (y3.r k1) (RP.b rfl ?_))))
  refine RP.c ((hK _ (kd_mem k1)).2.2 g3 _ y3.ksl y3.r2 z3 (by first | omega | (simp; omega))) fun v4 g4 ⟨s4, z4⟩ => ?_
  have S4 := S3.trans s4
  have y4 := y3.lf s4.lf
  exact RP.fin S4 z4 (by simp [inn, hk])
theorem p132_13 {e : Nat} {nv kv : Value} {top : Int} {T : List Kn} {F : Int → List BA} {n : Kn} {p t0 : Nat} {X : List BA} {h : AHeap} (he : 1048577 < e) (ks : KSe h.size h nv T) (r2 : RowE h t0 35 [nv, .int .i64 top]) (is : ISl h.size h kv n.ks) (hl : n.ks.length ≤ 1000000) (hK : ∀ k ∈ n.ks, PTok nv top T p t0 F (e + 2) k) (hk : n.k = 13) (k0 : 0 < n.ks.length) (k1 : 1 < n.ks.length) (z : PrX h p t0 X) (hX : X.length + (inn F n).length ≤ 1000000) :
    RP h p t0 (X ++ inn F n) (call Try.prog Ms (e + 3) 132 [ptr p 0, knVal n kv] h) := by
  simp [inn, hk] at hX
  rw [c132, e132]
  refine RP.b (kn_aCells is) ?_
  refine new_step (P := RP h p t0 (X ++ inn F n)) fun p5 g0 x2 o2 _ => ?_
  have S0 := SF.ext x2
  have y0 : Env g0 t0 p5 nv top T n kv := ⟨r2.lf S0.lf (by decide) (by decide) (by decide), Own.rowE o2, (ks.lf S0.lf).mono S0.1, (is.lf S0.lf).mono S0.1⟩
  have z0 := z.ext x2
  refine RP.b rfl (RP.b y0.f0 (RP.b rfl (RP.cf (by rw [hk]; rfl) (RP.cf (by rw [hk]; rfl) (RP.cf (by rw [hk]; rfl) (RP.b rfl (RP.b y0.f0 (RP.b rfl (RP.cf (by rw [hk]; rfl) (RP.ct (by rw [hk]; rfl) ?_))))))))))
  rw [s132_0_j, s132_0_eq]
  refine RP.b rfl (RP.b y0.f3 (RP.b (y0.q0 k0) (RP.b (y0.r k0) (RP.b rfl ?_))))
  refine RP.c ((hK _ (kd_mem k0)).2.2 g0 _ y0.ksl y0.r2 z0 (by first | omega | (simp; omega))) fun v1 g1 ⟨s1, z1⟩ => ?_
  have S1 := S0.trans s1
  have y1 := y0.lf s1.lf
  refine RP.lit [⟨#[111, 114]⟩] rfl rfl fun v2 g2 x2 o2 => ?_
  have S2 := S1.trans (SF.ext x2)
  have y2 := y1.ext x2
  have z2 := z1.ext x2
  refine RP.c (l129 (d := (e + 1)) (by omega) z2 o2.src (tk_cons rfl tk_nil) (by first | omega | (simp; omega))) fun v3 g3 ⟨s3, z3⟩ => ?_
  have S3 := S2.trans s3
  have y3 := y2.lf s3.lf
  refine RP.b rfl (RP.b y3.f3 (RP.b (y3.q1 k1) (RP.b (y3.r k1) (RP.b rfl ?_))))
  refine RP.c ((hK _ (kd_mem k1)).2.2 g3 _ y3.ksl y3.r2 z3 (by first | omega | (simp; omega))) fun v4 g4 ⟨s4, z4⟩ => ?_
  have S4 := S3.trans s4
  have y4 := y3.lf s4.lf
  exact RP.fin S4 z4 (by simp [inn, hk])
theorem p133_14 {e : Nat} {nv kv : Value} {top : Int} {T : List Kn} {F : Int → List BA} {n : Kn} {p t0 : Nat} {X : List BA} {h : AHeap} (he : 1048577 < e) (ks : KSe h.size h nv T) (r2 : RowE h t0 35 [nv, .int .i64 top]) (is : ISl h.size h kv n.ks) (hl : n.ks.length ≤ 1000000) (hK : ∀ k ∈ n.ks, PTok nv top T p t0 F (e + 2) k) (hk : n.k = 14) (k0 : 0 < n.ks.length) (tn : tkB n.t = true) (z : PrX h p t0 X) (hX : X.length + (ntoks F n).length ≤ 1000000) :
    RP h p t0 (X ++ ntoks F n) (call Try.prog Ms (e + 3) 133 [ptr p 0, knVal n kv] h) := by
  simp [ntoks, hk] at hX
  rw [c133, e133]
  refine RP.b (kn_aCells is) ?_
  refine new_step (P := RP h p t0 (X ++ ntoks F n)) fun p5 g0 x2 o2 _ => ?_
  have S0 := SF.ext x2
  have y0 : Env g0 t0 p5 nv top T n kv := ⟨r2.lf S0.lf (by decide) (by decide) (by decide), Own.rowE o2, (ks.lf S0.lf).mono S0.1, (is.lf S0.lf).mono S0.1⟩
  have z0 := z.ext x2
  refine RP.b rfl (RP.b y0.f0 (RP.b rfl (RP.ct (by rw [hk]; rfl) (RP.b rfl (RP.b y0.f1 (RP.b rfl ?_))))))
  refine RP.lit [⟨#[108, 111, 99, 97, 108]⟩, n.t, ⟨#[61]⟩] rfl rfl fun v1 g1 x1 o1 => ?_
  have S1 := S0.trans (SF.ext x1)
  have y1 := y0.ext x1
  have z1 := z0.ext x1
  refine RP.c (l129 (d := (e + 1)) (by omega) z1 o1.src (tk_cons rfl (tk_cons tn (tk_cons rfl tk_nil))) (by first | omega | (simp; omega))) fun v2 g2 ⟨s2, z2⟩ => ?_
  have S2 := S1.trans s2
  have y2 := y1.lf s2.lf
  refine RP.b rfl (RP.b y2.f3 (RP.b (y2.q0 k0) (RP.b (y2.r k0) (RP.b rfl ?_))))
  refine RP.c ((hK _ (kd_mem k0)).2.2 g2 _ y2.ksl y2.r2 z2 (by first | omega | (simp; omega))) fun v3 g3 ⟨s3, z3⟩ => ?_
  have S3 := S2.trans s3
  have y3 := y2.lf s3.lf
  refine RP.lit [⟨#[59]⟩] rfl rfl fun v4 g4 x4 o4 => ?_
  have S4 := S3.trans (SF.ext x4)
  have y4 := y3.ext x4
  have z4 := z3.ext x4
  refine RP.c (l129 (d := (e + 1)) (by omega) z4 o4.src (tk_cons rfl tk_nil) (by first | omega | (simp; omega))) fun v5 g5 ⟨s5, z5⟩ => ?_
  have S5 := S4.trans s5
  have y5 := y4.lf s5.lf
  exact RP.fin S5 z5 (by simp [ntoks, hk])
theorem p133_15 {e : Nat} {nv kv : Value} {top : Int} {T : List Kn} {F : Int → List BA} {n : Kn} {p t0 : Nat} {X : List BA} {h : AHeap} (he : 1048577 < e) (ks : KSe h.size h nv T) (r2 : RowE h t0 35 [nv, .int .i64 top]) (is : ISl h.size h kv n.ks) (hl : n.ks.length ≤ 1000000) (hK : ∀ k ∈ n.ks, PTok nv top T p t0 F (e + 2) k) (hk : n.k = 15) (k0 : 0 < n.ks.length) (tn : tkB n.t = true) (z : PrX h p t0 X) (hX : X.length + (ntoks F n).length ≤ 1000000) :
    RP h p t0 (X ++ ntoks F n) (call Try.prog Ms (e + 3) 133 [ptr p 0, knVal n kv] h) := by
  simp [ntoks, hk] at hX
  rw [c133, e133]
  refine RP.b (kn_aCells is) ?_
  refine new_step (P := RP h p t0 (X ++ ntoks F n)) fun p5 g0 x2 o2 _ => ?_
  have S0 := SF.ext x2
  have y0 : Env g0 t0 p5 nv top T n kv := ⟨r2.lf S0.lf (by decide) (by decide) (by decide), Own.rowE o2, (ks.lf S0.lf).mono S0.1, (is.lf S0.lf).mono S0.1⟩
  have z0 := z.ext x2
  refine RP.b rfl (RP.b y0.f0 (RP.b rfl (RP.cf (by rw [hk]; rfl) (RP.ct (by rw [hk]; rfl) (RP.b rfl (RP.b y0.f1 (RP.b rfl ?_)))))))
  refine RP.lit [n.t, ⟨#[61]⟩] rfl rfl fun v1 g1 x1 o1 => ?_
  have S1 := S0.trans (SF.ext x1)
  have y1 := y0.ext x1
  have z1 := z0.ext x1
  refine RP.c (l129 (d := (e + 1)) (by omega) z1 o1.src (tk_cons tn (tk_cons rfl tk_nil)) (by first | omega | (simp; omega))) fun v2 g2 ⟨s2, z2⟩ => ?_
  have S2 := S1.trans s2
  have y2 := y1.lf s2.lf
  refine RP.b rfl (RP.b y2.f3 (RP.b (y2.q0 k0) (RP.b (y2.r k0) (RP.b rfl ?_))))
  refine RP.c ((hK _ (kd_mem k0)).2.2 g2 _ y2.ksl y2.r2 z2 (by first | omega | (simp; omega))) fun v3 g3 ⟨s3, z3⟩ => ?_
  have S3 := S2.trans s3
  have y3 := y2.lf s3.lf
  refine RP.lit [⟨#[59]⟩] rfl rfl fun v4 g4 x4 o4 => ?_
  have S4 := S3.trans (SF.ext x4)
  have y4 := y3.ext x4
  have z4 := z3.ext x4
  refine RP.c (l129 (d := (e + 1)) (by omega) z4 o4.src (tk_cons rfl tk_nil) (by first | omega | (simp; omega))) fun v5 g5 ⟨s5, z5⟩ => ?_
  have S5 := S4.trans s5
  have y5 := y4.lf s5.lf
  exact RP.fin S5 z5 (by simp [ntoks, hk])
theorem p133_16 {e : Nat} {nv kv : Value} {top : Int} {T : List Kn} {F : Int → List BA} {n : Kn} {p t0 : Nat} {X : List BA} {h : AHeap} (he : 1048577 < e) (ks : KSe h.size h nv T) (r2 : RowE h t0 35 [nv, .int .i64 top]) (is : ISl h.size h kv n.ks) (hl : n.ks.length ≤ 1000000) (hK : ∀ k ∈ n.ks, PTok nv top T p t0 F (e + 2) k) (hk : n.k = 16) (k0 : 0 < n.ks.length) (k1 : 1 < n.ks.length) (k2 : 2 < n.ks.length) (z : PrX h p t0 X) (hX : X.length + (ntoks F n).length ≤ 1000000) :
    RP h p t0 (X ++ ntoks F n) (call Try.prog Ms (e + 3) 133 [ptr p 0, knVal n kv] h) := by
  simp [ntoks, hk] at hX
  rw [c133, e133]
  refine RP.b (kn_aCells is) ?_
  refine new_step (P := RP h p t0 (X ++ ntoks F n)) fun p5 g0 x2 o2 _ => ?_
  have S0 := SF.ext x2
  have y0 : Env g0 t0 p5 nv top T n kv := ⟨r2.lf S0.lf (by decide) (by decide) (by decide), Own.rowE o2, (ks.lf S0.lf).mono S0.1, (is.lf S0.lf).mono S0.1⟩
  have z0 := z.ext x2
  refine RP.b rfl (RP.b y0.f0 (RP.b rfl (RP.cf (by rw [hk]; rfl) (RP.cf (by rw [hk]; rfl) (RP.ct (by rw [hk]; rfl) (RP.b rfl (RP.b y0.f3 (RP.b (y0.q0 k0) (RP.b (y0.r k0) (RP.b rfl ?_))))))))))
  refine RP.c ((hK _ (kd_mem k0)).2.2 g0 _ y0.ksl y0.r2 z0 (by first | omega | (simp; omega))) fun v1 g1 ⟨s1, z1⟩ => ?_
  have S1 := S0.trans s1
  have y1 := y0.lf s1.lf
  refine RP.lit [⟨#[91]⟩] rfl rfl fun v2 g2 x2 o2 => ?_
  have S2 := S1.trans (SF.ext x2)
  have y2 := y1.ext x2
  have z2 := z1.ext x2
  refine RP.c (l129 (d := (e + 1)) (by omega) z2 o2.src (tk_cons rfl tk_nil) (by first | omega | (simp; omega))) fun v3 g3 ⟨s3, z3⟩ => ?_
  have S3 := S2.trans s3
  have y3 := y2.lf s3.lf
  refine RP.b rfl (RP.b y3.f3 (RP.b (y3.q1 k1) (RP.b (y3.r k1) (RP.b rfl ?_))))
  refine RP.c ((hK _ (kd_mem k1)).2.2 g3 _ y3.ksl y3.r2 z3 (by first | omega | (simp; omega))) fun v4 g4 ⟨s4, z4⟩ => ?_
  have S4 := S3.trans s4
  have y4 := y3.lf s4.lf
  refine RP.lit [⟨#[93]⟩, ⟨#[61]⟩] rfl rfl fun v5 g5 x5 o5 => ?_
  have S5 := S4.trans (SF.ext x5)
  have y5 := y4.ext x5
  have z5 := z4.ext x5
  refine RP.c (l129 (d := (e + 1)) (by omega) z5 o5.src (tk_cons rfl (tk_cons rfl tk_nil)) (by first | omega | (simp; omega))) fun v6 g6 ⟨s6, z6⟩ => ?_
  have S6 := S5.trans s6
  have y6 := y5.lf s6.lf
  refine RP.b rfl (RP.b y6.f3 (RP.b (y6.q2 k2) (RP.b (y6.r k2) (RP.b rfl ?_))))
  refine RP.c ((hK _ (kd_mem k2)).2.2 g6 _ y6.ksl y6.r2 z6 (by first | omega | (simp; omega))) fun v7 g7 ⟨s7, z7⟩ => ?_
  have S7 := S6.trans s7
  have y7 := y6.lf s7.lf
  refine RP.lit [⟨#[59]⟩] rfl rfl fun v8 g8 x8 o8 => ?_
  have S8 := S7.trans (SF.ext x8)
  have y8 := y7.ext x8
  have z8 := z7.ext x8
  refine RP.c (l129 (d := (e + 1)) (by omega) z8 o8.src (tk_cons rfl tk_nil) (by first | omega | (simp; omega))) fun v9 g9 ⟨s9, z9⟩ => ?_
  have S9 := S8.trans s9
  have y9 := y8.lf s9.lf
  exact RP.fin S9 z9 (by simp [ntoks, hk])
theorem p133_17a {e : Nat} {nv kv : Value} {top : Int} {T : List Kn} {F : Int → List BA} {n : Kn} {p t0 : Nat} {X : List BA} {h : AHeap} (he : 1048577 < e) (ks : KSe h.size h nv T) (r2 : RowE h t0 35 [nv, .int .i64 top]) (is : ISl h.size h kv n.ks) (hl : n.ks.length ≤ 1000000) (hK : ∀ k ∈ n.ks, PTok nv top T p t0 F (e + 2) k) (hk : n.k = 17) (k0 : 0 < n.ks.length) (k1 : 1 < n.ks.length) (hlen : n.ks.length = 2) (h3 : decide ((n.ks.length : Int) > 2) = false) (z : PrX h p t0 X) (hX : X.length + (ntoks F n).length ≤ 1000000) :
    RP h p t0 (X ++ ntoks F n) (call Try.prog Ms (e + 3) 133 [ptr p 0, knVal n kv] h) := by
  simp [ntoks, hk, hlen] at hX
  rw [c133, e133]
  refine RP.b (kn_aCells is) ?_
  refine new_step (P := RP h p t0 (X ++ ntoks F n)) fun p5 g0 x2 o2 _ => ?_
  have S0 := SF.ext x2
  have y0 : Env g0 t0 p5 nv top T n kv := ⟨r2.lf S0.lf (by decide) (by decide) (by decide), Own.rowE o2, (ks.lf S0.lf).mono S0.1, (is.lf S0.lf).mono S0.1⟩
  have z0 := z.ext x2
  refine RP.b rfl (RP.b y0.f0 (RP.b rfl (RP.cf (by rw [hk]; rfl) (RP.cf (by rw [hk]; rfl) (RP.cf (by rw [hk]; rfl) (RP.cf (by rw [hk]; rfl) (RP.cf (by rw [hk]; rfl) (RP.cf (by rw [hk]; rfl) (RP.ct (by rw [hk]; rfl) ?_)))))))))
  refine RP.lit [⟨#[105, 102]⟩] rfl rfl fun v1 g1 x1 o1 => ?_
  have S1 := S0.trans (SF.ext x1)
  have y1 := y0.ext x1
  have z1 := z0.ext x1
  refine RP.c (l129 (d := (e + 1)) (by omega) z1 o1.src (tk_cons rfl tk_nil) (by first | omega | (simp; omega))) fun v2 g2 ⟨s2, z2⟩ => ?_
  have S2 := S1.trans s2
  have y2 := y1.lf s2.lf
  refine RP.b rfl (RP.b y2.f3 (RP.b (y2.q0 k0) (RP.b (y2.r k0) (RP.b rfl ?_))))
  refine RP.c ((hK _ (kd_mem k0)).2.2 g2 _ y2.ksl y2.r2 z2 (by first | omega | (simp; omega))) fun v3 g3 ⟨s3, z3⟩ => ?_
  have S3 := S2.trans s3
  have y3 := y2.lf s3.lf
  refine RP.b rfl (RP.b y3.f3 (RP.b (y3.q1 k1) (RP.b (y3.r k1) (RP.b rfl ?_))))
  refine RP.c ((hK _ (kd_mem k1)).2.2 g3 _ y3.ksl y3.r2 z3 (by first | omega | (simp; omega))) fun v4 g4 ⟨s4, z4⟩ => ?_
  have S4 := S3.trans s4
  have y4 := y3.lf s4.lf
  refine RP.b rfl (RP.b y4.f3 (RP.b y4.len (RP.b rfl (RP.cf h3 ?_))))
  exact RP.fin S4 z4 (by simp [ntoks, hk, hlen])
theorem p133_17b {e : Nat} {nv kv : Value} {top : Int} {T : List Kn} {F : Int → List BA} {n : Kn} {p t0 : Nat} {X : List BA} {h : AHeap} (he : 1048577 < e) (ks : KSe h.size h nv T) (r2 : RowE h t0 35 [nv, .int .i64 top]) (is : ISl h.size h kv n.ks) (hl : n.ks.length ≤ 1000000) (hK : ∀ k ∈ n.ks, PTok nv top T p t0 F (e + 2) k) (hk : n.k = 17) (k0 : 0 < n.ks.length) (k1 : 1 < n.ks.length) (k2 : 2 < n.ks.length) (hlen : n.ks.length = 3) (h3 : decide ((n.ks.length : Int) > 2) = true) (z : PrX h p t0 X) (hX : X.length + (ntoks F n).length ≤ 1000000) :
    RP h p t0 (X ++ ntoks F n) (call Try.prog Ms (e + 3) 133 [ptr p 0, knVal n kv] h) := by
  simp [ntoks, hk, hlen] at hX
  rw [c133, e133]
  refine RP.b (kn_aCells is) ?_
  refine new_step (P := RP h p t0 (X ++ ntoks F n)) fun p5 g0 x2 o2 _ => ?_
  have S0 := SF.ext x2
  have y0 : Env g0 t0 p5 nv top T n kv := ⟨r2.lf S0.lf (by decide) (by decide) (by decide), Own.rowE o2, (ks.lf S0.lf).mono S0.1, (is.lf S0.lf).mono S0.1⟩
  have z0 := z.ext x2
  refine RP.b rfl (RP.b y0.f0 (RP.b rfl (RP.cf (by rw [hk]; rfl) (RP.cf (by rw [hk]; rfl) (RP.cf (by rw [hk]; rfl) (RP.cf (by rw [hk]; rfl) (RP.cf (by rw [hk]; rfl) (RP.cf (by rw [hk]; rfl) (RP.ct (by rw [hk]; rfl) ?_)))))))))
  refine RP.lit [⟨#[105, 102]⟩] rfl rfl fun v1 g1 x1 o1 => ?_
  have S1 := S0.trans (SF.ext x1)
  have y1 := y0.ext x1
  have z1 := z0.ext x1
  refine RP.c (l129 (d := (e + 1)) (by omega) z1 o1.src (tk_cons rfl tk_nil) (by first | omega | (simp; omega))) fun v2 g2 ⟨s2, z2⟩ => ?_
  have S2 := S1.trans s2
  have y2 := y1.lf s2.lf
  refine RP.b rfl (RP.b y2.f3 (RP.b (y2.q0 k0) (RP.b (y2.r k0) (RP.b rfl ?_))))
  refine RP.c ((hK _ (kd_mem k0)).2.2 g2 _ y2.ksl y2.r2 z2 (by first | omega | (simp; omega))) fun v3 g3 ⟨s3, z3⟩ => ?_
  have S3 := S2.trans s3
  have y3 := y2.lf s3.lf
  refine RP.b rfl (RP.b y3.f3 (RP.b (y3.q1 k1) (RP.b (y3.r k1) (RP.b rfl ?_))))
  refine RP.c ((hK _ (kd_mem k1)).2.2 g3 _ y3.ksl y3.r2 z3 (by first | omega | (simp; omega))) fun v4 g4 ⟨s4, z4⟩ => ?_
  have S4 := S3.trans s4
  have y4 := y3.lf s4.lf
  refine RP.b rfl (RP.b y4.f3 (RP.b y4.len (RP.b rfl (RP.ct h3 ?_))))
  refine RP.lit [⟨#[101, 108, 115, 101]⟩] rfl rfl fun v5 g5 x5 o5 => ?_
  have S5 := S4.trans (SF.ext x5)
  have y5 := y4.ext x5
  have z5 := z4.ext x5
  refine RP.c (l129 (d := (e + 1)) (by omega) z5 o5.src (tk_cons rfl tk_nil) (by first | omega | (simp; omega))) fun v6 g6 ⟨s6, z6⟩ => ?_
  have S6 := S5.trans s6
  have y6 := y5.lf s6.lf
  refine RP.b rfl (RP.b y6.f3 (RP.b (y6.q2 k2) (RP.b (y6.r k2) (RP.b rfl ?_))))
  refine RP.c ((hK _ (kd_mem k2)).2.2 g6 _ y6.ksl y6.r2 z6 (by first | omega | (simp; omega))) fun v7 g7 ⟨s7, z7⟩ => ?_
  have S7 := S6.trans s7
  have y7 := y6.lf s7.lf
  exact RP.fin S7 z7 (by simp [ntoks, hk, hlen])
theorem p133_18 {e : Nat} {nv kv : Value} {top : Int} {T : List Kn} {F : Int → List BA} {n : Kn} {p t0 : Nat} {X : List BA} {h : AHeap} (he : 1048577 < e) (ks : KSe h.size h nv T) (r2 : RowE h t0 35 [nv, .int .i64 top]) (is : ISl h.size h kv n.ks) (hl : n.ks.length ≤ 1000000) (hK : ∀ k ∈ n.ks, PTok nv top T p t0 F (e + 2) k) (hk : n.k = 18) (k0 : 0 < n.ks.length) (k1 : 1 < n.ks.length) (z : PrX h p t0 X) (hX : X.length + (ntoks F n).length ≤ 1000000) :
    RP h p t0 (X ++ ntoks F n) (call Try.prog Ms (e + 3) 133 [ptr p 0, knVal n kv] h) := by
  simp [ntoks, hk] at hX
  rw [c133, e133]
  refine RP.b (kn_aCells is) ?_
  refine new_step (P := RP h p t0 (X ++ ntoks F n)) fun p5 g0 x2 o2 _ => ?_
  have S0 := SF.ext x2
  have y0 : Env g0 t0 p5 nv top T n kv := ⟨r2.lf S0.lf (by decide) (by decide) (by decide), Own.rowE o2, (ks.lf S0.lf).mono S0.1, (is.lf S0.lf).mono S0.1⟩
  have z0 := z.ext x2
  refine RP.b rfl (RP.b y0.f0 (RP.b rfl (RP.cf (by rw [hk]; rfl) (RP.cf (by rw [hk]; rfl) (RP.cf (by rw [hk]; rfl) (RP.cf (by rw [hk]; rfl) (RP.cf (by rw [hk]; rfl) (RP.ct (by rw [hk]; rfl) ?_))))))))
  refine RP.lit [⟨#[119, 104, 105, 108, 101]⟩] rfl rfl fun v1 g1 x1 o1 => ?_
  have S1 := S0.trans (SF.ext x1)
  have y1 := y0.ext x1
  have z1 := z0.ext x1
  refine RP.c (l129 (d := (e + 1)) (by omega) z1 o1.src (tk_cons rfl tk_nil) (by first | omega | (simp; omega))) fun v2 g2 ⟨s2, z2⟩ => ?_
  have S2 := S1.trans s2
  have y2 := y1.lf s2.lf
  refine RP.b rfl (RP.b y2.f3 (RP.b (y2.q0 k0) (RP.b (y2.r k0) (RP.b rfl ?_))))
  refine RP.c ((hK _ (kd_mem k0)).2.2 g2 _ y2.ksl y2.r2 z2 (by first | omega | (simp; omega))) fun v3 g3 ⟨s3, z3⟩ => ?_
  have S3 := S2.trans s3
  have y3 := y2.lf s3.lf
  refine RP.b rfl (RP.b y3.f3 (RP.b (y3.q1 k1) (RP.b (y3.r k1) (RP.b rfl ?_))))
  refine RP.c ((hK _ (kd_mem k1)).2.2 g3 _ y3.ksl y3.r2 z3 (by first | omega | (simp; omega))) fun v4 g4 ⟨s4, z4⟩ => ?_
  have S4 := S3.trans s4
  have y4 := y3.lf s4.lf
  exact RP.fin S4 z4 (by simp [ntoks, hk])
theorem p133_19 {e : Nat} {nv kv : Value} {top : Int} {T : List Kn} {F : Int → List BA} {n : Kn} {p t0 : Nat} {X : List BA} {h : AHeap} (he : 1048577 < e) (ks : KSe h.size h nv T) (r2 : RowE h t0 35 [nv, .int .i64 top]) (is : ISl h.size h kv n.ks) (hl : n.ks.length ≤ 1000000) (hK : ∀ k ∈ n.ks, PTok nv top T p t0 F (e + 2) k) (hk : n.k = 19) (k0 : 0 < n.ks.length) (z : PrX h p t0 X) (hX : X.length + (ntoks F n).length ≤ 1000000) :
    RP h p t0 (X ++ ntoks F n) (call Try.prog Ms (e + 3) 133 [ptr p 0, knVal n kv] h) := by
  simp [ntoks, hk] at hX
  rw [c133, e133]
  refine RP.b (kn_aCells is) ?_
  refine new_step (P := RP h p t0 (X ++ ntoks F n)) fun p5 g0 x2 o2 _ => ?_
  have S0 := SF.ext x2
  have y0 : Env g0 t0 p5 nv top T n kv := ⟨r2.lf S0.lf (by decide) (by decide) (by decide), Own.rowE o2, (ks.lf S0.lf).mono S0.1, (is.lf S0.lf).mono S0.1⟩
  have z0 := z.ext x2
  refine RP.b rfl (RP.b y0.f0 (RP.b rfl (RP.cf (by rw [hk]; rfl) (RP.cf (by rw [hk]; rfl) (RP.cf (by rw [hk]; rfl) (RP.ct (by rw [hk]; rfl) ?_))))))
  refine RP.lit [⟨#[114, 101, 116, 117, 114, 110]⟩] rfl rfl fun v1 g1 x1 o1 => ?_
  have S1 := S0.trans (SF.ext x1)
  have y1 := y0.ext x1
  have z1 := z0.ext x1
  refine RP.c (l129 (d := (e + 1)) (by omega) z1 o1.src (tk_cons rfl tk_nil) (by first | omega | (simp; omega))) fun v2 g2 ⟨s2, z2⟩ => ?_
  have S2 := S1.trans s2
  have y2 := y1.lf s2.lf
  refine RP.b rfl (RP.b y2.f3 (RP.b (y2.q0 k0) (RP.b (y2.r k0) (RP.b rfl ?_))))
  refine RP.c ((hK _ (kd_mem k0)).2.2 g2 _ y2.ksl y2.r2 z2 (by first | omega | (simp; omega))) fun v3 g3 ⟨s3, z3⟩ => ?_
  have S3 := S2.trans s3
  have y3 := y2.lf s3.lf
  refine RP.lit [⟨#[59]⟩] rfl rfl fun v4 g4 x4 o4 => ?_
  have S4 := S3.trans (SF.ext x4)
  have y4 := y3.ext x4
  have z4 := z3.ext x4
  refine RP.c (l129 (d := (e + 1)) (by omega) z4 o4.src (tk_cons rfl tk_nil) (by first | omega | (simp; omega))) fun v5 g5 ⟨s5, z5⟩ => ?_
  have S5 := S4.trans s5
  have y5 := y4.lf s5.lf
  exact RP.fin S5 z5 (by simp [ntoks, hk])
theorem p133_20 {e : Nat} {nv kv : Value} {top : Int} {T : List Kn} {F : Int → List BA} {n : Kn} {p t0 : Nat} {X : List BA} {h : AHeap} (he : 1048577 < e) (ks : KSe h.size h nv T) (r2 : RowE h t0 35 [nv, .int .i64 top]) (is : ISl h.size h kv n.ks) (hl : n.ks.length ≤ 1000000) (hK : ∀ k ∈ n.ks, PTok nv top T p t0 F (e + 2) k) (hk : n.k = 20) (k0 : 0 < n.ks.length) (z : PrX h p t0 X) (hX : X.length + (ntoks F n).length ≤ 1000000) :
    RP h p t0 (X ++ ntoks F n) (call Try.prog Ms (e + 3) 133 [ptr p 0, knVal n kv] h) := by
  simp [ntoks, hk] at hX
  rw [c133, e133]
  refine RP.b (kn_aCells is) ?_
  refine new_step (P := RP h p t0 (X ++ ntoks F n)) fun p5 g0 x2 o2 _ => ?_
  have S0 := SF.ext x2
  have y0 : Env g0 t0 p5 nv top T n kv := ⟨r2.lf S0.lf (by decide) (by decide) (by decide), Own.rowE o2, (ks.lf S0.lf).mono S0.1, (is.lf S0.lf).mono S0.1⟩
  have z0 := z.ext x2
  refine RP.b rfl (RP.b y0.f0 (RP.b rfl (RP.cf (by rw [hk]; rfl) (RP.cf (by rw [hk]; rfl) (RP.cf (by rw [hk]; rfl) (RP.cf (by rw [hk]; rfl) (RP.ct (by rw [hk]; rfl) (RP.b rfl (RP.b y0.f3 (RP.b (y0.q0 k0) (RP.b (y0.r k0) (RP.b rfl ?_))))))))))))
  refine RP.c ((hK _ (kd_mem k0)).2.2 g0 _ y0.ksl y0.r2 z0 (by first | omega | (simp; omega))) fun v1 g1 ⟨s1, z1⟩ => ?_
  have S1 := S0.trans s1
  have y1 := y0.lf s1.lf
  refine RP.lit [⟨#[59]⟩] rfl rfl fun v2 g2 x2 o2 => ?_
  have S2 := S1.trans (SF.ext x2)
  have y2 := y1.ext x2
  have z2 := z1.ext x2
  refine RP.c (l129 (d := (e + 1)) (by omega) z2 o2.src (tk_cons rfl tk_nil) (by first | omega | (simp; omega))) fun v3 g3 ⟨s3, z3⟩ => ?_
  have S3 := S2.trans s3
  have y3 := y2.lf s3.lf
  exact RP.fin S3 z3 (by simp [ntoks, hk])
end Go.Proofs.Ytadmoackacickaa
/- The program's printer: all nodes (in part printed by prn_impl.py). -/
set_option linter.unusedSimpArgs false
namespace Go.Proofs.Ytadmoackacickaa
open Go Go.AH

theorem p81_6 {e : Nat} {nv : Value} {top : Int} {T : List Kn} {F : Int → List BA} {n : Kn} {p t0 : Nat} {X : List BA} {h : AHeap} (he : 1048577 < e) (ks : KSe h.size h nv T) (r2 : RowE h t0 35 [nv, .int .i64 top]) {i : Nat} (hi : T[i]? = some n) (hl : n.ks.length ≤ 1000000) (hK : ∀ k ∈ n.ks, PTok nv top T p t0 F (e + 2) k) (hk : n.k = 6) (hT : ntoks F n = [⟨#[40]⟩] ++ inn F n ++ [⟨#[41]⟩]) (hD : ∀ g kv X, KSe g.size g nv T → RowE g t0 35 [nv, .int .i64 top] → ISl g.size g kv n.ks → PrX g p t0 X → X.length + (inn F n).length ≤ 1000000 → RP g p t0 (X ++ inn F n) (call Try.prog Ms (e + 2) 132 [ptr p 0, knVal n kv] g)) (z : PrX h p t0 X) (hX : X.length + (ntoks F n).length ≤ 1000000) :
    RP h p t0 (X ++ ntoks F n) (call Try.prog Ms (e + 3) 81 [ptr p 0, .int .i64 (i : Int)] h) := by
  simp [hT] at hX
  rw [c81, e81]
  obtain ⟨q, kv, q1, q2, is⟩ := knotAt ks hi
  obtain ⟨ov, r, bo⟩ := z.pr
  refine RP.b rfl (RP.b rfl (RP.b (r.row.ld1 (off := 0) (v := ptr t0 0) rfl) (RP.b rfl (RP.b rfl (RP.b (ld2 r2.row).1 (RP.b q1 (RP.b q2 ?_)))))))
  refine newSt_step (P := RP h p t0 (X ++ ntoks F n)) (kn_aCells is) rfl rfl fun p5 g0 x2 o2 _ => ?_
  have S0 := SF.ext x2
  have y0 : Env g0 t0 p5 nv top T n kv := ⟨r2.lf S0.lf (by decide) (by decide) (by decide), Own.rowE o2, (ks.lf S0.lf).mono S0.1, (is.lf S0.lf).mono S0.1⟩
  have z0 := z.ext x2
  refine RP.b rfl (RP.b y0.f0 (RP.b rfl (RP.cf (by rw [hk]; rfl) (RP.cf (by rw [hk]; rfl) (RP.cf (by rw [hk]; rfl) (RP.cf (by rw [hk]; rfl) (RP.cf (by rw [hk]; rfl) ?_)))))))
  rw [s81_0_j, s81_0_eq]
  refine RP.cf (by rw [hk]; rfl) (RP.cf (by rw [hk]; rfl) (RP.cf (by rw [hk]; rfl) (RP.cf (by rw [hk]; rfl) (RP.cf (by rw [hk]; rfl) (RP.ct (by rw [hk]; rfl) ?_)))))
  rw [s81_1_j, s81_1_eq]
  refine RP.ct (by rw [hk]; rfl) ?_
  refine RP.lit [⟨#[40]⟩] rfl rfl fun v1 g1 x1 o1 => ?_
  have S1 := S0.trans (SF.ext x1)
  have y1 := y0.ext x1
  have z1 := z0.ext x1
  refine RP.c (l129 (d := (e + 1)) (by omega) z1 o1.src (tk_cons rfl tk_nil) (by first | omega | (simp; omega))) fun v2 g2 ⟨s2, z2⟩ => ?_
  have S2 := S1.trans s2
  have y2 := y1.lf s2.lf
  refine RP.b y2.all ?_
  refine RP.c (hD g2 _ _ y2.ksl y2.r2 y2.isl z2 (by first | omega | (simp; omega))) fun v3 g3 ⟨s3, z3⟩ => ?_
  have S3 := S2.trans s3
  have y3 := y2.lf s3.lf
  refine RP.lit [⟨#[41]⟩] rfl rfl fun v4 g4 x4 o4 => ?_
  have S4 := S3.trans (SF.ext x4)
  have y4 := y3.ext x4
  have z4 := z3.ext x4
  refine RP.c (l129 (d := (e + 1)) (by omega) z4 o4.src (tk_cons rfl tk_nil) (by first | omega | (simp; omega))) fun v5 g5 ⟨s5, z5⟩ => ?_
  have S5 := S4.trans s5
  have y5 := y4.lf s5.lf
  exact RP.fin S5 z5 (by simp [hT])
theorem p81_7 {e : Nat} {nv : Value} {top : Int} {T : List Kn} {F : Int → List BA} {n : Kn} {p t0 : Nat} {X : List BA} {h : AHeap} (he : 1048577 < e) (ks : KSe h.size h nv T) (r2 : RowE h t0 35 [nv, .int .i64 top]) {i : Nat} (hi : T[i]? = some n) (hl : n.ks.length ≤ 1000000) (hK : ∀ k ∈ n.ks, PTok nv top T p t0 F (e + 2) k) (hk : n.k = 7) (hT : ntoks F n = [⟨#[40]⟩] ++ inn F n ++ [⟨#[41]⟩]) (hD : ∀ g kv X, KSe g.size g nv T → RowE g t0 35 [nv, .int .i64 top] → ISl g.size g kv n.ks → PrX g p t0 X → X.length + (inn F n).length ≤ 1000000 → RP g p t0 (X ++ inn F n) (call Try.prog Ms (e + 2) 132 [ptr p 0, knVal n kv] g)) (z : PrX h p t0 X) (hX : X.length + (ntoks F n).length ≤ 1000000) :
    RP h p t0 (X ++ ntoks F n) (call Try.prog Ms (e + 3) 81 [ptr p 0, .int .i64 (i : Int)] h) := by
  simp [hT] at hX
  rw [c81, e81]
  obtain ⟨q, kv, q1, q2, is⟩ := knotAt ks hi
  obtain ⟨ov, r, bo⟩ := z.pr
  refine RP.b rfl (RP.b rfl (RP.b (r.row.ld1 (off := 0) (v := ptr t0 0) rfl) (RP.b rfl (RP.b rfl (RP.b (ld2 r2.row).1 (RP.b q1 (RP.b q2 ?_)))))))
  refine newSt_step (P := RP h p t0 (X ++ ntoks F n)) (kn_aCells is) rfl rfl fun p5 g0 x2 o2 _ => ?_
  have S0 := SF.ext x2
  have y0 : Env g0 t0 p5 nv top T n kv := ⟨r2.lf S0.lf (by decide) (by decide) (by decide), Own.rowE o2, (ks.lf S0.lf).mono S0.1, (is.lf S0.lf).mono S0.1⟩
  have z0 := z.ext x2
  refine RP.b rfl (RP.b y0.f0 (RP.b rfl (RP.cf (by rw [hk]; rfl) (RP.cf (by rw [hk]; rfl) (RP.cf (by rw [hk]; rfl) (RP.cf (by rw [hk]; rfl) (RP.cf (by rw [hk]; rfl) ?_)))))))
  rw [s81_0_j, s81_0_eq]
  refine RP.cf (by rw [hk]; rfl) (RP.cf (by rw [hk]; rfl) (RP.cf (by rw [hk]; rfl) (RP.cf (by rw [hk]; rfl) (RP.cf (by rw [hk]; rfl) (RP.cf (by rw [hk]; rfl) (RP.ct (by rw [hk]; rfl) ?_))))))
  rw [s81_1_j, s81_1_eq]
  refine RP.ct (by rw [hk]; rfl) ?_
  refine RP.lit [⟨#[40]⟩] rfl rfl fun v1 g1 x1 o1 => ?_
  have S1 := S0.trans (SF.ext x1)
  have y1 := y0.ext x1
  have z1 := z0.ext x1
  refine RP.c (l129 (d := (e + 1)) (by omega) z1 o1.src (tk_cons rfl tk_nil) (by first | omega | (simp; omega))) fun v2 g2 ⟨s2, z2⟩ => ?_
  have S2 := S1.trans s2
  have y2 := y1.lf s2.lf
  refine RP.b y2.all ?_
  refine RP.c (hD g2 _ _ y2.ksl y2.r2 y2.isl z2 (by first | omega | (simp; omega))) fun v3 g3 ⟨s3, z3⟩ => ?_
  have S3 := S2.trans s3
  have y3 := y2.lf s3.lf
  refine RP.lit [⟨#[41]⟩] rfl rfl fun v4 g4 x4 o4 => ?_
  have S4 := S3.trans (SF.ext x4)
  have y4 := y3.ext x4
  have z4 := z3.ext x4
  refine RP.c (l129 (d := (e + 1)) (by omega) z4 o4.src (tk_cons rfl tk_nil) (by first | omega | (simp; omega))) fun v5 g5 ⟨s5, z5⟩ => ?_
  have S5 := S4.trans s5
  have y5 := y4.lf s5.lf
  exact RP.fin S5 z5 (by simp [hT])
theorem p81_10 {e : Nat} {nv : Value} {top : Int} {T : List Kn} {F : Int → List BA} {n : Kn} {p t0 : Nat} {X : List BA} {h : AHeap} (he : 1048577 < e) (ks : KSe h.size h nv T) (r2 : RowE h t0 35 [nv, .int .i64 top]) {i : Nat} (hi : T[i]? = some n) (hl : n.ks.length ≤ 1000000) (hK : ∀ k ∈ n.ks, PTok nv top T p t0 F (e + 2) k) (hk : n.k = 10) (hT : ntoks F n = [⟨#[40]⟩] ++ inn F n ++ [⟨#[41]⟩]) (hD : ∀ g kv X, KSe g.size g nv T → RowE g t0 35 [nv, .int .i64 top] → ISl g.size g kv n.ks → PrX g p t0 X → X.length + (inn F n).length ≤ 1000000 → RP g p t0 (X ++ inn F n) (call Try.prog Ms (e + 2) 132 [ptr p 0, knVal n kv] g)) (z : PrX h p t0 X) (hX : X.length + (ntoks F n).length ≤ 1000000) :
    RP h p t0 (X ++ ntoks F n) (call Try.prog Ms (e + 3) 81 [ptr p 0, .int .i64 (i : Int)] h) := by
  simp [hT] at hX
  rw [c81, e81]
  obtain ⟨q, kv, q1, q2, is⟩ := knotAt ks hi
  obtain ⟨ov, r, bo⟩ := z.pr
  refine RP.b rfl (RP.b rfl (RP.b (r.row.ld1 (off := 0) (v := ptr t0 0) rfl) (RP.b rfl (RP.b rfl (RP.b (ld2 r2.row).1 (RP.b q1 (RP.b q2 ?_)))))))
  refine newSt_step (P := RP h p t0 (X ++ ntoks F n)) (kn_aCells is) rfl rfl fun p5 g0 x2 o2 _ => ?_
  have S0 := SF.ext x2
  have y0 : Env g0 t0 p5 nv top T n kv := ⟨r2.lf S0.lf (by decide) (by decide) (by decide), Own.rowE o2, (ks.lf S0.lf).mono S0.1, (is.lf S0.lf).mono S0.1⟩
  have z0 := z.ext x2
  refine RP.b rfl (RP.b y0.f0 (RP.b rfl (RP.cf (by rw [hk]; rfl) (RP.cf (by rw [hk]; rfl) (RP.cf (by rw [hk]; rfl) (RP.cf (by rw [hk]; rfl) (RP.cf (by rw [hk]; rfl) ?_)))))))
  rw [s81_0_j, s81_0_eq]
  refine RP.cf (by rw [hk]; rfl) (RP.cf (by rw [hk]; rfl) (RP.cf (by rw [hk]; rfl) (RP.cf (by rw [hk]; rfl) (RP.cf (by rw [hk]; rfl) (RP.cf (by rw [hk]; rfl) (RP.cf (by rw [hk]; rfl) (RP.ct (by rw [hk]; rfl) ?_)))))))
  rw [s81_1_j, s81_1_eq]
  refine RP.ct (by rw [hk]; rfl) ?_
  refine RP.lit [⟨#[40]⟩] rfl rfl fun v1 g1 x1 o1 => ?_
  have S1 := S0.trans (SF.ext x1)
  have y1 := y0.ext x1
  have z1 := z0.ext x1
  refine RP.c (l129 (d := (e + 1)) (by omega) z1 o1.src (tk_cons rfl tk_nil) (by first | omega | (simp; omega))) fun v2 g2 ⟨s2, z2⟩ => ?_
  have S2 := S1.trans s2
  have y2 := y1.lf s2.lf
  refine RP.b y2.all ?_
  refine RP.c (hD g2 _ _ y2.ksl y2.r2 y2.isl z2 (by first | omega | (simp; omega))) fun v3 g3 ⟨s3, z3⟩ => ?_
  have S3 := S2.trans s3
  have y3 := y2.lf s3.lf
  refine RP.lit [⟨#[41]⟩] rfl rfl fun v4 g4 x4 o4 => ?_
  have S4 := S3.trans (SF.ext x4)
  have y4 := y3.ext x4
  have z4 := z3.ext x4
  refine RP.c (l129 (d := (e + 1)) (by omega) z4 o4.src (tk_cons rfl tk_nil) (by first | omega | (simp; omega))) fun v5 g5 ⟨s5, z5⟩ => ?_
  have S5 := S4.trans s5
  have y5 := y4.lf s5.lf
  exact RP.fin S5 z5 (by simp [hT])
theorem p81_11 {e : Nat} {nv : Value} {top : Int} {T : List Kn} {F : Int → List BA} {n : Kn} {p t0 : Nat} {X : List BA} {h : AHeap} (he : 1048577 < e) (ks : KSe h.size h nv T) (r2 : RowE h t0 35 [nv, .int .i64 top]) {i : Nat} (hi : T[i]? = some n) (hl : n.ks.length ≤ 1000000) (hK : ∀ k ∈ n.ks, PTok nv top T p t0 F (e + 2) k) (hk : n.k = 11) (hT : ntoks F n = [⟨#[40]⟩] ++ inn F n ++ [⟨#[41]⟩]) (hD : ∀ g kv X, KSe g.size g nv T → RowE g t0 35 [nv, .int .i64 top] → ISl g.size g kv n.ks → PrX g p t0 X → X.length + (inn F n).length ≤ 1000000 → RP g p t0 (X ++ inn F n) (call Try.prog Ms (e + 2) 132 [ptr p 0, knVal n kv] g)) (z : PrX h p t0 X) (hX : X.length + (ntoks F n).length ≤ 1000000) :
    RP h p t0 (X ++ ntoks F n) (call Try.prog Ms (e + 3) 81 [ptr p 0, .int .i64 (i : Int)] h) := by
  simp [hT] at hX
  rw [c81, e81]
  obtain ⟨q, kv, q1, q2, is⟩ := knotAt ks hi
  obtain ⟨ov, r, bo⟩ := z.pr
  refine RP.b rfl (RP.b rfl (RP.b (r.row.ld1 (off := 0) (v := ptr t0 0) rfl) (RP.b rfl (RP.b rfl (RP.b (ld2 r2.row).1 (RP.b q1 (RP.b q2 ?_)))))))
  refine newSt_step (P := RP h p t0 (X ++ ntoks F n)) (kn_aCells is) rfl rfl fun p5 g0 x2 o2 _ => ?_
  have S0 := SF.ext x2
  have y0 : Env g0 t0 p5 nv top T n kv := ⟨r2.lf S0.lf (by decide) (by decide) (by decide), Own.rowE o2, (ks.lf S0.lf).mono S0.1, (is.lf S0.lf).mono S0.1⟩
  have z0 := z.ext x2
  refine RP.b rfl (RP.b y0.f0 (RP.b rfl (RP.cf (by rw [hk]; rfl) (RP.cf (by rw [hk]; rfl) (RP.cf (by rw [hk]; rfl) (RP.cf (by rw [hk]; rfl) (RP.cf (by rw [hk]; rfl) ?_)))))))
  rw [s81_0_j, s81_0_eq]
  refine RP.cf (by rw [hk]; rfl) (RP.cf (by rw [hk]; rfl) (RP.cf (by rw [hk]; rfl) (RP.cf (by rw [hk]; rfl) (RP.cf (by rw [hk]; rfl) (RP.cf (by rw [hk]; rfl) (RP.cf (by rw [hk]; rfl) (RP.cf (by rw [hk]; rfl) (RP.ct (by rw [hk]; rfl) ?_))))))))
  rw [s81_1_j, s81_1_eq]
  refine RP.ct (by rw [hk]; rfl) ?_
  refine RP.lit [⟨#[40]⟩] rfl rfl fun v1 g1 x1 o1 => ?_
  have S1 := S0.trans (SF.ext x1)
  have y1 := y0.ext x1
  have z1 := z0.ext x1
  refine RP.c (l129 (d := (e + 1)) (by omega) z1 o1.src (tk_cons rfl tk_nil) (by first | omega | (simp; omega))) fun v2 g2 ⟨s2, z2⟩ => ?_
  have S2 := S1.trans s2
  have y2 := y1.lf s2.lf
  refine RP.b y2.all ?_
  refine RP.c (hD g2 _ _ y2.ksl y2.r2 y2.isl z2 (by first | omega | (simp; omega))) fun v3 g3 ⟨s3, z3⟩ => ?_
  have S3 := S2.trans s3
  have y3 := y2.lf s3.lf
  refine RP.lit [⟨#[41]⟩] rfl rfl fun v4 g4 x4 o4 => ?_
  have S4 := S3.trans (SF.ext x4)
  have y4 := y3.ext x4
  have z4 := z3.ext x4
  refine RP.c (l129 (d := (e + 1)) (by omega) z4 o4.src (tk_cons rfl tk_nil) (by first | omega | (simp; omega))) fun v5 g5 ⟨s5, z5⟩ => ?_
  have S5 := S4.trans s5
  have y5 := y4.lf s5.lf
  exact RP.fin S5 z5 (by simp [hT])
theorem p81_12 {e : Nat} {nv : Value} {top : Int} {T : List Kn} {F : Int → List BA} {n : Kn} {p t0 : Nat} {X : List BA} {h : AHeap} (he : 1048577 < e) (ks : KSe h.size h nv T) (r2 : RowE h t0 35 [nv, .int .i64 top]) {i : Nat} (hi : T[i]? = some n) (hl : n.ks.length ≤ 1000000) (hK : ∀ k ∈ n.ks, PTok nv top T p t0 F (e + 2) k) (hk : n.k = 12) (hT : ntoks F n = [⟨#[40]⟩] ++ inn F n ++ [⟨#[41]⟩]) (hD : ∀ g kv X, KSe g.size g nv T → RowE g t0 35 [nv, .int .i64 top] → ISl g.size g kv n.ks → PrX g p t0 X → X.length + (inn F n).length ≤ 1000000 → RP g p t0 (X ++ inn F n) (call Try.prog Ms (e + 2) 132 [ptr p 0, knVal n kv] g)) (z : PrX h p t0 X) (hX : X.length + (ntoks F n).length ≤ 1000000) :
    RP h p t0 (X ++ ntoks F n) (call Try.prog Ms (e + 3) 81 [ptr p 0, .int .i64 (i : Int)] h) := by
  simp [hT] at hX
  rw [c81, e81]
  obtain ⟨q, kv, q1, q2, is⟩ := knotAt ks hi
  obtain ⟨ov, r, bo⟩ := z.pr
  refine RP.b rfl (RP.b rfl (RP.b (r.row.ld1 (off := 0) (v := ptr t0 0) rfl) (RP.b rfl (RP.b rfl (RP.b (ld2 r2.row).1 (RP.b q1 (RP.b q2 ?_)))))))
  refine newSt_step (P := RP h p t0 (X ++ ntoks F n)) (kn_aCells is) rfl rfl fun p5 g0 x2 o2 _ => ?_
  have S0 := SF.ext x2
  have y0 : Env g0 t0 p5 nv top T n kv := ⟨r2.lf S0.lf (by decide) (by decide) (by decide), Own.rowE o2, (ks.lf S0.lf).mono S0.1, (is.lf S0.lf).mono S0.1⟩
  have z0 := z.ext x2
  refine RP.b rfl (RP.b y0.f0 (RP.b rfl (RP.cf (by rw [hk]; rfl) (RP.cf (by rw [hk]; rfl) (RP.cf (by rw [hk]; rfl) (RP.cf (by rw [hk]; rfl) (RP.cf (by rw [hk]; rfl) ?_)))))))
  rw [s81_0_j, s81_0_eq]
  refine RP.cf (by rw [hk]; rfl) (RP.cf (by rw [hk]; rfl) (RP.cf (by rw [hk]; rfl) (RP.cf (by rw [hk]; rfl) (RP.cf (by rw [hk]; rfl) (RP.cf (by rw [hk]; rfl) (RP.cf (by rw [hk]; rfl) (RP.cf (by rw [hk]; rfl) (RP.cf (by rw [hk]; rfl) (RP.ct (by rw [hk]; rfl) ?_)))))))))
  rw [s81_1_j, s81_1_eq]
  refine RP.ct (by rw [hk]; rfl) ?_
  refine RP.lit [⟨#[40]⟩] rfl rfl fun v1 g1 x1 o1 => ?_
  have S1 := S0.trans (SF.ext x1)
  have y1 := y0.ext x1
  have z1 := z0.ext x1
  refine RP.c (l129 (d := (e + 1)) (by omega) z1 o1.src (tk_cons rfl tk_nil) (by first | omega | (simp; omega))) fun v2 g2 ⟨s2, z2⟩ => ?_
  have S2 := S1.trans s2
  have y2 := y1.lf s2.lf
  refine RP.b y2.all ?_
  refine RP.c (hD g2 _ _ y2.ksl y2.r2 y2.isl z2 (by first | omega | (simp; omega))) fun v3 g3 ⟨s3, z3⟩ => ?_
  have S3 := S2.trans s3
  have y3 := y2.lf s3.lf
  refine RP.lit [⟨#[41]⟩] rfl rfl fun v4 g4 x4 o4 => ?_
  have S4 := S3.trans (SF.ext x4)
  have y4 := y3.ext x4
  have z4 := z3.ext x4
  refine RP.c (l129 (d := (e + 1)) (by omega) z4 o4.src (tk_cons rfl tk_nil) (by first | omega | (simp; omega))) fun v5 g5 ⟨s5, z5⟩ => ?_
  have S5 := S4.trans s5
  have y5 := y4.lf s5.lf
  exact RP.fin S5 z5 (by simp [hT])
theorem p81_13 {e : Nat} {nv : Value} {top : Int} {T : List Kn} {F : Int → List BA} {n : Kn} {p t0 : Nat} {X : List BA} {h : AHeap} (he : 1048577 < e) (ks : KSe h.size h nv T) (r2 : RowE h t0 35 [nv, .int .i64 top]) {i : Nat} (hi : T[i]? = some n) (hl : n.ks.length ≤ 1000000) (hK : ∀ k ∈ n.ks, PTok nv top T p t0 F (e + 2) k) (hk : n.k = 13) (hT : ntoks F n = [⟨#[40]⟩] ++ inn F n ++ [⟨#[41]⟩]) (hD : ∀ g kv X, KSe g.size g nv T → RowE g t0 35 [nv, .int .i64 top] → ISl g.size g kv n.ks → PrX g p t0 X → X.length + (inn F n).length ≤ 1000000 → RP g p t0 (X ++ inn F n) (call Try.prog Ms (e + 2) 132 [ptr p 0, knVal n kv] g)) (z : PrX h p t0 X) (hX : X.length + (ntoks F n).length ≤ 1000000) :
    RP h p t0 (X ++ ntoks F n) (call Try.prog Ms (e + 3) 81 [ptr p 0, .int .i64 (i : Int)] h) := by
  simp [hT] at hX
  rw [c81, e81]
  obtain ⟨q, kv, q1, q2, is⟩ := knotAt ks hi
  obtain ⟨ov, r, bo⟩ := z.pr
  refine RP.b rfl (RP.b rfl (RP.b (r.row.ld1 (off := 0) (v := ptr t0 0) rfl) (RP.b rfl (RP.b rfl (RP.b (ld2 r2.row).1 (RP.b q1 (RP.b q2 ?_)))))))
  refine newSt_step (P := RP h p t0 (X ++ ntoks F n)) (kn_aCells is) rfl rfl fun p5 g0 x2 o2 _ => ?_
  have S0 := SF.ext x2
  have y0 : Env g0 t0 p5 nv top T n kv := ⟨r2.lf S0.lf (by decide) (by decide) (by decide), Own.rowE o2, (ks.lf S0.lf).mono S0.1, (is.lf S0.lf).mono S0.1⟩
  have z0 := z.ext x2
  refine RP.b rfl (RP.b y0.f0 (RP.b rfl (RP.cf (by rw [hk]; rfl) (RP.cf (by rw [hk]; rfl) (RP.cf (by rw [hk]; rfl) (RP.cf (by rw [hk]; rfl) (RP.cf (by rw [hk]; rfl) ?_)))))))
  rw [s81_0_j, s81_0_eq]
  refine RP.cf (by rw [hk]; rfl) (RP.cf (by rw [hk]; rfl) (RP.cf (by rw [hk]; rfl) (RP.cf (by rw [hk]; rfl) (RP.cf (by rw [hk]; rfl) (RP.cf (by rw [hk]; rfl) (RP.cf (by rw [hk]; rfl) (RP.cf (by rw [hk]; rfl) (RP.cf (by rw [hk]; rfl) (RP.cf (by rw [hk]; rfl) ?_)))))))))
  rw [s81_1_j, s81_1_eq]
  refine RP.ct (by rw [hk]; rfl) ?_
  refine RP.lit [⟨#[40]⟩] rfl rfl fun v1 g1 x1 o1 => ?_
  have S1 := S0.trans (SF.ext x1)
  have y1 := y0.ext x1
  have z1 := z0.ext x1
  refine RP.c (l129 (d := (e + 1)) (by omega) z1 o1.src (tk_cons rfl tk_nil) (by first | omega | (simp; omega))) fun v2 g2 ⟨s2, z2⟩ => ?_
  have S2 := S1.trans s2
  have y2 := y1.lf s2.lf
  refine RP.b y2.all ?_
  refine RP.c (hD g2 _ _ y2.ksl y2.r2 y2.isl z2 (by first | omega | (simp; omega))) fun v3 g3 ⟨s3, z3⟩ => ?_
  have S3 := S2.trans s3
  have y3 := y2.lf s3.lf
  refine RP.lit [⟨#[41]⟩] rfl rfl fun v4 g4 x4 o4 => ?_
  have S4 := S3.trans (SF.ext x4)
  have y4 := y3.ext x4
  have z4 := z3.ext x4
  refine RP.c (l129 (d := (e + 1)) (by omega) z4 o4.src (tk_cons rfl tk_nil) (by first | omega | (simp; omega))) fun v5 g5 ⟨s5, z5⟩ => ?_
  have S5 := S4.trans s5
  have y5 := y4.lf s5.lf
  exact RP.fin S5 z5 (by simp [hT])
theorem p81_14 {e : Nat} {nv : Value} {top : Int} {T : List Kn} {F : Int → List BA} {n : Kn} {p t0 : Nat} {X : List BA} {h : AHeap} (he : 1048577 < e) (ks : KSe h.size h nv T) (r2 : RowE h t0 35 [nv, .int .i64 top]) {i : Nat} (hi : T[i]? = some n) (hl : n.ks.length ≤ 1000000) (hK : ∀ k ∈ n.ks, PTok nv top T p t0 F (e + 2) k) (hk : n.k = 14) (hD : ∀ g kv X, KSe g.size g nv T → RowE g t0 35 [nv, .int .i64 top] → ISl g.size g kv n.ks → PrX g p t0 X → X.length + (ntoks F n).length ≤ 1000000 → RP g p t0 (X ++ ntoks F n) (call Try.prog Ms (e + 2) 133 [ptr p 0, knVal n kv] g)) (z : PrX h p t0 X) (hX : X.length + (ntoks F n).length ≤ 1000000) :
    RP h p t0 (X ++ ntoks F n) (call Try.prog Ms (e + 3) 81 [ptr p 0, .int .i64 (i : Int)] h) := by
  rw [c81, e81]
  obtain ⟨q, kv, q1, q2, is⟩ := knotAt ks hi
  obtain ⟨ov, r, bo⟩ := z.pr
  refine RP.b rfl (RP.b rfl (RP.b (r.row.ld1 (off := 0) (v := ptr t0 0) rfl) (RP.b rfl (RP.b rfl (RP.b (ld2 r2.row).1 (RP.b q1 (RP.b q2 ?_)))))))
  refine newSt_step (P := RP h p t0 (X ++ ntoks F n)) (kn_aCells is) rfl rfl fun p5 g0 x2 o2 _ => ?_
  have S0 := SF.ext x2
  have y0 : Env g0 t0 p5 nv top T n kv := ⟨r2.lf S0.lf (by decide) (by decide) (by decide), Own.rowE o2, (ks.lf S0.lf).mono S0.1, (is.lf S0.lf).mono S0.1⟩
  have z0 := z.ext x2
  refine RP.b rfl (RP.b y0.f0 (RP.b rfl (RP.cf (by rw [hk]; rfl) (RP.cf (by rw [hk]; rfl) (RP.cf (by rw [hk]; rfl) (RP.cf (by rw [hk]; rfl) (RP.cf (by rw [hk]; rfl) ?_)))))))
  rw [s81_0_j, s81_0_eq]
  refine RP.cf (by rw [hk]; rfl) (RP.cf (by rw [hk]; rfl) (RP.cf (by rw [hk]; rfl) (RP.cf (by rw [hk]; rfl) (RP.cf (by rw [hk]; rfl) (RP.cf (by rw [hk]; rfl) (RP.cf (by rw [hk]; rfl) (RP.cf (by rw [hk]; rfl) (RP.cf (by rw [hk]; rfl) (RP.cf (by rw [hk]; rfl) ?_)))))))))
  rw [s81_1_j, s81_1_eq]
  refine RP.cf (by rw [hk]; rfl) (RP.b y0.all ?_)
  refine RP.c (hD g0 _ _ y0.ksl y0.r2 y0.isl z0 (by first | omega | (simp; omega))) fun v1 g1 ⟨s1, z1⟩ => ?_
  have S1 := S0.trans s1
  have y1 := y0.lf s1.lf
  exact RP.fin S1 z1 rfl
theorem p81_15 {e : Nat} {nv : Value} {top : Int} {T : List Kn} {F : Int → List BA} {n : Kn} {p t0 : Nat} {X : List BA} {h : AHeap} (he : 1048577 < e) (ks : KSe h.size h nv T) (r2 : RowE h t0 35 [nv, .int .i64 top]) {i : Nat} (hi : T[i]? = some n) (hl : n.ks.length ≤ 1000000) (hK : ∀ k ∈ n.ks, PTok nv top T p t0 F (e + 2) k) (hk : n.k = 15) (hD : ∀ g kv X, KSe g.size g nv T → RowE g t0 35 [nv, .int .i64 top] → ISl g.size g kv n.ks → PrX g p t0 X → X.length + (ntoks F n).length ≤ 1000000 → RP g p t0 (X ++ ntoks F n) (call Try.prog Ms (e + 2) 133 [ptr p 0, knVal n kv] g)) (z : PrX h p t0 X) (hX : X.length + (ntoks F n).length ≤ 1000000) :
    RP h p t0 (X ++ ntoks F n) (call Try.prog Ms (e + 3) 81 [ptr p 0, .int .i64 (i : Int)] h) := by
  rw [c81, e81]
  obtain ⟨q, kv, q1, q2, is⟩ := knotAt ks hi
  obtain ⟨ov, r, bo⟩ := z.pr
  refine RP.b rfl (RP.b rfl (RP.b (r.row.ld1 (off := 0) (v := ptr t0 0) rfl) (RP.b rfl (RP.b rfl (RP.b (ld2 r2.row).1 (RP.b q1 (RP.b q2 ?_)))))))
  refine newSt_step (P := RP h p t0 (X ++ ntoks F n)) (kn_aCells is) rfl rfl fun p5 g0 x2 o2 _ => ?_
  have S0 := SF.ext x2
  have y0 : Env g0 t0 p5 nv top T n kv := ⟨r2.lf S0.lf (by decide) (by decide) (by decide), Own.rowE o2, (ks.lf S0.lf).mono S0.1, (is.lf S0.lf).mono S0.1⟩
  have z0 := z.ext x2
  refine RP.b rfl (RP.b y0.f0 (RP.b rfl (RP.cf (by rw [hk]; rfl) (RP.cf (by rw [hk]; rfl) (RP.cf (by rw [hk]; rfl) (RP.cf (by rw [hk]; rfl) (RP.cf (by rw [hk]; rfl) ?_)))))))
  rw [s81_0_j, s81_0_eq]
  refine RP.cf (by rw [hk]; rfl) (RP.cf (by rw [hk]; rfl) (RP.cf (by rw [hk]; rfl) (RP.cf (by rw [hk]; rfl) (RP.cf (by rw [hk]; rfl) (RP.cf (by rw [hk]; rfl) (RP.cf (by rw [hk]; rfl) (RP.cf (by rw [hk]; rfl) (RP.cf (by rw [hk]; rfl) (RP.cf (by rw [hk]; rfl) ?_)))))))))
  rw [s81_1_j, s81_1_eq]
  refine RP.cf (by rw [hk]; rfl) (RP.b y0.all ?_)
  refine RP.c (hD g0 _ _ y0.ksl y0.r2 y0.isl z0 (by first | omega | (simp; omega))) fun v1 g1 ⟨s1, z1⟩ => ?_
  have S1 := S0.trans s1
  have y1 := y0.lf s1.lf
  exact RP.fin S1 z1 rfl
theorem p81_16 {e : Nat} {nv : Value} {top : Int} {T : List Kn} {F : Int → List BA} {n : Kn} {p t0 : Nat} {X : List BA} {h : AHeap} (he : 1048577 < e) (ks : KSe h.size h nv T) (r2 : RowE h t0 35 [nv, .int .i64 top]) {i : Nat} (hi : T[i]? = some n) (hl : n.ks.length ≤ 1000000) (hK : ∀ k ∈ n.ks, PTok nv top T p t0 F (e + 2) k) (hk : n.k = 16) (hD : ∀ g kv X, KSe g.size g nv T → RowE g t0 35 [nv, .int .i64 top] → ISl g.size g kv n.ks → PrX g p t0 X → X.length + (ntoks F n).length ≤ 1000000 → RP g p t0 (X ++ ntoks F n) (call Try.prog Ms (e + 2) 133 [ptr p 0, knVal n kv] g)) (z : PrX h p t0 X) (hX : X.length + (ntoks F n).length ≤ 1000000) :
    RP h p t0 (X ++ ntoks F n) (call Try.prog Ms (e + 3) 81 [ptr p 0, .int .i64 (i : Int)] h) := by
  rw [c81, e81]
  obtain ⟨q, kv, q1, q2, is⟩ := knotAt ks hi
  obtain ⟨ov, r, bo⟩ := z.pr
  refine RP.b rfl (RP.b rfl (RP.b (r.row.ld1 (off := 0) (v := ptr t0 0) rfl) (RP.b rfl (RP.b rfl (RP.b (ld2 r2.row).1 (RP.b q1 (RP.b q2 ?_)))))))
  refine newSt_step (P := RP h p t0 (X ++ ntoks F n)) (kn_aCells is) rfl rfl fun p5 g0 x2 o2 _ => ?_
  have S0 := SF.ext x2
  have y0 : Env g0 t0 p5 nv top T n kv := ⟨r2.lf S0.lf (by decide) (by decide) (by decide), Own.rowE o2, (ks.lf S0.lf).mono S0.1, (is.lf S0.lf).mono S0.1⟩
  have z0 := z.ext x2
  refine RP.b rfl (RP.b y0.f0 (RP.b rfl (RP.cf (by rw [hk]; rfl) (RP.cf (by rw [hk]; rfl) (RP.cf (by rw [hk]; rfl) (RP.cf (by rw [hk]; rfl) (RP.cf (by rw [hk]; rfl) ?_)))))))
  rw [s81_0_j, s81_0_eq]
  refine RP.cf (by rw [hk]; rfl) (RP.cf (by rw [hk]; rfl) (RP.cf (by rw [hk]; rfl) (RP.cf (by rw [hk]; rfl) (RP.cf (by rw [hk]; rfl) (RP.cf (by rw [hk]; rfl) (RP.cf (by rw [hk]; rfl) (RP.cf (by rw [hk]; rfl) (RP.cf (by rw [hk]; rfl) (RP.cf (by rw [hk]; rfl) ?_)))))))))
  rw [s81_1_j, s81_1_eq]
  refine RP.cf (by rw [hk]; rfl) (RP.b y0.all ?_)
  refine RP.c (hD g0 _ _ y0.ksl y0.r2 y0.isl z0 (by first | omega | (simp; omega))) fun v1 g1 ⟨s1, z1⟩ => ?_
  have S1 := S0.trans s1
  have y1 := y0.lf s1.lf
  exact RP.fin S1 z1 rfl
theorem p81_17 {e : Nat} {nv : Value} {top : Int} {T : List Kn} {F : Int → List BA} {n : Kn} {p t0 : Nat} {X : List BA} {h : AHeap} (he : 1048577 < e) (ks : KSe h.size h nv T) (r2 : RowE h t0 35 [nv, .int .i64 top]) {i : Nat} (hi : T[i]? = some n) (hl : n.ks.length ≤ 1000000) (hK : ∀ k ∈ n.ks, PTok nv top T p t0 F (e + 2) k) (hk : n.k = 17) (hD : ∀ g kv X, KSe g.size g nv T → RowE g t0 35 [nv, .int .i64 top] → ISl g.size g kv n.ks → PrX g p t0 X → X.length + (ntoks F n).length ≤ 1000000 → RP g p t0 (X ++ ntoks F n) (call Try.prog Ms (e + 2) 133 [ptr p 0, knVal n kv] g)) (z : PrX h p t0 X) (hX : X.length + (ntoks F n).length ≤ 1000000) :
    RP h p t0 (X ++ ntoks F n) (call Try.prog Ms (e + 3) 81 [ptr p 0, .int .i64 (i : Int)] h) := by
  rw [c81, e81]
  obtain ⟨q, kv, q1, q2, is⟩ := knotAt ks hi
  obtain ⟨ov, r, bo⟩ := z.pr
  refine RP.b rfl (RP.b rfl (RP.b (r.row.ld1 (off := 0) (v := ptr t0 0) rfl) (RP.b rfl (RP.b rfl (RP.b (ld2 r2.row).1 (RP.b q1 (RP.b q2 ?_)))))))
  refine newSt_step (P := RP h p t0 (X ++ ntoks F n)) (kn_aCells is) rfl rfl fun p5 g0 x2 o2 _ => ?_
  have S0 := SF.ext x2
  have y0 : Env g0 t0 p5 nv top T n kv := ⟨r2.lf S0.lf (by decide) (by decide) (by decide), Own.rowE o2, (ks.lf S0.lf).mono S0.1, (is.lf S0.lf).mono S0.1⟩
  have z0 := z.ext x2
  refine RP.b rfl (RP.b y0.f0 (RP.b rfl (RP.cf (by rw [hk]; rfl) (RP.cf (by rw [hk]; rfl) (RP.cf (by rw [hk]; rfl) (RP.cf (by rw [hk]; rfl) (RP.cf (by rw [hk]; rfl) ?_)))))))
  rw [s81_0_j, s81_0_eq]
  refine RP.cf (by rw [hk]; rfl) (RP.cf (by rw [hk]; rfl) (RP.cf (by rw [hk]; rfl) (RP.cf (by rw [hk]; rfl) (RP.cf (by rw [hk]; rfl) (RP.cf (by rw [hk]; rfl) (RP.cf (by rw [hk]; rfl) (RP.cf (by rw [hk]; rfl) (RP.cf (by rw [hk]; rfl) (RP.cf (by rw [hk]; rfl) ?_)))))))))
  rw [s81_1_j, s81_1_eq]
  refine RP.cf (by rw [hk]; rfl) (RP.b y0.all ?_)
  refine RP.c (hD g0 _ _ y0.ksl y0.r2 y0.isl z0 (by first | omega | (simp; omega))) fun v1 g1 ⟨s1, z1⟩ => ?_
  have S1 := S0.trans s1
  have y1 := y0.lf s1.lf
  exact RP.fin S1 z1 rfl
theorem p81_18 {e : Nat} {nv : Value} {top : Int} {T : List Kn} {F : Int → List BA} {n : Kn} {p t0 : Nat} {X : List BA} {h : AHeap} (he : 1048577 < e) (ks : KSe h.size h nv T) (r2 : RowE h t0 35 [nv, .int .i64 top]) {i : Nat} (hi : T[i]? = some n) (hl : n.ks.length ≤ 1000000) (hK : ∀ k ∈ n.ks, PTok nv top T p t0 F (e + 2) k) (hk : n.k = 18) (hD : ∀ g kv X, KSe g.size g nv T → RowE g t0 35 [nv, .int .i64 top] → ISl g.size g kv n.ks → PrX g p t0 X → X.length + (ntoks F n).length ≤ 1000000 → RP g p t0 (X ++ ntoks F n) (call Try.prog Ms (e + 2) 133 [ptr p 0, knVal n kv] g)) (z : PrX h p t0 X) (hX : X.length + (ntoks F n).length ≤ 1000000) :
    RP h p t0 (X ++ ntoks F n) (call Try.prog Ms (e + 3) 81 [ptr p 0, .int .i64 (i : Int)] h) := by
  rw [c81, e81]
  obtain ⟨q, kv, q1, q2, is⟩ := knotAt ks hi
  obtain ⟨ov, r, bo⟩ := z.pr
  refine RP.b rfl (RP.b rfl (RP.b (r.row.ld1 (off := 0) (v := ptr t0 0) rfl) (RP.b rfl (RP.b rfl (RP.b (ld2 r2.row).1 (RP.b q1 (RP.b q2 ?_)))))))
  refine newSt_step (P := RP h p t0 (X ++ ntoks F n)) (kn_aCells is) rfl rfl fun p5 g0 x2 o2 _ => ?_
  have S0 := SF.ext x2
  have y0 : Env g0 t0 p5 nv top T n kv := ⟨r2.lf S0.lf (by decide) (by decide) (by decide), Own.rowE o2, (ks.lf S0.lf).mono S0.1, (is.lf S0.lf).mono S0.1⟩
  have z0 := z.ext x2
  refine RP.b rfl (RP.b y0.f0 (RP.b rfl (RP.cf (by rw [hk]; rfl) (RP.cf (by rw [hk]; rfl) (RP.cf (by rw [hk]; rfl) (RP.cf (by rw [hk]; rfl) (RP.cf (by rw [hk]; rfl) ?_)))))))
  rw [s81_0_j, s81_0_eq]
  refine RP.cf (by rw [hk]; rfl) (RP.cf (by rw [hk]; rfl) (RP.cf (by rw [hk]; rfl) (RP.cf (by rw [hk]; rfl) (RP.cf (by rw [hk]; rfl) (RP.cf (by rw [hk]; rfl) (RP.cf (by rw [hk]; rfl) (RP.cf (by rw [hk]; rfl) (RP.cf (by rw [hk]; rfl) (RP.cf (by rw [hk]; rfl) ?_)))))))))
  rw [s81_1_j, s81_1_eq]
  refine RP.cf (by rw [hk]; rfl) (RP.b y0.all ?_)
  refine RP.c (hD g0 _ _ y0.ksl y0.r2 y0.isl z0 (by first | omega | (simp; omega))) fun v1 g1 ⟨s1, z1⟩ => ?_
  have S1 := S0.trans s1
  have y1 := y0.lf s1.lf
  exact RP.fin S1 z1 rfl
theorem p81_19 {e : Nat} {nv : Value} {top : Int} {T : List Kn} {F : Int → List BA} {n : Kn} {p t0 : Nat} {X : List BA} {h : AHeap} (he : 1048577 < e) (ks : KSe h.size h nv T) (r2 : RowE h t0 35 [nv, .int .i64 top]) {i : Nat} (hi : T[i]? = some n) (hl : n.ks.length ≤ 1000000) (hK : ∀ k ∈ n.ks, PTok nv top T p t0 F (e + 2) k) (hk : n.k = 19) (hD : ∀ g kv X, KSe g.size g nv T → RowE g t0 35 [nv, .int .i64 top] → ISl g.size g kv n.ks → PrX g p t0 X → X.length + (ntoks F n).length ≤ 1000000 → RP g p t0 (X ++ ntoks F n) (call Try.prog Ms (e + 2) 133 [ptr p 0, knVal n kv] g)) (z : PrX h p t0 X) (hX : X.length + (ntoks F n).length ≤ 1000000) :
    RP h p t0 (X ++ ntoks F n) (call Try.prog Ms (e + 3) 81 [ptr p 0, .int .i64 (i : Int)] h) := by
  rw [c81, e81]
  obtain ⟨q, kv, q1, q2, is⟩ := knotAt ks hi
  obtain ⟨ov, r, bo⟩ := z.pr
  refine RP.b rfl (RP.b rfl (RP.b (r.row.ld1 (off := 0) (v := ptr t0 0) rfl) (RP.b rfl (RP.b rfl (RP.b (ld2 r2.row).1 (RP.b q1 (RP.b q2 ?_)))))))
  refine newSt_step (P := RP h p t0 (X ++ ntoks F n)) (kn_aCells is) rfl rfl fun p5 g0 x2 o2 _ => ?_
  have S0 := SF.ext x2
  have y0 : Env g0 t0 p5 nv top T n kv := ⟨r2.lf S0.lf (by decide) (by decide) (by decide), Own.rowE o2, (ks.lf S0.lf).mono S0.1, (is.lf S0.lf).mono S0.1⟩
  have z0 := z.ext x2
  refine RP.b rfl (RP.b y0.f0 (RP.b rfl (RP.cf (by rw [hk]; rfl) (RP.cf (by rw [hk]; rfl) (RP.cf (by rw [hk]; rfl) (RP.cf (by rw [hk]; rfl) (RP.cf (by rw [hk]; rfl) ?_)))))))
  rw [s81_0_j, s81_0_eq]
  refine RP.cf (by rw [hk]; rfl) (RP.cf (by rw [hk]; rfl) (RP.cf (by rw [hk]; rfl) (RP.cf (by rw [hk]; rfl) (RP.cf (by rw [hk]; rfl) (RP.cf (by rw [hk]; rfl) (RP.cf (by rw [hk]; rfl) (RP.cf (by rw [hk]; rfl) (RP.cf (by rw [hk]; rfl) (RP.cf (by rw [hk]; rfl) ?_)))))))))
  rw [s81_1_j, s81_1_eq]
  refine RP.cf (by rw [hk]; rfl) (RP.b y0.all ?_)
  refine RP.c (hD g0 _ _ y0.ksl y0.r2 y0.isl z0 (by first | omega | (simp; omega))) fun v1 g1 ⟨s1, z1⟩ => ?_
  have S1 := S0.trans s1
  have y1 := y0.lf s1.lf
  exact RP.fin S1 z1 rfl
theorem p81_20 {e : Nat} {nv : Value} {top : Int} {T : List Kn} {F : Int → List BA} {n : Kn} {p t0 : Nat} {X : List BA} {h : AHeap} (he : 1048577 < e) (ks : KSe h.size h nv T) (r2 : RowE h t0 35 [nv, .int .i64 top]) {i : Nat} (hi : T[i]? = some n) (hl : n.ks.length ≤ 1000000) (hK : ∀ k ∈ n.ks, PTok nv top T p t0 F (e + 2) k) (hk : n.k = 20) (hD : ∀ g kv X, KSe g.size g nv T → RowE g t0 35 [nv, .int .i64 top] → ISl g.size g kv n.ks → PrX g p t0 X → X.length + (ntoks F n).length ≤ 1000000 → RP g p t0 (X ++ ntoks F n) (call Try.prog Ms (e + 2) 133 [ptr p 0, knVal n kv] g)) (z : PrX h p t0 X) (hX : X.length + (ntoks F n).length ≤ 1000000) :
    RP h p t0 (X ++ ntoks F n) (call Try.prog Ms (e + 3) 81 [ptr p 0, .int .i64 (i : Int)] h) := by
  rw [c81, e81]
  obtain ⟨q, kv, q1, q2, is⟩ := knotAt ks hi
  obtain ⟨ov, r, bo⟩ := z.pr
  refine RP.b rfl (RP.b rfl (RP.b (r.row.ld1 (off := 0) (v := ptr t0 0) rfl) (RP.b rfl (RP.b rfl (RP.b (ld2 r2.row).1 (RP.b q1 (RP.b q2 ?_)))))))
  refine newSt_step (P := RP h p t0 (X ++ ntoks F n)) (kn_aCells is) rfl rfl fun p5 g0 x2 o2 _ => ?_
  have S0 := SF.ext x2
  have y0 : Env g0 t0 p5 nv top T n kv := ⟨r2.lf S0.lf (by decide) (by decide) (by decide), Own.rowE o2, (ks.lf S0.lf).mono S0.1, (is.lf S0.lf).mono S0.1⟩
  have z0 := z.ext x2
  refine RP.b rfl (RP.b y0.f0 (RP.b rfl (RP.cf (by rw [hk]; rfl) (RP.cf (by rw [hk]; rfl) (RP.cf (by rw [hk]; rfl) (RP.cf (by rw [hk]; rfl) (RP.cf (by rw [hk]; rfl) ?_)))))))
  rw [s81_0_j, s81_0_eq]
  refine RP.cf (by rw [hk]; rfl) (RP.cf (by rw [hk]; rfl) (RP.cf (by rw [hk]; rfl) (RP.cf (by rw [hk]; rfl) (RP.cf (by rw [hk]; rfl) (RP.cf (by rw [hk]; rfl) (RP.cf (by rw [hk]; rfl) (RP.cf (by rw [hk]; rfl) (RP.cf (by rw [hk]; rfl) (RP.cf (by rw [hk]; rfl) ?_)))))))))
  rw [s81_1_j, s81_1_eq]
  refine RP.cf (by rw [hk]; rfl) (RP.b y0.all ?_)
  refine RP.c (hD g0 _ _ y0.ksl y0.r2 y0.isl z0 (by first | omega | (simp; omega))) fun v1 g1 ⟨s1, z1⟩ => ?_
  have S1 := S0.trans s1
  have y1 := y0.lf s1.lf
  exact RP.fin S1 z1 rfl
theorem p81_21 {e : Nat} {nv : Value} {top : Int} {T : List Kn} {F : Int → List BA} {n : Kn} {p t0 : Nat} {X : List BA} {h : AHeap} (he : 1048577 < e) (ks : KSe h.size h nv T) (r2 : RowE h t0 35 [nv, .int .i64 top]) {i : Nat} (hi : T[i]? = some n) (hl : n.ks.length ≤ 1000000) (hK : ∀ k ∈ n.ks, PTok nv top T p t0 F (e + 2) k) (hk : n.k = 21) (hD : ∀ g kv X, KSe g.size g nv T → RowE g t0 35 [nv, .int .i64 top] → ISl g.size g kv n.ks → PrX g p t0 X → X.length + (ntoks F n).length ≤ 1000000 → RP g p t0 (X ++ ntoks F n) (call Try.prog Ms (e + 2) 133 [ptr p 0, knVal n kv] g)) (z : PrX h p t0 X) (hX : X.length + (ntoks F n).length ≤ 1000000) :
    RP h p t0 (X ++ ntoks F n) (call Try.prog Ms (e + 3) 81 [ptr p 0, .int .i64 (i : Int)] h) := by
  rw [c81, e81]
  obtain ⟨q, kv, q1, q2, is⟩ := knotAt ks hi
  obtain ⟨ov, r, bo⟩ := z.pr
  refine RP.b rfl (RP.b rfl (RP.b (r.row.ld1 (off := 0) (v := ptr t0 0) rfl) (RP.b rfl (RP.b rfl (RP.b (ld2 r2.row).1 (RP.b q1 (RP.b q2 ?_)))))))
  refine newSt_step (P := RP h p t0 (X ++ ntoks F n)) (kn_aCells is) rfl rfl fun p5 g0 x2 o2 _ => ?_
  have S0 := SF.ext x2
  have y0 : Env g0 t0 p5 nv top T n kv := ⟨r2.lf S0.lf (by decide) (by decide) (by decide), Own.rowE o2, (ks.lf S0.lf).mono S0.1, (is.lf S0.lf).mono S0.1⟩
  have z0 := z.ext x2
  refine RP.b rfl (RP.b y0.f0 (RP.b rfl (RP.cf (by rw [hk]; rfl) (RP.cf (by rw [hk]; rfl) (RP.cf (by rw [hk]; rfl) (RP.cf (by rw [hk]; rfl) (RP.cf (by rw [hk]; rfl) ?_)))))))
  rw [s81_0_j, s81_0_eq]
  refine RP.cf (by rw [hk]; rfl) (RP.cf (by rw [hk]; rfl) (RP.cf (by rw [hk]; rfl) (RP.cf (by rw [hk]; rfl) (RP.cf (by rw [hk]; rfl) (RP.cf (by rw [hk]; rfl) (RP.cf (by rw [hk]; rfl) (RP.cf (by rw [hk]; rfl) (RP.cf (by rw [hk]; rfl) (RP.cf (by rw [hk]; rfl) ?_)))))))))
  rw [s81_1_j, s81_1_eq]
  refine RP.cf (by rw [hk]; rfl) (RP.b y0.all ?_)
  refine RP.c (hD g0 _ _ y0.ksl y0.r2 y0.isl z0 (by first | omega | (simp; omega))) fun v1 g1 ⟨s1, z1⟩ => ?_
  have S1 := S0.trans s1
  have y1 := y0.lf s1.lf
  exact RP.fin S1 z1 rfl
theorem pblock_loop {e N : Nat} {nv kv : Value} {top : Int} {T : List Kn} {F : Int → List BA} {n : Kn} {h : AHeap} {p t0 : Nat} (he : 1048577 < e) (hl : n.ks.length ≤ 1000000) (hK : ∀ k ∈ n.ks, PTok nv top T p t0 F (e + 1) k) :
    ∀ (k j m : Nat) (g : AHeap) (X : List BA), n.ks.length - j = k → j ≤ n.ks.length → k < m → SF h g → RowE g t0 35 [nv, .int .i64 top] → KSe g.size g nv T → ISl g.size g kv n.ks → PrX g p t0 X → X.length + ((n.ks.drop j).flatMap F).length + 1 ≤ 1000000 →
    RP h p t0 (X ++ (n.ks.drop j).flatMap F ++ [(⟨#[125]⟩ : BA)]) (s133_0 hk0 (call Try.prog Ms (e + 1)) N m (ptr p 0) kv (n.ks.length : Int) (j : Int) g) := by
  intro k
  induction k with
  | zero =>
    intro j m g X hk hj hm S r2 ks is z hX
    obtain ⟨m, rfl⟩ : ∃ q, m = q + 1 := ⟨m - 1, by omega⟩
    have : ¬ ((j : Int) < (n.ks.length : Int)) := by omega
    have hd : n.ks.drop j = [] := List.drop_eq_nil_of_le (by omega)
    rw [s133_0_eq, hd]
    rw [hd] at hX
    refine RP.cf (decide_eq_false this) ?_
    refine RP.lit [(⟨#[125]⟩ : BA)] rfl rfl fun v1 g1 x1 o1 => ?_
    refine RP.c (l129 (d := e) he (z.ext x1) o1.src rfl (by simp at hX ⊢; omega)) fun u2 g2 ⟨s2, z2⟩ => ?_
    exact RP.fin (S.trans ((SF.ext x1).trans s2)) z2 (by simp)
  | succ k ih =>
    intro j m g X hk hj hm S r2 ks is z hX
    obtain ⟨m, rfl⟩ : ∃ q, m = q + 1 := ⟨m - 1, by omega⟩
    have hI : ((j : Int) < (n.ks.length : Int)) := by omega
    have hjl : j < n.ks.length := by omega
    have wj : IntKind.i64.wrap ((j : Int) + 1) = ((j + 1 : Nat) : Int) := by rw [wr (by omega) (by omega)]; omega
    obtain ⟨hb, hok, hc⟩ := hK _ (kd_mem hjl)
    rw [drop_get hjl] at hX ⊢
    simp only [List.flatMap_cons, List.length_append] at hX
    have hX2 : X.length + ((F (n.kd j)).length + ((n.ks.drop (j + 1)).flatMap F).length) + 1 ≤ 1000000 := hX
    rw [s133_0_eq]
    refine RP.ct (decide_eq_true hI) (RP.b (is.ird.at' j hjl).1 (RP.b ((is.ird.at' j hjl).2 g (LF.refl _)) (RP.b rfl ?_)))
    refine RP.c (hc g X ks r2 z (by omega)) fun u g1 ⟨s1, z1⟩ => ?_
    show RP h p t0 _ (s133_0 hk0 (call Try.prog Ms (e + 1)) N m (ptr p 0) kv (n.ks.length : Int) (IntKind.i64.wrap ((j : Int) + 1)) g1)
    rw [wj]
    have := ih (j + 1) m g1 _ (by omega) (by omega) (by omega) (S.trans s1) (r2.lf s1.lf (by decide) (by decide) (by decide)) ((ks.lf s1.lf).mono s1.1) ((is.lf s1.lf).mono s1.1) z1 (by simp only [List.length_append]; omega)
    simpa only [List.flatMap_cons, List.append_assoc, Kn.kd] using this
theorem p133_21 {e : Nat} {nv kv : Value} {top : Int} {T : List Kn} {F : Int → List BA} {n : Kn} {p t0 : Nat} {X : List BA} {h : AHeap} (he : 1048577 < e) (ks : KSe h.size h nv T) (r2 : RowE h t0 35 [nv, .int .i64 top]) (is : ISl h.size h kv n.ks) (hl : n.ks.length ≤ 1000000) (hK : ∀ k ∈ n.ks, PTok nv top T p t0 F (e + 2) k) (hk : n.k = 21) (z : PrX h p t0 X) (hX : X.length + (ntoks F n).length ≤ 1000000) :
    RP h p t0 (X ++ ntoks F n) (call Try.prog Ms (e + 3) 133 [ptr p 0, knVal n kv] h) := by
  have hT : ntoks F n = [(⟨#[123]⟩ : BA)] ++ (n.ks.drop 0).flatMap F ++ [(⟨#[125]⟩ : BA)] := by simp [ntoks, hk]
  rw [hT] at hX ⊢
  simp only [List.length_append, List.length_singleton] at hX
  rw [c133, e133]
  refine RP.b (kn_aCells is) ?_
  refine new_step (P := RP h p t0 _) fun p5 g0 x2 o2 _ => ?_
  have S0 := SF.ext x2
  have y0 : Env g0 t0 p5 nv top T n kv := ⟨r2.lf S0.lf (by decide) (by decide) (by decide), Own.rowE o2, (ks.lf S0.lf).mono S0.1, (is.lf S0.lf).mono S0.1⟩
  have z0 := z.ext x2
  refine RP.b rfl (RP.b y0.f0 (RP.b rfl (RP.cf (by rw [hk]; rfl) (RP.cf (by rw [hk]; rfl) (RP.cf (by rw [hk]; rfl) (RP.cf (by rw [hk]; rfl) (RP.cf (by rw [hk]; rfl) (RP.cf (by rw [hk]; rfl) (RP.cf (by rw [hk]; rfl) ?_)))))))))
  refine RP.lit [(⟨#[123]⟩ : BA)] rfl rfl fun v1 g1 x1 o1 => ?_
  have y1 := y0.ext x1
  refine RP.c (l129 (d := e + 1) (by omega) (z0.ext x1) o1.src rfl (by simp; omega)) fun u2 g2 ⟨s2, z2⟩ => ?_
  have y3 := y1.lf s2.lf
  refine RP.b rfl (RP.b y3.f3 (RP.b y3.len (RP.b rfl ?_)))
  have := pblock_loop (h := h) (N := e + 2) (e := e + 1) (by omega) hl hK n.ks.length 0 (e + 2) g2 _ (by omega) (by omega) (by omega) (S0.trans ((SF.ext x1).trans s2)) y3.r2 y3.ksl y3.isl z2 (by simp only [List.length_append, List.length_singleton]; omega)
  simp only [List.append_assoc] at this ⊢
  exact this
theorem nt_inn {F : Int → List BA} {n : Kn} (hk : n.k = 6 ∨ n.k = 7 ∨ n.k = 10 ∨ n.k = 11 ∨ n.k = 12 ∨ n.k = 13) : ntoks F n = [⟨#[40]⟩] ++ inn F n ++ [⟨#[41]⟩] := by
  rcases hk with hk | hk | hk | hk | hk | hk <;> simp [ntoks, inn, hk]
theorem wgt_one : ∀ ks : List Int, wgt (fun _ => []) ks = ks.length
  | [] => rfl
  | k :: ks => by have := wgt_one ks; simp [wgt] at *; omega
theorem ptok_ok {nv : Value} {top : Int} {T : List Kn} {p t0 : Nat} (hT : T.length ≤ 3000) (hN : ∀ n ∈ T, n.t.size ≤ 1048576 ∧ n.ks.length ≤ 1048576) (hG : ∀ (j : Nat) (n : Kn), T[j]? = some n → Good T j n) :
    ∀ (f : Nat) (i fr : Int), 0 ≤ i → i < T.length → 0 ≤ fr → numP T f i fr = i + 1 → ∀ e, 1048580 + 5 * f ≤ e → PTok nv top T p t0 (toks T f) e i := by
  intro f
  induction f with
  | zero => intro i fr hi _ h0 h; have : (-1 : Int) = i + 1 := h; omega
  | succ f ih =>
    intro i fr hi hlt h0 h e he
    have hlen := toks_len hG (f + 1) i fr hi h0 h
    refine ⟨by omega, List.all_eq_true.2 fun x hx => tkB_ok.2 (toks_ok hG _ _ hi x hx), fun g X ks r2 z hX => ?_⟩
    obtain ⟨iN, rfl⟩ : ∃ m : Nat, i = m := ⟨i.toNat, by omega⟩
    have hn : T[iN]? = some T[iN] := List.getElem?_eq_getElem (by omega)
    generalize hnn : T[iN] = n at hn
    have gd := hG _ n hn
    have hmem : n ∈ T := List.mem_of_getElem? hn
    have htk : toks T (f + 1) (iN : Int) = ntoks (toks T f) n := by rw [toks, Int.toNat_natCast, hn]
    rw [htk] at hX ⊢
    have hok := fun x hx => tkB_ok.2 (ntoks_ok gd (F := toks T f) (fun k hk => toks_ok hG f k (gd.rng k hk).1) x hx)
    rw [numP, Int.toNat_natCast, hn] at h
    simp only [] at h
    have hK : ∀ e', 1048580 + 5 * f ≤ e' → ∀ k ∈ n.ks, PTok nv top T p t0 (toks T f) e' k := fun e' he' k hk => by
      obtain ⟨fr', a, b⟩ := kids_reach n.ks fr (by rw [h]; omega) h0 k hk
      have r := gd.rng k hk
      exact ih k fr' r.1 (by omega) a b e' he'
    have hl : n.ks.length ≤ 1000000 := by
      -- each kid has its own node
      have := kids_wgt' (T := T) (f := f) (F := fun _ => []) (fun k fr hk h0 hn => by have := num_le T f k fr (by omega) h0; simp; omega) n.ks fr (fun k hk => (gd.rng k hk).1) (by rw [h]; omega) h0
      have hw : wgt (fun _ => []) n.ks = n.ks.length := wgt_one n.ks
      omega
    obtain ⟨e, rfl⟩ : ∃ q, e = q + 4 := ⟨e - 4, by omega⟩
    have K3 := hK (e + 3) (by omega)
    have K2 := hK (e + 2) (by omega)
    have K1 := hK (e + 1) (by omega)
    have be : 1048577 < e := by omega
    have be1 : 1048577 < e + 1 := by omega
    have hh := gd.has
    have tn : ∀ (t : BA), t ∈ ntoks (toks T f) n → tkB t = true := hok
    rcases gd.kinds with ⟨hk, hz⟩ | ⟨hk, hp⟩ | hk | ⟨hk, h2⟩ | ⟨hk, h1⟩ | ⟨hk, h3⟩ | ⟨hk, h4⟩
    · simp only [List.mem_cons, List.not_mem_nil, or_false] at hk
      rcases hk with hk | hk | hk | hk | hk | hk
      · exact p81_1 be1 ks r2 hn hl K3 hk z hX
      · have := has2 hh hk
        exact p81_2 be1 ks r2 hn hl K3 hk (by omega) (by show n.i.toNat < 2; omega) (tn _ (by simp [ntoks, hk])) z hX
      · have := has3 hh hk
        exact p81_3 be1 ks r2 hn hl K3 hk (by omega) (by omega) (tn _ (by simp [ntoks, hk])) z hX
      · have := has4 hh hk
        exact p81_4 be1 ks r2 hn hl K3 hk (by show 1 + _ ≤ _; omega) (by rw [ByteArray.size_append]; show 1 + _ + 1 ≤ _; omega) (tn _ (by simp [ntoks, hk])) z hX
      · exact p81_5 be1 ks r2 hn hl K3 hk (tn _ (by simp [ntoks, hk])) z hX
      · exact p81_22 be1 ks r2 hn hl K3 hk (tn _ (by simp [ntoks, hk])) z hX
    · rcases hk with hk | hk
      · exact p81_6 be1 ks r2 hn hl K3 hk (nt_inn (by simp [hk])) (fun g kv X a b c d q => p132_6 be a b c hl K2 hk hp K1 (by omega) (by rw [wr (by omega) (by omega)]; omega) d q) z hX
      · exact p81_9 be1 ks r2 hn hl K3 hk hp K2 z hX
    · rcases hk with hk | hk
      · exact p81_7 be1 ks r2 hn hl K3 hk (nt_inn (by simp [hk])) (fun g kv X a b c d q => p132_7 be a b c hl K2 hk K1 d q) z hX
      · exact p81_21 be1 ks r2 hn hl K3 hk (fun g kv X a b c d q => p133_21 be a b c hl K2 hk d q) z hX
    · simp only [List.mem_cons, List.not_mem_nil, or_false] at hk
      rcases hk with hk | hk | hk | hk | hk | hk
      · exact p81_8 be1 ks r2 hn hl K3 hk (by omega) (by omega) z hX
      · have := has10 hh hk
        have te := opT_eq (i := n.i) (by omega)
        exact p81_10 be1 ks r2 hn hl K3 hk (nt_inn (by simp [hk])) (fun g kv X a b c d q => p132_10 be a b c hl K2 hk (by omega) (by omega) (by omega) (wr (by omega) (by omega)) (by show (n.i - 1).toNat < 10; omega) te (by rw [te]; exact tn _ (by simp [ntoks, hk])) d q) z hX
      · exact p81_12 be1 ks r2 hn hl K3 hk (nt_inn (by simp [hk])) (fun g kv X a b c d q => p132_12 be a b c hl K2 hk (by omega) (by omega) d q) z hX
      · exact p81_13 be1 ks r2 hn hl K3 hk (nt_inn (by simp [hk])) (fun g kv X a b c d q => p132_13 be a b c hl K2 hk (by omega) (by omega) d q) z hX
      · exact p81_24 be1 ks r2 hn hl K3 hk (by omega) (by omega) z hX
      · exact p81_18 be1 ks r2 hn hl K3 hk (fun g kv X a b c d q => p133_18 be a b c hl K2 hk (by omega) (by omega) d q) z hX
    · simp only [List.mem_cons, List.not_mem_nil, or_false] at hk
      rcases hk with hk | hk | hk | hk | hk | hk
      · have := has11 hh hk
        have te := turnT_eq (i := n.i) (by omega)
        exact p81_11 be1 ks r2 hn hl K3 hk (nt_inn (by simp [hk])) (fun g kv X a b c d q => p132_11 be a b c hl K2 hk (by omega) (by omega) (wr (by omega) (by omega)) (by show (n.i - 1).toNat < 3; omega) te (by rw [te]; exact tn _ (by simp [ntoks, hk])) d q) z hX
      · exact p81_14 be1 ks r2 hn hl K3 hk (fun g kv X a b c d q => p133_14 be a b c hl K2 hk (by omega) (tn _ (by simp [ntoks, hk])) d q) z hX
      · exact p81_15 be1 ks r2 hn hl K3 hk (fun g kv X a b c d q => p133_15 be a b c hl K2 hk (by omega) (tn _ (by simp [ntoks, hk])) d q) z hX
      · exact p81_19 be1 ks r2 hn hl K3 hk (fun g kv X a b c d q => p133_19 be a b c hl K2 hk (by omega) d q) z hX
      · exact p81_23 be1 ks r2 hn hl K3 hk (by omega) z hX
      · exact p81_20 be1 ks r2 hn hl K3 hk (fun g kv X a b c d q => p133_20 be a b c hl K2 hk (by omega) d q) z hX
    · exact p81_16 be1 ks r2 hn hl K3 hk (fun g kv X a b c d q => p133_16 be a b c hl K2 hk (by omega) (by omega) (by omega) d q) z hX
    · rcases h4 with h2 | h3
      · exact p81_17 be1 ks r2 hn hl K3 hk (fun g kv X a b c d q => p133_17a be a b c hl K2 hk (by omega) (by omega) h2 (by rw [h2]; rfl) d q) z hX
      · exact p81_17 be1 ks r2 hn hl K3 hk (fun g kv X a b c d q => p133_17b be a b c hl K2 hk (by omega) (by omega) (by omega) h3 (by rw [h3]; rfl) d q) z hX
end Go.Proofs.Ytadmoackacickaa

/- Both Prints say the same. -/
set_option linter.unusedSimpArgs false
namespace Go.Proofs.Ytadmoackacickaa
open Go Go.AH

theorem KSg.sf {e : TypeId} (h5 : e ≠ 5) (h1 : e ≠ 110) {c : Nat} {h g : AHeap} {v : Value} {ns : List Kn} (x : KSg e c h v ns) (k : SF h g) : KSg e c g v ns := by
  rcases x with x | x | ⟨i, o, a1, a2, a6, a3, a4, a5⟩
  · exact .inl x
  · exact .inr (.inl x)
  · exact .inr (.inr ⟨i, o, a1, k.2 i o a2 (by rw [a6]; exact h5) (by rw [a6]; exact h1), a6, a3, a4, fun j n hn => let ⟨kv, a, b⟩ := a5 j n hn; ⟨kv, a, b.lf k.lf⟩⟩)
theorem KSg.mono {e : TypeId} {c d : Nat} {h : AHeap} {v : Value} {ns : List Kn} (x : KSg e c h v ns) (hd : c ≤ d) : KSg e d h v ns := by
  rcases x with x | x | ⟨i, o, h1, h2, h6, h3, h4, h5⟩
  · exact .inl x
  · exact .inr (.inl x)
  · exact .inr (.inr ⟨i, o, h1, h2, h6, Nat.lt_of_lt_of_le h3 hd, h4, fun j n hn => let ⟨kv, a, b⟩ := h5 j n hn; ⟨kv, a, b.mono hd⟩⟩)
theorem bytesOf_bcells (b : BA) : bytesOf (bcells b) = some b.data.toList := by
  unfold bcells
  generalize b.data.toList = l
  induction l with
  | nil => rfl
  | cons x l ih =>
    rw [List.map_cons]
    show (bytesOf (l.map fun x => Value.int .u8 x.toNat)).map (fun r => UInt8.ofNat (x.toNat : Int).toNat :: r) = _
    rw [ih]; simp
theorem BOwn.str {g : AHeap} {v : Value} {b : BA} (x : BOwn g v b) : aCvStr g v = some (.string b) := by
  rcases x with ⟨rfl, h⟩ | ⟨i, rt, rfl, o⟩
  · rw [size_zero h]; rfl
  · have r := o.row.rd (off := 0) (n := b.size) (by rw [bcells_len]; omega)
    have h3 : (bcells b).take b.size = bcells b := List.take_of_length_le (by rw [bcells_len]; exact Nat.le_refl _)
    simp [aCvStr, slc, r, h3, bytesOf_bcells]
/-- Print's loop over the statements. -/
theorem prn_loop {e N : Nat} {nv kv : Value} {top : Int} {T : List Kn} {F : Int → List BA} {n : Kn} {h : AHeap} {p t0 : Nat} (hl : n.ks.length ≤ 1000000) (hK : ∀ k ∈ n.ks, PTok nv top T p t0 F e k) :
    ∀ (k j m : Nat) (g : AHeap) (X : List BA), n.ks.length - j = k → j ≤ n.ks.length → k < m → SF h g → RowE g t0 35 [nv, .int .i64 top] → KSe g.size g nv T → ISl g.size g kv n.ks → PrX g p t0 X → X.length + ((n.ks.drop j).flatMap F).length ≤ 1000000 →
    ∃ g', s46_0 hk0 (call Try.prog Ms e) N m (ptr p 0) kv (n.ks.length : Int) (j : Int) g = some (.tuple (List.toArray [.string (js ⟨#[]⟩ (X ++ (n.ks.drop j).flatMap F) ++ ⟨#[10]⟩), .bool true]), g') ∧ SF h g' := by
  intro k
  induction k with
  | zero =>
    intro j m g X hk hj hm S r2 ks is z hX
    obtain ⟨m, rfl⟩ : ∃ q, m = q + 1 := ⟨m - 1, by omega⟩
    have : ¬ ((j : Int) < (n.ks.length : Int)) := by omega
    have hd : n.ks.drop j = [] := List.drop_eq_nil_of_le (by omega)
    have hs := js_size X ⟨#[]⟩ fun x hx => tkB_ok.1 (List.all_eq_true.1 z.ok x hx)
    rw [s46_0_eq, hd, List.flatMap_nil, List.append_nil]
    rw [hd] at hX
    simp at hX
    obtain ⟨ov, r, bo⟩ := z.pr
    have ha := (r.row).ld1 (off := 1) (v := ov) rfl
    have e1 := Ext.new (Nat.le_refl g.size) 5 [.int .u8 10]
    have src1 : aSrc (g.new 5 [.int .u8 10]) 1 (slc g.size 0 1) = some ((⟨#[10]⟩ : BA).size, bcells ⟨#[10]⟩) := ((Own.new (Nat.le_refl g.size) 5 [Value.int .u8 10]).row).src (off := 0) (n := 1) (esz := 1) (by simp)
    have e10 : (⟨#[10]⟩ : BA).size = 1 := rfl
    have e0 : (⟨#[]⟩ : BA).size = 0 := rfl
    obtain ⟨v', g', c1, f1, o1⟩ := (bo.ext e1).app src1 (by omega)
    refine ⟨g', ?_, (S.trans (SF.ext e1)).trans f1.sf⟩
    refine ecf (decide_eq_false this) (eb rfl (eb rfl (eb ha ?_)))
    exact eb c1 (eb o1.str (eb rfl rfl))
  | succ k ih =>
    intro j m g X hk hj hm S r2 ks is z hX
    obtain ⟨m, rfl⟩ : ∃ q, m = q + 1 := ⟨m - 1, by omega⟩
    have hI : ((j : Int) < (n.ks.length : Int)) := by omega
    have hjl : j < n.ks.length := by omega
    have wj : IntKind.i64.wrap ((j : Int) + 1) = ((j + 1 : Nat) : Int) := by rw [wr (by omega) (by omega)]; omega
    obtain ⟨hb, hok, hc⟩ := hK _ (kd_mem hjl)
    rw [drop_get hjl] at hX ⊢
    simp only [List.flatMap_cons, List.length_append] at hX
    have hX2 : X.length + ((F (n.kd j)).length + ((n.ks.drop (j + 1)).flatMap F).length) ≤ 1000000 := hX
    obtain ⟨u, g1, c1, s1, z1⟩ := hc g X ks r2 z (by omega)
    obtain ⟨g2, c2, s2⟩ := ih (j + 1) m g1 _ (by omega) (by omega) (by omega) (S.trans s1) (r2.lf s1.lf (by decide) (by decide) (by decide)) ((ks.lf s1.lf).mono s1.1) ((is.lf s1.lf).mono s1.1) z1 (by simp only [List.length_append]; omega)
    refine ⟨g2, ?_, s2⟩
    rw [s46_0_eq]
    refine ect (decide_eq_true hI) (eb (is.ird.at' j hjl).1 (eb ((is.ird.at' j hjl).2 g (LF.refl _)) (eb rfl (eb c1 ?_))))
    rw [List.flatMap_cons, ← List.append_assoc]
    rw [← wj] at c2
    exact c2
theorem l46 {d : Nat} (hd : 1048577 < d) {nv : Value} {T : List Kn} {top : Int} {h : AHeap} (x : KSe h.size h nv T) (hb : T.length ≤ 1048576) (hN : ∀ n ∈ T, n.t.size ≤ 1048576 ∧ n.ks.length ≤ 1048576) :
    ∃ h', call Try.prog Ms (d + 16010 + 8) 46 [trVal nv top] h = some (.tuple (List.toArray [.string (prS T top), .bool (specOk T top)]), h') ∧ SF h h' := by
  have hcall : call Try.prog Ms (d + 16010 + 8) 46 [trVal nv top] h = evFn hk0 Try.prog (call Try.prog Ms (d + 16010 + 7)) M46 (d + 16010 + 7) Try.f46 [trVal nv top] h := c46 _ _ _
  rw [hcall, e46, tr_aCells x.ksl, Option.bind_some]
  have e1 := Ext.new (Nat.le_refl h.size) 35 [nv, .int .i64 top]
  have r1 := RowE.new h 35 [nv, .int .i64 top]
  simp only [aNew]
  have x1 := (x.lf (SF.ext e1).lf).mono e1.size
  generalize h.new 35 [nv, .int .i64 top] = h1 at e1 r1 x1 ⊢
  obtain ⟨a0, a1, aN⟩ := ld2 r1.row
  have aN' : aLdN h1 (ptr h.size 0) 2 = some (trVal nv top) := aN
  obtain ⟨h2, c2, e2⟩ := l22 (d := d + 12998) (by omega) (top := top) x1.ksl (Nat.le_refl _) hb hN
  have c2' : call Try.prog Ms (d + 16010 + 7) 22 [trVal nv top] h1 = some (.bool (implOk T top), h2) := by rw [show d + 16010 + 7 = d + 12998 + 3010 + 9 by omega]; exact c2
  rw [← ok_same] at c2'
  have S2 : SF h h2 := SF.ext (Ext.tr e1 e2)
  cases hok : specOk T top with
  | false =>
    rw [hok] at c2'
    refine ⟨h2, ?_, S2⟩
    refine eb aN' (eb c2' (eb rfl (ect rfl ?_)))
    unfold prS; rw [hok]; rfl
  | true =>
    rw [hok] at c2'
    have R := right_of hok
    have hT := R.top
    subst hT
    have L2 := (SF.ext e2).lf
    have r2 := r1.lf L2 (by decide) (by decide) (by decide)
    have x2 := (x1.lf L2).mono L2.1
    have hpos := R.pos
    have hlen := R.len
    have hb1 := toks_len R.good (T.length + 1) ((T.length : Int) - 1) 0 (by omega) (by omega) (by rw [R.num]; omega)
    -- the printer
    have e3 := Ext.new (Nat.le_refl h2.size) 110 [ptr h.size 0, .slice none 0 0]
    have z3 : PrX (h2.new 110 [ptr h.size 0, .slice none 0 0]) h2.size h.size [] := ⟨⟨_, OwnR.new h2 110 [ptr h.size 0, .slice none 0 0], .inl ⟨rfl, rfl⟩⟩, rfl⟩
    have S3 := SF.ext e3
    have r3 := r2.lf S3.lf (by decide) (by decide) (by decide)
    have x3 := (x2.lf S3.lf).mono S3.1
    have S03 := S2.trans S3
    have fill : aFill [.pointer none, .slice none 0 0] [(0, 1, ptr h.size 0)] = some [ptr h.size 0, .slice none 0 0] := rfl
    have cel : aCells (.agg (List.toArray [ptr h.size 0, .slice none 0 0])) = some [ptr h.size 0, .slice none 0 0] := rfl
    obtain ⟨n, hn⟩ : ∃ n, T[T.length - 1]? = some n := ⟨_, List.getElem?_eq_getElem (by omega)⟩
    have hi : ((T.length : Int) - 1).toNat = T.length - 1 := by omega
    have hk21 : n.k = 21 := by
      have := R.blk
      unfold kd at this; rw [hi, hn] at this; simpa using this
    have hL : toks T (T.length + 1) ((T.length : Int) - 1) = [(⟨#[123]⟩ : BA)] ++ n.ks.flatMap (toks T T.length) ++ [(⟨#[125]⟩ : BA)] := by
      rw [toks, hi, hn]; simp [ntoks, hk21]
    have hbd : prBody T = n.ks.flatMap (toks T T.length) := by
      unfold prBody
      rw [hL]
      generalize n.ks.flatMap (toks T T.length) = X
      show (X ++ [(⟨#[125]⟩ : BA)]).dropLast = X
      rw [List.dropLast_concat]
    have hps : prS T ((T.length : Int) - 1) = js ⟨#[]⟩ (prBody T) ++ ⟨#[10]⟩ := by unfold prS; rw [if_pos hok]
    have gd := R.good _ n hn
    have hnum := R.num
    rw [numP, hi, hn] at hnum
    simp only [] at hnum
    have hK : ∀ k ∈ n.ks, PTok nv ((T.length : Int) - 1) T h2.size h.size (toks T T.length) (d + 16010 + 7) k := fun k hk => by
      obtain ⟨fr', a, b⟩ := kids_reach n.ks 0 (by rw [hnum]; omega) (by omega) k hk
      have r := gd.rng k hk
      exact ptok_ok R.len hN R.good _ k fr' r.1 (by omega) a b _ (by omega)
    have hnl : n.ks.length ≤ 1000000 := by
      have := kids_wgt' (T := T) (f := T.length) (F := fun _ => []) (fun k fr hk h0 hn => by have := num_le T T.length k fr (by omega) h0; simp; omega) n.ks 0 (fun k hk => (gd.rng k hk).1) (by rw [hnum]; omega) (by omega)
      have hw : wgt (fun _ => []) n.ks = n.ks.length := wgt_one n.ks
      omega
    generalize hg3 : h2.new 110 [ptr h.size 0, .slice none 0 0] = g3 at e3 z3 S3 r3 x3 S03
    obtain ⟨b0, b1, bN⟩ := ld2 r3.row
    have hj1 : T.length - 1 < T.length := by omega
    have hn2 : T[T.length - 1] = n := by
      have := List.getElem?_eq_getElem hj1
      rw [hn] at this; exact (Option.some.inj this).symm
    obtain ⟨q, kv, q1, q2, q3⟩ := x3.ksl.at hj1
    rw [hn2] at q2 q3
    have q3' := (q3 g3 (Ext.refl _ _)).2.2.2.2
    have hX : (n.ks.flatMap (toks T T.length)).length ≤ 1000000 := by
      have : (toks T (T.length + 1) ((T.length : Int) - 1)).length = (n.ks.flatMap (toks T T.length)).length + 2 := by rw [hL]; simp
      omega
    obtain ⟨h', c', s'⟩ := prn_loop (h := h) (N := d + 16010 + 7) hnl hK n.ks.length 0 (d + 16010 + 7) g3 [] (by omega) (by omega) (by omega) S03 r3 x3 q2 z3 (by simpa using hX)
    refine ⟨h', ?_, s'⟩
    have hix : ((T.length - 1 : Nat) : Int) = (T.length : Int) - 1 := by omega
    rw [hix] at q1
    rw [hps, hbd]
    refine eb aN' (eb c2' (eb rfl (ecf rfl (eb fill (eb cel ?_)))))
    rw [hg3]
    refine eb rfl (eb b0 (eb rfl (eb b1 (eb rfl (eb q1 (eb rfl (eb q3' (eb q2.len (eb rfl ?_)))))))))
    simpa using c'
end Go.Proofs.Ytadmoackacickaa
