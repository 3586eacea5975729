import Derived.Test.YtajpnemfppaafaaGreatXAH
import Derived.Test.YtajpnemfppaafaaGreatXAD
import Derived.KernelRfl
import Derived.Test.YtajpnemfppaafaaGreatProg
import Derived.Test.YtajpnemfppaafaaGreatXAF
import Derived.Carry
set_option linter.unusedSimpArgs false
set_option linter.unusedVariables false
/- Draws: lines and blocks. -/
namespace Go.Proofs.YtajpnemfppaafaaGreat
open Go Go.AH
section
variable {q e k v n m D N : Nat} {h0 h : AHeap} {y : Int}
structure IL (q e k v : Nat) : Prop where
 line : ∀ (D : Nat) (y : Int) (n : Nat) (h : AHeap), 4001 + 20 * k ≤ D → y ≤ k → n + 50 * k + 50 ≤ 1000 → St q e n h h → RE q e (n + k + 1) v h (call Tp Ms D 272 [ptr q 0, ptr e 0, .int .i64 y] h)
theorem g195_3 {nv kv : Value} {ns : List ByteArray} {ks : List Int} {s : ByteArray} {B : Nat} (zn : ZS h0 nv ns) (zi : ZI h0 kv ks) (hl : ns.length = ks.length) (hle : ns.length ≤ n) (hz : ∀ s, s ∈ ns → s.size ≤ 3) (hs : s.size ≤ B) (hB : B ≤ 10000000000000) (w : St q e m h0 h) :
  RE q e n (B + 1) h0 (s355_3 hk0 (call Tp Ms D) N (ptr e 0) nv kv s h) := by
 obtain ⟨fr, ds, nv', kv', cnt, left, fn, co, ns', ks', o, _⟩ := w
 rw [s355_3_j, s355_3_eq]
 obtain ⟨h1, a1, o1, s1, k1⟩ := stEn o (j := 0) (v := nv) (by show 0 < 6; decide) zn.cell
 obtain ⟨h2, a2, o2, s2, k2⟩ := stEn o1 (j := 1) (v := kv) (by show 1 < 6; decide) zi.cell
 have F1 := ks184 s1 k1
 have F2 := ks184 s2 k2
 have F := (fr.trans F1).trans F2
 refine pb (P := RE q e n (B + 1) h0) rfl (pb rfl (pb a1 (pb rfl (pb rfl (pb a2 ?_)))))
 refine ad (x := B) (y := 1) hs (Nat.le_refl _) (by omega) fun s3 b3 => ?_
 exact ⟨s3, h2, rfl, by omega, F, (ds.ks s1 k1).ks s2 k2, nv, kv, cnt, left, fn, co, ns, ks, o2, zn.fr F, zi.fr F, hl, hle, hz⟩
theorem g195_2 {nv kv : Value} {ns : List ByteArray} {ks : List Int} {s : ByteArray} {B : Nat} (zn : ZS h0 nv ns) (zi : ZI h0 kv ks) (hl : ns.length = ks.length) (hle : ns.length ≤ n) (hz : ∀ s, s ∈ ns → s.size ≤ 3) (hD : 3990 ≤ D) (hm : m ≤ 1000) (hs : s.size ≤ B) (hB : B ≤ 5000000000000) (w : St q e m h0 h) :
  RE q e n (B + 200300) h0 (s355_2 hk0 (call Tp Ms D) N (ptr q 0) (ptr e 0) nv kv s h) := by
 rw [s355_2_j, s355_2_eq]
 refine ad (x := B) (y := 7) (by omega) (Nat.le_refl _) (by omega) fun s1 b1 => ?_
 refine scS w ((ih3 q e).i161 _ _ _ _ (by omega) (by omega) (by omega) w.self) fun s2 g2 b2 w2 f2 => ?_
 refine ad (x := (7 + B)) (y := 200000) (by omega) (by omega) (by omega) fun s3 b3 => ?_
 refine ad (x := (200007 + B)) (y := 2) (by omega) (Nat.le_refl _) (by omega) fun s4 b4 => ?_
 exact (g195_3 (B := B + 200209) zn zi hl hle hz (by omega) (by omega) w2).le (by omega) (Nat.le_refl _)
theorem g195_1 {b : Bool} {nv kv : Value} {ns : List ByteArray} {ks : List Int} {s : ByteArray} {B : Nat} (zn : ZS h0 nv ns) (zi : ZI h0 kv ks) (hl : ns.length = ks.length) (hle : ns.length ≤ n) (hz : ∀ s, s ∈ ns → s.size ≤ 3) (hD : 3990 ≤ D) (hm : m ≤ 1000) (hs : s.size ≤ B) (hB : B ≤ 4000000000000) (w : St q e m h0 h) :
  RE q e n (B + 400600) h0 (s355_1 hk0 (call Tp Ms D) N (ptr q 0) (ptr e 0) nv kv s b h) := by
 rw [s355_1_j, s355_1_eq]
 by_cases c1 : b = true
 ·refine pct (c1) ?_
  refine ad (x := B) (y := 17) (by omega) (Nat.le_refl _) (by omega) fun s2 b2 => ?_
  refine scS w ((ih3 q e).i161 _ _ _ _ (by omega) (by omega) (by omega) w.self) fun s3 g3 b3 w3 f3 => ?_
  refine ad (x := (17 + B)) (y := 200000) (by omega) (by omega) (by omega) fun s4 b4 => ?_
  refine ad (x := (200017 + B)) (y := 3) (by omega) (Nat.le_refl _) (by omega) fun s5 b5 => ?_
  exact (g195_2 zn zi hl hle hz (s := s5) (B := (200020 + B)) hD hm (by omega) (by omega) w3).le (by omega) (Nat.le_refl _)
 ·refine pcf (by simpa using c1) ?_
  exact (g195_2 zn zi hl hle hz (s := s) (B := B) hD hm (by omega) (by omega) w).le (by omega) (Nat.le_refl _)
theorem blk_loop (H : IL q e k v) (hv : v ≤ 1000000000000) (hD : 4001 + 20 * k ≤ D) (hk : k ≤ 10) (y1 : y ≤ k) {back : Bool} {nv kv : Value} {ns : List ByteArray} {ks : List Int} (zn : ZS h0 nv ns) (zi : ZI h0 kv ks) (hl : ns.length = ks.length) (hle : ns.length ≤ n) (hz : ∀ s, s ∈ ns → s.size ≤ 3) :
  ∀ (t j l m : Nat) (s : ByteArray) (B : Nat) (h : AHeap), j + t ≤ 2 → t < l → m + 20 * t + 50 * k + 50 ≤ 1000 → s.size ≤ B → B + t * v ≤ 3000000000000 → St q e m h0 h →
  RE q e n (B + t * v + 400700) h0 (s355_0 hk0 (call Tp Ms D) D l (ptr q 0) (ptr e 0) y back nv kv s ((j + t : Nat) : Int) (j : Int) h) := by
 intro t
 induction t with
 | zero =>
  intro j l m s B h hj hl2 hm hs hB w
  obtain ⟨l, rfl⟩ : ∃ q, l = q + 1 := ⟨l - 1, by omega⟩
  rw [s355_0_eq]
  refine pcf (decide_eq_false (by omega)) ?_
  cases back with
  | false => exact pcf rfl ((g195_3 zn zi hl hle hz hs (by omega) w).le (by omega) (Nat.le_refl _))
  | true =>
   refine pct rfl ?_
   have w' := w
   obtain ⟨fr, ds, nv', kv', cnt, left, fn, co, ns', ks', o, _⟩ := w'
   have f5 : aLd1 h (ptr e 5) = some (.bool co) := o.row.ld1 rfl
   refine pb rfl (pb rfl (pb f5 (pb rfl ?_)))
   cases co with
   | true =>
    refine pct rfl ?_
    refine scB w (q71 (by omega) (by omega) w.ds) fun t g w1 f => ?_
    exact (g195_1 zn zi hl hle hz (by omega) (by omega) hs (by omega) w1).le (by omega) (Nat.le_refl _)
   | false => exact pcf rfl ((g195_1 zn zi hl hle hz (by omega) (by omega) hs (by omega) w).le (by omega) (Nat.le_refl _))
 | succ t ih =>
  intro j l m s B h hj hl2 hm hs hB w
  obtain ⟨l, rfl⟩ : ∃ q, l = q + 1 := ⟨l - 1, by omega⟩
  have wj : IntKind.i64.wrap ((j : Int) + 1) = ((j + 1 : Nat) : Int) := by rw [wr (by omega) (by omega)]; omega
  have hm2 : (t + 1) * v = t * v + v := Nat.succ_mul _ _
  have e1 : ((j + (t + 1) : Nat) : Int) = (((j + 1) + t : Nat) : Int) := by omega
  rw [s355_0_eq, e1]
  refine pct (decide_eq_true (by omega)) ?_
  refine scS w (H.line D y m h hD y1 (by omega) w.self) fun s1 g1 b1 w1 f1 => ?_
  refine ad (x := B) (y := v) hs b1 (by omega) fun s2 b2 => ?_
  rw [wj]
  exact (ih (j + 1) l (m + k + 1) s2 (B + v) _ (by omega) (by omega) (by omega) b2 (by omega) w1).le (by omega) (Nat.le_refl _)
theorem blk (H : IL q e k v) (hv : v ≤ 1000000000000) (hD : 4001 + 20 * k ≤ D) (hk : k ≤ 10) (y1 : y ≤ k) (hn : n + 50 * k + 90 ≤ 1000) {back : Bool} (w : St q e n h h) :
  RE q e n (2 * v + 500000) h (call Tp Ms (D + 1) 355 [ptr q 0, ptr e 0, .int .i64 y, .bool back] h) := by
 obtain ⟨nv, kv, cnt, left, fn, co, ns, ks, o, zn, zi, hl, hle, hz⟩ := w.es
 have f0 : aLd1 h (ptr e 0) = some nv := o.row.ld1 rfl
 have f1 : aLd1 h (ptr e 1) = some kv := o.row.ld1 rfl
 rw [c355, e355]
 refine pb (P := RE q e n _ h) rfl (pb rfl (pb f0 (pb rfl (pb rfl (pb f1 (pb (v := true) (by show (aLd1 h (ptr e 1)).bind _ = _; rw [f1, oBs, zi.vbeq]) (pct rfl ?_)))))))
 refine scN w (q116 (by omega) (by omega) w.ds) fun z g a b w1 f => ?_
 obtain ⟨t, rfl⟩ : ∃ t : Nat, z = (t : Int) := ⟨z.toNat, by omega⟩
 have wz : IntKind.i64.wrap (1 + (t : Int)) = ((0 + (t + 1) : Nat) : Int) := by rw [wr (by omega) (by omega)]; omega
 have h3 : (t + 1) * v ≤ 2 * v := Nat.mul_le_mul_right _ (by omega)
 rw [wz]
 exact (blk_loop (back := back) H hv hD hk y1 zn zi hl hle hz (t + 1) 0 D n ⟨#[123, 32]⟩ 2 g (by omega) (by omega) (by omega) (Nat.le_refl _) (by omega) w1).le (by omega) (Nat.le_refl _)
theorem lam (H : IL q e k v) (hv : v ≤ 1000000000000) (hD : 4001 + 20 * k ≤ D) (hk : k ≤ 10) (y0 : -100 ≤ y) (y1 : y ≤ k + 1) (hn : n + 50 * k + 91 ≤ 1000) (w : St q e n h h) :
  RE q e n (2 * v + 500100) h (call Tp Ms (D + 2) 273 [ptr q 0, ptr e 0, .int .i64 y] h) := by
 have w1 : IntKind.i64.wrap (y - 1) = y - 1 := wr (by omega) (by omega)
 obtain ⟨_, ds, nv, kv, cnt, left, fn, co, ns, ks, o, zn, zi, hl, hle, hz⟩ := w
 have f0 : aLd1 h (ptr e 0) = some nv := o.row.ld1 rfl
 have f1 : aLd1 h (ptr e 1) = some kv := o.row.ld1 rfl
 have f4 : aLd1 h (ptr e 4) = some (.bool fn) := o.row.ld1 rfl
 obtain ⟨h1, a1, o1, s1, k1⟩ := stEn o (j := 4) (v := .bool true) (by show 4 < 6; decide) rfl
 have F1 := ks184 s1 k1
 have vb : ∀ b : Bool, vbeq (.bool b) (.bool b) = true := fun b => by simp [vbeq, vbeq1]
 rw [c273, e273]
 refine pb (P := RE q e n _ h) rfl (pb rfl (pb f0 (pb rfl (pb rfl (pb f1 (pb rfl (pb rfl (pb f4 (pb rfl ?_)))))))))
 refine pb (P := RE q e n _ h) (v := true) (by show (aLd1 h (ptr e 1)).bind _ = _; rw [f1, oBs, zi.vbeq]) (pct rfl ?_)
 refine pb (P := RE q e n _ h) (v := true) (by show (aLd1 h (ptr e 4)).bind _ = _; rw [f4, oBs]; show some (vbeq (.bool fn) (.bool fn)) = _; rw [vb]) (pct rfl ?_)
 refine pb (P := RE q e n _ h) (v := true) (by show (aLd1 h (ptr e 4)).bind _ = _; rw [f4, oBs]; show some (vbeq (.bool fn) (.bool fn)) = _; rw [vb]) (pct rfl ?_)
 refine pb (P := RE q e n _ h) rfl (pb rfl (pb a1 ?_))
 have wA : St q e n h h1 := ⟨F1, ds.ks s1 k1, nv, kv, cnt, left, true, co, ns, ks, o1, zn.fr F1, zi.fr F1, hl, hle, hz⟩
 refine scS wA (q189 (by omega) (by omega) wA.self) fun s2 g2 b2 w2 f2 => ?_
 refine ad (x := 3) (y := 3) (Nat.le_refl _) b2 (by omega) fun s3 b3 => ?_
 refine ad (x := 6) (y := 2) b3 (Nat.le_refl _) (by omega) fun s4 b4 => ?_
 refine scS w2 (blk H hv hD hk (by omega) (by omega) w2.self) fun s5 g5 b5 w5 f5 => ?_
 refine ad (x := 8) (y := 2 * v + 500000) b4 b5 (by omega) fun s6 b6 => ?_
 have hb6 : s6.size ≤ 2 * v + 500100 := Nat.le_trans b6 (by omega)
 obtain ⟨fr, ds', nv', kv', cnt', left', fn', co', ns', ks', o', _⟩ := w5
 obtain ⟨h7, a7, o7, s7, k7⟩ := stEn o' (j := 0) (v := nv) (by show 0 < 6; decide) zn.cell
 obtain ⟨h8, a8, o8, s8, k8⟩ := stEn o7 (j := 1) (v := kv) (by show 1 < 6; decide) zi.cell
 obtain ⟨h9, a9, o9, s9, k9⟩ := stEn o8 (j := 4) (v := .bool fn) (by show 4 < 6; decide) rfl
 have F := ((fr.trans (ks184 s7 k7)).trans (ks184 s8 k8)).trans (ks184 s9 k9)
 refine pb (P := RE q e n _ h) rfl (pb rfl (pb a7 (pb rfl (pb rfl (pb a8 (pb rfl (pb rfl (pb a9 ?_))))))))
 exact ⟨s6, h9, rfl, hb6, F, ((ds'.ks s7 k7).ks s8 k8).ks s9 k9, nv, kv, _, _, _, _, ns, ks, o9, zn.fr F, zi.fr F, hl, hle, hz⟩
theorem blk' (H : IL q e k v) (hv : v ≤ 1000000000000) (hD : 4002 + 20 * k ≤ D) (hk : k ≤ 10) (y1 : y ≤ k) (hn : n + 50 * k + 90 ≤ 1000) {back : Bool} (w : St q e n h h) :
  RE q e n (2 * v + 500000) h (call Tp Ms D 355 [ptr q 0, ptr e 0, .int .i64 y, .bool back] h) := by
 obtain ⟨D, rfl⟩ : ∃ d, D = d + 1 := ⟨D - 1, by omega⟩
 exact blk H hv (by omega) hk y1 hn w
theorem lam' (H : IL q e k v) (hv : v ≤ 1000000000000) (hD : 4003 + 20 * k ≤ D) (hk : k ≤ 10) (y0 : -100 ≤ y) (y1 : y ≤ k + 1) (hn : n + 50 * k + 91 ≤ 1000) (w : St q e n h h) :
  RE q e n (2 * v + 500100) h (call Tp Ms D 273 [ptr q 0, ptr e 0, .int .i64 y] h) := by
 obtain ⟨D, rfl⟩ : ∃ d, D = d + 2 := ⟨D - 2, by omega⟩
 exact lam H hv (by omega) hk y0 y1 hn w
end
section
variable {q e k v n m D N : Nat} {h0 h : AHeap} {y : Int}
theorem vle {a b c d : Nat} (h : a ≤ c * b + d) (hv : 1000000 ≤ b) (hc : c ≤ 8) (hd : d ≤ 1000000) : a ≤ 10 * b := by
 have : c * b ≤ 8 * b := Nat.mul_le_mul_right _ hc
 omega
theorem g159_5 (H : IL q e k v) (hv : 1000000 ≤ v) (hv2 : v ≤ 1000000000000) (hk : k ≤ 10) (hD : 4001 + 20 * k + 5 ≤ D) (hn : n + 50 * k + 100 ≤ 1000) (y1 : y ≤ k + 1) (y0 : 1 ≤ y) (w : St q e n h0 h) : RE q e (n + k + 2) (10 * v) h0 (s272_5 hk0 (call Tp Ms D) N (ptr q 0) (ptr e 0) h) := by
 rw [s272_5_j, s272_5_eq]
 have w1 : IntKind.i64.wrap (y - 1) = y - 1 := wr (by omega) (by omega)
 refine scS w (((ih3 q e).i193 _ _ _ _ (by omega) (by omega) (by omega) w.self).le (C := 1 * v) (by omega) (Nat.le_refl _)) fun s1 g1 b1 w1 f1 => ?_
 refine ad (x := 6) (y := (1 * v + 0)) (Nat.le_refl _) (Nat.le_trans b1 (by omega)) (by omega) fun s2 b2 => ?_
 refine ad (x := (1 * v + 6)) (y := 3) (Nat.le_trans b2 (by omega)) (Nat.le_refl _) (by omega) fun s3 b3 => ?_
 exact ⟨_, _, rfl, vle (c := 1) (d := 9) (Nat.le_trans b3 (by omega)) hv (by omega) (by omega), w1.mono (by omega)⟩
theorem g159_4 (H : IL q e k v) (hv : 1000000 ≤ v) (hv2 : v ≤ 1000000000000) (hk : k ≤ 10) (hD : 4001 + 20 * k + 5 ≤ D) (hn : n + 50 * k + 100 ≤ 1000) (y1 : y ≤ k + 1) (y0 : 1 ≤ y) {z : Int} {b : Bool} (w : St q e n h0 h) : RE q e (n + k + 2) (10 * v) h0 (s272_4 hk0 (call Tp Ms D) N (ptr q 0) (ptr e 0) y z b h) := by
 rw [s272_4_j, s272_4_eq]
 have w1 : IntKind.i64.wrap (y - 1) = y - 1 := wr (by omega) (by omega)
 by_cases c1 : b = true
 ·refine pct (c1) ?_
  refine scO w (by omega) (by omega) fun v2 g2 y2 w2 z2 hs2 f2 => ?_
  by_cases c1003 : 0 < y2.length
  ·refine pct (decide_eq_true (by omega)) ?_
   refine scC w2 (q117 (B := 3) (by omega) z2 c1003 hs2 w2.ds) fun s4 g4 b4 w4 f4 => ?_
   refine ad (x := 3) (y := 1) (Nat.le_trans b4 (by omega)) (Nat.le_refl _) (by omega) fun s5 b5 => ?_
   refine scS w4 (((ih3 q e).i193 _ _ _ _ (by omega) (by omega) (by omega) w4.self).le (C := 1 * v) (by omega) (Nat.le_refl _)) fun s6 g6 b6 w6 f6 => ?_
   refine ad (x := 4) (y := (1 * v + 0)) (Nat.le_trans b5 (by omega)) (Nat.le_trans b6 (by omega)) (by omega) fun s7 b7 => ?_
   refine ad (x := (1 * v + 4)) (y := 4) (Nat.le_trans b7 (by omega)) (Nat.le_refl _) (by omega) fun s8 b8 => ?_
   refine scS w6 (((ih3 q e).i193 _ _ _ _ (by omega) (by omega) (by omega) w6.self).le (C := 1 * v) (by omega) (Nat.le_refl _)) fun s9 g9 b9 w9 f9 => ?_
   refine ad (x := (1 * v + 8)) (y := (1 * v + 0)) (Nat.le_trans b8 (by omega)) (Nat.le_trans b9 (by omega)) (by omega) fun s10 b10 => ?_
   refine ad (x := (2 * v + 8)) (y := 2) (Nat.le_trans b10 (by omega)) (Nat.le_refl _) (by omega) fun s11 b11 => ?_
   exact ⟨_, _, rfl, vle (c := 2) (d := 10) (Nat.le_trans b11 (by omega)) hv (by omega) (by omega), w9.mono (by omega)⟩
  ·refine pcf (decide_eq_false (by omega)) ?_
   exact g159_5 H hv hv2 hk hD hn y1 y0 w2
 ·refine pcf (by simpa using c1) ?_
  by_cases c1012 : z = 9
  ·refine pct (by simp [c1012]) ?_
   refine scS w (((ih3 q e).i194 _ _ _ _ (by omega) (by omega) (by omega) w.self).le (C := 1 * v) (by omega) (Nat.le_refl _)) fun s13 g13 b13 w13 f13 => ?_
   refine ad (x := 3) (y := (1 * v + 0)) (Nat.le_refl _) (Nat.le_trans b13 (by omega)) (by omega) fun s14 b14 => ?_
   refine ad (x := (1 * v + 3)) (y := 1) (Nat.le_trans b14 (by omega)) (Nat.le_refl _) (by omega) fun s15 b15 => ?_
   refine scS w13 ((blk' H hv2 (by omega) hk (by omega) (by omega) w13.self).le (C := 3 * v) (by omega) (Nat.le_refl _)) fun s16 g16 b16 w16 f16 => ?_
   refine ad (x := (1 * v + 4)) (y := (3 * v + 0)) (Nat.le_trans b15 (by omega)) (Nat.le_trans b16 (by omega)) (by omega) fun s17 b17 => ?_
   refine ad (x := (4 * v + 4)) (y := 1) (Nat.le_trans b17 (by omega)) (Nat.le_refl _) (by omega) fun s18 b18 => ?_
   refine scB w16 (q71 (by omega) (by omega) w16.ds) fun t19 g19 w19 f19 => ?_
   by_cases c125 : t19 = true
   ·refine pct (c125) ?_
    refine ad (x := (4 * v + 5)) (y := 5) (Nat.le_trans b18 (by omega)) (Nat.le_refl _) (by omega) fun s21 b21 => ?_
    refine scS w19 ((blk' H hv2 (by omega) hk (by omega) (by omega) w19.self).le (C := 3 * v) (by omega) (Nat.le_refl _)) fun s22 g22 b22 w22 f22 => ?_
    refine ad (x := (4 * v + 10)) (y := (3 * v + 0)) (Nat.le_trans b21 (by omega)) (Nat.le_trans b22 (by omega)) (by omega) fun s23 b23 => ?_
    refine ad (x := (7 * v + 10)) (y := 1) (Nat.le_trans b23 (by omega)) (Nat.le_refl _) (by omega) fun s24 b24 => ?_
    exact ⟨_, _, rfl, vle (c := 7) (d := 11) (Nat.le_trans b24 (by omega)) hv (by omega) (by omega), w22.mono (by omega)⟩
   ·refine pcf (by simpa using c125) ?_
    exact ⟨_, _, rfl, vle (c := 4) (d := 5) (Nat.le_trans b18 (by omega)) hv (by omega) (by omega), w19.mono (by omega)⟩
  ·refine pcf (by simp [c1012]) ?_
   by_cases c61 : z = 10
   ·refine pct (by simp [c61]) ?_
    refine scS w (q189 (by omega) (by omega) w.self) fun s26 g26 b26 w26 f26 => ?_
    refine ad (x := 6) (y := 3) (Nat.le_refl _) (Nat.le_trans b26 (by omega)) (by omega) fun s27 b27 => ?_
    refine ad (x := 9) (y := 12) (Nat.le_trans b27 (by omega)) (Nat.le_refl _) (by omega) fun s28 b28 => ?_
    refine ad (x := 21) (y := 3) (Nat.le_trans b28 (by omega)) (Nat.le_trans b26 (by omega)) (by omega) fun s29 b29 => ?_
    refine ad (x := 24) (y := 3) (Nat.le_trans b29 (by omega)) (Nat.le_refl _) (by omega) fun s30 b30 => ?_
    refine ls [(⟨#[50]⟩ : ByteArray), (⟨#[51]⟩ : ByteArray), (⟨#[53]⟩ : ByteArray)] w26 rfl rfl fun v31 g31 w31 z31 f31 => ?_
    refine scC w31 (q117 (B := 1) (by omega) z31 (by decide) (by decide) w31.ds) fun s32 g32 b32 w32 f32 => ?_
    refine ad (x := 27) (y := 1) (Nat.le_trans b30 (by omega)) (Nat.le_trans b32 (by omega)) (by omega) fun s33 b33 => ?_
    refine ad (x := 28) (y := 3) (Nat.le_trans b33 (by omega)) (Nat.le_refl _) (by omega) fun s34 b34 => ?_
    refine ad (x := 31) (y := 3) (Nat.le_trans b34 (by omega)) (Nat.le_trans b26 (by omega)) (by omega) fun s35 b35 => ?_
    refine ad (x := 34) (y := 3) (Nat.le_trans b35 (by omega)) (Nat.le_refl _) (by omega) fun s36 b36 => ?_
    refine ad (x := 37) (y := 3) (Nat.le_trans b36 (by omega)) (Nat.le_trans b26 (by omega)) (by omega) fun s37 b37 => ?_
    refine ad (x := 40) (y := 6) (Nat.le_trans b37 (by omega)) (Nat.le_refl _) (by omega) fun s38 b38 => ?_
    refine scS w32 ((H.line _ _ _ _ (by omega) (by omega) (by omega) w32.self).le (C := 1 * v) (by omega) (Nat.le_refl _)) fun s39 g39 b39 w39 f39 => ?_
    refine ad (x := 46) (y := (1 * v + 0)) (Nat.le_trans b38 (by omega)) (Nat.le_trans b39 (by omega)) (by omega) fun s40 b40 => ?_
    refine ad (x := (1 * v + 46)) (y := 2) (Nat.le_trans b40 (by omega)) (Nat.le_refl _) (by omega) fun s41 b41 => ?_
    exact ⟨_, _, rfl, vle (c := 1) (d := 48) (Nat.le_trans b41 (by omega)) hv (by omega) (by omega), w39.mono (by omega)⟩
   ·refine pcf (by simp [c61]) ?_
    by_cases c1042 : z = 11
    ·refine pct (by simp [c1042]) ?_
     refine scO w (by omega) (by omega) fun v43 g43 y43 w43 z43 hs43 f43 => ?_
     by_cases c1044 : 0 < y43.length
     ·refine pct (decide_eq_true (by omega)) ?_
      refine scC w43 (q117 (B := 3) (by omega) z43 c1044 hs43 w43.ds) fun s45 g45 b45 w45 f45 => ?_
      refine ad (x := 12) (y := 3) (Nat.le_refl _) (Nat.le_trans b45 (by omega)) (by omega) fun s46 b46 => ?_
      refine ad (x := 15) (y := 2) (Nat.le_trans b46 (by omega)) (Nat.le_refl _) (by omega) fun s47 b47 => ?_
      refine scS w45 (((ih3 q e).i193 _ _ _ _ (by omega) (by omega) (by omega) w45.self).le (C := 1 * v) (by omega) (Nat.le_refl _)) fun s48 g48 b48 w48 f48 => ?_
      refine ad (x := 17) (y := (1 * v + 0)) (Nat.le_trans b47 (by omega)) (Nat.le_trans b48 (by omega)) (by omega) fun s49 b49 => ?_
      refine ad (x := (1 * v + 17)) (y := 21) (Nat.le_trans b49 (by omega)) (Nat.le_refl _) (by omega) fun s50 b50 => ?_
      exact ⟨_, _, rfl, vle (c := 1) (d := 38) (Nat.le_trans b50 (by omega)) hv (by omega) (by omega), w48.mono (by omega)⟩
     ·refine pcf (decide_eq_false (by omega)) ?_
      exact g159_5 H hv hv2 hk hD hn y1 y0 w43
    ·refine pcf (by simp [c1042]) ?_
     by_cases c191 : z = 12
     ·refine pct (by simp [c191]) ?_
      refine scO w (by omega) (by omega) fun v52 g52 y52 w52 z52 hs52 f52 => ?_
      by_cases c193 : 0 < y52.length
      ·refine pct (decide_eq_true (by omega)) ?_
       refine scC w52 (q117 (B := 3) (by omega) z52 c193 hs52 w52.ds) fun s54 g54 b54 w54 f54 => ?_
       refine ad (x := 11) (y := 3) (Nat.le_refl _) (Nat.le_trans b54 (by omega)) (by omega) fun s55 b55 => ?_
       refine ad (x := 14) (y := 2) (Nat.le_trans b55 (by omega)) (Nat.le_refl _) (by omega) fun s56 b56 => ?_
       refine scS w54 (((ih3 q e).i193 _ _ _ _ (by omega) (by omega) (by omega) w54.self).le (C := 1 * v) (by omega) (Nat.le_refl _)) fun s57 g57 b57 w57 f57 => ?_
       refine ls [(⟨#[110, 105, 108]⟩ : ByteArray), (⟨#[49]⟩ : ByteArray), s57] w57 rfl rfl fun v58 g58 w58 z58 f58 => ?_
       refine scC w58 (q117 (B := (1 * v + 20)) (by omega) z58 (by simp) (by intro s hs; simp only [List.mem_cons, List.not_mem_nil, or_false] at hs; rcases hs with rfl | rfl | rfl <;> first | omega | exact Nat.le_trans (by decide) (Nat.le_add_left 20 _)) w58.ds) fun s59 g59 b59 w59 f59 => ?_
       refine ad (x := 16) (y := (1 * v + 20)) (Nat.le_trans b56 (by omega)) (Nat.le_trans b59 (by omega)) (by omega) fun s60 b60 => ?_
       refine ad (x := (1 * v + 36)) (y := 4) (Nat.le_trans b60 (by omega)) (Nat.le_refl _) (by omega) fun s61 b61 => ?_
       exact ⟨_, _, rfl, vle (c := 1) (d := 40) (Nat.le_trans b61 (by omega)) hv (by omega) (by omega), w59.mono (by omega)⟩
      ·refine pcf (decide_eq_false (by omega)) ?_
       exact g159_5 H hv hv2 hk hD hn y1 y0 w52
     ·refine pcf (by simp [c191]) ?_
      exact g159_5 H hv hv2 hk hD hn y1 y0 w
theorem g159_3 (H : IL q e k v) (hv : 1000000 ≤ v) (hv2 : v ≤ 1000000000000) (hk : k ≤ 10) (hD : 4001 + 20 * k + 5 ≤ D) (hn : n + 50 * k + 100 ≤ 1000) (y1 : y ≤ k + 1) (y0 : 1 ≤ y) {z : Int} {b : Bool} (w : St q e n h0 h) : RE q e (n + k + 2) (10 * v) h0 (s272_3 hk0 (call Tp Ms D) N (ptr q 0) (ptr e 0) y z b h) := by
 rw [s272_3_j, s272_3_eq]
 have w1 : IntKind.i64.wrap (y - 1) = y - 1 := wr (by omega) (by omega)
 by_cases c1 : b = true
 ·refine pct (c1) ?_
  refine scS w (((ih3 q e).i191 _ _ _ _ (by omega) (by omega) (by omega) (by omega) w.self).le (C := 1 * v) (by omega) (Nat.le_refl _)) fun s2 g2 b2 w2 f2 => ?_
  refine scS w2 (q189 (by omega) (by omega) w2.self) fun s3 g3 b3 w3 f3 => ?_
  refine ad (x := 6) (y := 3) (Nat.le_refl _) (Nat.le_trans b3 (by omega)) (by omega) fun s4 b4 => ?_
  refine ad (x := 9) (y := 3) (Nat.le_trans b4 (by omega)) (Nat.le_refl _) (by omega) fun s5 b5 => ?_
  refine ad (x := 12) (y := (1 * v + 0)) (Nat.le_trans b5 (by omega)) (Nat.le_trans b2 (by omega)) (by omega) fun s6 b6 => ?_
  refine ad (x := (1 * v + 12)) (y := 2) (Nat.le_trans b6 (by omega)) (Nat.le_refl _) (by omega) fun s7 b7 => ?_
  exact ⟨_, _, rfl, vle (c := 1) (d := 14) (Nat.le_trans b7 (by omega)) hv (by omega) (by omega), w3.mono (by omega)⟩
 ·refine pcf (by simpa using c1) ?_
  by_cases c1008 : z = 5
  ·refine pct (by simp [c1008]) ?_
   refine scS w ((lam' H hv2 (by omega) hk (by omega) (by omega) (by omega) w.self).le (C := 3 * v) (by omega) (Nat.le_refl _)) fun s9 g9 b9 w9 f9 => ?_
   refine scS w9 (q189 (by omega) (by omega) w9.self) fun s10 g10 b10 w10 f10 => ?_
   refine ad (x := 6) (y := 3) (Nat.le_refl _) (Nat.le_trans b10 (by omega)) (by omega) fun s11 b11 => ?_
   refine ad (x := 9) (y := 3) (Nat.le_trans b11 (by omega)) (Nat.le_refl _) (by omega) fun s12 b12 => ?_
   refine ad (x := 12) (y := (3 * v + 0)) (Nat.le_trans b12 (by omega)) (Nat.le_trans b9 (by omega)) (by omega) fun s13 b13 => ?_
   refine ad (x := (3 * v + 12)) (y := 2) (Nat.le_trans b13 (by omega)) (Nat.le_refl _) (by omega) fun s14 b14 => ?_
   exact ⟨_, _, rfl, vle (c := 3) (d := 14) (Nat.le_trans b14 (by omega)) hv (by omega) (by omega), w10.mono (by omega)⟩
  ·refine pcf (by simp [c1008]) ?_
   by_cases c100 : z = 6
   ·refine pct (by simp [c100]) ?_
    refine scO w (by omega) (by omega) fun v16 g16 y16 w16 z16 hs16 f16 => ?_
    by_cases c1017 : 0 < y16.length
    ·refine pct (decide_eq_true (by omega)) ?_
     refine scC w16 (q117 (B := 3) (by omega) z16 c1017 hs16 w16.ds) fun s18 g18 b18 w18 f18 => ?_
     refine ad (x := 3) (y := 3) (Nat.le_trans b18 (by omega)) (Nat.le_refl _) (by omega) fun s19 b19 => ?_
     refine scS w18 (((ih3 q e).i161 _ _ _ _ (by omega) (by omega) (by omega) w18.self).le (C := 1 * v) (by omega) (Nat.le_refl _)) fun s20 g20 b20 w20 f20 => ?_
     refine ad (x := 6) (y := (1 * v + 0)) (Nat.le_trans b19 (by omega)) (Nat.le_trans b20 (by omega)) (by omega) fun s21 b21 => ?_
     refine ad (x := (1 * v + 6)) (y := 2) (Nat.le_trans b21 (by omega)) (Nat.le_refl _) (by omega) fun s22 b22 => ?_
     exact ⟨_, _, rfl, vle (c := 1) (d := 8) (Nat.le_trans b22 (by omega)) hv (by omega) (by omega), w20.mono (by omega)⟩
    ·refine pcf (decide_eq_false (by omega)) ?_
     exact g159_5 H hv hv2 hk hD hn y1 y0 w16
   ·refine pcf (by simp [c100]) ?_
    by_cases c1023 : z = 7
    ·refine pct (by simp [c1023]) ?_
     exact g159_4 H hv hv2 hk hD hn y1 y0 w
    ·refine pcf (by simp [c1023]) ?_
     exact g159_4 H hv hv2 hk hD hn y1 y0 w
theorem g159_2 (H : IL q e k v) (hv : 1000000 ≤ v) (hv2 : v ≤ 1000000000000) (hk : k ≤ 10) (hD : 4001 + 20 * k + 5 ≤ D) (hn : n + 50 * k + 100 ≤ 1000) (y1 : y ≤ k + 1) (y0 : 1 ≤ y) {z : Int} {b : Bool} (w : St q e n h0 h) : RE q e (n + k + 2) (10 * v) h0 (s272_2 hk0 (call Tp Ms D) N (ptr q 0) (ptr e 0) y z b h) := by
 rw [s272_2_j, s272_2_eq]
 have w1 : IntKind.i64.wrap (y - 1) = y - 1 := wr (by omega) (by omega)
 by_cases c1 : b = true
 ·refine pct (c1) ?_
  refine scS w (((ih3 q e).i161 _ _ _ _ (by omega) (by omega) (by omega) w.self).le (C := 1 * v) (by omega) (Nat.le_refl _)) fun s2 g2 b2 w2 f2 => ?_
  refine scS w2 (q189 (by omega) (by omega) w2.self) fun s3 g3 b3 w3 f3 => ?_
  refine ad (x := 6) (y := 3) (Nat.le_refl _) (Nat.le_trans b3 (by omega)) (by omega) fun s4 b4 => ?_
  refine ad (x := 9) (y := 3) (Nat.le_trans b4 (by omega)) (Nat.le_refl _) (by omega) fun s5 b5 => ?_
  refine ad (x := 12) (y := (1 * v + 0)) (Nat.le_trans b5 (by omega)) (Nat.le_trans b2 (by omega)) (by omega) fun s6 b6 => ?_
  refine ad (x := (1 * v + 12)) (y := 2) (Nat.le_trans b6 (by omega)) (Nat.le_refl _) (by omega) fun s7 b7 => ?_
  exact ⟨_, _, rfl, vle (c := 1) (d := 14) (Nat.le_trans b7 (by omega)) hv (by omega) (by omega), w3.mono (by omega)⟩
 ·refine pcf (by simpa using c1) ?_
  by_cases c1008 : z = 2
  ·refine pct (by simp [c1008]) ?_
   refine scS w (((ih3 q e).i190 _ _ _ _ (by omega) (by omega) (by omega) w.self).le (C := 1 * v) (by omega) (Nat.le_refl _)) fun s9 g9 b9 w9 f9 => ?_
   refine scS w9 (q189 (by omega) (by omega) w9.self) fun s10 g10 b10 w10 f10 => ?_
   refine ad (x := 6) (y := 3) (Nat.le_refl _) (Nat.le_trans b10 (by omega)) (by omega) fun s11 b11 => ?_
   refine ad (x := 9) (y := 3) (Nat.le_trans b11 (by omega)) (Nat.le_refl _) (by omega) fun s12 b12 => ?_
   refine ad (x := 12) (y := (1 * v + 0)) (Nat.le_trans b12 (by omega)) (Nat.le_trans b9 (by omega)) (by omega) fun s13 b13 => ?_
   refine ad (x := (1 * v + 12)) (y := 2) (Nat.le_trans b13 (by omega)) (Nat.le_refl _) (by omega) fun s14 b14 => ?_
   exact ⟨_, _, rfl, vle (c := 1) (d := 14) (Nat.le_trans b14 (by omega)) hv (by omega) (by omega), w10.mono (by omega)⟩
  ·refine pcf (by simp [c1008]) ?_
   by_cases c100 : z = 3
   ·refine pct (by simp [c100]) ?_
    exact g159_3 H hv hv2 hk hD hn y1 y0 w
   ·refine pcf (by simp [c100]) ?_
    exact g159_3 H hv hv2 hk hD hn y1 y0 w
theorem g159_1 (H : IL q e k v) (hv : 1000000 ≤ v) (hv2 : v ≤ 1000000000000) (hk : k ≤ 10) (hD : 4001 + 20 * k + 5 ≤ D) (hn : n + 50 * k + 100 ≤ 1000) (y1 : y ≤ k + 1) (y0 : 1 ≤ y) (w : St q e n h0 h) : RE q e (n + k + 2) (10 * v) h0 (s272_1 hk0 (call Tp Ms D) N (ptr q 0) (ptr e 0) y  h) := by
 rw [s272_1_j, s272_1_eq]
 have w1 : IntKind.i64.wrap (y - 1) = y - 1 := wr (by omega) (by omega)
 refine scN w (q116 (by omega) (by omega) w.ds) fun n1 g1 a1 b1 w1 f1 => ?_
 by_cases c2 : n1 = 0
 ·refine pct (by simp [c2]) ?_
  exact g159_2 H hv hv2 hk hD hn y1 y0 w1
 ·refine pcf (by simp [c2]) ?_
  exact g159_2 H hv hv2 hk hD hn y1 y0 w1
theorem g159_0t (hD : 4000 ≤ D) (hn : n ≤ 1000) (w : St q e n h0 h) : RE q e n 1000000 h0 (s272_0 hk0 (call Tp Ms D) N (ptr q 0) (ptr e 0) y true h) := by
 rw [s272_0_j, s272_0_eq]
 refine pct rfl ?_
 refine scS w ((ih3 q e).i161 _ _ _ _ (by omega) (by omega) (by omega) w.self) fun s1 g1 b1 w1 f1 => ?_
 refine ad (x := 6) (y := 200000) (Nat.le_refl _) (by omega) (by omega) fun s2 b2 => ?_
 refine ad (x := 200006) (y := 3) (by omega) (Nat.le_refl _) (by omega) fun s3 b3 => ?_
 exact ⟨_, _, rfl, by omega, w1⟩
theorem leftS (w : St q e n h0 h) : ∃ lf, aLd1 h (ptr e 3) = some (.int .i64 lf) ∧ ∃ g, aSt h (ptr e 3) (.int .i64 (IntKind.i64.wrap (lf - 1))) 1 = some g ∧ St q e n h0 g ∧ aLd1 g (ptr e 3) = some (.int .i64 (IntKind.i64.wrap (lf - 1))) := by
 obtain ⟨fr, ds, nv, kv, cnt, left, fn, co, ns, ks, o, zn, zi, x⟩ := w
 obtain ⟨h1, a1, o1, s1, k1⟩ := stEn o (j := 3) (v := .int .i64 (IntKind.i64.wrap (left - 1))) (by show 3 < 6; decide) rfl
 have F1 := ks184 s1 k1
 exact ⟨left, o.row.ld1 rfl, h1, a1, ⟨fr.trans F1, ds.ks s1 k1, nv, kv, cnt, _, fn, co, ns, ks, o1, zn.fr F1, zi.fr F1, x⟩, o1.row.ld1 rfl⟩
theorem line0 (hD : 4001 ≤ D) (hn : n ≤ 1000) (y0 : y ≤ 0) (w : St q e n h h) : RE q e n 1000000 h (call Tp Ms D 272 [ptr q 0, ptr e 0, .int .i64 y] h) := by
 obtain ⟨D, rfl⟩ : ∃ d, D = d + 1 := ⟨D - 1, by omega⟩
 obtain ⟨left, f3, g, a1, w1, f4⟩ := leftS w
 rw [c272, e272]
 refine pb (P := RE q e n _ h) rfl (pb rfl (pb f3 (pb rfl (pb rfl (pb rfl (pb a1 (pb rfl (pb rfl (pb f4 (pb rfl ?_))))))))))
 by_cases c : IntKind.i64.wrap (left - 1) < 0
 ·exact pct (decide_eq_true c) (g159_0t (by omega) hn w1)
 ·rw [decide_eq_true y0]
  exact pcf (decide_eq_false c) (g159_0t (by omega) hn w1)
theorem lineS (H : IL q e k v) (hv : 1000000 ≤ v) (hv2 : v ≤ 1000000000000) (hk : k ≤ 10) (hD : 4001 + 20 * k + 5 ≤ D) (hn : n + 50 * k + 100 ≤ 1000) (y1 : y ≤ k + 1) (y0 : 1 ≤ y) (w : St q e n h h) : RE q e (n + k + 2) (10 * v) h (call Tp Ms (D + 1) 272 [ptr q 0, ptr e 0, .int .i64 y] h) := by
 obtain ⟨left, f3, g, a1, w1, f4⟩ := leftS w
 rw [c272, e272]
 refine pb (P := RE q e _ _ h) rfl (pb rfl (pb f3 (pb rfl (pb rfl (pb rfl (pb a1 (pb rfl (pb rfl (pb f4 (pb rfl ?_))))))))))
 by_cases c : IntKind.i64.wrap (left - 1) < 0
 ·exact pct (decide_eq_true c) ((g159_0t (by omega) (by omega) w1).le (by omega) (by omega))
 ·rw [decide_eq_false (show ¬ y ≤ 0 by omega)]
  refine pcf (decide_eq_false c) ?_
  rw [s272_0_j, s272_0_eq]
  exact pcf rfl (g159_1 H hv hv2 hk hD hn y1 y0 w1)
theorem il0 (q e : Nat) : IL q e 0 1000000 := ⟨fun D y n h hD hy hn w => by
 exact (line0 (by omega) (by omega) (by simpa using hy) w).le (Nat.le_refl _) (by omega)⟩
theorem ilS {q e k v : Nat} (H : IL q e k v) (hv : 1000000 ≤ v) (hv2 : v ≤ 1000000000000) (hk : k ≤ 10) : IL q e (k + 1) (10 * v) := ⟨fun D y n h hD hy hn w => by
 by_cases c : y ≤ 0
 ·exact (line0 (by omega) (by omega) c w).le (by omega) (by omega)
 ·obtain ⟨D, rfl⟩ : ∃ d, D = d + 1 := ⟨D - 1, by omega⟩
  exact (lineS H hv hv2 hk (by omega) (by omega) (by omega) (by omega) w).le (Nat.le_refl _) (by omega)⟩
theorem il4 (q e : Nat) : IL q e 4 10000000000 := ilS (ilS (ilS (ilS (il0 q e) (by omega) (by omega) (by omega)) (by omega) (by omega) (by omega)) (by omega) (by omega) (by omega)) (by omega) (by omega) (by omega)
end
section
variable {q e D N B : Nat} {h0 h : AHeap}
theorem litZ (h : AHeap) (xs : List ByteArray) : ZS (h.new 9 (strs xs)) (slc h.size 0 xs.length) xs := .inr ⟨h.size, rfl, RowE.new h 9 (strs xs)⟩
theorem deep1 {n : Nat} (hD : 100 ≤ D) : ∀ (t j m : Nat) (s : ByteArray) (h : AHeap), j + t = n → t < m → n ≤ 100 → s.size + t + 2 ≤ B → B ≤ 1000000 → DS q h → FrC h0 h → RC q B h0 (s187_1 hk0 (call Tp Ms D) N m (n : Int) s (j : Int) h) := by
 intro t
 induction t with
 | zero =>
  intro j m s h hj hm hn hs hB w f
  obtain ⟨m, rfl⟩ : ∃ q, m = q + 1 := ⟨m - 1, by omega⟩
  rw [s187_1_eq]
  refine pcf (decide_eq_false (by omega)) ?_
  refine ad (x := s.size) (y := 2) (Nat.le_refl _) (Nat.le_refl _) (by omega) fun s1 b1 => ?_
  exact ⟨_, _, rfl, by omega, f, w⟩
 | succ t ih =>
  intro j m s h hj hm hn hs hB w f
  obtain ⟨m, rfl⟩ : ∃ q, m = q + 1 := ⟨m - 1, by omega⟩
  have wj : IntKind.i64.wrap ((j : Int) + 1) = ((j + 1 : Nat) : Int) := by rw [wr (by omega) (by omega)]; omega
  rw [s187_1_eq, wj]
  refine pct (decide_eq_true (by omega)) ?_
  refine ad (x := s.size) (y := 1) (Nat.le_refl _) (Nat.le_refl _) (by omega) fun s1 b1 => ?_
  exact ih (j + 1) m s1 h (by omega) (by omega) hn (by omega) hB w f
theorem deep0 {n : Nat} (hD : 100 ≤ D) (hN : 1000 ≤ N) : ∀ (t j m : Nat) (s : ByteArray) (h : AHeap), j + t = n → t < m → n ≤ 100 → s.size + t + 103 ≤ B → B ≤ 1000000 → DS q h → FrC h0 h → RC q B h0 (s187_0 hk0 (call Tp Ms D) N m (ptr q 0) (n : Int) s (j : Int) h) := by
 intro t
 induction t with
 | zero =>
  intro j m s h hj hm hn hs hB w f
  obtain ⟨m, rfl⟩ : ∃ q, m = q + 1 := ⟨m - 1, by omega⟩
  rw [s187_0_eq]
  refine pcf (decide_eq_false (by omega)) ?_
  refine ad (x := s.size) (y := 1) (Nat.le_refl _) (Nat.le_refl _) (by omega) fun s1 b1 => ?_
  exact deep1 hD n 0 N s1 h (by omega) (by omega) hn (by omega) hB w f
 | succ t ih =>
  intro j m s h hj hm hn hs hB w f
  obtain ⟨m, rfl⟩ : ∃ q, m = q + 1 := ⟨m - 1, by omega⟩
  have wj : IntKind.i64.wrap ((j : Int) + 1) = ((j + 1 : Nat) : Int) := by rw [wr (by omega) (by omega)]; omega
  rw [s187_0_eq, wj]
  have E := Ext.new (Nat.le_refl h.size) 9 (strs [(⟨#[40]⟩ : ByteArray), ⟨#[35]⟩, ⟨#[40]⟩])
  obtain ⟨s1, g1, c1, b1, f1, w1⟩ := q117 (D := D) (B := 1) (by omega) (litZ h [(⟨#[40]⟩ : ByteArray), ⟨#[35]⟩, ⟨#[40]⟩]) (by decide) (by decide) (w.ext E)
  refine pct (decide_eq_true (by omega)) (nS (P := RC q B h0) (pb c1 (pb rfl ?_)))
  refine ad (x := s.size) (y := 1) (Nat.le_refl _) b1 (by omega) fun s2 b2 => ?_
  exact ih (j + 1) m s2 g1 (by omega) (by omega) hn (by omega) hB w1 ((f.trans (FrC.ext E)).trans f1)
theorem q113 (hD : 1101 ≤ D) (w : DS q h) : RC q 1000 h (call Tp Ms D 187 [ptr q 0] h) := by
 obtain ⟨D, rfl⟩ : ∃ d, D = d + 1 := ⟨D - 1, by omega⟩
 obtain ⟨z, g, c, a1, a2, f, w1⟩ := q116 (D := D) (n := 5) (by omega) (by omega) w
 obtain ⟨t, rfl⟩ : ∃ t : Nat, z = (t : Int) := ⟨z.toNat, by omega⟩
 have wz : IntKind.i64.wrap (27 + (t : Int)) = ((27 + t : Nat) : Int) := by rw [wr (by omega) (by omega)]; omega
 rw [c187, e187]
 refine pb c (pb rfl ?_)
 rw [wz]
 exact deep0 (by omega) (by omega) (27 + t) 0 D _ g (by omega) (by omega) (by omega) (by show 10 + (27 + t) + 103 ≤ 1000; omega) (by omega) w1 f
def RP (q B : Nat) (h : AHeap) (o : Option (Value × AHeap)) : Prop := ∃ s g, o = some (.string s, g) ∧ s.size ≤ B ∧ Fr h g ∧ DS q g
theorem prog2 {n : Nat} {s : ByteArray} (hs : s.size ≤ B) (hB : 20 ≤ B) (w : St q e n h0 h) : RP q B h0 (s188_2 hk0 (call Tp Ms D) N s h) := by
 rw [s188_2_j, s188_2_eq]
 by_cases c : (s.size : Int) > 3000
 ·exact pct (decide_eq_true c) ⟨_, _, rfl, Nat.le_trans (show (⟨#[112, 114, 105, 110, 116, 40, 49, 41, 59, 32]⟩ : ByteArray).size ≤ 20 from by decide) hB, w.fr, w.ds⟩
 ·exact pcf (decide_eq_false c) ⟨_, _, rfl, hs, w.fr, w.ds⟩
theorem prog1 (hD : 5000 ≤ D) : ∀ (t j l n : Nat) (s : ByteArray) (C : Nat) (h : AHeap), t < l → j + t ≤ 3 → n + 10 * t ≤ 300 → s.size ≤ C → C + t * 20000000000 ≤ B → B ≤ 1000000000000 → 20 ≤ C → St q e n h0 h →
  RP q B h0 (s188_1 hk0 (call Tp Ms D) N l (ptr q 0) (ptr e 0) s ((j + t : Nat) : Int) (j : Int) h) := by
 intro t
 induction t with
 | zero =>
  intro j l n s C h hl hj hn hs hB hB2 h20 w
  obtain ⟨l, rfl⟩ : ∃ q, l = q + 1 := ⟨l - 1, by omega⟩
  rw [s188_1_eq]
  exact pcf (decide_eq_false (by omega)) (prog2 (by omega) (by omega) w)
 | succ t ih =>
  intro j l n s C h hl hj hn hs hB hB2 h20 w
  obtain ⟨l, rfl⟩ : ∃ q, l = q + 1 := ⟨l - 1, by omega⟩
  have wj : IntKind.i64.wrap ((j : Int) + 1) = ((j + 1 : Nat) : Int) := by rw [wr (by omega) (by omega)]; omega
  have hm2 : (t + 1) * 20000000000 = t * 20000000000 + 20000000000 := Nat.succ_mul _ _
  have e1 : ((j + (t + 1) : Nat) : Int) = (((j + 1) + t : Nat) : Int) := by omega
  rw [s188_1_eq, e1, wj]
  refine pct (decide_eq_true (by omega)) ?_
  refine ad (x := C) (y := 60) hs (by decide) (by omega) fun s1 b1 => ?_
  refine scS w ((ih3 q e).i161 _ _ _ _ (by omega) (by omega) (by omega) w.self) fun s2 g2 b2 w2 f2 => ?_
  refine ad b1 b2 (by omega) fun s3 b3 => ?_
  refine ad b3 (show _ ≤ 4 from by decide) (by omega) fun s4 b4 => ?_
  refine scS w2 ((il4 q e).line _ _ _ _ (by omega) (by omega) (by omega) w2.self) fun s5 g5 b5 w5 f5 => ?_
  refine ad b4 b5 (by omega) fun s6 b6 => ?_
  exact ih (j + 1) l (n + 4 + 1) s6 (C + 20000000000) _ (by omega) (by omega) (by omega) (by omega) (by omega) hB2 (by omega) w5
theorem prog0 (hD : 5000 ≤ D) (hN : 10 ≤ N) {co : Bool} : ∀ (t j l n : Nat) (s : ByteArray) (C : Nat) (h : AHeap), t < l → j + t ≤ 6 → n + 10 * t ≤ 100 → s.size ≤ C → C + t * 20000000000 ≤ 200000000000 → 20 ≤ C → St q e n h0 h →
  RP q 1000000000000 h0 (s188_0 hk0 (call Tp Ms D) N l (ptr q 0) co (ptr e 0) s ((j + t : Nat) : Int) (j : Int) h) := by
 intro t
 induction t with
 | zero =>
  intro j l n s C h hl hj hn hs hB h20 w
  obtain ⟨l, rfl⟩ : ∃ q, l = q + 1 := ⟨l - 1, by omega⟩
  rw [s188_0_eq]
  refine pcf (decide_eq_false (by omega)) ?_
  cases co with
  | false => exact pcf rfl (prog2 (by omega) (by omega) w)
  | true =>
   refine pct rfl ?_
   refine scS w (lam' (il4 q e) (by omega) (by omega) (by omega) (by omega) (by omega) (by omega) w.self) fun s1 g1 b1 w1 f1 => ?_
   refine ad hs (show _ ≤ 30 from by decide) (by omega) fun s2 b2 => ?_
   refine ad b2 b1 (by omega) fun s3 b3 => ?_
   refine ad b3 (show _ ≤ 30 from by decide) (by omega) fun s4 b4 => ?_
   refine scS w1 ((ih3 q e).i161 _ _ _ _ (by omega) (by omega) (by omega) w1.self) fun s5 g5 b5 w5 f5 => ?_
   refine ad b4 b5 (by omega) fun s6 b6 => ?_
   refine ad b6 (show _ ≤ 40 from by decide) (by omega) fun s7 b7 => ?_
   refine scN w5 (q116 (by omega) (by omega) w5.ds) fun z g8 a b w8 f8 => ?_
   obtain ⟨t, rfl⟩ : ∃ t : Nat, z = (t : Int) := ⟨z.toNat, by omega⟩
   have h3 : t * 20000000000 ≤ 3 * 20000000000 := Nat.mul_le_mul_right _ (by omega)
   have := prog1 (q := q) (e := e) (B := 1000000000000) (N := N) hD t 0 N n s7 300000000000 g8 (by omega) (by omega) (by omega) (by omega) (by omega) (by omega) (by omega) w8
   rw [Nat.zero_add] at this
   exact this
 | succ t ih =>
  intro j l n s C h hl hj hn hs hB h20 w
  obtain ⟨l, rfl⟩ : ∃ q, l = q + 1 := ⟨l - 1, by omega⟩
  have wj : IntKind.i64.wrap ((j : Int) + 1) = ((j + 1 : Nat) : Int) := by rw [wr (by omega) (by omega)]; omega
  have hm2 : (t + 1) * 20000000000 = t * 20000000000 + 20000000000 := Nat.succ_mul _ _
  have e1 : ((j + (t + 1) : Nat) : Int) = (((j + 1) + t : Nat) : Int) := by omega
  rw [s188_0_eq, e1, wj]
  refine pct (decide_eq_true (by omega)) ?_
  refine scS w ((il4 q e).line _ _ _ _ (by omega) (by omega) (by omega) w.self) fun s1 g1 b1 w1 f1 => ?_
  refine ad hs b1 (by omega) fun s2 b2 => ?_
  exact ih (j + 1) l (n + 4 + 1) s2 (C + 20000000000) _ (by omega) (by omega) (by omega) (by omega) (by omega) (by omega) w1
theorem q114 (hD : 5001 ≤ D) {left : Int} {co : Bool} (w : DS q h) : RP q 1000000000000 h (call Tp Ms D 188 [ptr q 0, .int .i64 left, .bool co] h) := by
 obtain ⟨D, rfl⟩ : ∃ d, D = d + 1 := ⟨D - 1, by omega⟩
 have E := Ext.new (Nat.le_refl h.size) 289 (ecells (.slice none 0 0) (.slice none 0 0) 0 left false co)
 have w1 : St q h.size 0 h (h.new 289 (ecells (.slice none 0 0) (.slice none 0 0) 0 left false co)) :=
  ⟨Fr.ext E, w.ext E, _, _, _, _, _, _, [], [], OwnR.new h 289 _, .inl ⟨rfl, rfl⟩, .inl ⟨rfl, rfl⟩, rfl, Nat.le_refl _, by simp⟩
 rw [c188, e188]
 refine pb (P := RP q 1000000000000 h) (v := ecells (.slice none 0 0) (.slice none 0 0) 0 left false co) rfl ?_
 show RP q 1000000000000 h ((call Tp Ms D 136 [ptr q 0, .int .i64 4] (h.new 289 (ecells (.slice none 0 0) (.slice none 0 0) 0 left false co))).bind _)
 refine scN w1 (q116 (by omega) (by omega) w1.ds) fun z g8 a b w8 f8 => ?_
 obtain ⟨t, rfl⟩ : ∃ t : Nat, z = (t : Int) := ⟨z.toNat, by omega⟩
 have wz : IntKind.i64.wrap (2 + (t : Int)) = ((0 + (2 + t) : Nat) : Int) := by rw [wr (by omega) (by omega)]; omega
 rw [wz]
 have h3 : (2 + t) * 20000000000 ≤ 6 * 20000000000 := Nat.mul_le_mul_right _ (by omega)
 exact prog0 (by omega) (by omega) (2 + t) 0 D 0 ⟨#[]⟩ 20 g8 (by omega) (by omega) (by omega) (by decide) (by omega) (by omega) w8
theorem sub0 {s : ByteArray} {n : Nat} (hn : n ≤ s.size) : aSubS (.string s) none (some (.int .i64 (n : Int))) = some (.string (s.extract 0 n)) := by
 have h1 : ((n : Int) ≤ (s.size : Int)) := by omega
 simp [aSubS, aBound, h1, hn]
theorem sub1 {s : ByteArray} {n : Nat} (hn : n ≤ s.size) : aSubS (.string s) (some (.int .i64 (n : Int))) none = some (.string (s.extract n s.size)) := by
 have h1 : ((n : Int) ≤ (s.size : Int)) := by omega
 simp [aSubS, aBound, h1, hn]
theorem extLe (s : ByteArray) (a b : Nat) : (s.extract a b).size ≤ s.size := by rw [ByteArray.size_extract]; omega
theorem ag_sub {s t : ByteArray} {a b : Option Value} (e : aSubS (.string s) a b = some (.string t)) : ((aSubS (.string s) a b).bind fun v => (asS v).bind fun u => some (vbeq (.string u) (.string t))) = some true := by
 rw [e, oBs]
 show some (vbeq (.string t) (.string t)) = _
 rw [show vbeq (.string t) (.string t) = true from vbeq_str t]
theorem q72 {s : ByteArray} (hD : 100 ≤ D) (hs : s.size ≤ B) (hB : B ≤ 10000000000000) (w : DS q h) : RC q (2 * B + 40) h (call Tp Ms D 190 [ptr q 0, .string s] h) := by
 obtain ⟨D, rfl⟩ : ∃ d, D = d + 1 := ⟨D - 1, by omega⟩
 rw [c190, e190]
 by_cases c0 : (s.size : Int) = 0
 ·exact pct (P := RC q _ h) (by simp [c0]) ⟨_, _, rfl, Nat.le_trans (show (⟨#[120]⟩ : ByteArray).size ≤ 40 from by decide) (by omega), FrC.refl h, w⟩
 refine pcf (P := RC q _ h) (by simpa using c0) ?_
 obtain ⟨z, g1, k1, a1, a2, f1, w1⟩ := q116 (D := D) (n := (s.size : Int)) (by omega) (by omega) w
 obtain ⟨n, rfl⟩ : ∃ t : Nat, z = (t : Int) := ⟨z.toNat, by omega⟩
 obtain ⟨y, g2, k2, b1, b2, f2, w2⟩ := q116 (D := D) (n := 4) (by omega) (by omega) w1
 have wn : IntKind.i64.wrap ((n : Int) + 1) = ((n + 1 : Nat) : Int) := by rw [wr (by omega) (by omega)]; omega
 have F := f1.trans f2
 have l0 := extLe s 0 n
 have l1 := extLe s n s.size
 have l2 := extLe s (n + 1) s.size
 refine pb (P := RC q _ h) k1 (pb rfl (pb k2 (pb rfl ?_)))
 rw [wn]
 by_cases c1 : y = 0
 ·refine pct (P := RC q _ h) (by simp [c1]) (pb (sub0 (by omega)) (pb rfl ?_))
  exact ⟨_, _, rfl, by omega, F, w2⟩
 refine pcf (P := RC q _ h) (by simpa using c1) ?_
 by_cases c2 : y = 1
 ·refine pct (P := RC q _ h) (by simp [c2]) (pb (sub0 (by omega)) (pb rfl (pb (sub1 (by omega)) (pb rfl ?_))))
  let L : List ByteArray := [⟨#[32, 59, 32]⟩, ⟨#[123]⟩, ⟨#[125]⟩, ⟨#[40]⟩, ⟨#[32, 101, 108, 115, 101, 32]⟩, ⟨#[61, 61]⟩, ⟨#[32, 97, 32]⟩, ⟨#[57, 122]⟩, ⟨#[126]⟩, ⟨#[32, 108, 111, 110, 103, 108, 111, 110, 103, 108, 111, 110, 103, 110, 97, 109, 101, 32]⟩, ⟨#[91, 49, 93]⟩, ⟨#[46]⟩, ⟨#[34]⟩, ⟨#[45, 45, 32, 120]⟩]
  have E := Ext.new (Nat.le_refl g2.size) 9 (strs L)
  obtain ⟨s3, g3, k3, b3, f3, w3⟩ := q117 (D := D) (B := 30) (by omega) (litZ g2 L) (by decide) (by decide) (w2.ext E)
  refine nS (P := RC q _ h) (pb (ag_sub (sub0 (by omega))) (pct rfl (pb (ag_sub (sub1 (by omega))) (pct rfl (pb k3 (pb rfl (pb (ag_sub (sub0 (by omega))) (pct rfl (pb (ag_sub (sub1 (by omega))) (pct rfl ?_))))))))))
  refine ad (Nat.le_trans l0 hs) b3 (by omega) fun s4 b4 => ?_
  refine ad b4 (Nat.le_trans l1 hs) (by omega) fun s5 b5 => ?_
  exact ⟨_, _, rfl, by omega, (F.trans (FrC.ext E)).trans f3, w3⟩
 refine pcf (P := RC q _ h) (by simpa using c2) ?_
 by_cases c1003 : y = 2
 ·refine pct (P := RC q _ h) (by simp [c1003]) (pb (sub0 (by omega)) (pb rfl (pb (sub1 (by omega)) (pb rfl ?_))))
  refine ad (Nat.le_trans l0 hs) (Nat.le_trans l2 hs) (by omega) fun s5 b5 => ?_
  exact ⟨_, _, rfl, by omega, F, w2⟩
 refine pcf (P := RC q _ h) (by simpa using c1003) (pb (sub0 (by omega)) (pb rfl (pb (sub1 (by omega)) (pb rfl ?_))))
 let L : List ByteArray := [⟨#[61]⟩, ⟨#[32]⟩, ⟨#[60]⟩, ⟨#[46]⟩, ⟨#[48]⟩, ⟨#[120]⟩, ⟨#[35]⟩]
 have E := Ext.new (Nat.le_refl g2.size) 9 (strs L)
 obtain ⟨s3, g3, k3, b3, f3, w3⟩ := q117 (D := D) (B := 30) (by omega) (litZ g2 L) (by decide) (by decide) (w2.ext E)
 refine nS (P := RC q _ h) (pb (ag_sub (sub0 (by omega))) (pct rfl (pb (ag_sub (sub1 (by omega))) (pct rfl (pb k3 (pb rfl (pb (ag_sub (sub0 (by omega))) (pct rfl (pb (ag_sub (sub1 (by omega))) (pct rfl ?_))))))))))
 refine ad (Nat.le_trans l0 hs) b3 (by omega) fun s4 b4 => ?_
 refine ad b4 (Nat.le_trans l2 hs) (by omega) fun s5 b5 => ?_
 exact ⟨_, _, rfl, by omega, (F.trans (FrC.ext E)).trans f3, w3⟩
theorem q115 {v : Value} {xs : List Int} (hD : 1 ≤ D) (x : BR h v xs) (hx : xs.length ≤ 1048576) : ∃ z : Int, call Tp Ms D 189 [v, .int .i64 14] h = some (.int .i64 z, h) := by
 obtain ⟨D, rfl⟩ : ∃ d, D = d + 1 := ⟨D - 1, by omega⟩
 rw [c189, e189, x.len, oBs]
 show ∃ z : Int, (bif _ then _ else _) = _
 by_cases c : IntKind.i64.wrap (2 + IntKind.i64.wrap (Int.tdiv (xs.length : Int) 20)) > 14
 ·rw [decide_eq_true c]; exact ⟨_, rfl⟩
 ·rw [decide_eq_false c]; exact ⟨_, rfl⟩
theorem q70 {v : Value} {xs : List Int} (hD : 5003 ≤ D) (x : BR h v xs) (hx : xs.length ≤ 1048576) (w : DS q h) : RP q 2000000000040 h (call Tp Ms D 99 [ptr q 0, v] h) := by
 obtain ⟨D, rfl⟩ : ∃ d, D = d + 1 := ⟨D - 1, by omega⟩
 obtain ⟨t1, g1, k1, f1, w1⟩ := q71 (D := D) (n := 15) (by omega) (by omega) w
 rw [c99, e99]
 refine pb (P := RP q _ h) k1 (pb rfl ?_)
 cases t1 with
 | true =>
  obtain ⟨s2, g2, k2, b2, f2, w2⟩ := q113 (D := D) (by omega) w1
  exact pct (P := RP q _ h) rfl (pb k2 (pb rfl ⟨_, _, rfl, by omega, f1.fr.trans f2.fr, w2⟩))
 | false =>
  obtain ⟨z, k2⟩ := q115 (D := D) (by omega) (x.fr f1.fr) hx
  obtain ⟨t3, g3, k3, f3, w3⟩ := q71 (D := D) (n := 4) (by omega) (by omega) w1
  obtain ⟨s4, g4, k4, b4, f4, w4⟩ := q114 (D := D) (by omega) (left := IntKind.i64.wrap (3 + z)) (co := t3) w3
  obtain ⟨t5, g5, k5, f5, w5⟩ := q71 (D := D) (n := 4) (by omega) (by omega) w4
  have F := ((f1.fr.trans f3.fr).trans f4).trans f5.fr
  refine pcf (P := RP q _ h) rfl (pb k2 (pb rfl (pb k3 (pb rfl (pb k4 (pb rfl (pb k5 (pb rfl ?_))))))))
  cases t5 with
  | true =>
   obtain ⟨s6, g6, k6, b6, f6, w6⟩ := q72 (D := D) (by omega) b4 (by omega) w5
   exact pct (P := RP q _ h) rfl (pb k6 (pb rfl ⟨_, _, rfl, by omega, F.trans f6.fr, w6⟩))
  | false => exact pcf (P := RP q _ h) rfl ⟨_, _, rfl, by omega, F, w5⟩
theorem q69_loop {v : Value} {xs : List Int} (x : BR h v xs) (hx : xs.length ≤ 1048576) : ∀ (t j m : Nat) (sd : Int), 4000 - j ≤ t → t < m → ∃ i g, s98_0 hk0 (call Tp Ms D) N m v sd (j : Int) h = some (ptr i 0, g) ∧ Ext h.size h g ∧ DS i g := by
 have fin : ∀ sd : Int, ∃ i g, ((aFill [.slice none 0 0, .int .i64 0, .int .i64 0] [(0, 1, v), (2, 1, .int .i64 sd)]).bind fun c1005 => (aCells (.agg (List.toArray c1005))).bind fun c1006 => aNew h 225 c1006 fun p7 h8 => some (p7, h8)) = some (ptr i 0, g) ∧ Ext h.size h g ∧ DS i g := by
  intro sd
  have e1 : aCells v = some [v] := aCells_one x.cell
  have e2 : aFill [.slice none 0 0, .int .i64 0, .int .i64 0] [(0, 1, v), (2, 1, .int .i64 sd)] = some [v, .int .i64 0, .int .i64 sd] := by
   show (aCells v).bind _ = _
   rw [e1]; rfl
  have e1003 : aCells (.agg (List.toArray [v, .int .i64 0, .int .i64 sd])) = some [v, .int .i64 0, .int .i64 sd] := by
   show (if (List.all [v, .int .i64 0, .int .i64 sd] isCell) = true then some [v, .int .i64 0, .int .i64 sd] else none) = _
   rw [if_pos (by show (isCell v && (true && (true && true))) = true; rw [x.cell]; rfl)]
  have E := Ext.new (Nat.le_refl h.size) 225 [v, .int .i64 0, .int .i64 sd]
  exact ⟨h.size, h.new 225 [v, .int .i64 0, .int .i64 sd], eb e2 (eb e1003 rfl), E, v, xs, 0, sd, OwnR.new h 225 _, x.fr (Fr.ext E), by omega, hx⟩
 intro t
 induction t with
 | zero =>
  intro j m sd hj hm
  obtain ⟨m, rfl⟩ : ∃ q, m = q + 1 := ⟨m - 1, by omega⟩
  obtain ⟨i, g, a, b⟩ := fin sd
  refine ⟨i, g, ?_, b⟩
  rw [s98_0_eq]
  refine eb x.len (eb rfl ?_)
  by_cases c : (j : Int) < (xs.length : Int)
  ·exact ect (decide_eq_true c) (ecf (decide_eq_false (by omega)) a)
  ·exact ecf (decide_eq_false c) a
 | succ t ih =>
  intro j m sd hj hm
  obtain ⟨m, rfl⟩ : ∃ q, m = q + 1 := ⟨m - 1, by omega⟩
  by_cases c : j < xs.length ∧ j < 4000
  ·obtain ⟨p, p1, p2⟩ := x.at c.1
   have wj : IntKind.i64.wrap ((j : Int) + 1) = ((j + 1 : Nat) : Int) := by rw [wr (by omega) (by omega)]; omega
   obtain ⟨i, g, a, b⟩ := ih (j + 1) m (IntKind.i64.wrap ↑(BitVec.ofInt IntKind.i64.bits (IntKind.i64.wrap (IntKind.i64.wrap (IntKind.i64.wrap (sd * 131) + IntKind.i64.wrap xs[j]) + 7)) &&& BitVec.ofInt IntKind.i64.bits 1073741823).toNat) (by omega) (by omega)
   refine ⟨i, g, ?_, b⟩
   rw [s98_0_eq]
   refine eb x.len (eb rfl (ect (decide_eq_true (by omega)) (ect (decide_eq_true (by omega)) ?_)))
   rw [s98_1_j, s98_1_eq, wj]
   exact eb p1 (eb p2 (eb rfl a))
  ·obtain ⟨i, g, a, b⟩ := fin sd
   refine ⟨i, g, ?_, b⟩
   rw [s98_0_eq]
   refine eb x.len (eb rfl ?_)
   by_cases c1 : (j : Int) < (xs.length : Int)
   ·exact ect (decide_eq_true c1) (ecf (decide_eq_false (by omega)) a)
   ·exact ecf (decide_eq_false c1) a
theorem q69 {v : Value} {xs : List Int} (hD : 4003 ≤ D) (x : BR h v xs) (hx : xs.length ≤ 1048576) : ∃ i g, call Tp Ms D 98 [v] h = some (ptr i 0, g) ∧ Ext h.size h g ∧ DS i g := by
 obtain ⟨D, rfl⟩ : ∃ d, D = d + 1 := ⟨D - 1, by omega⟩
 obtain ⟨i, g, a, b⟩ := q69_loop (D := D) (N := D) x hx 4000 0 D (IntKind.i64.wrap (10101 + (xs.length : Int))) (by omega) (by omega)
 rw [c98, e98]
 exact ⟨i, g, eb x.len (eb rfl a), b⟩
end
noncomputable section
variable (hk : Hk (Value × AHeap)) (C : ACall) (N : Nat)
theorem e19 (x0 : Value) (h : AHeap) : evFn hk Tp C M19 N Tryz.f19 [x0] h =
  (aLen x0).bind fun v1 => (asI .i64 v1).bind fun n2 => some (.bool (decide (n2 > 1048576)), h) := by kernel_rfl
theorem c19 (d : Nat) (args : List Value) (h : AHeap) : call Tp Ms (d + 1) 19 args h = evFn hk0 Tp (call Tp Ms d) M19 d Tryz.f19 args h := by kernel_rfl
def F21_0 (n1 : Nat) : Nx (Value × AHeap) := evSt hk Tp C M21 N Tryz.f21 [1, 1, 1, 1, 1, 0, 2, 6] [n1]
def s21_0 (n1 : Nat) (x2 x5 x8 x9 : Value) (h : AHeap) := F21_0 hk C N n1 (⟨71, [(2, x2), (5, x5), (8, x8), (9, x9)]⟩) h
def F21_1 (n1 : Nat) : Nx (Value × AHeap) := evSt hk Tp C M21 N Tryz.f21 [1, 1, 1, 1, 1, 0, 2, 3, 1] [n1]
def s21_1 (n1 : Nat) (x2 x5 x8 x9 : Value) (h : AHeap) := hk 7 (⟨71, [(2, x2), (5, x5), (8, x8), (9, x9)]⟩) h (F21_1 hk C N n1)
theorem e21 (x0 : ByteArray) (h : AHeap) : evFn hk Tp C M21 N Tryz.f21 [.string x0] h =
  aNew h 41 [.slice none 0 0, .int .i64 0] fun p1 h2 => (C 100 [.string x0] h2).bind fun r3 => (aExt r3.1 0).bind fun v4 => (aExt r3.1 1).bind fun v5 => (asI .i64 v5).bind fun n6 => (aExt r3.1 2).bind fun v7 => (asI .i64 v7).bind fun n8 => bif n6 != 0 then (aSt r3.2 p1 (.agg (List.toArray [.slice none 0 0, .int .i64 0])) 2).bind fun h9 => (aLdN h9 p1 2).bind fun v10 => bif List.all [v10, .int .i64 1, .int .i64 n8] isS2 then some (.tuple (List.toArray [v10, .int .i64 1, .int .i64 n8]), h9) else none else (aFill [.slice none 0 0, .int .i64 0, .int .i64 0, .int .i64 0, .slice none 0 0, .int .i64 0, .int .i64 0] [(0, 1, v4), (2, 1, .int .i64 (ByteArray.size x0 : Int))]).bind fun c11 => (aCells (.agg (List.toArray c11))).bind fun c12 => aNew r3.2 124 c12 fun p13 h14 => aNewS h14 3 [] 0 fun p15 h16 => s21_0 hk C N N p1 v4 p13 p15 h16 := by kernel_rfl
theorem s21_0_eq (n1 : Nat) (x2 x5 x8 x9 : Value) (h : AHeap) : s21_0 hk C N (n1 + 1) x2 x5 x8 x9 h =
  (aNil x8).bind fun v17 => (aOff v17 1).bind fun v18 => (aLd1 h v18).bind fun v19 => (asI .i64 v19).bind fun n20 => (aLen x5).bind fun v21 => (asI .i64 v21).bind fun n22 => bif decide (n20 < n22) then (aNil x8).bind fun v23 => (aOff v23 5).bind fun v24 => (aLd1 h v24).bind fun v25 => (asI .i64 v25).bind fun n26 => bif n26 == 0 then s21_1 hk C N n1 x2 x5 x8 x9 h else (aNil x8).bind fun v27 => (aOff v27 5).bind fun v28 => (aLd1 h v28).bind fun v29 => (asI .i64 v29).bind fun n30 => bif n30 != 0 then (aNil x8).bind fun v31 => (aOff v31 5).bind fun v32 => (aLd1 h v32).bind fun v33 => (asI .i64 v33).bind fun n34 => (aNil x8).bind fun v35 => (aOff v35 6).bind fun v36 => (aLd1 h v36).bind fun v37 => (asI .i64 v37).bind fun n38 => (aSt h x2 (.agg (List.toArray [.slice none 0 0, .int .i64 0])) 2).bind fun h39 => ((aLd1 h39 v32).bind fun v40 => (asI .i64 v40).bind fun n41 => some (vbeq (.int .i64 n41) (.int .i64 n34))).bind fun b42 => bif b42 then ((aLd1 h39 v36).bind fun v43 => (asI .i64 v43).bind fun n44 => some (vbeq (.int .i64 n44) (.int .i64 n38))).bind fun b45 => bif b45 then ((aLd1 h39 v36).bind fun v46 => (asI .i64 v46).bind fun n47 => some (vbeq (.int .i64 n47) (.int .i64 n38))).bind fun b48 => bif b48 then (aLdN h39 x2 2).bind fun v49 => bif List.all [v49, .int .i64 n34, .int .i64 n38] isS2 then some (.tuple (List.toArray [v49, .int .i64 n34, .int .i64 n38]), h39) else none else none else none else none else (C 102 [x8, .int .i64 21, .string ⟨#[]⟩, .int .i64 0, x9] h).bind fun r50 => (asI .i64 r50.1).bind fun n51 => (aNil x8).bind fun v52 => (aOff v52 4).bind fun v53 => (aLd1 r50.2 v53).bind fun v54 => (aFill [.slice none 0 0, .int .i64 0] [(0, 1, v54), (1, 1, .int .i64 n51)]).bind fun c55 => (aSt r50.2 x2 (.agg (List.toArray c55)) 2).bind fun h56 => (aLdN h56 x2 2).bind fun v57 => bif List.all [v57, .int .i64 0, .int .i64 0] isS2 then some (.tuple (List.toArray [v57, .int .i64 0, .int .i64 0]), h56) else none else (aNil x8).bind fun v58 => (aOff v58 5).bind fun v59 => (aLd1 h v59).bind fun v60 => (asI .i64 v60).bind fun n61 => bif n61 != 0 then (aNil x8).bind fun v62 => (aOff v62 5).bind fun v63 => (aLd1 h v63).bind fun v64 => (asI .i64 v64).bind fun n65 => (aNil x8).bind fun v66 => (aOff v66 6).bind fun v67 => (aLd1 h v67).bind fun v68 => (asI .i64 v68).bind fun n69 => (aSt h x2 (.agg (List.toArray [.slice none 0 0, .int .i64 0])) 2).bind fun h70 => ((aLd1 h70 v63).bind fun v71 => (asI .i64 v71).bind fun n72 => some (vbeq (.int .i64 n72) (.int .i64 n65))).bind fun b73 => bif b73 then ((aLd1 h70 v67).bind fun v74 => (asI .i64 v74).bind fun n75 => some (vbeq (.int .i64 n75) (.int .i64 n69))).bind fun b76 => bif b76 then ((aLd1 h70 v67).bind fun v77 => (asI .i64 v77).bind fun n78 => some (vbeq (.int .i64 n78) (.int .i64 n69))).bind fun b79 => bif b79 then (aLdN h70 x2 2).bind fun v80 => bif List.all [v80, .int .i64 n65, .int .i64 n69] isS2 then some (.tuple (List.toArray [v80, .int .i64 n65, .int .i64 n69]), h70) else none else none else none else none else (C 102 [x8, .int .i64 21, .string ⟨#[]⟩, .int .i64 0, x9] h).bind fun r81 => (asI .i64 r81.1).bind fun n82 => (aNil x8).bind fun v83 => (aOff v83 4).bind fun v84 => (aLd1 r81.2 v84).bind fun v85 => (aFill [.slice none 0 0, .int .i64 0] [(0, 1, v85), (1, 1, .int .i64 n82)]).bind fun c86 => (aSt r81.2 x2 (.agg (List.toArray c86)) 2).bind fun h87 => (aLdN h87 x2 2).bind fun v88 => bif List.all [v88, .int .i64 0, .int .i64 0] isS2 then some (.tuple (List.toArray [v88, .int .i64 0, .int .i64 0]), h87) else none := by kernel_rfl
theorem s21_1_j (n1 : Nat) (x2 x5 x8 x9 : Value) (h : AHeap) : s21_1 hk0 C N n1 x2 x5 x8 x9 h = F21_1 hk0 C N n1 (⟨71, [(2, x2), (5, x5), (8, x8), (9, x9)]⟩) h := by delta s21_1; exact hk0_app _ _ _ _
theorem s21_1_eq (n1 : Nat) (x2 x5 x8 x9 : Value) (h : AHeap) : F21_1 hk C N n1 (⟨71, [(2, x2), (5, x5), (8, x8), (9, x9)]⟩) h =
  (C 101 [x8] h).bind fun r89 => (asI .i64 r89.1).bind fun n90 => aNewS r89.2 3 [.int .i64 n90] 1 fun p91 h92 => (aApp h92 3 1 8 x9 p91).bind fun r93 => s21_0 hk C N n1 x2 x5 x8 r93.1 r93.2 := by kernel_rfl
theorem c21 (d : Nat) (args : List Value) (h : AHeap) : call Tp Ms (d + 1) 21 args h = evFn hk0 Tp (call Tp Ms d) M21 d Tryz.f21 args h := by kernel_rfl
theorem e101 (x0 : Value) (h : AHeap) : evFn hk Tp C M101 N Tryz.f101 [x0] h =
  (C 194 [x0, .string (⟨#[108, 111, 99, 97, 108]⟩)] h).bind fun r1 => (asB r1.1).bind fun b2 => bif b2 then (C 195 [x0] r1.2).bind fun r3 => (asS r3.1).bind fun t4 => (C 196 [x0, .string (⟨#[61]⟩)] r3.2).bind fun r5 => (C 197 [x0] r5.2).bind fun r6 => (asI .i64 r6.1).bind fun n7 => (C 196 [x0, .string (⟨#[59]⟩)] r6.2).bind fun r8 => aNewS r8.2 3 [.int .i64 n7] 1 fun p9 h10 => (C 102 [x0, .int .i64 14, .string t4, .int .i64 0, p9] h10).bind fun r11 => (asI .i64 r11.1).bind fun n12 => some (.int .i64 n12, r11.2) else (C 194 [x0, .string (⟨#[114, 101, 116, 117, 114, 110]⟩)] r1.2).bind fun r13 => (asB r13.1).bind fun b14 => bif b14 then (C 197 [x0] r13.2).bind fun r15 => (asI .i64 r15.1).bind fun n16 => (C 196 [x0, .string (⟨#[59]⟩)] r15.2).bind fun r17 => aNewS r17.2 3 [.int .i64 n16] 1 fun p18 h19 => (C 102 [x0, .int .i64 19, .string ⟨#[]⟩, .int .i64 0, p18] h19).bind fun r20 => (asI .i64 r20.1).bind fun n21 => some (.int .i64 n21, r20.2) else (C 194 [x0, .string (⟨#[119, 104, 105, 108, 101]⟩)] r13.2).bind fun r22 => (asB r22.1).bind fun b23 => bif b23 then (C 197 [x0] r22.2).bind fun r24 => (asI .i64 r24.1).bind fun n25 => (C 198 [x0] r24.2).bind fun r26 => (asI .i64 r26.1).bind fun n27 => aNewS r26.2 3 [.int .i64 n25, .int .i64 n27] 2 fun p28 h29 => (C 102 [x0, .int .i64 18, .string ⟨#[]⟩, .int .i64 0, p28] h29).bind fun r30 => (asI .i64 r30.1).bind fun n31 => some (.int .i64 n31, r30.2) else (C 194 [x0, .string (⟨#[105, 102]⟩)] r22.2).bind fun r32 => (asB r32.1).bind fun b33 => bif b33 then (C 197 [x0] r32.2).bind fun r34 => (asI .i64 r34.1).bind fun n35 => aNewS r34.2 3 [.int .i64 n35] 1 fun p36 h37 => (C 198 [x0] h37).bind fun r38 => (asI .i64 r38.1).bind fun n39 => aNewS r38.2 3 [.int .i64 n39] 1 fun p40 h41 => (aApp h41 3 1 8 p36 p40).bind fun r42 => (C 194 [x0, .string (⟨#[101, 108, 115, 101]⟩)] r42.2).bind fun r43 => (asB r43.1).bind fun b44 => bif b44 then (C 198 [x0] r43.2).bind fun r45 => (asI .i64 r45.1).bind fun n46 => aNewS r45.2 3 [.int .i64 n46] 1 fun p47 h48 => (aApp h48 3 1 8 r42.1 p47).bind fun r49 => (C 102 [x0, .int .i64 17, .string ⟨#[]⟩, .int .i64 0, r49.1] r49.2).bind fun r50 => (asI .i64 r50.1).bind fun n51 => some (.int .i64 n51, r50.2) else (C 102 [x0, .int .i64 17, .string ⟨#[]⟩, .int .i64 0, r42.1] r43.2).bind fun r52 => (asI .i64 r52.1).bind fun n53 => some (.int .i64 n53, r52.2) else (C 199 [x0] r32.2).bind fun r54 => (asI .i64 r54.1).bind fun n55 => some (.int .i64 n55, r54.2) := by kernel_rfl
theorem c101 (d : Nat) (args : List Value) (h : AHeap) : call Tp Ms (d + 1) 101 args h = evFn hk0 Tp (call Tp Ms d) M101 d Tryz.f101 args h := by kernel_rfl
theorem e102 (x0 : Value) (x1 : Int) (x2 : ByteArray) (x3 : Int) (x4 : Value) (h : AHeap) : evFn hk Tp C M102 N Tryz.f102 [x0, .int .i64 x1, .string x2, .int .i64 x3, x4] h =
  (aNil x0).bind fun v1 => (aOff v1 4).bind fun v2 => (aLd1 h v2).bind fun v3 => (aFill [.int .i64 0, .string ⟨#[]⟩, .int .i64 0, .slice none 0 0] [(0, 1, .int .i64 x1), (1, 1, .string x2), (2, 1, .int .i64 x3), (3, 1, x4)]).bind fun c4 => (aFill [.int .i64 0, .string ⟨#[]⟩, .int .i64 0, .slice none 0 0] [(0, 4, (.agg (List.toArray c4)))]).bind fun c5 => aNewS h 48 c5 1 fun p6 h7 => (aApp h7 48 4 56 v3 p6).bind fun r8 => (aNil x0).bind fun v9 => (aOff v9 4).bind fun v10 => (aSt r8.2 v10 r8.1 1).bind fun h11 => (aNil x0).bind fun v12 => (aOff v12 4).bind fun v13 => (aLd1 h11 v13).bind fun v14 => (aLen v14).bind fun v15 => (asI .i64 v15).bind fun n16 => some (.int .i64 (IntKind.i64.wrap (n16 - 1)), h11) := by kernel_rfl
theorem c102 (d : Nat) (args : List Value) (h : AHeap) : call Tp Ms (d + 1) 102 args h = evFn hk0 Tp (call Tp Ms d) M102 d Tryz.f102 args h := by kernel_rfl
theorem e194 (x0 : Value) (x1 : ByteArray) (h : AHeap) : evFn hk Tp C M194 N Tryz.f194 [x0, .string x1] h =
  (C 280 [x0, .string x1] h).bind fun r1 => (asB r1.1).bind fun b2 => bif !b2 then some (.bool false, r1.2) else (aNil x0).bind fun v3 => (aOff v3 1).bind fun v4 => (aLd1 r1.2 v4).bind fun v5 => (asI .i64 v5).bind fun n6 => (aNil x0).bind fun v7 => (aOff v7 1).bind fun v8 => (aSt r1.2 v8 (.int .i64 (IntKind.i64.wrap (n6 + 1))) 1).bind fun h9 => some (.bool true, h9) := by kernel_rfl
theorem c194 (d : Nat) (args : List Value) (h : AHeap) : call Tp Ms (d + 1) 194 args h = evFn hk0 Tp (call Tp Ms d) M194 d Tryz.f194 args h := by kernel_rfl
theorem e195 (x0 : Value) (h : AHeap) : evFn hk Tp C M195 N Tryz.f195 [x0] h =
  (C 281 [x0] h).bind fun r1 => aNew r1.2 233 [.int .i64 0, .int .i64 0, .string ⟨#[]⟩, .int .i64 0] fun p2 h3 => (aSt h3 p2 r1.1 4).bind fun h4 => (aOff p2 0).bind fun v5 => (aLd1 h4 v5).bind fun v6 => (asI .i64 v6).bind fun n7 => bif n7 != 1 then (C 282 [x0, .int .i64 2] h4).bind fun r8 => some (.string ⟨#[]⟩, r8.2) else (aNil x0).bind fun v9 => (aOff v9 1).bind fun v10 => (aLd1 h4 v10).bind fun v11 => (asI .i64 v11).bind fun n12 => (aNil x0).bind fun v13 => (aOff v13 1).bind fun v14 => (aSt h4 v14 (.int .i64 (IntKind.i64.wrap (n12 + 1))) 1).bind fun h15 => (aOff p2 2).bind fun v16 => (aLd1 h15 v16).bind fun v17 => (asS v17).bind fun t18 => some (.string t18, h15) := by kernel_rfl
theorem c195 (d : Nat) (args : List Value) (h : AHeap) : call Tp Ms (d + 1) 195 args h = evFn hk0 Tp (call Tp Ms d) M195 d Tryz.f195 args h := by kernel_rfl
end
def Yes (o : Option (Value × AHeap)) : Prop := ∃ h', o = some (.bool true, h')
theorem words_sz : ∀ w, w ∈ wordsL → w.size ≤ 160 := by decide
theorem GTok.sz {t : Tok} (g : GTok t) : t.text.size ≤ 160 := by
 cases g with
 | word a w h1 h2 h3 =>
  unfold isWd at h3
  rw [List.any_eq_true] at h3
  obtain ⟨w', hw, he⟩ := h3
  simp only [beq_iff_eq, ByteArray.toList_eq] at he
  have : w = w' := ByteArray.ext (Array.toList_inj.1 he)
  show w.size ≤ 160
  rw [this]; exact words_sz w' hw
 | name a w h1 h2 h3 h4 => show w.size ≤ 160; omega
 | num a w h1 h2 h3 h4 => show w.size ≤ 160; omega
 | text a w h1 h2 => exact h2
 | mark a w h1 => have := mark_sz w h1; show w.size ≤ 160; omega
section
variable {P : Option (Value × AHeap) → Prop} {D N : Nat}
end
theorem q26 {D : Nat} {h : AHeap} {v : Value} {xs : List Int} (hD : 1 ≤ D) (x : BR h v xs) : call Tp Ms D 19 [v] h = some (.bool (decide ((xs.length : Int) > 1048576)), h) := by
 obtain ⟨D, rfl⟩ : ∃ d, D = d + 1 := ⟨D - 1, by omega⟩
 rw [c19, e19, x.len, oBs]
 rfl
open Go Go.ChangeShapes Go.WideShapes Go.ChangeAt Go.RowKit Go.ChangeMaps Go.AH
theorem uBytes : Tp.underlying 36 = some (.slice 5) := by kernel_rfl
theorem uByte : Tp.underlying 5 = some (.int .u8) := by kernel_rfl
theorem cByte : Tp.cellsOf 5 = 1 := by kernel_rfl
theorem zByte : tSize Tp 5 = some 1 := by kernel_rfl
def BM (W : World) (v : Value) (xs : List Int) : Prop :=
 (v = .slice none 0 0 ∧ xs = []) ∨ (∃ a, v = .slice (some a) 0 0 ∧ xs = []) ∨
 ∃ b off cap, v = .slice (some ⟨b, off, none⟩) xs.length cap ∧ xs.length ≤ cap ∧ cap ≤ maxLen ∧ Blk W b (off + cap * 1) ∧ ∀ (j : Nat) (n : Int), xs[j]? = some n → W.cell? ⟨b, off + j, none⟩ = some (.int .u8 n)
theorem open_bytes {H : Type} {enc : TypeId × Value → H} {W : World} {fuel : Nat} {v : Value} {x : DataW H × List MemPlace} (h : DataW.trod enc Tp W 0 (fun _ => true) true fuel 36 [v] = some x) : ∃ xs, BM W v xs ∧ ∀ z, z ∈ xs → 0 ≤ z ∧ z < 256 := by
 rcases open_rowM uBytes cByte (by decide) h with h0 | ⟨a, h0⟩ | ⟨b, off, len, cap, n, D, Pl, h0, hl, hm, hb, hx⟩
 ·exact ⟨[], .inl ⟨h0, rfl⟩, by simp⟩
 ·exact ⟨[], .inr (.inl ⟨a, h0, rfl⟩), by simp⟩
 ·have each : ∀ i, i < len → ∃ z : Int, W.cell? ⟨b, off + i, none⟩ = some (.int .u8 z) ∧ 0 ≤ z ∧ z < 256 := fun i hi => by
   obtain ⟨cs', h1, h2, h3⟩ := hx i hi
   obtain ⟨z, h4, _, hw⟩ := DataW.trod_int uByte h3
   have := h2 0 (by omega)
   rw [h4] at this
   refine ⟨z, by simpa using this, ?_⟩
   have hw2 := hw
   simp [Lit.wf] at hw2
   have m0 : IntKind.u8.min = 0 := rfl
   have m1 : IntKind.u8.max = 255 := rfl
   omega
  obtain ⟨f, hf⟩ := Deep.choose_lt each
  refine ⟨(List.range len).map f, .inr (.inr ⟨b, off, cap, by simpa using h0, by simpa using hl, hm, hb, fun j z hz => ?_⟩), fun z hz => ?_⟩
  ·obtain ⟨hj, rfl⟩ := range_get f hz
   exact (hf j hj).1
  ·obtain ⟨j, hj, rfl⟩ := List.mem_map.1 hz
   exact (hf j (List.mem_range.1 hj)).2
def BytesStart (W : World) (v : Value) (xs : List Int) : Prop := ∃ (h : AHeap) (ι : Inj) (va : Value), HRel Tp W ι h W ∧ S0 ι va v ∧ BR h va xs
theorem start_bytes {W : World} {v : Value} {xs : List Int} (h : BM W v xs) : BytesStart W v xs := by
 rcases h with ⟨h1, h2⟩ | ⟨a, h1, h2⟩ | ⟨b, off, cap, h1, h2, h3, h4, h5⟩
 ·subst h1 h2
  exact ⟨h00, i00, _, start_rel W, .slcNil 0, .inl ⟨rfl, rfl⟩⟩
 ·subst h1 h2
  exact ⟨h00, i00, .slice (some ⟨0, 1, none⟩) 0 0, start_rel W, .slcEmp 0 1 0 a (by omega), .inr (.inl ⟨_, rfl, rfl⟩)⟩
 ·subst h1
  let R : Nat → Option (AH.Place × List Value) := fun i => match i with
   | 0 => some (⟨b, off, cap * 1, 1, true, 5⟩, xs.map (Value.int .u8))
   | _ + 1 => none
  have R0 : R 0 = some (⟨b, off, cap * 1, 1, true, 5⟩, xs.map (Value.int .u8)) := rfl
  have hn : ∀ i r, R i = some r → i < 1 := fun i r hr => by
   cases i with
   | zero => omega
   | succ j => cases hr
  have H : HRel Tp W (iRows R) (hRows 1 R) W := by
   refine start_rows hn fun i r hr => ?_
   cases i with
   | succ j => cases hr
   | zero =>
    rw [R0] at hr; cases hr
    refine ⟨⟨?_, (fun e => by cases e), fun _ => h4.lt, zByte⟩, rfl, by show (xs.map (Value.int .u8)).length ≤ cap * 1; simp; omega, fun idx v hv => ?_⟩
    ·obtain ⟨arr, el, fr, g1, g2⟩ := h4
     exact ⟨arr, el, fr, g1, g2, fun e => by cases e⟩
    ·have hv2 : (xs.map (Value.int .u8))[idx]? = some v := hv
     rw [List.getElem?_map, Option.map_eq_some_iff] at hv2
     obtain ⟨z, hz, rfl⟩ := hv2
     exact ⟨_, h5 idx z hz, .s0 (.int _ _)⟩
  refine ⟨hRows 1 R, iRows R, slc 0 0 xs.length, H, ?_, .inr (.inr ⟨0, rfl, _, rows_at (by omega) R0, rfl, rfl⟩)⟩
  exact S0.slc (ι := iRows R) 0 0 xs.length xs.length ⟨b, off, cap * 1, 1, true, 5⟩ cap rfl h2 (by show 0 + cap * 1 ≤ cap * 1; omega)
theorem laidB : laidOutB Tp = true := by kernel_rfl
theorem rBytes : Tp.readableRec 36 = true := by kernel_rfl
theorem open_bytesArg {H : Type} {enc : TypeId × Value → H} {W : World} {v : Value} {d : DataW H} {ps : List MemPlace} (hv : v.cells = #[v]) (h : DataW.Trod enc Tp W 0 (fun _ => true) true 36 v d ps) : ∃ xs, BM W v xs ∧ ∀ z, z ∈ xs → 0 ≤ z ∧ z < 256 := by
 obtain ⟨fuel, h⟩ := h
 rw [hv] at h
 exact open_bytes h
open Go Go.ChangeShapes Go.WideShapes Go.ChangeAt Go.RowKit Go.ChangeMaps Go.AH
theorem tBytesK : (36 : Nat) < Tp.types.size := of_decide_eq_true (by kernel_rfl)
set_option maxRecDepth 100000 in
theorem pokLifted (hAH : ∀ (v : Value) (xs : List Int) (h : AHeap), BR h v xs → (∀ z, z ∈ xs → 0 ≤ z ∧ z < 256) → ∃ d h', call Tp Ms d 4 [v] h = some (.bool true, h')) (os : Os) (started : os.Started) (H : Type) (enc : TypeId × Value → H) :
  ReturnsInHanded {} Tryz.checked os 4 .any (Rows.fnParseOkSpec.pre6 enc Tp Tryz.f4 Rows.fnParseOkRow.domain false) (Rows.fnParseOkSpec.post enc Tp Tryz.f4 false true false false) := by
 refine returnsInHanded_of_change (C := Tryz.checked) own started (by kernel_rfl) (by kernel_rfl)
  (ChangeSpec.witness6 (enc := enc) (C := Tryz.checked) false ⟨#[], #[.slice none 0 0], []⟩ 4 (by kernel_rfl) (by kernel_rfl) (by kernel_rfl) (by kernel_rfl)) ?_
 intro W base args ds gs before hval0 hW _ _
 have hval : ∀ (j : Nat) t v, Tryz.f4.params[j]? = some t → args[j]? = some v → Value.okWide Tp W .any base t v := hval0
 have hW' := hW
 obtain ⟨p, q, hA0, hV, rfl, hfz, hnd⟩ := hW
 have hA : DataW.TrodAll enc Tp W 0 (fun _ => true) true Tryz.f4.params.toList args.toList ds p := hA0
 have hp3 : Tryz.f4.params = #[36] := by kernel_rfl
 rw [hp3] at hA hval
 obtain ⟨v0, vs0, d0, ds0, p0, q0, hargs, rfl, rfl, h0, r0⟩ := trodAll_cons hA
 obtain ⟨rfl, rfl, rfl⟩ := trodAll_nil r0
 obtain rfl : args = #[v0] := by cases args; simp_all
 obtain ⟨rfl, rfl⟩ := trodVars_none hV
 have hcell : v0.cells = #[v0] := by
  have := hval 0 36 v0 rfl rfl
  unfold Value.okWide at this
  rw [uBytes] at this
  cases v0 <;> first | rfl | exact False.elim this
 obtain ⟨xs, hN, hz⟩ := open_bytesArg hcell h0
 obtain ⟨ah, ι, na, HR, hs, hk⟩ := start_bytes hN
 obtain ⟨d, h', he⟩ := hAH na xs ah hk hz
 simp only [List.append_nil] at hW'
 have h0k := h0
 have hlt : ∀ x ∈ p0, x.block < W.heap.size := fun x hx => by simpa using hW'.lt x (by simpa using hx)
 have hrel : VR ι na v0 := .s1 (.s0 hs)
 refine (law_calls mixed fnOk he (args' := #[v0]) (.cons hrel .nil) HR).mono fun e W' ⟨he, hbel⟩ => ?_
 subst he
 exact ⟨_, rfl, post_below (pa := p0) (pv := []) hW' (fun _ _ _ => (trodAll_cons_mk (shut_bool uBool _) trodAll_mk0)) (fun sp hsp => by
  have := trodAll_cons_mk (WideElems.Trod_stays laidB rBytes tBytesK h0k (fun x hx => hbel.same (hlt x hx)) (fun x hx => hsp x (by simpa using hx))) (trodAll_mk0 (enc := enc) (P := Tp) (w := W') (base := 0) (spare := sp) (held := true))
  rw [List.append_nil] at this
  exact this) (fun _ _ => rfl) hbel⟩
end Go.Proofs.YtajpnemfppaafaaGreat
