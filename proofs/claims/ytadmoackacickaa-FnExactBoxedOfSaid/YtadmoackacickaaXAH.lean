import Derived.Test.YtadmoackacickaaXAG
set_option linter.unusedSimpArgs false
set_option linter.unusedVariables false
/- The program's binder: nodes. -/
namespace Go.Proofs.Ytadmoackacickaa
open Go Go.AH
theorem bdName_sn (T : List Kn) (i : Nat) (fn : Int) (s : Bd) : (bdName T i fn s).sn = s.sn := by
 unfold bdName bdNameQ
 cases findL T (tx T i) s.sn.reverse <;> rfl
theorem bdEnd_sn (T : List Kn) (n : Kn) (i : Nat) (fn : Int) (had : Nat) (s : Bd) (h : had ≤ s.sn.length) : (bdEnd T n i fn had s).sn.length ≤ s.sn.length + 1 ∧ had ≤ (bdEnd T n i fn had s).sn.length := by
 unfold bdEnd
 split
 ·rw [bdName_sn]; omega
 ·split
  ·show (s.sn ++ [(i : Int)]).length ≤ _ ∧ _ ≤ (s.sn ++ [(i : Int)]).length
   rw [List.length_append]; simp; omega
  ·split
   ·show (s.sn.take had).length ≤ _ ∧ _ ≤ (s.sn.take had).length
    rw [List.length_take]; omega
   ·omega
section
variable {b p t0 rb rx ro : Nat} {nv : Value} {top : Int} {T : List Kn}
def WkOk (b p t0 rb rx ro : Nat) (nv : Value) (top : Int) (T : List Kn) (F : Int → Int → Bd → Bd) (e : Nat) (k fr : Int) : Prop :=
 ∀ (g : AHeap) (s : Bd) (fn : Int), Bq b p t0 rb rx ro T.length g s → KSl b g nv T → RowE g t0 35 [nv, .int .i64 top] → (s.sn.length : Int) ≤ fr →
  BW b p t0 rb rx ro T.length g (F k fn s) (call Tp Ms e 119 [ptr p 0, .int .i64 k, .int .i64 fn] g) ∧ ((F k fn s).sn.length : Int) ≤ k + 1 ∧ s.sn.length ≤ (F k fn s).sn.length
theorem BX.rowE {b : Nat} {h g : AHeap} {i : Nat} {e : TypeId} {cs : List Value} (x : BX b h g) (r : RowE h i e cs) (h3 : e ≠ 3) (h4 : e ≠ 4) (h98 : e ≠ 98) : RowE g i e cs :=
 let ⟨o, a, q1, q2⟩ := r; ⟨o, x.2 i o a (by rw [q1]; exact h3) (by rw [q1]; exact h4) (by rw [q1]; exact h98), q1, q2⟩
theorem wk_loop {e M p9 : Nat} (he : 1048577 < e) {h0 : AHeap} {n : Kn} {kv : Value} {F : Int → Int → Bd → Bd} {G : Int → Int → Int} {i had : Nat} {fn fn' : Int} (hi : i < T.length) (hT : T.length ≤ 3000) (ht0 : t0 < b)
  (hF : ∀ k fr : Int, k ∈ n.ks → 0 ≤ fr → 0 ≤ G k fr → G k fr = k + 1 ∧ fr ≤ k ∧ WkOk b p t0 rb rx ro nv top T F (e + 1) k fr) (hl : n.ks.length ≤ 1048576) :
  ∀ (k j m : Nat) (fr : Int) (g : AHeap) (s : Bd), n.ks.length - j = k → j ≤ n.ks.length → k < m → 0 ≤ fr → 0 ≤ numGo' G (i : Int) (n.ks.drop j) fr → BX b h0 g → Bq b p t0 rb rx ro T.length g s → KSl b g nv T → RowE g t0 35 [nv, .int .i64 top] →
   RowE g p9 73 (knCells n kv) → ISl b g kv n.ks → (s.sn.length : Int) ≤ fr → had ≤ s.sn.length →
   let s' := bdEnd T n i fn had ((n.ks.drop j).foldl (fun s k => F k fn' s) s)
   BW b p t0 rb rx ro T.length h0 s' (s119_1 hk0 (call Tp Ms (e + 1)) M m (ptr p 0) (i : Int) fn (ptr p9 0) (had : Int) fn' kv (n.ks.length : Int) (j : Int) g) ∧ (s'.sn.length : Int) ≤ (i : Int) + 1 ∧ had ≤ s'.sn.length := by
 intro k
 induction k with
 | zero =>
  intro j m fr g s hk hj hm hfr hnum X y ks r2 r9 is l1 l2
  obtain ⟨m, rfl⟩ : ∃ q, m = q + 1 := ⟨m - 1, by omega⟩
  have : ¬ ((j : Int) < (n.ks.length : Int)) := by omega
  rw [List.drop_eq_nil_of_le (by omega)] at hnum ⊢
  have hfi : (i : Int) = fr := by
   unfold numGo' at hnum
   by_cases h : (i : Int) = fr
   ·exact h
   ·rw [if_neg h] at hnum; omega
  have := bdEnd_sn T n i fn had s l2
  refine ⟨?_, by show ((bdEnd T n i fn had s).sn.length : Int) ≤ _; omega, this.2⟩
  rw [s119_1_eq]
  exact BW.cf (decide_eq_false (by omega)) (BW.b rfl (BW.b (ld4 r9.row).1 (BW.b rfl (bd_end he X y ks r2 hT ht0 hi (show s.sn.length ≤ 100000 by omega) l2))))
 | succ k ih =>
  intro j m fr g s hk hj hm hfr hnum X y ks r2 r9 is l1 l2
  obtain ⟨m, rfl⟩ : ∃ q, m = q + 1 := ⟨m - 1, by omega⟩
  have hI : ((j : Int) < (n.ks.length : Int)) := by omega
  have hlt : j < n.ks.length := by omega
  have wj : IntKind.i64.wrap ((j : Int) + 1) = ((j + 1 : Nat) : Int) := by rw [wr (by omega) (by omega)]; omega
  rw [drop_get hlt] at hnum ⊢
  have hkd : n.ks.getD j 0 = n.kd j := rfl
  rw [hkd] at hnum ⊢
  rw [numGo'] at hnum
  by_cases hn : G (n.kd j) fr < 0
  ·rw [if_pos hn] at hnum; omega
  rw [if_neg hn] at hnum
  obtain ⟨g1, g2, g3⟩ := hF (n.kd j) fr (kd_mem hlt) hfr (by omega)
  obtain ⟨⟨g', c', x', y'⟩, l1', l2'⟩ := g3 g s fn' y ks r2 l1
  rw [g1] at hnum
  have z := ih (j + 1) m (n.kd j + 1) g' (F (n.kd j) fn' s) (by omega) (by omega) (by omega) (by omega) hnum (X.trans x') y' (ks.ext x'.1) (x'.rowE r2 (by decide) (by decide) (by decide)) (x'.rowE r9 (by decide) (by decide) (by decide)) (is.ext x'.1) l1' (by omega)
  refine ⟨?_, z.2⟩
  rw [List.foldl_cons, s119_1_eq]
  refine BW.ct (decide_eq_true hI) (BW.b (is.ird.at' j hlt).1 (BW.b ((is.ird.at' j hlt).2 g (LF.refl _)) (BW.b rfl (BW.b c' ?_))))
  rw [wj]; exact z.1
theorem l119 {d : Nat} (hd : 1048577 < d) (hT : T.length ≤ 3000) (hN : ∀ n ∈ T, n.t.size ≤ 1048576 ∧ n.ks.length ≤ 1048576) (hG : ∀ (j : Nat) (n : Kn), T[j]? = some n → ∀ k ∈ n.ks, 0 ≤ k ∧ k < j) (ht0 : t0 < b) :
  ∀ (f e : Nat) (i fr : Int), d + f + 2 ≤ e → 0 ≤ i → i < T.length → 0 ≤ fr → 0 ≤ numP T f i fr → WkOk b p t0 rb rx ro nv top T (walkP T f) e i fr := by
 intro f
 induction f with
 | zero => intro e i fr _ _ _ _ h; exact absurd h (by show ¬ (0:Int) ≤ -1; decide)
 | succ f ih =>
  intro e i fr he hi hi2 hfr hnum g s fn y ks r2 l1
  obtain ⟨e, rfl⟩ : ∃ q, e = q + 2 := ⟨e - 2, by omega⟩
  obtain ⟨i, rfl⟩ : ∃ q : Nat, i = q := ⟨i.toNat, by omega⟩
  have hlt : i < T.length := by omega
  have hget : T[i]? = some T[i] := by simp [hlt]
  have hnl := (hN _ (List.getElem_mem hlt)).2
  have hv : walkP T (f + 1) (i : Int) fn s = bdEnd T T[i] i fn s.sn.length (T[i].ks.foldl (fun s k => walkP T f k (if T[i].k = 6 then (i : Int) else fn) s) s) := by
   show (match T[(i : Int).toNat]? with | some n => bdEnd T n (i : Int).toNat fn s.sn.length (n.ks.foldl (fun s k => walkP T f k (if n.k = 6 then (i : Int) else fn) s) s) | none => s) = _
   rw [Int.toNat_natCast, hget]
  have hnum' : 0 ≤ numGo' (numP T f) (i : Int) T[i].ks fr := by
   have : numP T (f + 1) (i : Int) fr = numGo' (numP T f) (i : Int) T[i].ks fr := by
    show (match T[(i : Int).toNat]? with | some n => numGo' (numP T f) (i : Int) n.ks fr | none => -1) = _
    rw [Int.toNat_natCast, hget]
   omega
  obtain ⟨q, kv, q1, is, q2⟩ := ks.at hlt
  obtain ⟨g1, c1, x1, o1⟩ := Own.stN (Own.new (Nat.le_refl g.size) 73 [.int .i64 0, .string ⟨#[]⟩, .int .i64 0, .slice none 0 0]) (kn_aCells is) rfl rfl
  have X1 : Ext g.size g g1 := (Ext.new (Nat.le_refl _) _ _).trans x1
  have hb := y.sz
  have XB := BX.ext X1 hb
  have y1 := y.ext X1
  have r9 := Own.rowE o1.1
  have r2' := XB.rowE r2 (by decide) (by decide) (by decide)
  obtain ⟨sv, v4, sr⟩ := y1.f4
  have lp := wk_loop (M := e + 1) (e := e) (by omega) (G := numP T f) (F := walkP T f) (fn := fn) (fn' := if T[i].k = 6 then (i : Int) else fn) (i := i) (n := T[i]) (had := s.sn.length) hlt hT ht0 (fun k fr' hk h0 h1 => by
   obtain ⟨k0, k1⟩ := hG i _ hget k hk
   have nl := num_le T f k fr' h1 h0
   exact ⟨nl.1, nl.2, ih (e + 1) k fr' (by omega) k0 (by omega) h0 h1⟩) hnl T[i].ks.length 0 (e + 1) fr g1 s (by omega) (by omega) (by omega) hfr (by simpa using hnum') XB y1 (ks.ext XB.1) r2' r9 (is.ext XB.1) l1 (Nat.le_refl _)
  rw [hv]
  refine ⟨?_, lp.2⟩
  have lp1 := lp.1
  rw [c119, e119]
  refine BW.b rfl (BW.b rfl (BW.b y.f0 (BW.b rfl (BW.b rfl (BW.b (ld2 r2.row).1 (BW.b q1 (BW.b (q2 g (Ext.refl _ _)).1 ?_)))))))
  show BW b p t0 rb rx ro T.length g _ ((aSt (g.new 73 [.int .i64 0, .string ⟨#[]⟩, .int .i64 0, .slice none 0 0]) (ptr g.size 0) (knVal T[i] kv) 4).bind _)
  have fin : BW b p t0 rb rx ro T.length g (bdEnd T T[i] i fn s.sn.length (T[i].ks.foldl (fun s k => walkP T f k (if T[i].k = 6 then (i : Int) else fn) s) s)) (s119_0 hk0 (call Tp Ms (e + 1)) (e + 1) (ptr p 0) (i : Int) fn (ptr g.size 0) (s.sn.length : Int) (if T[i].k = 6 then (i : Int) else fn) g1) := by
   rw [s119_0_j, s119_0_eq]
   exact BW.b rfl (BW.b (ld4 r9.row).2.2.2.1 (BW.b is.len (BW.b rfl lp1)))
  refine BW.b c1 (BW.b rfl (BW.b rfl (BW.b v4 (BW.b sr.len (BW.b rfl (BW.b rfl (BW.b (ld4 r9.row).1 (BW.b rfl ?_))))))))
  by_cases k6 : T[i].k = 6
  ·rw [if_pos k6] at fin ⊢
   exact BW.ct (by rw [k6]; rfl) fin
  ·rw [if_neg k6] at fin ⊢
   exact BW.cf (by simp [k6]) fin
end
theorem rep_bls (n : Nat) : (List.replicate n [Value.bool false]).flatten = bls (List.replicate n false) := by
 induction n with
 | zero => rfl
 | succ n ih => rw [List.replicate_succ, List.flatten_cons, ih]; simp [bls, List.replicate_succ]
def bd0 (N : Nat) : Bd := ⟨List.replicate N 0, List.replicate N false, List.replicate N 0, []⟩
def boundP (T : List Kn) : Bd := walkP T (T.length + 1) ((T.length : Int) - 1) (-1) (bd0 T.length)
theorem RowE.ext {h h' : AHeap} {i : Nat} {e : TypeId} {cs : List Value} (r : RowE h i e cs) (x : Ext h.size h h') : RowE h' i e cs := let ⟨o, a, q1, q2⟩ := r; ⟨o, x.at? (at?_obj a).2.1 a, q1, q2⟩
theorem l74 {d t0 : Nat} (hd : 1048577 < d) {nv : Value} {T : List Kn} (hN : ∀ n ∈ T, n.t.size ≤ 1048576 ∧ n.ks.length ≤ 1048576) {h : AHeap} (R : Right T ((T.length : Int) - 1)) (ks : KSe h.size h nv T) (r2 : RowE h t0 35 [nv, .int .i64 ((T.length : Int) - 1)]) :
  ∃ p rb rx ro g, call Tp Ms (d + T.length + 4) 74 [ptr t0 0] h = some (ptr p 0, g) ∧ Ext h.size h g ∧ Bq h.size p t0 rb rx ro T.length g (boundP T) := by
 have hT := R.len
 have hpos := R.pos
 have ht0 : t0 < h.size := let ⟨o, a, _⟩ := r2; (at?_obj a).2.1
 have hcall : call Tp Ms (d + T.length + 4) 74 [ptr t0 0] h = evFn hk0 Tp (call Tp Ms (d + T.length + 3)) M74 (d + T.length + 3) Try.f74 [ptr t0 0] h := c74 _ _ _
 rw [hcall, e74]
 obtain ⟨a0, a1, aN⟩ := ld2 r2.row
 have e1 := Ext.new (Nat.le_refl h.size) 3 (ints (List.replicate T.length 0))
 have o1 := OwnR.new h 3 (ints (List.replicate T.length 0))
 have c1 := mk_some h 3 [.int .i64 0] 8 T.length (by omega) (by omega)
 rw [rep_ints] at c1
 have s1 : (h.new 3 (ints (List.replicate T.length 0))).size = h.size + 1 := rfl
 generalize h.new 3 (ints (List.replicate T.length 0)) = h1 at e1 o1 c1 s1
 have e2 := Ext.new (Nat.le_refl h1.size) 4 (bls (List.replicate T.length false))
 have o2 := OwnR.new h1 4 (bls (List.replicate T.length false))
 have c2 := mk_some h1 4 [.bool false] 1 T.length (by omega) (by omega)
 rw [rep_bls] at c2
 have s2 : (h1.new 4 (bls (List.replicate T.length false))).size = h1.size + 1 := rfl
 generalize h1.new 4 (bls (List.replicate T.length false)) = h2 at e2 o2 c2 s2
 have e3 := Ext.new (Nat.le_refl h2.size) 3 (ints (List.replicate T.length 0))
 have o3 := OwnR.new h2 3 (ints (List.replicate T.length 0))
 have c3 := mk_some h2 3 [.int .i64 0] 8 T.length (by omega) (by omega)
 rw [rep_ints] at c3
 have s3 : (h2.new 3 (ints (List.replicate T.length 0))).size = h2.size + 1 := rfl
 generalize h2.new 3 (ints (List.replicate T.length 0)) = h3 at e3 o3 c3 s3
 have e4 := Ext.new (Nat.le_refl h3.size) 98 [ptr t0 0, slc h.size 0 T.length, slc h1.size 0 T.length, slc h2.size 0 T.length, .slice none 0 0]
 have o4 := OwnR.new h3 98 [ptr t0 0, slc h.size 0 T.length, slc h1.size 0 T.length, slc h2.size 0 T.length, .slice none 0 0]
 have s4 : (h3.new 98 [ptr t0 0, slc h.size 0 T.length, slc h1.size 0 T.length, slc h2.size 0 T.length, .slice none 0 0]).size = h3.size + 1 := rfl
 suffices S : ∃ p rb rx ro g, ((aLd1 (h3.new 98 [ptr t0 0, slc h.size 0 T.length, slc h1.size 0 T.length, slc h2.size 0 T.length, .slice none 0 0]) (ptr t0 1)).bind fun v15 => (asI .i64 v15).bind fun n16 => (call Tp Ms (d + T.length + 3) 119 [ptr h3.size 0, .int .i64 n16, .int .i64 (-1)] (h3.new 98 [ptr t0 0, slc h.size 0 T.length, slc h1.size 0 T.length, slc h2.size 0 T.length, .slice none 0 0])).bind fun r17 => some (ptr h3.size 0, r17.2)) = some (ptr p 0, g) ∧ Ext h.size h g ∧ Bq h.size p t0 rb rx ro T.length g (boundP T) by
  obtain ⟨p, rb, rx, ro, g, c, q⟩ := S
  exact ⟨p, rb, rx, ro, g, eb rfl (eb rfl (eb a0 (eb ks.ksl.len (eb rfl (eb c1 (eb c2 (eb c3 (eb rfl (eb rfl c))))))))), q⟩
 generalize h3.new 98 [ptr t0 0, slc h.size 0 T.length, slc h1.size 0 T.length, slc h2.size 0 T.length, .slice none 0 0] = h4 at e4 o4 s4 ⊢
 have E4 := Ext.tr (Ext.tr (Ext.tr e1 e2) e3) e4
 have y : Bq h.size h3.size t0 h.size h1.size h2.size T.length h4 (bd0 T.length) :=
  ⟨by omega, by omega, by omega, by omega, by omega, by simp [bd0], by simp [bd0], by simp [bd0], ⟨_, o4, .inl ⟨rfl, rfl⟩⟩, ((o1.ext e2).ext e3).ext e4, (o2.ext e3).ext e4, o3.ext e4, fun q hq => by simp [bd0] at hq⟩
 have r4 := r2.ext E4
 have hnum : 0 ≤ numP T (T.length + 1) ((T.length : Int) - 1) 0 := by rw [R.num]; omega
 obtain ⟨⟨g, c, x, z⟩, _⟩ := l119 (d := d) hd R.len hN (kids_lo R) ht0 (nv := nv) (top := (T.length : Int) - 1) (b := h.size) (p := h3.size) (rb := h.size) (rx := h1.size) (ro := h2.size) (T.length + 1) (d + T.length + 3) ((T.length : Int) - 1) 0 (by omega) (by omega) (by omega) (by omega) hnum h4 (bd0 T.length) (-1) y (ks.ksl.ext (E4)) r4 (by simp [bd0])
 exact ⟨_, _, _, _, g, eb (ld2 r4.row).2.1 (eb rfl (eb c rfl)), E4.trans x.1, z⟩
structure CF where
 nd : List Int
 own : List Int
 up : List Int
 ln : Nat
structure SG where
 fs : List CF
 bx : List Bool
 ts : List BA
 cd : Int
def SG.fail (g : SG) (c : Int) : SG := if g.cd = 0 then { g with cd := c } else g
def SG.hd (g : SG) (u : CF → CF) : SG := { g with fs := match g.fs with | [] => [] | F :: R => u F :: R }
def SG.emit (g : SG) : SG := g.hd fun F => { F with ln := F.ln + 1 }
def libB : List BA := [⟨#[112, 114, 105, 110, 116]⟩, ⟨#[116, 111, 115, 116, 114]⟩, ⟨#[116, 121, 112, 101]⟩, ⟨#[110, 101, 120, 116]⟩, ⟨#[112, 99, 97, 108, 108]⟩, ⟨#[101, 114, 114, 111, 114]⟩, ⟨#[102, 97, 105, 108, 101, 100]⟩, ⟨#[99, 111]⟩, ⟨#[114, 101, 115, 117, 109, 101]⟩, ⟨#[121, 105, 101, 108, 100]⟩, ⟨#[115, 116, 97, 116, 101]⟩]
def isLib (t : BA) : Bool := libB.any fun s => s.toList == t.toList
def seenS (T : List Kn) (t : BA) : List CF → Nat → Option (Int × Nat)
 | [], _ => none
 | F :: R, d => match findL T t F.nd.reverse with
  | some q => some (q, d)
  | none => seenS T t R (d + 1)
def upS (q : Int) : List CF → List CF
 | [] => []
 | F :: R => if q ∈ F.up then F :: R else { F with up := F.up ++ [q] } :: (match R with | [] => [] | O :: _ => if q ∈ O.own then R else upS q R)
def nameS (T : List Kn) (set : Bool) (i : Int) (g : SG) : SG :=
 match seenS T (tx T i) g.fs 0 with
 | none => if set = false ∧ isLib (tx T i) = true then g.emit else g.fail 2
 | some (q, 0) => g.emit
 | some (q, _ + 1) => ({ g with bx := g.bx.set q.toNat true, fs := upS q g.fs } : SG).emit
def textS (t : BA) (g : SG) : SG :=
 if g.ts.any (fun u => u.toList == t.toList) then (if (g.ts.findIdx fun u => u.toList == t.toList) ≥ 255 then g.fail 3 else g.emit)
 else if g.ts.length ≥ 255 then ({ g with ts := g.ts ++ [t] } : SG).fail 3 else ({ g with ts := g.ts ++ [t] } : SG).emit
def localS (i : Int) (g : SG) : SG × Bool :=
 match g.fs with
 | [] => (g, false)
 | F :: R => if F.own.length ≥ 20 then (g.fail 3, false) else ({ g with fs := { F with own := F.own ++ [i], nd := F.nd ++ [i] } :: R }, true)
def numS (T : List Kn) (i : Int) : Nat := 1 + ((T.take i.toNat).filter fun n => n.k == 6).length
def itemS (T : List Kn) (E : Int → SG → SG) (g : SG) (x : Int) : SG :=
 match T[x.toNat]? with
 | none => g
 | some n => (n.ks.foldl (fun g k => E k g) (if n.k = 23 then g.emit.emit else g.emit)).emit
def bodyS (T : List Kn) (B : Int → SG → SG) (i : Int) (g : SG) : SG :=
 match T[i.toNat]? with
 | none => g
 | some n =>
  let g0 : SG := { g with fs := ⟨[], [], [], 0⟩ :: g.fs }
  let ps := if n.k = 6 then n.ks.dropLast else []
  let g1 := ps.foldl (fun g k => if g.cd = 0 then (localS k g).1 else g) g0
  let g2 := ps.foldl (fun g k => if g.cd = 0 ∧ g.bx.getD k.toNat false = true then g.emit else g) g1
  let g3 := (B (if n.k = 6 then n.ks.getLastD 0 else i) g2).emit.emit
  let g4 := match g3.fs with
   | [] => g3
   | F :: _ => if F.up.length > 12 ∨ F.ln > 4000 then g3.fail 3 else g3
  { g4 with fs := g4.fs.tail }
def stepS (T : List Kn) (R : Nat → Int → SG → SG) (m : Nat) (i : Int) (g : SG) : SG :=
 match T[i.toNat]? with
 | none => g
 | some n =>
  let E := R 0
  let kids := fun (g : SG) => n.ks.foldl (fun g k => E k g) g
  let k0 := n.ks.getD 0 0
  let k1 := n.ks.getD 1 0
  let k2 := n.ks.getD 2 0
  match m with
  | 0 =>
   if g.cd ≠ 0 then g
   else if n.k = 1 ∨ n.k = 2 ∨ n.k = 3 then g.emit
   else if n.k = 4 then textS n.t g
   else if n.k = 5 then nameS T false i g
   else if n.k = 6 then (if numS T i ≥ 100 then g.fail 3 else let g1 := R 3 i g; if g1.cd = 0 then g1.emit else g1)
   else if n.k = 7 then n.ks.foldl (itemS T E) g.emit
   else if n.k = 12 ∨ n.k = 13 then E k1 (E k0 g).emit
   else if n.k = 9 then (let g1 := kids g.emit; if (n.ks.length : Int) - 1 > 40 then g1.fail 3 else g1.emit)
   else if n.k = 8 ∨ n.k = 10 ∨ n.k = 11 then (kids g).emit
   else kids g
  | 1 =>
   if n.k = 15 then (let g1 := E k0 g; if g1.cd ≠ 0 then g1 else nameS T true i g1)
   else if n.k = 17 then (let g1 := R 2 k1 (E k0 g).emit; if n.ks.length = 2 then g1 else R 2 k2 g1.emit)
   else if n.k = 18 then (R 2 k1 (E k0 g).emit).emit
   else if n.k = 14 then
    (let g1 := E k0 g
     if g1.cd ≠ 0 then g1
     else
     let r := localS i g1
     if r.2 = false then r.1 else if r.1.bx.getD i.toNat false = true then r.1.emit.emit else r.1.emit)
   else (kids g).emit
  | 2 =>
   let g1 := n.ks.foldl (fun g k => if g.cd = 0 then R 1 k g else g) g
   g1.hd fun F => { F with nd := match g.fs with | [] => [] | F0 :: _ => F0.nd }
  | _ => bodyS T (R 2) i g
def runS (T : List Kn) : Nat → Nat → Int → SG → SG
 | 0, _, _, g => g
 | f + 1, m, i, g => stepS T (runS T f) m i g
def makeS (T : List Kn) (bx : List Bool) : SG := runS T (3 * T.length + 5) 3 ((T.length : Int) - 1) ⟨[], bx, [], 0⟩
def trueAt (bx : List Bool) : List Int := ((List.range bx.length).filter fun i => bx.getD i false).map fun (i : Nat) => (i : Int)
def boxedS (T : List Kn) : List Int :=
 let g := makeS T (List.replicate T.length false)
 if g.cd ≠ 0 then [] else if (makeS T g.bx).cd ≠ 0 then [] else trueAt g.bx
structure MF where
 fn : Int
 sl : List Int
 up : List Int
 ln : Nat
structure MG where
 fs : List MF
 ts : List BA
 cd : Int
def MG.fail (g : MG) (c : Int) : MG := if g.cd = 0 then { g with cd := c } else g
def MG.hd (g : MG) (u : MF → MF) : MG := { g with fs := match g.fs with | [] => [] | F :: R => u F :: R }
def MG.put (g : MG) : MG := g.hd fun F => { F with ln := F.ln + 1 }
def upM (o q : Int) : List MF → List MF
 | [] => []
 | F :: R => if q ∈ F.up then F :: R else { F with up := F.up ++ [q] } :: (match R with | [] => [] | O :: _ => if o = O.fn then R else upM o q R)
def localM (i : Int) (g : MG) : MG :=
 match g.fs with
 | [] => g
 | F :: R => if F.sl.length = 20 then g.fail 3 else { g with fs := { F with sl := F.sl ++ [i] } :: R }
def textM (t : BA) (g : MG) : MG :=
 if g.ts.any (fun u => u.toList == t.toList) then g.put else if g.ts.length = 255 then (g.fail 3).put else ({ g with ts := g.ts ++ [t] } : MG).put
def nameM (T : List Kn) (B : Bd) (set : Bool) (i : Int) (g : MG) : MG :=
 let q := B.bd.getD i.toNat 0
 if q < 0 then (if set = false ∧ isLib (tx T i) = true then g.put else g.fail 2)
 else match g.fs with
  | [] => g
  | F :: _ => if B.ow.getD q.toNat 0 ≠ F.fn then ({ g with fs := upM (B.ow.getD q.toNat 0) q g.fs } : MG).put else g.put
def itemM (T : List Kn) (E : Int → MG → MG) (g : MG) (x : Int) : MG :=
 match T[x.toNat]? with
 | none => g
 | some n => (n.ks.foldl (fun g k => E k g) (if n.k = 23 then g.put.put else g.put)).put
def wholeM (B : Bd) (P : Int → MG → MG) (fn : Int) (ps : List Int) (blk : Int) (g : MG) : MG :=
 let g0 : MG := { g with fs := ⟨fn, [], [], 0⟩ :: g.fs }
 let g1 := ps.foldl (fun g k => localM k g) g0
 let g2 := ps.foldl (fun g k => if B.bx.getD k.toNat false = true ∧ g.cd = 0 then g.put else g) g1
 let g3 := (P blk g2).put.put
 let g4 := match g3.fs with
  | [] => g3
  | F :: _ => if F.up.length > 12 ∨ F.ln > 4000 then g3.fail 3 else g3
 { g4 with fs := g4.fs.tail }
def stepM (T : List Kn) (B : Bd) (P : Int → MG → MG) (i : Int) (g : MG) : MG :=
 if g.cd ≠ 0 then g else
 match T[i.toNat]? with
 | none => g
 | some n =>
  let kids := fun (g : MG) => n.ks.foldl (fun g k => P k g) g
  let k0 := n.ks.getD 0 0
  let k1 := n.ks.getD 1 0
  let k2 := n.ks.getD 2 0
  if n.k = 1 ∨ n.k = 2 ∨ n.k = 3 then g.put
  else if n.k = 4 then textM n.t g
  else if n.k = 5 then nameM T B false i g
  else if n.k = 6 then (if numS T i ≥ 100 then g.fail 3 else (wholeM B P i n.ks.dropLast (n.ks.getLastD 0) g).put)
  else if n.k = 7 then n.ks.foldl (itemM T P) g.put
  else if n.k = 8 ∨ n.k = 10 ∨ n.k = 11 then (kids g).put
  else if n.k = 9 then (let g1 := kids g.put; if (n.ks.length : Int) - 1 > 40 then (g1.fail 3).put else g1.put)
  else if n.k = 12 ∨ n.k = 13 then P k1 (P k0 g).put
  else if n.k = 14 then (let g1 := (localM i (kids g)).put; if B.bx.getD i.toNat false = true then g1.put else g1)
  else if n.k = 15 then nameM T B true i (kids g)
  else if n.k = 16 ∨ n.k = 19 ∨ n.k = 20 then (kids g).put
  else if n.k = 21 then kids g
  else
   let g1 := P k1 (P k0 g).put
   if n.k = 18 then g1.put else if n.ks.length = 2 then g1 else P k2 g1.put
def runM (T : List Kn) (B : Bd) : Nat → Int → MG → MG
 | 0, _, g => g
 | f + 1, i, g => stepM T B (runM T B f) i g
def makeM (T : List Kn) (B : Bd) : MG := wholeM B (runM T B (T.length + 3)) (-1) [] ((T.length : Int) - 1) ⟨[], [], 0⟩
def boxedM (T : List Kn) : List Int := if (makeM T (boundP T)).cd ≠ 0 then [] else trueAt (boundP T).bx
def scN (n : Kn) (i : Int) (had sn : List Int) : List Int := if n.k = 14 ∨ n.k = 22 then sn ++ [i] else if n.k = 21 ∨ n.k = 6 then sn.take had.length else sn
def scP (T : List Kn) : Nat → Int → List Int → List Int
 | 0, _, sn => sn
 | f + 1, i, sn => match T[i.toNat]? with
  | some n => scN n (i.toNat : Int) sn (n.ks.foldl (fun s k => scP T f k s) sn)
  | none => sn
def bokN (T : List Kn) (B : Bd) (n : Kn) (i : Nat) (fn : Int) (sn : List Int) : Prop :=
 ((n.k = 5 ∨ n.k = 15) → B.bd.getD i 0 = (findL T (tx T (i : Int)) sn.reverse).getD (-1) ∧ ∀ q, findL T (tx T (i : Int)) sn.reverse = some q → B.ow.getD q.toNat 0 ≠ fn → B.bx.getD q.toNat false = true) ∧
 ((n.k = 14 ∨ n.k = 22) → B.ow.getD i 0 = fn)
def bokK (F : Int → List Int → Prop) (S : Int → List Int → List Int) : List Int → List Int → Prop
 | [], _ => True
 | k :: ks, sn => F k sn ∧ bokK F S ks (S k sn)
def bokP (T : List Kn) (B : Bd) : Nat → Int → Int → List Int → Prop
 | 0, _, _, _ => True
 | f + 1, i, fn, sn => match T[i.toNat]? with
  | some n => bokK (bokP T B f · (if n.k = 6 then i else fn)) (scP T f) n.ks sn ∧ bokN T B n i.toNat fn (n.ks.foldl (fun s k => scP T f k s) sn)
  | none => True
def bxN (T : List Kn) (B : Bd) (n : Kn) (i : Nat) (fn : Int) (sn : List Int) (bx : List Bool) : List Bool :=
 if n.k = 5 ∨ n.k = 15 then (match findL T (tx T (i : Int)) sn.reverse with
  | none => bx
  | some q => if B.ow.getD q.toNat 0 ≠ fn then bx.set q.toNat true else bx) else bx
def bxK (F : Int → List Int → List Bool → List Bool) (S : Int → List Int → List Int) : List Int → List Int → List Bool → List Bool
 | [], _, bx => bx
 | k :: ks, sn, bx => bxK F S ks (S k sn) (F k sn bx)
def bxP (T : List Kn) (B : Bd) : Nat → Int → Int → List Int → List Bool → List Bool
 | 0, _, _, _, bx => bx
 | f + 1, i, fn, sn, bx => match T[i.toNat]? with
  | some n => bxN T B n i.toNat fn (n.ks.foldl (fun s k => scP T f k s) sn) (bxK (bxP T B f · (if n.k = 6 then i else fn)) (scP T f) n.ks sn bx)
  | none => bx
structure WL (T : List Kn) (fr i : Nat) (s s' : Bd) : Prop where
 bl : s'.bd.length = s.bd.length
 ol : s'.ow.length = s.ow.length
 xl : s'.bx.length = s.bx.length
 bo : ∀ j, j < fr ∨ i ≤ j → s'.bd.getD j 0 = s.bd.getD j 0
 oo : ∀ j, j < fr ∨ i ≤ j → s'.ow.getD j 0 = s.ow.getD j 0
 xm : ∀ q, s.bx.getD q false = true → s'.bx.getD q false = true
 sn : ∀ q ∈ s'.sn, q ∈ s.sn ∨ (0 ≤ q ∧ q.toNat < i)
structure Ag (i : Nat) (s B : Bd) : Prop where
 b : ∀ j, j < i → B.bd.getD j 0 = s.bd.getD j 0
 o : ∀ j, j < i → B.ow.getD j 0 = s.ow.getD j 0
 x : ∀ q, s.bx.getD q false = true → B.bx.getD q false = true
def Ln (T : List Kn) (s : Bd) : Prop := s.bd.length = T.length ∧ s.ow.length = T.length ∧ s.bx.length = T.length
theorem gset {α : Type} {xs : List α} {i j : Nat} {v d : α} (h : j ≠ i) : (xs.set i v).getD j d = xs.getD j d := by
 simp [List.getD, List.getElem?_set, Ne.symm h]
theorem gsetE {α : Type} {xs : List α} {i : Nat} {v d : α} (h : i < xs.length) : (xs.set i v).getD i d = v := by
 simp [List.getD, h]
theorem bx_set {bx : List Bool} {q : Nat} {o fn : Int} (h : q < bx.length) : bx.set q (if bx.getD q false = true then true else o != fn) = if o ≠ fn then bx.set q true else bx := by
 by_cases c : o = fn
 ·subst c
  have e1 : (if o ≠ o then bx.set q true else bx) = bx := if_neg fun x => x rfl
  have e2 : (if bx.getD q false = true then true else o != o) = bx[q] := by
   rw [bne_self_eq_false]
   have : bx.getD q false = bx[q] := by simp [List.getD, h]
   rw [this]
   cases bx[q] <;> rfl
  rw [e1, e2]
  refine List.ext_getElem? fun j => ?_
  by_cases cj : j = q
  ·subst cj
   rw [List.getElem?_set_self h, List.getElem?_eq_getElem h]
  ·rw [List.getElem?_set_ne (by omega)]
 ·have e1 : (if o ≠ fn then bx.set q true else bx) = bx.set q true := if_pos c
  rw [e1, bne_iff_ne.2 c]
  cases bx.getD q false <;> rfl
theorem Ag.less {T : List Kn} {i j : Nat} {s s' B : Bd} (a : Ag i s' B) (w : WL T j i s s') (h : j ≤ i) : Ag j s B :=
 ⟨fun q hq => by rw [a.b q (by omega), w.bo q (.inl hq)], fun q hq => by rw [a.o q (by omega), w.oo q (.inl hq)], fun q hq => a.x q (w.xm q hq)⟩
section
variable {T : List Kn}
theorem w_end {n : Kn} {i fr : Nat} {fn : Int} {s s1 : Bd} (hi : i < T.length) (hfr : fr ≤ i) (hl : Ln T s) (w : WL T fr i s s1) (h1 : ∀ q ∈ s1.sn, 0 ≤ q ∧ q.toNat < i) :
  WL T fr (i + 1) s (bdEnd T n i fn s.sn.length s1) ∧ (bdEnd T n i fn s.sn.length s1).sn = scN n (i : Int) s.sn s1.sn ∧ ∀ B, Ag (i + 1) (bdEnd T n i fn s.sn.length s1) B → Ag i s1 B ∧ bokN T B n i fn s1.sn ∧ (bdEnd T n i fn s.sn.length s1).bx = bxN T B n i fn s1.sn s1.bx := by
 obtain ⟨l1, l2, l3⟩ := hl
 have b1 := w.bl
 have b2 := w.ol
 have b3 := w.xl
 unfold bdEnd scN bokN bxN
 by_cases c1 : n.k = 5 ∨ n.k = 15
 ·have n1 : ¬ (n.k = 14 ∨ n.k = 22) := by omega
  have n2 : ¬ (n.k = 21 ∨ n.k = 6) := by omega
  rw [if_pos c1, if_neg n1, if_neg n2]
  simp only [if_pos c1]
  unfold bdName bdNameQ
  cases e : findL T (tx T (i : Int)) s1.sn.reverse with
  | none =>
   refine ⟨⟨by simp [b1], b2, b3, fun j hj => ?_, fun j hj => w.oo j (by omega), w.xm, fun q hq => (w.sn q hq).imp id fun h => ⟨h.1, by omega⟩⟩, rfl, fun B a => ⟨⟨fun j hj => ?_, fun j hj => a.o j (by omega), a.x⟩, ⟨fun _ => ⟨?_, fun q hq => by cases hq⟩, fun h => absurd h n1⟩, rfl⟩⟩
   ·show (s1.bd.set i (-1)).getD j 0 = _
    rw [gset (by omega)]; exact w.bo j (by omega)
   ·have := a.b j (by omega)
    rw [this]
    show (s1.bd.set i (-1)).getD j 0 = _
    rw [gset (by omega)]
   ·rw [a.b i (by omega)]
    show (s1.bd.set i (-1)).getD i 0 = _
    rw [gsetE (by omega)]; rfl
  | some q =>
   have hq := h1 q (List.mem_reverse.1 (List.mem_of_find?_eq_some e))
   have ex : ∀ z, s1.bx.getD z false = true → (s1.bx.set q.toNat (if s1.bx.getD q.toNat false = true then true else s1.ow.getD q.toNat 0 != fn)).getD z false = true := fun z hz => by
    by_cases c : z = q.toNat
    ·subst c
     rw [gsetE (by omega), if_pos hz]
    ·rw [gset c]; exact hz
   refine ⟨⟨by simp [b1], b2, by simp [b3], fun j hj => ?_, fun j hj => w.oo j (by omega), fun z hz => ex z (w.xm z hz), fun z hz => (w.sn z hz).imp id fun h => ⟨h.1, by omega⟩⟩, rfl, fun B a => ⟨⟨fun j hj => ?_, fun j hj => a.o j (by omega), fun z hz => a.x z (ex z hz)⟩, ⟨fun _ => ⟨?_, fun z hz hne => ?_⟩, fun h => absurd h n1⟩, ?_⟩⟩
   ·show ((s1.bd.set i (-1)).set i q).getD j 0 = _
    rw [gset (by omega), gset (by omega)]; exact w.bo j (by omega)
   ·rw [a.b j (by omega)]
    show ((s1.bd.set i (-1)).set i q).getD j 0 = _
    rw [gset (by omega), gset (by omega)]
   ·rw [a.b i (by omega)]
    show ((s1.bd.set i (-1)).set i q).getD i 0 = _
    rw [gsetE (by simp; omega)]; rfl
   ·cases hz
    refine a.x _ ?_
    show (s1.bx.set q.toNat (if s1.bx.getD q.toNat false = true then true else s1.ow.getD q.toNat 0 != fn)).getD q.toNat false = true
    rw [gsetE (by omega)]
    have eo := a.o q.toNat (by omega)
    by_cases c : s1.bx.getD q.toNat false = true
    ·rw [if_pos c]
    ·rw [if_neg c, bne_iff_ne]
     intro h
     exact hne (by rw [eo]; exact h)
   ·have eo : B.ow.getD q.toNat 0 = s1.ow.getD q.toNat 0 := a.o q.toNat (by omega)
    show s1.bx.set q.toNat (if s1.bx.getD q.toNat false = true then true else s1.ow.getD q.toNat 0 != fn) = if B.ow.getD q.toNat 0 ≠ fn then s1.bx.set q.toNat true else s1.bx
    rw [eo]
    exact bx_set (by omega)
 ·rw [if_neg c1]
  by_cases c2 : n.k = 14 ∨ n.k = 22
  ·rw [if_pos c2, if_pos c2]
   refine ⟨⟨b1, by simp [b2], b3, fun j hj => w.bo j (by omega), fun j hj => ?_, w.xm, fun q hq => ?_⟩, rfl, fun B a => ⟨⟨fun j hj => a.b j (by omega), fun j hj => ?_, a.x⟩, ⟨fun h => absurd h c1, fun _ => ?_⟩, by rw [if_neg c1]⟩⟩
   ·show (s1.ow.set i fn).getD j 0 = _
    rw [gset (by omega)]; exact w.oo j (by omega)
   ·rcases List.mem_append.1 hq with h | h
    ·exact (w.sn q h).imp id fun h => ⟨h.1, by omega⟩
    ·have := List.mem_singleton.1 h
     exact .inr ⟨by omega, by omega⟩
   ·rw [a.o j (by omega)]
    show (s1.ow.set i fn).getD j 0 = _
    rw [gset (by omega)]
   ·rw [a.o i (by omega)]
    show (s1.ow.set i fn).getD i 0 = _
    rw [gsetE (by omega)]
  ·rw [if_neg c2, if_neg c2]
   by_cases c3 : n.k = 21 ∨ n.k = 6
   ·rw [if_pos c3, if_pos c3]
    exact ⟨⟨b1, b2, b3, fun j hj => w.bo j (by omega), fun j hj => w.oo j (by omega), w.xm, fun q hq => (w.sn q (List.mem_of_mem_take hq)).imp id fun h => ⟨h.1, by omega⟩⟩, rfl, fun B a => ⟨⟨fun j hj => a.b j (by omega), fun j hj => a.o j (by omega), a.x⟩, ⟨fun h => absurd h c1, fun h => absurd h c2⟩, by rw [if_neg c1]⟩⟩
   ·rw [if_neg c3, if_neg c3]
    exact ⟨⟨b1, b2, b3, fun j hj => w.bo j (by omega), fun j hj => w.oo j (by omega), w.xm, fun q hq => (w.sn q hq).imp id fun h => ⟨h.1, by omega⟩⟩, rfl, fun B a => ⟨⟨fun j hj => a.b j (by omega), fun j hj => a.o j (by omega), a.x⟩, ⟨fun h => absurd h c1, fun h => absurd h c2⟩, by rw [if_neg c1]⟩⟩
def WOk (T : List Kn) (f : Nat) (k fr : Int) : Prop := ∀ (s : Bd) (fn : Int), Ln T s → (∀ q ∈ s.sn, 0 ≤ q ∧ q.toNat < fr.toNat) →
 WL T fr.toNat (k.toNat + 1) s (walkP T f k fn s) ∧ (walkP T f k fn s).sn = scP T f k s.sn ∧ ∀ B, Ag (k.toNat + 1) (walkP T f k fn s) B → bokP T B f k fn s.sn ∧ (walkP T f k fn s).bx = bxP T B f k fn s.sn s.bx
theorem w_kids {f i : Nat} {fn : Int} {ks : List Int} (hF : ∀ k fr : Int, k ∈ ks → 0 ≤ fr → 0 ≤ numP T f k fr → numP T f k fr = k + 1 ∧ fr ≤ k ∧ WOk T f k fr) :
  ∀ (l : List Int) (fr : Int) (s : Bd), (∀ k ∈ l, k ∈ ks) → 0 ≤ fr → 0 ≤ numGo' (numP T f) (i : Int) l fr → Ln T s → (∀ q ∈ s.sn, 0 ≤ q ∧ q.toNat < fr.toNat) →
   fr ≤ i ∧ WL T fr.toNat i s (l.foldl (fun s k => walkP T f k fn s) s) ∧ (l.foldl (fun s k => walkP T f k fn s) s).sn = l.foldl (fun s k => scP T f k s) s.sn ∧ ∀ B, Ag i (l.foldl (fun s k => walkP T f k fn s) s) B → bokK (bokP T B f · fn) (scP T f) l s.sn ∧ (l.foldl (fun s k => walkP T f k fn s) s).bx = bxK (bxP T B f · fn) (scP T f) l s.sn s.bx := by
 intro l
 induction l with
 | nil =>
  intro fr s _ hfr hnum hl hp
  have hfi : (i : Int) = fr := by
   unfold numGo' at hnum
   by_cases h : (i : Int) = fr
   ·exact h
   ·rw [if_neg h] at hnum; omega
  exact ⟨by omega, ⟨rfl, rfl, rfl, fun _ _ => rfl, fun _ _ => rfl, fun _ h => h, fun q hq => .inl hq⟩, rfl, fun _ _ => ⟨trivial, rfl⟩⟩
 | cons k l ih =>
  intro fr s hm hfr hnum hl hp
  rw [numGo'] at hnum
  by_cases hn : numP T f k fr < 0
  ·rw [if_pos hn] at hnum; omega
  rw [if_neg hn] at hnum
  obtain ⟨g1, g2, g3⟩ := hF k fr (hm k (by simp)) hfr (by omega)
  obtain ⟨w, e, bk⟩ := g3 s fn hl hp
  rw [g1] at hnum
  have e1 : (k + 1).toNat = k.toNat + 1 := by omega
  obtain ⟨y0, w2, e2, bk2⟩ := ih (k + 1) (walkP T f k fn s) (fun q hq => hm q (by simp [hq])) (by omega) hnum ⟨w.bl.trans hl.1, w.ol.trans hl.2.1, w.xl.trans hl.2.2⟩ (fun q hq => by
   rcases w.sn q hq with h | h
   ·have := hp q h
    omega
   ·omega)
  rw [e1] at w2
  rw [List.foldl_cons, List.foldl_cons]
  refine ⟨by omega, ⟨w2.bl.trans w.bl, w2.ol.trans w.ol, w2.xl.trans w.xl, fun j hj => ?_, fun j hj => ?_, fun q hq => w2.xm q (w.xm q hq), fun q hq => ?_⟩, ?_, fun B a => ?_⟩
  ·rw [w2.bo j (by omega), w.bo j (by omega)]
  ·rw [w2.oo j (by omega), w.oo j (by omega)]
  ·rcases w2.sn q hq with h | h
   ·rcases w.sn q h with h | h
    ·exact .inl h
    ·exact .inr ⟨h.1, by omega⟩
   ·exact .inr h
  ·rw [e2, e]
  ·have h2 := bk2 B a
   have h1 := bk B (a.less w2 (by omega))
   rw [e, h1.2] at h2
   exact ⟨⟨h1.1, h2.1⟩, h2.2⟩
theorem w_walk (hG : ∀ (j : Nat) (n : Kn), T[j]? = some n → ∀ k ∈ n.ks, 0 ≤ k ∧ k < j) (hN : ∀ (f : Nat) (k fr : Int), 0 ≤ numP T f k fr → 0 ≤ fr → numP T f k fr = k + 1 ∧ fr ≤ k) :
  ∀ (f : Nat) (k fr : Int), 0 ≤ k → k < T.length → 0 ≤ fr → 0 ≤ numP T f k fr → WOk T f k fr := by
 intro f
 induction f with
 | zero => intro k fr _ _ _ h; exact absurd h (by show ¬ (0:Int) ≤ -1; decide)
 | succ f ih =>
  intro k fr hk hk2 hfr hnum s fn hl hp
  obtain ⟨i, rfl⟩ : ∃ q : Nat, k = q := ⟨k.toNat, by omega⟩
  have hlt : i < T.length := by omega
  have hget : T[i]? = some T[i] := by simp [hlt]
  generalize T[i] = n at hget
  have hnum' : 0 ≤ numGo' (numP T f) (i : Int) n.ks fr := by
   have : numP T (f + 1) (i : Int) fr = numGo' (numP T f) (i : Int) n.ks fr := by
    show (match T[(i : Int).toNat]? with | some n => numGo' (numP T f) (i : Int) n.ks fr | none => -1) = _
    rw [Int.toNat_natCast, hget]
   omega
  have hv : walkP T (f + 1) (i : Int) fn s = bdEnd T n i fn s.sn.length (n.ks.foldl (fun s k => walkP T f k (if n.k = 6 then (i : Int) else fn) s) s) := by
   show (match T[(i : Int).toNat]? with | some n => bdEnd T n (i : Int).toNat fn s.sn.length (n.ks.foldl (fun s k => walkP T f k (if n.k = 6 then (i : Int) else fn) s) s) | none => s) = _
   rw [Int.toNat_natCast, hget]
  obtain ⟨y0, w, e, bk⟩ := w_kids (f := f) (i := i) (fn := if n.k = 6 then (i : Int) else fn) (ks := n.ks) (fun k fr' hk h0 h1 => by
   obtain ⟨k0, k1⟩ := hG i _ hget k hk
   have nl := hN f k fr' h1 h0
   exact ⟨nl.1, nl.2, ih k fr' k0 (by omega) h0 h1⟩) n.ks fr s (fun _ h => h) hfr hnum' hl hp
  obtain ⟨z1, z2, z3⟩ := w_end (n := n) (fn := fn) hlt (by omega) hl w (fun q hq => by
   rcases w.sn q hq with h | h
   ·have := hp q h
    omega
   ·exact h)
  rw [hv, Int.toNat_natCast]
  refine ⟨z1, ?_, fun B a => ?_⟩
  ·rw [z2, e]
   show _ = (match T[(i : Int).toNat]? with | some n => scN n ((i : Int).toNat : Int) s.sn (n.ks.foldl (fun s k => scP T f k s) s.sn) | none => s.sn)
   rw [Int.toNat_natCast, hget]
  ·obtain ⟨a1, a2, a3⟩ := z3 B a
   obtain ⟨k1, k2⟩ := bk B a1
   refine ⟨?_, ?_⟩
   ·show (match T[(i : Int).toNat]? with | some n => bokK (bokP T B f · (if n.k = 6 then (i : Int) else fn)) (scP T f) n.ks s.sn ∧ bokN T B n (i : Int).toNat fn (n.ks.foldl (fun s k => scP T f k s) s.sn) | none => True)
    rw [Int.toNat_natCast, hget]
    refine ⟨k1, ?_⟩
    rw [← e]
    exact a2
   ·rw [a3, k2, e]
    show _ = (match T[(i : Int).toNat]? with | some n => bxN T B n (i : Int).toNat fn (n.ks.foldl (fun s k => scP T f k s) s.sn) (bxK (bxP T B f · (if n.k = 6 then (i : Int) else fn)) (scP T f) n.ks s.sn s.bx) | none => s.bx)
    rw [Int.toNat_natCast, hget]
end
theorem bound_ok {T : List Kn} (hpos : 0 < T.length) (hG : ∀ (j : Nat) (n : Kn), T[j]? = some n → ∀ k ∈ n.ks, 0 ≤ k ∧ k < j) (hN : ∀ (f : Nat) (k fr : Int), 0 ≤ numP T f k fr → 0 ≤ fr → numP T f k fr = k + 1 ∧ fr ≤ k)
  (hnum : numP T (T.length + 1) ((T.length : Int) - 1) 0 = (T.length : Int)) : Ln T (boundP T) ∧ bokP T (boundP T) (T.length + 1) ((T.length : Int) - 1) (-1) [] ∧ (boundP T).bx = bxP T (boundP T) (T.length + 1) ((T.length : Int) - 1) (-1) [] (List.replicate T.length false) := by
 have L0 : Ln T (bd0 T.length) := ⟨by simp [bd0], by simp [bd0], by simp [bd0]⟩
 obtain ⟨w, _, b⟩ := w_walk hG hN (T.length + 1) ((T.length : Int) - 1) 0 (by omega) (by omega) (by omega) (by omega) (bd0 T.length) (-1) L0 (fun q hq => by cases hq)
 exact ⟨⟨w.bl.trans L0.1, w.ol.trans L0.2.1, w.xl.trans L0.2.2⟩, b (boundP T) ⟨fun _ _ => rfl, fun _ _ => rfl, fun _ h => h⟩⟩
def xEx (c : Int) : Prop := 1 ≤ c ∧ c ≤ 13
def xSt (c : Int) : Prop := 14 ≤ c ∧ c ≤ 20
def kk (T : List Kn) (k : Int) : Int := match T[k.toNat]? with | some n => n.k | none => 0
structure Shp (T : List Kn) : Prop where
 lo : ∀ (j : Nat) (n : Kn), T[j]? = some n → ∀ k ∈ n.ks, 0 ≤ k ∧ k < j
 leaf : ∀ (j : Nat) (n : Kn), T[j]? = some n → n.k ≤ 5 ∨ n.k = 22 → n.ks = []
 ex : ∀ (j : Nat) (n : Kn), T[j]? = some n → 8 ≤ n.k ∧ n.k ≤ 16 ∨ n.k = 19 ∨ n.k = 20 ∨ n.k = 23 ∨ n.k = 24 → ∀ k ∈ n.ks, xEx (kk T k)
 two : ∀ (j : Nat) (n : Kn), T[j]? = some n → n.k = 12 ∨ n.k = 13 → n.ks.length = 2
 one : ∀ (j : Nat) (n : Kn), T[j]? = some n → n.k = 14 ∨ n.k = 15 → n.ks.length = 1
 fn : ∀ (j : Nat) (n : Kn), T[j]? = some n → n.k = 6 → ∃ ps b, n.ks = ps ++ [b] ∧ (∀ k ∈ ps, kk T k = 22) ∧ kk T b = 21
 tab : ∀ (j : Nat) (n : Kn), T[j]? = some n → n.k = 7 → ∀ k ∈ n.ks, kk T k = 23 ∨ kk T k = 24
 iff : ∀ (j : Nat) (n : Kn), T[j]? = some n → n.k = 17 → ∃ c l, n.ks = c :: l ∧ xEx (kk T c) ∧ (l.length = 1 ∨ l.length = 2) ∧ ∀ k ∈ l, kk T k = 21
 whl : ∀ (j : Nat) (n : Kn), T[j]? = some n → n.k = 18 → ∃ c b, n.ks = [c, b] ∧ xEx (kk T c) ∧ kk T b = 21
 blk : ∀ (j : Nat) (n : Kn), T[j]? = some n → n.k = 21 → ∀ k ∈ n.ks, xSt (kk T k)
theorem kk_at {T : List Kn} {i : Nat} {n : Kn} (h : T[i]? = some n) : kk T (i : Int) = n.k := by
 unfold kk
 rw [Int.toNat_natCast, h]
theorem node_at {T : List Kn} {k : Int} (h : 0 ≤ k) (hk : kk T k ≠ 0) : ∃ (i : Nat) (n : Kn), k = i ∧ T[i]? = some n ∧ n.k = kk T k := by
 unfold kk at hk ⊢
 cases e : T[k.toNat]? with
 | none => rw [e] at hk; exact absurd rfl hk
 | some n => exact ⟨k.toNat, n, by omega, e, rfl⟩
theorem scP_s {T : List Kn} {f i : Nat} {n : Kn} (h : T[i]? = some n) (sn : List Int) : scP T (f + 1) (i : Int) sn = scN n (i : Int) sn (n.ks.foldl (fun s k => scP T f k s) sn) := by
 show (match T[(i : Int).toNat]? with | some n => scN n ((i : Int).toNat : Int) sn (n.ks.foldl (fun s k => scP T f k s) sn) | none => sn) = _
 rw [Int.toNat_natCast, h]
def addS (c : Int) (i : Int) : List Int := if c = 14 ∨ c = 22 then [i] else []
theorem sc_kind {T : List Kn} (S : Shp T) : ∀ (N f : Nat), N ≤ f → ∀ (i : Nat) (n : Kn), i < N → T[i]? = some n → 1 ≤ n.k ∧ n.k ≤ 24 → ∀ sn, scP T f (i : Int) sn = sn ++ addS n.k (i : Int) := by
 intro N
 induction N with
 | zero => intro f _ i _ h; exact absurd h (Nat.not_lt_zero _)
 | succ N ih =>
  intro f hf i n hi hn hk sn
  obtain ⟨f, rfl⟩ : ∃ q, f = q + 1 := ⟨f - 1, by omega⟩
  rw [scP_s hn]
  have kid : ∀ k ∈ n.ks, kk T k ≠ 0 → (1 ≤ kk T k ∧ kk T k ≤ 24) → ∀ s, scP T f k s = s ++ addS (kk T k) k := fun k hm h0 h1 s => by
   have lo := S.lo i n hn k hm
   obtain ⟨j, m, rfl, hj, hkk⟩ := node_at lo.1 h0
   rw [← hkk]
   exact ih f (by omega) j m (by omega) hj (by omega) s
  have plain : ∀ l : List Int, (∀ k ∈ l, k ∈ n.ks) → (∀ k ∈ l, kk T k ≠ 0 ∧ 1 ≤ kk T k ∧ kk T k ≤ 24 ∧ kk T k ≠ 14 ∧ kk T k ≠ 22) → ∀ s, l.foldl (fun s k => scP T f k s) s = s := by
   intro l
   induction l with
   | nil => intro _ _ s; rfl
   | cons k l ihl =>
    intro h1 h2 s
    have h := h2 k (by simp)
    rw [List.foldl_cons, kid k (h1 k (by simp)) h.1 ⟨h.2.1, h.2.2.1⟩, show addS (kk T k) k = [] from if_neg (by omega), List.append_nil]
    exact ihl (fun k hk => h1 k (by simp [hk])) (fun k hk => h2 k (by simp [hk])) s
  have pre : ∀ l : List Int, (∀ k ∈ l, k ∈ n.ks) → (∀ k ∈ l, kk T k ≠ 0 ∧ 1 ≤ kk T k ∧ kk T k ≤ 24) → ∀ s, ∃ e, l.foldl (fun s k => scP T f k s) s = s ++ e := by
   intro l
   induction l with
   | nil => intro _ _ s; exact ⟨[], by simp⟩
   | cons k l ihl =>
    intro h1 h2 s
    have h := h2 k (by simp)
    obtain ⟨e, he⟩ := ihl (fun k hk => h1 k (by simp [hk])) (fun k hk => h2 k (by simp [hk])) (s ++ addS (kk T k) k)
    rw [List.foldl_cons, kid k (h1 k (by simp)) h.1 ⟨h.2.1, h.2.2⟩, he]
    exact ⟨_, List.append_assoc _ _ _⟩
  have done : (∀ k ∈ n.ks, kk T k ≠ 0 ∧ 1 ≤ kk T k ∧ kk T k ≤ 24 ∧ kk T k ≠ 14 ∧ kk T k ≠ 22) → scN n (i : Int) sn (n.ks.foldl (fun s k => scP T f k s) sn) = sn ++ addS n.k (i : Int) := fun h => by
   rw [plain n.ks (fun _ h => h) h]
   unfold scN addS
   by_cases c : n.k = 14 ∨ n.k = 22
   ·rw [if_pos c, if_pos c]
   ·rw [if_neg c, if_neg c, List.append_nil]
    split
    ·exact List.take_length
    ·rfl
  have cut : (n.k = 21 ∨ n.k = 6) → (∀ k ∈ n.ks, kk T k ≠ 0 ∧ 1 ≤ kk T k ∧ kk T k ≤ 24) → scN n (i : Int) sn (n.ks.foldl (fun s k => scP T f k s) sn) = sn ++ addS n.k (i : Int) := fun hc h => by
   obtain ⟨e, he⟩ := pre n.ks (fun _ h => h) h sn
   rw [he]
   unfold scN addS
   have hc' : ¬ (n.k = 14 ∨ n.k = 22) := by omega
   rw [if_neg hc', if_neg hc', if_pos hc, List.append_nil, List.take_left]
  by_cases c1 : n.k ≤ 5 ∨ n.k = 22
  ·exact done fun k hk => by rw [S.leaf i n hn c1] at hk; cases hk
  by_cases c2 : n.k = 6
  ·obtain ⟨ps, b, e, h1, h2⟩ := S.fn i n hn c2
   refine cut (.inr c2) fun k hk => ?_
   rw [e] at hk
   rcases List.mem_append.1 hk with h | h
   ·rw [h1 k h]; decide
   ·rw [List.mem_singleton.1 h, h2]; decide
  by_cases c3 : n.k = 7
  ·refine done fun k hk => ?_
   have := S.tab i n hn c3 k hk
   omega
  by_cases c4 : n.k = 17
  ·obtain ⟨c, l, e, h1, _, h3⟩ := S.iff i n hn c4
   refine done fun k hk => ?_
   rw [e] at hk
   unfold xEx at h1
   rcases List.mem_cons.1 hk with h | h
   ·rw [h]; omega
   ·rw [h3 k h]; decide
  by_cases c5 : n.k = 18
  ·obtain ⟨c, b, e, h1, h3⟩ := S.whl i n hn c5
   refine done fun k hk => ?_
   rw [e] at hk
   unfold xEx at h1
   rcases List.mem_cons.1 hk with h | h
   ·rw [h]; omega
   ·rw [List.mem_singleton.1 h, h3]; decide
  by_cases c6 : n.k = 21
  ·refine cut (.inl c6) fun k hk => ?_
   have := S.blk i n hn c6 k hk
   unfold xSt at this
   omega
  ·refine done fun k hk => ?_
   have := S.ex i n hn (by omega) k hk
   unfold xEx at this
   omega
def flatS : List CF → List Int
 | [] => []
 | F :: R => flatS R ++ F.nd
def IA (B : Bd) : List CF → List Int → Prop
 | [], [] => True
 | F :: R, fn :: fns => (∀ q ∈ F.nd, q ∈ F.own) ∧ (∀ q ∈ F.own, B.ow.getD q.toNat 0 = fn) ∧ fn ∉ fns ∧ IA B R fns
 | _, _ => False
theorem IA.own {B : Bd} {q : Int} : ∀ {fs : List CF} {fns : List Int}, IA B fs fns → q ∈ flatS fs → B.ow.getD q.toNat 0 ∈ fns
 | [], [], _, h => by cases h
 | F :: R, fn :: fns, ⟨h1, h2, _, h4⟩, h => by
  rcases List.mem_append.1 h with h | h
  ·exact List.mem_cons_of_mem _ (h4.own h)
  ·rw [h2 q (h1 q h)]; exact List.mem_cons_self
theorem seen_eq {T : List Kn} {B : Bd} {t : BA} : ∀ {fs : List CF} {fns : List Int} (d : Nat), IA B fs fns →
  (findL T t (flatS fs).reverse = none → seenS T t fs d = none) ∧ ∀ q, findL T t (flatS fs).reverse = some q → ∃ k, seenS T t fs d = some (q, d + k) ∧ ∀ fn, fns.head? = some fn → (k = 0 ↔ B.ow.getD q.toNat 0 = fn)
 | [], [], d, _ => ⟨fun _ => rfl, (fun q h => by cases h)⟩
 | F :: R, fn :: fns, d, ⟨h1, h2, h3, h4⟩ => by
  have er : findL T t (flatS (F :: R)).reverse = (findL T t F.nd.reverse).or (findL T t (flatS R).reverse) := by
   show List.find? _ (flatS R ++ F.nd).reverse = _
   rw [List.reverse_append, List.find?_append]; rfl
  obtain ⟨i1, i2⟩ := seen_eq (T := T) (t := t) (d + 1) h4
  rw [er]
  unfold seenS
  cases e : findL T t F.nd.reverse with
  | some z =>
   refine ⟨(fun h => by cases h), fun q h => ?_⟩
   have hz : z = q := by simpa using h
   subst hz
   have hm : z ∈ F.nd := List.mem_reverse.1 (List.mem_of_find?_eq_some e)
   exact ⟨0, rfl, fun f hf => by
    cases hf
    exact ⟨fun _ => h2 z (h1 z hm), fun _ => rfl⟩⟩
  | none =>
   refine ⟨fun h => i1 (by simpa using h), fun q h => ?_⟩
   have h' : findL T t (flatS R).reverse = some q := by simpa using h
   obtain ⟨k, k1, _⟩ := i2 q h'
   have hm : q ∈ flatS R := List.mem_reverse.1 (List.mem_of_find?_eq_some h')
   refine ⟨k + 1, by rw [show d + (k + 1) = d + 1 + k by omega]; exact k1, fun f hf => ?_⟩
   cases hf
   refine ⟨fun h => by omega, fun h => ?_⟩
   exact absurd (h ▸ h4.own hm) h3
def RlF (e : Bool) : List CF → List MF → Prop
 | [], [] => True
 | F :: R, M :: Ms => F.own = M.sl ∧ F.up = M.up ∧ F.ln ≤ M.ln ∧ (e = true → F.ln = M.ln) ∧ RlF e R Ms
 | _, _ => False
structure Q (e : Bool) (B : Bd) (fns : List Int) (nds : List (List Int)) (bx : List Bool) (g : SG) (m : MG) : Prop where
 a : m.cd = 0 → g.cd = 0
 b : e = true → g.cd = 0 → m.cd = 0
 i : g.cd = 0 → IA B g.fs fns
 x : g.cd = 0 → ∀ q, g.bx.getD q false = true → B.bx.getD q false = true
 y : g.cd = 0 → e = true → g.bx = B.bx
 r : m.cd = 0 → RlF e g.fs m.fs
 f : m.cd = 0 → m.fs.map (·.fn) = fns
 t : m.cd = 0 → g.ts = m.ts
 n : g.cd = 0 → g.fs.map (·.nd) = nds
 z : g.cd = 0 → g.bx = bx
section
variable {e : Bool} {B : Bd} {fns : List Int} {nds : List (List Int)} {bx : List Bool} {g : SG} {m : MG}
theorem put_cd (m : MG) : m.put.cd = m.cd := rfl
theorem fail_cd {g : SG} {c : Int} (h : c ≠ 0) : (g.fail c).cd ≠ 0 := by
 unfold SG.fail
 by_cases k : g.cd = 0
 ·rw [if_pos k]; exact h
 ·rw [if_neg k]; exact k
theorem failM_cd {m : MG} {c : Int} (h : c ≠ 0) : (m.fail c).cd ≠ 0 := by
 unfold MG.fail
 by_cases k : m.cd = 0
 ·rw [if_pos k]; exact h
 ·rw [if_neg k]; exact k
theorem Q.bad {g' : SG} {m' : MG} (h1 : g'.cd ≠ 0) (h2 : m'.cd ≠ 0) : Q e B fns nds bx g' m' :=
 ⟨fun h => absurd h h2, fun _ h => absurd h h1, fun h => absurd h h1, fun h => absurd h h1, fun h => absurd h h1, fun h => absurd h h2, fun h => absurd h h2, fun h => absurd h h2, fun h => absurd h h1, fun h => absurd h h1⟩
theorem IA.emit {B : Bd} {F : CF} {R : List CF} {fns : List Int} {k : Nat} (h : IA B (F :: R) fns) : IA B ({ F with ln := k } :: R) fns := by
 cases fns with
 | nil => exact h.elim
 | cons fn fns => exact h
theorem Q.emit (q : Q e B fns nds bx g m) : Q e B fns nds bx g.emit m.put := by
 refine ⟨q.a, q.b, fun h => ?_, q.x, q.y, fun h => ?_, fun h => ?_, q.t, fun h => ?_, q.z⟩
 ·have := q.i h
  unfold SG.emit SG.hd
  cases e1 : g.fs with
  | nil => rw [e1] at this; exact this
  | cons F R => rw [e1] at this; exact this.emit
 ·have := q.r h
  unfold SG.emit MG.put SG.hd MG.hd
  cases e1 : g.fs with
  | nil =>
   rw [e1] at this
   cases e2 : m.fs with
   | nil => trivial
   | cons M Ms => rw [e2] at this; exact this.elim
  | cons F R =>
   rw [e1] at this
   cases e2 : m.fs with
   | nil => rw [e2] at this; exact this.elim
   | cons M Ms =>
    rw [e2] at this
    obtain ⟨h1, h2, h3, h4, h5⟩ := this
    exact ⟨h1, h2, Nat.succ_le_succ h3, fun he => congrArg (· + 1) (h4 he), h5⟩
 ·have := q.f h
  unfold MG.put MG.hd
  cases e2 : m.fs with
  | nil => rw [e2] at this; exact this
  | cons M Ms => rw [e2] at this; exact this
 ·have := q.n h
  unfold SG.emit SG.hd
  cases e1 : g.fs with
  | nil => rw [e1] at this; exact this
  | cons F R => rw [e1] at this; exact this
theorem Q.lone (q : Q false B fns nds bx g m) : Q false B fns nds bx g m.put := by
 refine ⟨q.a, fun h => (by cases h), q.i, q.x, q.y, fun h => ?_, fun h => ?_, q.t, q.n, q.z⟩
 ·have := q.r h
  unfold MG.put MG.hd
  cases e1 : g.fs with
  | nil =>
   rw [e1] at this
   cases e2 : m.fs with
   | nil => trivial
   | cons M Ms => rw [e2] at this; exact this.elim
  | cons F R =>
   rw [e1] at this
   cases e2 : m.fs with
   | nil => rw [e2] at this; exact this.elim
   | cons M Ms =>
    rw [e2] at this
    obtain ⟨h1, h2, h3, h4, h5⟩ := this
    exact ⟨h1, h2, Nat.le_succ_of_le h3, fun he => (by cases he), h5⟩
 ·have := q.f h
  unfold MG.put MG.hd
  cases e2 : m.fs with
  | nil => rw [e2] at this; exact this
  | cons M Ms => rw [e2] at this; exact this
theorem Q.box (q : Q e B fns nds bx g m) (hg : g.cd = 0) (i : Nat) : Q e B fns nds bx (if g.bx.getD i false = true then g.emit else g) (if B.bx.getD i false = true then m.put else m) := by
 by_cases c : g.bx.getD i false = true
 ·rw [if_pos c, if_pos (q.x hg i c)]
  exact q.emit
 ·rw [if_neg c]
  by_cases d : B.bx.getD i false = true
  ·rw [if_pos d]
   cases e with
   | true => rw [q.y hg rfl] at c; exact absurd d c
   | false => exact q.lone
  ·rw [if_neg d]; exact q
theorem Q.text (q : Q e B fns nds bx g m) (hg : g.cd = 0) (hm : m.cd = 0) (hl : g.ts.length ≤ 255) (t : BA) : Q e B fns nds bx (textS t g) (textM t m) := by
 have ht := q.t hm
 unfold textS textM
 rw [← ht]
 by_cases c : (g.ts.any fun u => u.toList == t.toList) = true
 ·rw [if_pos c, if_pos c]
  have : (g.ts.findIdx fun u => u.toList == t.toList) < g.ts.length := List.findIdx_lt_length_of_exists (by simpa [List.any_eq_true] using c)
  rw [if_neg (by omega)]
  exact q.emit
 ·rw [if_neg c, if_neg c]
  by_cases d : g.ts.length = 255
  ·rw [if_pos (by omega), if_pos d]
   exact Q.bad (fail_cd (by decide)) (by rw [put_cd]; exact failM_cd (by decide))
  ·rw [if_neg (by omega), if_neg d]
   have : Q e B fns nds bx { g with ts := g.ts ++ [t] } { m with ts := g.ts ++ [t] } := ⟨q.a, q.b, q.i, q.x, q.y, q.r, q.f, fun _ => rfl, q.n, q.z⟩
   exact this.emit
end
section
variable {e : Bool} {B : Bd} {q : Int}
theorem up_nd : ∀ (fs : List CF), (upS q fs).map (·.nd) = fs.map (·.nd) ∧ (upS q fs).map (·.own) = fs.map (·.own)
 | [] => ⟨rfl, rfl⟩
 | F :: R => by
  unfold upS
  by_cases c : q ∈ F.up
  ·rw [if_pos c]; exact ⟨rfl, rfl⟩
  ·rw [if_neg c]
   cases R with
   | nil => exact ⟨rfl, rfl⟩
   | cons O R =>
    dsimp only
    by_cases d : q ∈ O.own
    ·rw [if_pos d]; exact ⟨rfl, rfl⟩
    ·rw [if_neg d]
     have ih := up_nd (O :: R)
     exact ⟨congrArg (F.nd :: ·) ih.1, congrArg (F.own :: ·) ih.2⟩
theorem IA.same {B : Bd} : ∀ {fs fs' : List CF} {fns : List Int}, fs'.map (·.nd) = fs.map (·.nd) → fs'.map (·.own) = fs.map (·.own) → IA B fs fns → IA B fs' fns
 | [], [], _, _, _, h => h
 | [], _ :: _, _, h, _, _ => by cases h
 | _ :: _, [], _, h, _, _ => by cases h
 | F :: R, F' :: R', [], _, _, h => h.elim
 | F :: R, F' :: R', fn :: fns, h1, h2, ⟨a, b, c, d⟩ => by
  simp only [List.map_cons, List.cons.injEq] at h1 h2
  refine ⟨?_, ?_, c, IA.same h1.2 h2.2 d⟩
  ·rw [h1.1, h2.1]; exact a
  ·rw [h2.1]; exact b
theorem upM_fn (o : Int) : ∀ (ms : List MF), (upM o q ms).map (·.fn) = ms.map (·.fn)
 | [] => rfl
 | M :: Ms => by
  unfold upM
  by_cases c : q ∈ M.up
  ·rw [if_pos c]
  ·rw [if_neg c]
   cases Ms with
   | nil => rfl
   | cons O Ms =>
    dsimp only
    by_cases d : o = O.fn
    ·rw [if_pos d]; rfl
    ·rw [if_neg d]
     exact congrArg (M.fn :: ·) (upM_fn o (O :: Ms))
theorem up_rel : ∀ {fs : List CF} {ms : List MF} {fns : List Int}, RlF e fs ms → IA B fs fns → ms.map (·.fn) = fns → q ∈ flatS fs.tail → RlF e (upS q fs) (upM (B.ow.getD q.toNat 0) q ms)
 | [], [], _, h, _, _, _ => h
 | [], _ :: _, _, h, _, _, _ => h.elim
 | _ :: _, [], _, h, _, _, _ => h.elim
 | F :: R, M :: Ms, fns, ⟨h1, h2, h3, h4, h5⟩, hi, hf, hq => by
  unfold upS upM
  rw [h2]
  by_cases c : q ∈ M.up
  ·rw [if_pos c, if_pos c]
   exact ⟨h1, h2, h3, h4, h5⟩
  ·rw [if_neg c, if_neg c]
   refine ⟨h1, rfl, h3, h4, ?_⟩
   cases fns with
   | nil => cases hf
   | cons fn fns =>
    simp only [List.map_cons, List.cons.injEq] at hf
    obtain ⟨_, _, _, hi'⟩ := hi
    cases R with
    | nil => cases hq
    | cons O R =>
     cases Ms with
     | nil => exact h5.elim
     | cons O' Ms =>
      cases fns with
      | nil => cases hf.2
      | cons fo fns =>
       have hf2 := hf.2
       simp only [List.map_cons, List.cons.injEq] at hf2
       have hi2 := hi'
       obtain ⟨i1, i2, i3, i4⟩ := hi2
       dsimp only
       have key : q ∈ O.own ↔ B.ow.getD q.toNat 0 = O'.fn := by
        rw [hf2.1]
        refine ⟨fun h => i2 q h, fun h => ?_⟩
        rcases List.mem_append.1 (show q ∈ flatS R ++ O.nd from hq) with z | z
        ·exact absurd (h ▸ i4.own z) i3
        ·exact i1 q z
       by_cases d : q ∈ O.own
       ·rw [if_pos d, if_pos (key.1 d)]
        exact h5
       ·rw [if_neg d, if_neg (fun z => d (key.2 z))]
        refine up_rel h5 hi' hf.2 ?_
        rcases List.mem_append.1 (show q ∈ flatS R ++ O.nd from hq) with z | z
        ·exact z
        ·exact absurd (i1 q z) d
end
section
variable {e : Bool} {B : Bd} {fns rest : List Int} {fn : Int} {nds : List (List Int)} {bx : List Bool} {g : SG} {m m' : MG} {T : List Kn}
theorem Q.swap (q : Q e B fns nds bx g m) (h : m.cd ≠ 0) (h' : m'.cd ≠ 0) : Q e B fns nds bx g m' :=
 ⟨fun k => absurd k h', fun k1 k2 => absurd (q.b k1 k2) h, q.i, q.x, q.y, fun k => absurd k h', fun k => absurd k h', fun k => absurd k h', q.n, q.z⟩
theorem nameM_bad (set : Bool) (i : Int) (h : m.cd ≠ 0) : (nameM T B set i m).cd ≠ 0 := by
 unfold nameM
 dsimp only
 split
 ·split
  ·exact h
  ·exact failM_cd (by decide)
 ·split
  ·exact h
  ·split
   ·exact h
   ·exact h
theorem bset_same {bx : List Bool} {i : Nat} (h : bx.getD i false = true) : bx.set i true = bx := by
 refine List.ext_getElem? fun j => ?_
 by_cases c : j = i
 ·subst c
  have hl : j < bx.length := Classical.byContradiction fun k => by
   simp [List.getD, List.getElem?_eq_none (by omega : bx.length ≤ j)] at h
  rw [List.getElem?_set_self hl, List.getElem?_eq_getElem hl]
  simp only [List.getD, List.getElem?_eq_getElem hl, Option.getD_some] at h
  rw [h]
 ·rw [List.getElem?_set_ne (by omega)]
theorem Q.name (q : Q e B (fn :: rest) nds bx g m) (hg : g.cd = 0) (set : Bool) (i : Nat) (sn : List Int) (hsn : flatS g.fs = sn)
  (hB : B.bd.getD i 0 = (findL T (tx T (i : Int)) sn.reverse).getD (-1) ∧ ∀ z, findL T (tx T (i : Int)) sn.reverse = some z → B.ow.getD z.toNat 0 ≠ fn → B.bx.getD z.toNat false = true) (hpos : ∀ z ∈ sn, 0 ≤ z) :
  Q e B (fn :: rest) nds (match findL T (tx T (i : Int)) sn.reverse with
   | none => bx
   | some z => if B.ow.getD z.toNat 0 ≠ fn then bx.set z.toNat true else bx) (nameS T set (i : Int) g) (nameM T B set (i : Int) m) := by
 subst hsn
 obtain ⟨s1, s2⟩ := seen_eq (T := T) (t := tx T (i : Int)) 0 (q.i hg)
 cases ef : findL T (tx T (i : Int)) (flatS g.fs).reverse with
 | none =>
  rw [ef] at hB
  have e1 : nameS T set (i : Int) g = if set = false ∧ isLib (tx T (i : Int)) = true then g.emit else g.fail 2 := by
   unfold nameS
   rw [s1 ef]
  have e2 : nameM T B set (i : Int) m = if set = false ∧ isLib (tx T (i : Int)) = true then m.put else m.fail 2 := by
   unfold nameM
   rw [Int.toNat_natCast, hB.1]
   rfl
  rw [e1, e2]
  by_cases c : set = false ∧ isLib (tx T (i : Int)) = true
  ·rw [if_pos c, if_pos c]; exact q.emit
  ·rw [if_neg c, if_neg c]; exact Q.bad (fail_cd (by decide)) (failM_cd (by decide))
 | some z =>
  rw [ef] at hB
  have hz : z ∈ flatS g.fs := List.mem_reverse.1 (List.mem_of_find?_eq_some ef)
  have hz0 := hpos z hz
  obtain ⟨k, k1, k2⟩ := s2 z ef
  have k3 := k2 fn rfl
  rw [Nat.zero_add] at k1
  have eb : B.bd.getD i 0 = z := hB.1
  have hbx := hB.2 z rfl
  dsimp only
  by_cases o : B.ow.getD z.toNat 0 = fn
  ·have hk : k = 0 := k3.2 o
   subst hk
   rw [if_neg (fun h => h o)]
   have e1 : nameS T set (i : Int) g = g.emit := by
    unfold nameS
    rw [k1]
   rw [e1]
   by_cases hm : m.cd = 0
   ·have e2 : nameM T B set (i : Int) m = m.put := by
     have hf := q.f hm
     unfold nameM
     rw [Int.toNat_natCast, eb]
     dsimp only
     rw [if_neg (by omega)]
     cases hms : m.fs with
     | nil => rw [hms] at hf; cases hf
     | cons M Ms =>
      rw [hms] at hf
      simp only [List.map_cons, List.cons.injEq] at hf
      dsimp only
      rw [if_neg (fun h => h (by rw [o, hf.1]))]
    rw [e2]
    exact q.emit
   ·exact q.emit.swap hm (nameM_bad set _ hm)
  ·have hk : k ≠ 0 := fun h => o (k3.1 h)
   obtain ⟨k, rfl⟩ : ∃ j, k = j + 1 := ⟨k - 1, by omega⟩
   rw [if_pos o]
   have e1 : nameS T set (i : Int) g = ({ g with bx := g.bx.set z.toNat true, fs := upS z g.fs } : SG).emit := by
    unfold nameS
    rw [k1]
   rw [e1]
   have hzt : z ∈ flatS g.fs.tail := by
    have hi := q.i hg
    cases hfs : g.fs with
    | nil => rw [hfs] at hz; cases hz
    | cons F R =>
     rw [hfs] at hz hi
     rcases List.mem_append.1 (show z ∈ flatS R ++ F.nd from hz) with h | h
     ·exact h
     ·exact absurd (hi.2.1 z (hi.1 z h)) o
   have un := up_nd (q := z) g.fs
   have base : ∀ m2 : MG, m2.cd = m.cd → m2.ts = m.ts → (m.cd = 0 → m2.fs = upM (B.ow.getD z.toNat 0) z m.fs) → Q e B (fn :: rest) nds (bx.set z.toNat true) { g with bx := g.bx.set z.toNat true, fs := upS z g.fs } m2 := fun m2 c1 c2 c3 => by
    refine ⟨fun h => hg, fun h1 h2 => by rw [c1]; exact q.b h1 h2, fun h => (q.i h).same un.1 un.2, fun h j hj => ?_, fun h he => ?_, fun h => ?_, fun h => ?_, fun h => ?_, fun h => ?_, fun h => ?_⟩
    ·by_cases cj : j = z.toNat
     ·subst cj; exact hbx o
     ·have hj' : (g.bx.set z.toNat true).getD j false = true := hj
      rw [gset cj] at hj'
      exact q.x h j hj'
    ·show g.bx.set z.toNat true = B.bx
     rw [q.y h he]
     exact bset_same (hbx o)
    ·rw [c1] at h
     rw [c3 h]
     exact up_rel (q.r h) (q.i hg) (q.f h) hzt
    ·rw [c1] at h
     rw [c3 h, upM_fn]
     exact q.f h
    ·rw [c1] at h
     rw [c2]
     exact q.t h
    ·show (upS z g.fs).map _ = nds
     rw [un.1]; exact q.n h
    ·show g.bx.set z.toNat true = bx.set z.toNat true
     rw [q.z h]
   by_cases hm : m.cd = 0
   ·have e2 : nameM T B set (i : Int) m = ({ m with fs := upM (B.ow.getD z.toNat 0) z m.fs } : MG).put := by
     have hf := q.f hm
     unfold nameM
     rw [Int.toNat_natCast, eb]
     dsimp only
     rw [if_neg (by omega)]
     cases hms : m.fs with
     | nil => rw [hms] at hf; cases hf
     | cons M Ms =>
      rw [hms] at hf
      simp only [List.map_cons, List.cons.injEq] at hf
      dsimp only
      rw [if_pos (by rw [hf.1]; exact o)]
    rw [e2]
    exact (base ({ m with fs := upM (B.ow.getD z.toNat 0) z m.fs } : MG) rfl rfl fun _ => rfl).emit
   ·exact ((base m rfl rfl fun h => absurd h hm).emit).swap hm (nameM_bad set _ hm)
end
def Lim (g : SG) : Prop := g.cd = 0 → (∀ F ∈ g.fs, F.own.length ≤ 20) ∧ g.ts.length ≤ 255
theorem Lim.emit {g : SG} (h : Lim g) : Lim g.emit := fun k => by
 obtain ⟨h1, h2⟩ := h k
 refine ⟨?_, h2⟩
 unfold SG.emit SG.hd
 cases e : g.fs with
 | nil => intro F hF; cases hF
 | cons F R =>
  rw [e] at h1
  intro F' hF'
  rcases List.mem_cons.1 hF' with h | h
  ·subst h; exact h1 F (by simp)
  ·exact h1 F' (by simp [h])
theorem Lim.bad {g : SG} (h : g.cd ≠ 0) : Lim g := fun k => absurd k h
theorem localM_bad {m : MG} {i : Int} (h : m.cd ≠ 0) : (localM i m).cd ≠ 0 := by
 unfold localM
 split
 ·exact h
 ·split
  ·exact failM_cd (by decide)
  ·exact h
theorem textM_bad {m : MG} {t : BA} (h : m.cd ≠ 0) : (textM t m).cd ≠ 0 := by
 unfold textM
 split
 ·exact h
 ·split
  ·rw [put_cd]; exact failM_cd (by decide)
  ·exact h
section
variable {e : Bool} {B : Bd} {fns rest : List Int} {fn : Int} {nd : List Int} {nds : List (List Int)} {bx : List Bool} {g : SG} {m m' : MG}
theorem Q.local (q : Q e B (fn :: rest) (nd :: nds) bx g m) (hg : g.cd = 0) (hl : Lim g) (i : Int) (ho : B.ow.getD i.toNat 0 = fn) :
  ((localS i g).2 = false ∧ (localS i g).1.cd ≠ 0 ∧ (localM i m).cd ≠ 0) ∨ ((localS i g).2 = true ∧ (localS i g).1.cd = 0 ∧ Lim (localS i g).1 ∧ Q e B (fn :: rest) ((nd ++ [i]) :: nds) bx (localS i g).1 (localM i m)) := by
 obtain ⟨l1, l2⟩ := hl hg
 have hi := q.i hg
 have hn := q.n hg
 cases hfs : g.fs with
 | nil => rw [hfs] at hn; cases hn
 | cons F R =>
  rw [hfs] at hi hn l1
  simp only [List.map_cons, List.cons.injEq] at hn
  obtain ⟨i1, i2, i3, i4⟩ := hi
  have lF := l1 F (by simp)
  by_cases c : F.own.length ≥ 20
  ·left
   have e1 : localS i g = (g.fail 3, false) := by
    unfold localS
    rw [hfs]
    dsimp only
    rw [if_pos c]
   rw [e1]
   refine ⟨rfl, fail_cd (by decide), ?_⟩
   by_cases hm : m.cd = 0
   ·have hr := q.r hm
    rw [hfs] at hr
    unfold localM
    cases hms : m.fs with
    | nil => rw [hms] at hr; exact hr.elim
    | cons M Ms =>
     rw [hms] at hr
     dsimp only
     rw [if_pos (by rw [← hr.1]; omega)]
     exact failM_cd (by decide)
   ·exact localM_bad hm
  ·right
   have e1 : localS i g = ({ g with fs := { F with own := F.own ++ [i], nd := F.nd ++ [i] } :: R }, true) := by
    unfold localS
    rw [hfs]
    dsimp only
    rw [if_neg c]
   rw [e1]
   have key : ∀ m2 : MG, m2.cd = m.cd → m2.ts = m.ts → (m.cd = 0 → RlF e ({ F with own := F.own ++ [i], nd := F.nd ++ [i] } :: R) m2.fs ∧ m2.fs.map (·.fn) = fn :: rest) → Q e B (fn :: rest) ((nd ++ [i]) :: nds) bx { g with fs := { F with own := F.own ++ [i], nd := F.nd ++ [i] } :: R } m2 := fun m2 c1 c2 c3 =>
    ⟨fun _ => hg, fun h1 h2 => by rw [c1]; exact q.b h1 h2, fun _ => ⟨fun z hz => by
     rcases List.mem_append.1 hz with h | h
     ·exact List.mem_append_left _ (i1 z h)
     ·exact List.mem_append_right _ h, fun z hz => by
     rcases List.mem_append.1 hz with h | h
     ·exact i2 z h
     ·rw [List.mem_singleton.1 h]; exact ho, i3, i4⟩, q.x, q.y, fun h => (c3 (by rw [← c1]; exact h)).1, fun h => (c3 (by rw [← c1]; exact h)).2, fun h => by rw [c2]; exact q.t (by rw [← c1]; exact h), fun _ => by
     show (F.nd ++ [i]) :: R.map (·.nd) = _
     rw [hn.1, hn.2], q.z⟩
   refine ⟨rfl, hg, fun _ => ⟨fun F' hF' => ?_, l2⟩, ?_⟩
   ·rcases List.mem_cons.1 hF' with h | h
    ·subst h; simp; omega
    ·exact l1 F' (by simp [h])
   by_cases hm : m.cd = 0
   ·have hr := q.r hm
    have hf := q.f hm
    rw [hfs] at hr
    cases hms : m.fs with
    | nil => rw [hms] at hr; exact hr.elim
    | cons M Ms =>
     rw [hms] at hr hf
     have e2 : localM i m = { m with fs := { M with sl := M.sl ++ [i] } :: Ms } := by
      unfold localM
      rw [hms]
      dsimp only
      rw [if_neg (by rw [← hr.1]; omega)]
     rw [e2]
     refine key _ rfl rfl fun _ => ⟨⟨by rw [hr.1], hr.2.1, hr.2.2.1, hr.2.2.2.1, hr.2.2.2.2⟩, hf⟩
   ·exact (key m rfl rfl fun h => absurd h hm).swap hm (localM_bad hm)
end
section
variable {T : List Kn} {B : Bd}
theorem fold_keep {α β : Type} {P : α → Prop} {f : α → β → α} (hf : ∀ a b, P a → P (f a b)) : ∀ (l : List β) (a : α), P a → P (l.foldl f a)
 | [], _, h => h
 | b :: l, a, h => fold_keep hf l (f a b) (hf a b h)
theorem runM_bad {f : Nat} {i : Int} {m : MG} (h : m.cd ≠ 0) : runM T B f i m = m := by
 cases f with
 | zero => rfl
 | succ f =>
  show stepM T B (runM T B f) i m = m
  unfold stepM
  rw [if_pos h]
theorem foldM_bad {f : Nat} {m : MG} (h : m.cd ≠ 0) : ∀ (l : List Int), l.foldl (fun g k => runM T B f k g) m = m
 | [] => rfl
 | k :: l => by rw [List.foldl_cons, runM_bad h]; exact foldM_bad h l
def bad (g : SG) : Prop := g.cd ≠ 0
theorem bad.emit {g : SG} (h : bad g) : bad g.emit := h
theorem bad.fail {g : SG} (h : bad g) {c : Int} : bad (g.fail c) := by
 unfold SG.fail bad
 rw [if_neg h]; exact h
theorem bad.name {g : SG} (h : bad g) {set : Bool} {i : Int} : bad (nameS T set i g) := by
 unfold nameS
 split
 ·split
  ·exact h
  ·exact h.fail
 ·exact h
 ·exact h
theorem bad.text {g : SG} (h : bad g) {t : BA} : bad (textS t g) := by
 unfold textS
 split
 ·split
  ·exact h.fail
  ·exact h
 ·split
  ·exact bad.fail (g := { g with ts := g.ts ++ [t] }) h
  ·exact h
theorem bad.item {g : SG} (h : bad g) {E : Int → SG → SG} (hE : ∀ i g, bad g → bad (E i g)) {x : Int} : bad (itemS T E g x) := by
 unfold itemS
 split
 ·exact h
 ·refine bad.emit (fold_keep (fun a b ha => hE b a ha) _ _ ?_)
  split
  ·exact h
  ·exact h
theorem bad.body {g : SG} (h : bad g) {E : Int → SG → SG} (hE : ∀ i g, bad g → bad (E i g)) {i : Int} : bad (bodyS T E i g) := by
 unfold bodyS
 split
 ·exact h
 ·rename_i n _
  have h1 : ∀ (l : List Int) (a : SG), bad a → bad (l.foldl (fun g k => if g.cd = 0 then (localS k g).1 else g) a) := fold_keep fun a b ha => by
   rw [if_neg ha]; exact ha
  have h2 : ∀ (l : List Int) (a : SG), bad a → bad (l.foldl (fun g k => if g.cd = 0 ∧ g.bx.getD k.toNat false = true then g.emit else g) a) := fold_keep fun a b ha => by
   rw [if_neg (fun k => ha k.1)]; exact ha
  dsimp only
  have h3 := hE (if n.k = 6 then n.ks.getLastD 0 else i) _ (h2 (if n.k = 6 then n.ks.dropLast else []) _ (h1 (if n.k = 6 then n.ks.dropLast else []) { g with fs := ⟨[], [], [], 0⟩ :: g.fs } h))
  split
  ·exact h3
  ·split
   ·exact (h3.emit.emit).fail
   ·exact h3
theorem runS_bad : ∀ (f m : Nat) (i : Int) (g : SG), bad g → bad (runS T f m i g)
 | 0, _, _, _, h => h
 | f + 1, m, i, g, h => by
  have ih := runS_bad (f := f)
  have kids : ∀ (l : List Int) (a : SG), bad a → bad (l.foldl (fun g k => runS T f 0 k g) a) := fold_keep fun a b ha => ih 0 b a ha
  have blk : ∀ (l : List Int) (a : SG), bad a → bad (l.foldl (fun g k => if g.cd = 0 then runS T f 1 k g else g) a) := fold_keep fun a b ha => by
   rw [if_neg ha]; exact ha
  show bad (stepS T (runS T f) m i g)
  unfold stepS
  split
  ·exact h
  ·dsimp only
   split
   ·rw [if_pos (show g.cd ≠ 0 from h)]; exact h
   ·split
    ·rw [if_pos (show (runS T f 0 _ g).cd ≠ 0 from ih 0 _ g h)]; exact ih 0 _ g h
    ·split
     ·split
      ·exact ih 2 _ _ (ih 0 _ g h).emit
      ·exact ih 2 _ _ (ih 2 _ _ (ih 0 _ g h).emit).emit
     ·split
      ·exact (ih 2 _ _ (ih 0 _ g h).emit).emit
      ·split
       ·rw [if_pos (show (runS T f 0 _ g).cd ≠ 0 from ih 0 _ g h)]; exact ih 0 _ g h
       ·exact kids _ _ h
   ·exact blk _ _ h
   ·exact h.body (ih 2)
end
section
variable {e : Bool} {B : Bd} {fns rest : List Int} {fn : Int} {nd : List Int} {nds : List (List Int)} {bx : List Bool} {g g' : SG} {m m' m2 : MG} {T : List Kn}
theorem Q.drop (q0 : Q e B fns nds bx g m) (hg : g.cd = 0) (h : m.cd ≠ 0) {bx' : List Bool} {nds' : List (List Int)} (q : Q e B fns nds' bx' g' m') : Q e B fns nds' bx' g' m :=
 ⟨fun k => absurd k h, fun k1 k2 => absurd (q0.b k1 hg) h, q.i, q.x, q.y, fun k => absurd k h, fun k => absurd k h, fun k => absurd k h, q.n, q.z⟩
def ExOk (T : List Kn) (B : Bd) (e : Bool) (fs fm fb : Nat) (i : Int) : Prop :=
 ∀ (fn : Int) (rest : List Int) (nds : List (List Int)) (bx : List Bool) (g : SG) (m : MG) (sn : List Int), Q e B (fn :: rest) nds bx g m → Lim g → (g.cd = 0 → flatS g.fs = sn) → (∀ z ∈ sn, 0 ≤ z) → bokP T B fb i fn sn → (∀ f ∈ fn :: rest, f = -1 ∨ i < f) →
  Q e B (fn :: rest) nds (bxP T B fb i fn sn bx) (runS T fs 0 i g) (runM T B fm i m) ∧ Lim (runS T fs 0 i g)
theorem flat_nd : ∀ {fs fs' : List CF}, fs'.map (·.nd) = fs.map (·.nd) → flatS fs' = flatS fs
 | [], [], _ => rfl
 | [], _ :: _, h => by cases h
 | _ :: _, [], h => by cases h
 | F :: R, F' :: R', h => by
  simp only [List.map_cons, List.cons.injEq] at h
  show flatS R' ++ F'.nd = flatS R ++ F.nd
  rw [flat_nd h.2, h.1]
theorem ex_list {fs fm fb : Nat} : ∀ (l : List Int), (∀ k ∈ l, ExOk T B e fs fm fb k) → (∀ k ∈ l, ∀ sn, scP T fb k sn = sn) → ∀ (bx : List Bool) (g : SG) (m : MG) (sn : List Int), Q e B (fn :: rest) nds bx g m → Lim g → (g.cd = 0 → flatS g.fs = sn) → (∀ z ∈ sn, 0 ≤ z) →
  bokK (bokP T B fb · fn) (scP T fb) l sn → (∀ k ∈ l, ∀ f ∈ fn :: rest, f = -1 ∨ k < f) → Q e B (fn :: rest) nds (bxK (bxP T B fb · fn) (scP T fb) l sn bx) (l.foldl (fun g k => runS T fs 0 k g) g) (l.foldl (fun g k => runM T B fm k g) m) ∧ Lim (l.foldl (fun g k => runS T fs 0 k g) g)
 | [], _, _, bx, g, m, sn, q, hl, _, _, _, _ => ⟨q, hl⟩
 | k :: l, hE, hS, bx, g, m, sn, q, hl, hf, hp, hb, hd => by
  obtain ⟨q1, l1⟩ := hE k (by simp) fn rest nds bx g m sn q hl hf hp hb.1 (hd k (by simp))
  have hs := hS k (by simp) sn
  have hb2 := hb.2
  rw [hs] at hb2
  have := ex_list l (fun k hk => hE k (by simp [hk])) (fun k hk => hS k (by simp [hk])) _ _ _ sn q1 l1 (fun h => by
   by_cases hg : g.cd = 0
   ·rw [← hf hg]
    exact flat_nd ((q1.n h).trans (q.n hg).symm)
   ·exact absurd h (runS_bad fs 0 k g hg)) hp hb2 (fun k hk => hd k (by simp [hk]))
  rw [List.foldl_cons, List.foldl_cons]
  unfold bxK
  rw [hs]
  exact this
end
section
variable {e : Bool} {B : Bd} {fns rest : List Int} {fn : Int} {nd : List Int} {nds : List (List Int)} {bx : List Bool} {g g' : SG} {m m' m2 : MG} {T : List Kn}
theorem Lim.name {set : Bool} {i : Int} (h : Lim g) : Lim (nameS T set i g) := by
 by_cases hg : g.cd = 0
 ·obtain ⟨h1, h2⟩ := h hg
  unfold nameS
  split
  ·split
   ·exact h.emit
   ·exact Lim.bad (fail_cd (by decide))
  ·exact h.emit
  ·rename_i z k _
   have : Lim ({ g with bx := g.bx.set z.toNat true, fs := upS z g.fs } : SG) := fun _ => ⟨fun F hF => by
    have e2 := (up_nd (q := z) g.fs).2
    have hm : F.own ∈ (upS z g.fs).map (·.own) := List.mem_map_of_mem hF
    rw [e2] at hm
    obtain ⟨F0, m0, e0⟩ := List.mem_map.1 hm
    rw [← e0]
    exact h1 F0 m0, h2⟩
   exact this.emit
 ·exact Lim.bad (bad.name hg)
theorem Lim.text {t : BA} (h : Lim g) : Lim (textS t g) := by
 by_cases hg : g.cd = 0
 ·obtain ⟨h1, h2⟩ := h hg
  unfold textS
  split
  ·split
   ·exact Lim.bad (fail_cd (by decide))
   ·exact h.emit
  ·split
   ·exact Lim.bad (fail_cd (by decide))
   ·have : Lim ({ g with ts := g.ts ++ [t] } : SG) := fun _ => ⟨h1, by simp; omega⟩
    exact this.emit
 ·exact Lim.bad (bad.text hg)
theorem Q.text' (q : Q e B fns nds bx g m) (hg : g.cd = 0) (hl : Lim g) (t : BA) : Q e B fns nds bx (textS t g) (textM t m) := by
 by_cases hm : m.cd = 0
 ·exact q.text hg hm (hl hg).2 t
 ·have he : e = false := by
   cases e with
   | false => rfl
   | true => exact absurd (q.b rfl hg) hm
  subst he
  have h2 := textM_bad (t := t) hm
  have p : ∀ m3 : MG, m3.cd ≠ 0 → Q false B fns nds bx (textS t g) m3 := fun m3 h3 => by
   unfold textS
   split
   ·split
    ·exact Q.bad (fail_cd (by decide)) h3
    ·exact q.emit.swap hm h3
   ·split
    ·exact Q.bad (fail_cd (by decide)) h3
    ·have : Q false B fns nds bx { g with ts := g.ts ++ [t] } m3 := ⟨fun k => absurd k h3, fun k => (by cases k), q.i, q.x, q.y, fun k => absurd k h3, fun k => absurd k h3, fun k => absurd k h3, q.n, q.z⟩
     exact this.emit.swap h3 h3
  exact p _ h2
end
section
variable {e : Bool} {B : Bd} {T : List Kn}
theorem fold_sc {fb : Nat} {sn : List Int} : ∀ (l : List Int), (∀ k ∈ l, ∀ sn, scP T fb k sn = sn) → l.foldl (fun s k => scP T fb k s) sn = sn
 | [], _ => rfl
 | k :: l, h => by rw [List.foldl_cons, h k (by simp)]; exact fold_sc l fun k hk => h k (by simp [hk])
theorem ex_plain {fs fm fb i : Nat} {n : Kn} (hn : T[i]? = some n) (hk : xEx n.k) (lo : ∀ k ∈ n.ks, k < (i : Int)) (n6 : n.k ≠ 6) (n7 : n.k ≠ 7) (leaf : n.k ≤ 5 → n.ks = []) (two : n.k = 12 ∨ n.k = 13 → n.ks.length = 2)
  (hE : ∀ k ∈ n.ks, ExOk T B e fs fm fb k) (hS : ∀ k ∈ n.ks, ∀ sn, scP T fb k sn = sn) : ExOk T B e (fs + 1) (fm + 1) (fb + 1) (i : Int) := by
 intro fn rest nds bx g m sn q hl hf hp hb hd
 have hd' : ∀ k ∈ n.ks, ∀ f ∈ fn :: rest, f = -1 ∨ k < f := fun k hk f hf => (hd f hf).imp id fun h => Int.lt_trans (lo k hk) h
 by_cases hg : g.cd = 0
 case neg =>
  have h1 : (runS T (fs + 1) 0 (i : Int) g).cd ≠ 0 := runS_bad _ _ _ _ hg
  have hm : m.cd ≠ 0 := fun h => hg (q.a h)
  exact ⟨Q.bad h1 (by rw [runM_bad hm]; exact hm), Lim.bad h1⟩
 unfold xEx at hk
 have eS : runS T (fs + 1) 0 (i : Int) g = stepS T (runS T fs) 0 (i : Int) g := rfl
 have fin : ∀ {bx' : List Bool} {G : SG} (m1 : MG), (m.cd = 0 → runM T B (fm + 1) (i : Int) m = m1) → Q e B (fn :: rest) nds bx' G m1 → Q e B (fn :: rest) nds bx' G (runM T B (fm + 1) (i : Int) m) := fun m1 h1 h2 => by
  by_cases hm : m.cd = 0
  ·rw [h1 hm]; exact h2
  ·rw [runM_bad hm]; exact q.drop hg hm h2
 have hb' : bokK (bokP T B fb · fn) (scP T fb) n.ks sn ∧ bokN T B n i fn (n.ks.foldl (fun s k => scP T fb k s) sn) := by
  have : bokP T B (fb + 1) (i : Int) fn sn = (bokK (bokP T B fb · (if n.k = 6 then (i : Int) else fn)) (scP T fb) n.ks sn ∧ bokN T B n (i : Int).toNat fn (n.ks.foldl (fun s k => scP T fb k s) sn)) := by
   show (match T[(i : Int).toNat]? with | some n => _ | none => _) = _
   rw [Int.toNat_natCast, hn]
  rw [this, if_neg n6, Int.toNat_natCast] at hb
  exact hb
 have ebx : bxP T B (fb + 1) (i : Int) fn sn bx = bxN T B n i fn (n.ks.foldl (fun s k => scP T fb k s) sn) (bxK (bxP T B fb · fn) (scP T fb) n.ks sn bx) := by
  have : bxP T B (fb + 1) (i : Int) fn sn bx = bxN T B n (i : Int).toNat fn (n.ks.foldl (fun s k => scP T fb k s) sn) (bxK (bxP T B fb · (if n.k = 6 then (i : Int) else fn)) (scP T fb) n.ks sn bx) := by
   show (match T[(i : Int).toNat]? with | some n => _ | none => _) = _
   rw [Int.toNat_natCast, hn]
  rw [this, if_neg n6, Int.toNat_natCast]
 rw [fold_sc n.ks hS] at hb' ebx
 have eM : m.cd = 0 → runM T B (fm + 1) (i : Int) m = stepM T B (runM T B fm) (i : Int) m := fun _ => rfl
 rw [ebx, eS]
 have list := ex_list (fn := fn) (rest := rest) (nds := nds) (fs := fs) (fm := fm) (fb := fb) (B := B) (e := e) n.ks hE hS
 by_cases k3 : n.k = 1 ∨ n.k = 2 ∨ n.k = 3
 ·have ek := leaf (by omega)
  have e1 : stepS T (runS T fs) 0 (i : Int) g = g.emit := by
   unfold stepS
   rw [Int.toNat_natCast, hn]
   dsimp only
   rw [if_neg (fun h => h hg), if_pos k3]
   rfl
  have e2 : bxN T B n i fn sn (bxK (bxP T B fb · fn) (scP T fb) n.ks sn bx) = bx := by
   unfold bxN
   rw [if_neg (by omega), ek]; rfl
  rw [e1, e2]
  refine ⟨fin m.put (fun hm => ?_) q.emit, hl.emit⟩
  show stepM T B (runM T B fm) (i : Int) m = _
  unfold stepM
  rw [if_neg (fun h => h hm), Int.toNat_natCast, hn]
  dsimp only
  rw [if_pos k3]
 by_cases k4 : n.k = 4
 ·have ek := leaf (by omega)
  have e1 : stepS T (runS T fs) 0 (i : Int) g = textS n.t g := by
   unfold stepS
   rw [Int.toNat_natCast, hn]
   dsimp only
   rw [if_neg (fun h => h hg), if_neg k3, if_pos k4]
   rfl
  have e2 : bxN T B n i fn sn (bxK (bxP T B fb · fn) (scP T fb) n.ks sn bx) = bx := by
   unfold bxN
   rw [if_neg (by omega), ek]; rfl
  rw [e1, e2]
  refine ⟨fin (textM n.t m) (fun hm => ?_) (q.text' hg hl n.t), hl.text⟩
  show stepM T B (runM T B fm) (i : Int) m = _
  unfold stepM
  rw [if_neg (fun h => h hm), Int.toNat_natCast, hn]
  dsimp only
  rw [if_neg k3, if_pos k4]
 by_cases k5 : n.k = 5
 ·have ek := leaf (by omega)
  have e1 : stepS T (runS T fs) 0 (i : Int) g = nameS T false (i : Int) g := by
   unfold stepS
   rw [Int.toNat_natCast, hn]
   dsimp only
   rw [if_neg (fun h => h hg), if_neg k3, if_neg k4, if_pos k5]
   rfl
  have e2 : bxK (bxP T B fb · fn) (scP T fb) n.ks sn bx = bx := by rw [ek]; rfl
  rw [e1, e2]
  have qn := q.name hg false i sn (hf hg) (hb'.2.1 (.inl k5)) hp
  unfold bxN
  rw [if_pos (.inl k5)]
  refine ⟨fin (nameM T B false (i : Int) m) (fun hm => ?_) qn, hl.name⟩
  show stepM T B (runM T B fm) (i : Int) m = _
  unfold stepM
  rw [if_neg (fun h => h hm), Int.toNat_natCast, hn]
  dsimp only
  rw [if_neg k3, if_neg k4, if_pos k5]
 have e0 : bxN T B n i fn sn (bxK (bxP T B fb · fn) (scP T fb) n.ks sn bx) = bxK (bxP T B fb · fn) (scP T fb) n.ks sn bx := by
  unfold bxN
  rw [if_neg (by omega)]
 rw [e0]
 by_cases k9 : n.k = 9
 ·have fl1 : g.emit.cd = 0 → flatS g.emit.fs = sn := fun h => by
   rw [← hf hg]
   exact flat_nd ((q.emit.n h).trans (q.n hg).symm)
  obtain ⟨q1, l1⟩ := list bx g.emit m.put sn q.emit hl.emit fl1 hp hb'.1 hd'
  have e1 : stepS T (runS T fs) 0 (i : Int) g = if (n.ks.length : Int) - 1 > 40 then (n.ks.foldl (fun g k => runS T fs 0 k g) g.emit).fail 3 else (n.ks.foldl (fun g k => runS T fs 0 k g) g.emit).emit := by
   unfold stepS
   rw [Int.toNat_natCast, hn]
   dsimp only
   rw [if_neg (fun h => h hg), if_neg k3, if_neg k4, if_neg k5, if_neg n6, if_neg n7, if_neg (by omega : ¬ (n.k = 12 ∨ n.k = 13)), if_pos k9]
   rfl
  have e2 : m.cd = 0 → runM T B (fm + 1) (i : Int) m = if (n.ks.length : Int) - 1 > 40 then ((n.ks.foldl (fun g k => runM T B fm k g) m.put).fail 3).put else (n.ks.foldl (fun g k => runM T B fm k g) m.put).put := fun hm => by
   show stepM T B (runM T B fm) (i : Int) m = _
   unfold stepM
   rw [if_neg (fun h => h hm), Int.toNat_natCast, hn]
   dsimp only
   rw [if_neg k3, if_neg k4, if_neg k5, if_neg n6, if_neg n7, if_neg (by omega : ¬ (n.k = 8 ∨ n.k = 10 ∨ n.k = 11)), if_pos k9]
  rw [e1]
  by_cases c : (n.ks.length : Int) - 1 > 40
  ·simp only [if_pos c] at e2 ⊢
   exact ⟨fin _ e2 (Q.bad (fail_cd (by decide)) (by rw [put_cd]; exact failM_cd (by decide))), Lim.bad (fail_cd (by decide))⟩
  ·simp only [if_neg c] at e2 ⊢
   exact ⟨fin _ e2 q1.emit, l1.emit⟩
 by_cases k2 : n.k = 12 ∨ n.k = 13
 ·match hks : n.ks, two k2 with
  | [x, y], _ =>
  have hx := hE x (by rw [hks]; simp)
  have hy := hE y (by rw [hks]; simp)
  rw [hks] at hb'
  have hsx : scP T fb x sn = sn := hS x (by rw [hks]; simp) sn
  obtain ⟨⟨bx1, bx2, _⟩, _⟩ := hb'
  rw [hsx] at bx2
  obtain ⟨q1, l1⟩ := hx fn rest nds bx g m sn q hl hf hp bx1 (hd' x (by rw [hks]; simp))
  obtain ⟨q2, l2⟩ := hy fn rest nds _ _ _ sn q1.emit l1.emit (fun h => by
   rw [← hf hg]
   exact flat_nd ((q1.emit.n h).trans (q.n hg).symm)) hp bx2 (hd' y (by rw [hks]; simp))
  have e1 : stepS T (runS T fs) 0 (i : Int) g = runS T fs 0 y (runS T fs 0 x g).emit := by
   unfold stepS
   rw [Int.toNat_natCast, hn]
   dsimp only
   rw [if_neg (fun h => h hg), if_neg k3, if_neg k4, if_neg k5, if_neg n6, if_neg n7, if_pos k2, hks]
   rfl
  have e2 : bxK (bxP T B fb · fn) (scP T fb) [x, y] sn bx = bxP T B fb y fn sn (bxP T B fb x fn sn bx) := by
   show bxP T B fb y fn (scP T fb x sn) _ = _
   rw [hsx]
  rw [e1, e2]
  refine ⟨fin _ (fun hm => ?_) q2, l2⟩
  show stepM T B (runM T B fm) (i : Int) m = _
  unfold stepM
  rw [if_neg (fun h => h hm), Int.toNat_natCast, hn]
  dsimp only
  rw [if_neg k3, if_neg k4, if_neg k5, if_neg n6, if_neg n7, if_neg (by omega : ¬ (n.k = 8 ∨ n.k = 10 ∨ n.k = 11)), if_neg k9, if_pos k2, hks]
  rfl
 ·have k8 : n.k = 8 ∨ n.k = 10 ∨ n.k = 11 := by omega
  obtain ⟨q1, l1⟩ := list bx g m sn q hl hf hp hb'.1 hd'
  have e1 : stepS T (runS T fs) 0 (i : Int) g = (n.ks.foldl (fun g k => runS T fs 0 k g) g).emit := by
   unfold stepS
   rw [Int.toNat_natCast, hn]
   dsimp only
   rw [if_neg (fun h => h hg), if_neg k3, if_neg k4, if_neg k5, if_neg n6, if_neg n7, if_neg k2, if_neg k9, if_pos k8]
   rfl
  rw [e1]
  refine ⟨fin _ (fun hm => ?_) q1.emit, l1.emit⟩
  show stepM T B (runM T B fm) (i : Int) m = _
  unfold stepM
  rw [if_neg (fun h => h hm), Int.toNat_natCast, hn]
  dsimp only
  rw [if_neg k3, if_neg k4, if_neg k5, if_neg n6, if_neg n7, if_pos k8]
end
section
variable {e : Bool} {B : Bd} {T : List Kn}
def ItOk (T : List Kn) (B : Bd) (e : Bool) (fs fm fb : Nat) (i : Int) : Prop :=
 ∀ (fn : Int) (rest : List Int) (nds : List (List Int)) (bx : List Bool) (g : SG) (m : MG) (sn : List Int), Q e B (fn :: rest) nds bx g m → Lim g → (g.cd = 0 → flatS g.fs = sn) → (∀ z ∈ sn, 0 ≤ z) → bokP T B fb i fn sn → (∀ f ∈ fn :: rest, f = -1 ∨ i < f) →
  Q e B (fn :: rest) nds (bxP T B fb i fn sn bx) (itemS T (runS T fs 0) g i) (itemM T (runM T B fm) m i) ∧ Lim (itemS T (runS T fs 0) g i)
theorem item_ok {fs fm fb i : Nat} {n : Kn} (hn : T[i]? = some n) (hk : n.k = 23 ∨ n.k = 24) (lo : ∀ k ∈ n.ks, k < (i : Int)) (hE : ∀ k ∈ n.ks, ExOk T B e fs fm fb k) (hS : ∀ k ∈ n.ks, ∀ sn, scP T fb k sn = sn) : ItOk T B e fs fm (fb + 1) (i : Int) := by
 intro fn rest nds bx g m sn q hl hf hp hb hd
 have hb' : bokK (bokP T B fb · fn) (scP T fb) n.ks sn := by
  have : bokP T B (fb + 1) (i : Int) fn sn = (bokK (bokP T B fb · (if n.k = 6 then (i : Int) else fn)) (scP T fb) n.ks sn ∧ bokN T B n (i : Int).toNat fn (n.ks.foldl (fun s k => scP T fb k s) sn)) := by
   show (match T[(i : Int).toNat]? with | some n => _ | none => _) = _
   rw [Int.toNat_natCast, hn]
  rw [this, if_neg (by omega)] at hb
  exact hb.1
 have ebx : bxP T B (fb + 1) (i : Int) fn sn bx = bxK (bxP T B fb · fn) (scP T fb) n.ks sn bx := by
  have : bxP T B (fb + 1) (i : Int) fn sn bx = bxN T B n (i : Int).toNat fn (n.ks.foldl (fun s k => scP T fb k s) sn) (bxK (bxP T B fb · (if n.k = 6 then (i : Int) else fn)) (scP T fb) n.ks sn bx) := by
   show (match T[(i : Int).toNat]? with | some n => _ | none => _) = _
   rw [Int.toNat_natCast, hn]
  rw [this, if_neg (by omega)]
  unfold bxN
  rw [if_neg (by omega)]
 have e1 : itemS T (runS T fs 0) g (i : Int) = (n.ks.foldl (fun g k => runS T fs 0 k g) (if n.k = 23 then g.emit.emit else g.emit)).emit := by
  unfold itemS
  rw [Int.toNat_natCast, hn]
 have e2 : itemM T (runM T B fm) m (i : Int) = (n.ks.foldl (fun g k => runM T B fm k g) (if n.k = 23 then m.put.put else m.put)).put := by
  unfold itemM
  rw [Int.toNat_natCast, hn]
 rw [ebx, e1, e2]
 have start : ∀ (g0 : SG) (m0 : MG), g0.cd = g.cd → Q e B (fn :: rest) nds bx g0 m0 → Lim g0 → Q e B (fn :: rest) nds (bxK (bxP T B fb · fn) (scP T fb) n.ks sn bx) (n.ks.foldl (fun g k => runS T fs 0 k g) g0).emit (n.ks.foldl (fun g k => runM T B fm k g) m0).put ∧ Lim (n.ks.foldl (fun g k => runS T fs 0 k g) g0).emit := fun g0 m0 hc q0 l0 => by
  obtain ⟨q1, l1⟩ := ex_list (fn := fn) (rest := rest) (nds := nds) (fs := fs) (fm := fm) (fb := fb) (B := B) (e := e) n.ks hE hS bx g0 m0 sn q0 l0 (fun h => by
   have hg : g.cd = 0 := by rw [← hc]; exact h
   rw [← hf hg]
   exact flat_nd ((q0.n h).trans (q.n hg).symm)) hp hb' (fun k hk f hf => (hd f hf).imp id fun h => Int.lt_trans (lo k hk) h)
  exact ⟨q1.emit, l1.emit⟩
 by_cases c : n.k = 23
 ·rw [if_pos c, if_pos c]
  exact start g.emit.emit m.put.put rfl q.emit.emit hl.emit.emit
 ·rw [if_neg c, if_neg c]
  exact start g.emit m.put rfl q.emit hl.emit
end
section
variable {e : Bool} {B : Bd} {T : List Kn} {fn : Int} {rest : List Int} {nds : List (List Int)}
theorem itemS_bad {f : Nat} {g : SG} {x : Int} (h : bad g) : bad (itemS T (runS T f 0) g x) := h.item (runS_bad f 0)
theorem it_list {fs fm fb : Nat} : ∀ (l : List Int), (∀ k ∈ l, ItOk T B e fs fm fb k) → (∀ k ∈ l, ∀ sn, scP T fb k sn = sn) → ∀ (bx : List Bool) (g : SG) (m : MG) (sn : List Int), Q e B (fn :: rest) nds bx g m → Lim g → (g.cd = 0 → flatS g.fs = sn) → (∀ z ∈ sn, 0 ≤ z) →
  bokK (bokP T B fb · fn) (scP T fb) l sn → (∀ k ∈ l, ∀ f ∈ fn :: rest, f = -1 ∨ k < f) → Q e B (fn :: rest) nds (bxK (bxP T B fb · fn) (scP T fb) l sn bx) (l.foldl (itemS T (runS T fs 0)) g) (l.foldl (itemM T (runM T B fm)) m) ∧ Lim (l.foldl (itemS T (runS T fs 0)) g)
 | [], _, _, bx, g, m, sn, q, hl, _, _, _, _ => ⟨q, hl⟩
 | k :: l, hE, hS, bx, g, m, sn, q, hl, hf, hp, hb, hd => by
  obtain ⟨q1, l1⟩ := hE k (by simp) fn rest nds bx g m sn q hl hf hp hb.1 (hd k (by simp))
  have hs := hS k (by simp) sn
  have hb2 := hb.2
  rw [hs] at hb2
  have := it_list l (fun k hk => hE k (by simp [hk])) (fun k hk => hS k (by simp [hk])) _ _ _ sn q1 l1 (fun h => by
   by_cases hg : g.cd = 0
   ·rw [← hf hg]
    exact flat_nd ((q1.n h).trans (q.n hg).symm)
   ·exact absurd h (itemS_bad hg)) hp hb2 (fun k hk => hd k (by simp [hk]))
  rw [List.foldl_cons, List.foldl_cons]
  unfold bxK
  rw [hs]
  exact this
theorem ex_table {fs fm fb i : Nat} {n : Kn} (hn : T[i]? = some n) (hk : n.k = 7) (lo : ∀ k ∈ n.ks, k < (i : Int)) (hE : ∀ k ∈ n.ks, ItOk T B e fs fm fb k) (hS : ∀ k ∈ n.ks, ∀ sn, scP T fb k sn = sn) : ExOk T B e (fs + 1) (fm + 1) (fb + 1) (i : Int) := by
 intro fn rest nds bx g m sn q hl hf hp hb hd
 by_cases hg : g.cd = 0
 case neg =>
  have h1 : (runS T (fs + 1) 0 (i : Int) g).cd ≠ 0 := runS_bad _ _ _ _ hg
  have hm : m.cd ≠ 0 := fun h => hg (q.a h)
  exact ⟨Q.bad h1 (by rw [runM_bad hm]; exact hm), Lim.bad h1⟩
 have hb' : bokK (bokP T B fb · fn) (scP T fb) n.ks sn := by
  have : bokP T B (fb + 1) (i : Int) fn sn = (bokK (bokP T B fb · (if n.k = 6 then (i : Int) else fn)) (scP T fb) n.ks sn ∧ bokN T B n (i : Int).toNat fn (n.ks.foldl (fun s k => scP T fb k s) sn)) := by
   show (match T[(i : Int).toNat]? with | some n => _ | none => _) = _
   rw [Int.toNat_natCast, hn]
  rw [this, if_neg (by omega)] at hb
  exact hb.1
 have ebx : bxP T B (fb + 1) (i : Int) fn sn bx = bxK (bxP T B fb · fn) (scP T fb) n.ks sn bx := by
  have : bxP T B (fb + 1) (i : Int) fn sn bx = bxN T B n (i : Int).toNat fn (n.ks.foldl (fun s k => scP T fb k s) sn) (bxK (bxP T B fb · (if n.k = 6 then (i : Int) else fn)) (scP T fb) n.ks sn bx) := by
   show (match T[(i : Int).toNat]? with | some n => _ | none => _) = _
   rw [Int.toNat_natCast, hn]
  rw [this, if_neg (by omega)]
  unfold bxN
  rw [if_neg (by omega)]
 have e1 : runS T (fs + 1) 0 (i : Int) g = n.ks.foldl (itemS T (runS T fs 0)) g.emit := by
  show stepS T (runS T fs) 0 (i : Int) g = _
  unfold stepS
  rw [Int.toNat_natCast, hn]
  dsimp only
  rw [if_neg (fun h => h hg), if_neg (by omega), if_neg (by omega), if_neg (by omega), if_neg (by omega), if_pos hk]
  rfl
 rw [ebx, e1]
 obtain ⟨q1, l1⟩ := it_list (fn := fn) (rest := rest) (nds := nds) (fs := fs) (fm := fm) (fb := fb) (B := B) (e := e) n.ks hE hS bx g.emit m.put sn q.emit hl.emit (fun h => by
  rw [← hf hg]
  exact flat_nd ((q.emit.n h).trans (q.n hg).symm)) hp hb' (fun k hk f hf => (hd f hf).imp id fun h => Int.lt_trans (lo k hk) h)
 refine ⟨?_, l1⟩
 by_cases hm : m.cd = 0
 ·have e2 : runM T B (fm + 1) (i : Int) m = n.ks.foldl (itemM T (runM T B fm)) m.put := by
   show stepM T B (runM T B fm) (i : Int) m = _
   unfold stepM
   rw [if_neg (fun h => h hm), Int.toNat_natCast, hn]
   dsimp only
   rw [if_neg (by omega), if_neg (by omega), if_neg (by omega), if_neg (by omega), if_pos hk]
  rw [e2]; exact q1
 ·rw [runM_bad hm]; exact q.drop hg hm q1
end
section
variable {e : Bool} {B : Bd} {fns : List Int} {i : Int} {nd : List Int} {nds : List (List Int)} {bx : List Bool} {g : SG} {m : MG}
theorem Q.push (q : Q e B fns nds bx g m) (hi : i ∉ fns) : Q e B (i :: fns) ([] :: nds) bx { g with fs := ⟨[], [], [], 0⟩ :: g.fs } { m with fs := ⟨i, [], [], 0⟩ :: m.fs } :=
 ⟨q.a, q.b, fun h => ⟨(fun z hz => by cases hz), (fun z hz => by cases hz), hi, q.i h⟩, q.x, q.y, fun h => ⟨rfl, rfl, Nat.le_refl _, fun _ => rfl, q.r h⟩, fun h => congrArg (i :: ·) (q.f h), q.t, fun h => congrArg ([] :: ·) (q.n h), q.z⟩
theorem Q.pop (q : Q e B (i :: fns) (nd :: nds) bx g m) : Q e B fns nds bx { g with fs := g.fs.tail } { m with fs := m.fs.tail } := by
 refine ⟨q.a, q.b, fun h => ?_, q.x, q.y, fun h => ?_, fun h => ?_, q.t, fun h => ?_, q.z⟩
 ·have := q.i h
  cases e1 : g.fs with
  | nil => rw [e1] at this; exact this.elim
  | cons F R => rw [e1] at this; exact this.2.2.2
 ·have := q.r h
  cases e1 : g.fs with
  | nil =>
   rw [e1] at this
   cases e2 : m.fs with
   | nil => trivial
   | cons M Ms => rw [e2] at this; exact this.elim
  | cons F R =>
   rw [e1] at this
   cases e2 : m.fs with
   | nil => rw [e2] at this; exact this.elim
   | cons M Ms => rw [e2] at this; exact this.2.2.2.2
 ·have := q.f h
  cases e2 : m.fs with
  | nil => rw [e2] at this; cases this
  | cons M Ms =>
   rw [e2] at this
   simp only [List.map_cons, List.cons.injEq] at this
   exact this.2
 ·have := q.n h
  cases e1 : g.fs with
  | nil => rw [e1] at this; cases this
  | cons F R =>
   rw [e1] at this
   simp only [List.map_cons, List.cons.injEq] at this
   exact this.2
theorem Lim.push (h : Lim g) : Lim { g with fs := ⟨[], [], [], 0⟩ :: g.fs } := fun k => ⟨fun F hF => by
 rcases List.mem_cons.1 hF with h1 | h1
 ·subst h1; exact Nat.zero_le _
 ·exact (h k).1 F h1, (h k).2⟩
theorem Lim.pop (h : Lim g) : Lim { g with fs := g.fs.tail } := fun k => ⟨fun F hF => (h k).1 F (List.mem_of_mem_tail hF), (h k).2⟩
end
section
variable {e : Bool} {B : Bd} {fns : List Int} {i : Int} {nds : List (List Int)} {bx : List Bool}
theorem pars : ∀ (l : List Int) (nd : List Int) (g : SG) (m : MG), Q e B (i :: fns) (nd :: nds) bx g m → Lim g → (∀ k ∈ l, B.ow.getD k.toNat 0 = i) →
  Q e B (i :: fns) ((nd ++ l) :: nds) bx (l.foldl (fun g k => if g.cd = 0 then (localS k g).1 else g) g) (l.foldl (fun g k => localM k g) m) ∧ Lim (l.foldl (fun g k => if g.cd = 0 then (localS k g).1 else g) g)
 | [], nd, g, m, q, hl, _ => ⟨by rw [List.append_nil]; exact q, hl⟩
 | k :: l, nd, g, m, q, hl, ho => by
  rw [List.foldl_cons, List.foldl_cons]
  have keepS : ∀ (l : List Int) (a : SG), bad a → bad (l.foldl (fun g k => if g.cd = 0 then (localS k g).1 else g) a) := fold_keep fun a b ha => by
   rw [if_neg ha]; exact ha
  have keepM : ∀ (l : List Int) (a : MG), a.cd ≠ 0 → (l.foldl (fun g k => localM k g) a).cd ≠ 0 := fold_keep (P := fun a : MG => a.cd ≠ 0) fun a b ha => localM_bad ha
  by_cases hg : g.cd = 0
  ·rw [if_pos hg]
   rcases q.local hg hl k (ho k (by simp)) with ⟨_, h1, h2⟩ | ⟨_, _, l1, q1⟩
   ·exact ⟨Q.bad (keepS l _ h1) (keepM l _ h2), Lim.bad (keepS l _ h1)⟩
   ·have := pars l (nd ++ [k]) _ _ q1 l1 fun z hz => ho z (by simp [hz])
    rw [List.append_assoc] at this
    exact this
  ·rw [if_neg hg]
   have hm : m.cd ≠ 0 := fun h => hg (q.a h)
   exact ⟨Q.bad (keepS l _ hg) (keepM l _ (localM_bad hm)), Lim.bad (keepS l _ hg)⟩
theorem boxes : ∀ (l : List Int) (g : SG) (m : MG), Q e B fns nds bx g m → Lim g →
  Q e B fns nds bx (l.foldl (fun g k => if g.cd = 0 ∧ g.bx.getD k.toNat false = true then g.emit else g) g) (l.foldl (fun g k => if B.bx.getD k.toNat false = true ∧ g.cd = 0 then g.put else g) m) ∧ Lim (l.foldl (fun g k => if g.cd = 0 ∧ g.bx.getD k.toNat false = true then g.emit else g) g)
 | [], g, m, q, hl => ⟨q, hl⟩
 | k :: l, g, m, q, hl => by
  rw [List.foldl_cons, List.foldl_cons]
  refine boxes l _ _ ?_ ?_
  ·by_cases hg : g.cd = 0
   ·have qb := q.box hg k.toNat
    have e1 : (if g.cd = 0 ∧ g.bx.getD k.toNat false = true then g.emit else g) = if g.bx.getD k.toNat false = true then g.emit else g := by
     by_cases c : g.bx.getD k.toNat false = true
     ·rw [if_pos ⟨hg, c⟩, if_pos c]
     ·rw [if_neg (fun h => c h.2), if_neg c]
    rw [e1]
    by_cases hm : m.cd = 0
    ·have e2 : (if B.bx.getD k.toNat false = true ∧ m.cd = 0 then m.put else m) = if B.bx.getD k.toNat false = true then m.put else m := by
      by_cases c : B.bx.getD k.toNat false = true
      ·rw [if_pos ⟨c, hm⟩, if_pos c]
      ·rw [if_neg (fun h => c h.1), if_neg c]
     rw [e2]; exact qb
    ·have e3 : (if B.bx.getD k.toNat false = true ∧ m.cd = 0 then m.put else m) = m := if_neg fun h => hm h.2
     rw [e3]
     exact q.drop hg hm qb
   ·have hm : m.cd ≠ 0 := fun h => hg (q.a h)
    rw [if_neg (fun h => hg h.1), if_neg (fun h => hm h.2)]
    exact q
  ·split
   ·exact hl.emit
   ·exact hl
end
end Go.Proofs.Ytadmoackacickaa
