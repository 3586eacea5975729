import Derived.Test.YtadmoackacickaaXAK
set_option linter.unusedSimpArgs false
set_option linter.unusedVariables false
/- The reference's compiler in the heap: a local. -/
namespace Go.Proofs.Ytadmoackacickaa
open Go Go.AH
open Go.AM (Rs)
section
variable {b : Nat} {g : AHeap} {O : List AM.ORow} {M : List AM.MRow} {fi frt : Nat} {rs : List FRw} {R : List CF} {jk cells : List Value}
theorem stC (y : AM.Cx b g [] O M) (n : Nat) (e : O[n]? = some ⟨fi, frt, 195, true, fsC rs R ++ cells ++ jk⟩) (hl : (fsC rs R).length = R.length * 9) (h9 : cells.length = 9) {m : Nat} (hm : m < 9) {v : Value} (hv : aCells v = some [v]) :
  ∃ g', aSt g (ptr fi (R.length * 9 + m)) v 1 = some g' ∧ AM.Ext b g g' ∧ AM.Cx b g' [] (O.set n ⟨fi, frt, 195, true, fsC rs R ++ cells.set m v ++ jk⟩) M := by
 have hc : (fsC rs R ++ cells ++ jk).length = R.length * 9 + 9 + jk.length := by
  rw [List.length_append, List.length_append, hl, h9]
 obtain ⟨g', c1, E, y1, _⟩ := y.st n (off := R.length * 9 + m) (m := 1) (vs := [v]) (v := v) e hv rfl (by omega)
 refine ⟨g', c1, E, ?_⟩
 have es : splice (fsC rs R ++ cells ++ jk) (R.length * 9 + m) [v] = fsC rs R ++ cells.set m v ++ jk := by
  rw [← hl]
  exact spl (A := fsC rs R) (B := cells) (J := jk) (v := v) (by omega)
 rw [es] at y1
 exact y1
theorem fsS_get (hl : (fsC rs R).length = R.length * 9) (h9 : cells.length = 9) {m : Nat} (hm : m < 9) : (fsC rs R ++ cells ++ jk)[R.length * 9 + m]? = cells[m]? := by
 rw [List.append_assoc, List.getElem?_append_right (by omega), hl, Nat.add_sub_cancel_left, List.getElem?_append_left (by omega)]
end
section
variable {c : Cn} {Q : List AM.ORow} {s : SG} {h g : AHeap} {W : WS}
theorem slcC (i n : Nat) : aCells (slc i 0 n) = some [slc i 0 n] := rfl
theorem slcV (i n : Nat) : vbeq (slc i 0 n) (slc i 0 n) = true := by simp [vbeq, vbeq1, slc]
theorem txAt {T : List Kn} {i : Nat} {n : Kn} (h : T[i]? = some n) : tx T (i : Int) = n.t := by
 unfold tx
 rw [Int.toNat_natCast, h]
theorem u177 {e i : Nat} {n : Kn} (ok : c.Ok) (q : SpM c Q s h) (hfs : s.fs ≠ []) (hb : Bs 10000000 s) (hn : c.T[i]? = some n) : Rs (fun v g => v = .bool (localS (i : Int) s).2 ∧ SpM c Q (localS (i : Int) s).1 g) (call Tp Ms (e + 2) 177 [ptr c.G 0, .int .i64 (i : Int)] h) := by
 have q0 := q
 obtain ⟨⟨wn, ⟨fi, frt, flv⟩, ou, tx', rs, jk, oc, nd⟩, P, hwn, hq, q⟩ := q
 obtain ⟨fs, sbx, ts, cd⟩ := s
 cases fs with
 | nil => exact absurd rfl hfs
 | cons F R =>
 cases rs with
 | nil => exact q.k.elim
 | cons r rs =>
 obtain ⟨pr, pu, rcd, nm, rnd, up, ow, uc, cc⟩ := r
 dsimp only at hwn
 subst hwn
 have hR : R.length ≤ 100000000 := by have := hb.n; simp only [List.length_cons] at this; omega
 have hF := hb.f F (by simp)
 have hown := hF.own
 have hnd := hF.nd
 have ix := q.ixF rfl
 have len := q.len
 have k := q.k
 have y := q.y
 have pf := q.p
 dsimp only at ix len k y pf
 obtain ⟨ix, hlv⟩ := ix
 subst hlv
 have how : (ints F.own).length = F.own.length := by simp [ints]
 have hnd2 : (ints F.nd).length = F.nd.length := by simp [ints]
 have hnm : (strs (F.nd.map (tx c.T))).length = F.nd.length := by simp [strs]
 have hl := k.2.2.len
 obtain ⟨tq, kv, t1, kd, t2⟩ := ok.tr.at' i n hn
 have ld8 := y.ldS 1 (r := ⟨fi, frt, true⟩) (k := R.length * 9 + 8) rfl ((fsC_get k (by decide)).trans rfl)
 have len8 := y.len 8 (r := ow) (e := 3) (cs := ints F.own) (k := F.own.length) (esz := 1) rfl (by omega) (by decide)
 rw [c177, e177]
 refine Rs.b rfl (Rs.b rfl (Rs.b (y.ldO 0 2 rfl rfl) (Rs.b len (Rs.b rfl (Rs.b rfl (Rs.b rfl (Rs.b (y.ldO 0 2 rfl rfl) ?_)))))))
 rw [List.length_cons, wp _ hR]
 refine Rs.b ix (Rs.b rfl (Rs.b ld8 (Rs.b len8 (Rs.b rfl (Rs.i (fun hge => ?_) (fun hlt => ?_))))))
 ·refine Rs.c (u180 q0 3 (i : Int)) fun v g hv => ?_
  have e1 : localS (i : Int) ⟨F :: R, sbx, ts, cd⟩ = (SG.fail ⟨F :: R, sbx, ts, cd⟩ 3, false) := by
   unfold localS
   dsimp only
   rw [if_pos (by omega)]
  rw [e1]
  exact Rs.fin ⟨rfl, hv.2⟩
 have e1 : localS (i : Int) ⟨F :: R, sbx, ts, cd⟩ = (⟨{ F with own := F.own ++ [(i : Int)], nd := F.nd ++ [(i : Int)] } :: R, sbx, ts, cd⟩, true) := by
  unfold localS
  dsimp only
  rw [if_neg (by omega)]
 rw [e1]
 refine Rs.b rfl (Rs.b rfl (Rs.b (y.ldO 0 2 rfl rfl) (Rs.b rfl (Rs.b rfl (Rs.b (y.ldO 0 2 rfl rfl) (Rs.b ix (Rs.b rfl (Rs.b ld8 (Rs.ns y fun p1 g1 E1 y1 => ?_)))))))))
 refine Rs.b (ag (y1.ldO 1 2 rfl rfl) (AM.SR.vb _ _)) (Rs.ct rfl (Rs.b (ag (y1.ldO 1 2 rfl rfl) (AM.SR.vb _ _)) (Rs.ct rfl (Rs.b (ag (y1.ldS 2 (r := ⟨fi, frt, true⟩) (k := R.length * 9 + 8) rfl ((fsC_get k (by decide)).trans rfl)) (AM.SR.vb _ _)) (Rs.ct rfl ?_)))))
 obtain ⟨ow', g2, a2, hl2, E2, y2⟩ := y1.apS 9 (r := ow) (n' := F.own.length) (m := 1) (esz := 1) (bytes := 8) (t := 3) rfl (srcN y1 0 (k := 1) (esz := 1) rfl rfl) (by decide) (by decide) (by rw [how]; omega) (by show _ ≤ 140737488355328; omega) (by show _ ≤ 140737488355328; omega)
 rw [show (ints F.own).take (F.own.length * 1) = ints F.own from List.take_of_length_le (by omega)] at y2
 refine Rs.b a2 (Rs.b (ag (y2.ldO 1 2 rfl rfl) (AM.SR.vb _ _)) (Rs.ct rfl (Rs.b ix (Rs.b rfl ?_))))
 obtain ⟨g3, a3, E3, y3⟩ := stF y2 2 (r := ⟨pr, pu, rcd, nm, rnd, up, ow, uc, cc⟩) (F := F) rfl k (m := 8) (by decide) (srCells ow' (F.own.length + 1))
 have y4 := y3.pick (List.sublist_cons_self _ _)
 have h9a : ((FRw.cells ⟨pr, pu, rcd, nm, rnd, up, ow, uc, cc⟩ F).set 8 (ow'.val (F.own.length + 1))).length = 9 := by rw [List.length_set]; rfl
 refine Rs.b a3 (Rs.b rfl (Rs.b rfl (Rs.b (y4.ldO 0 2 rfl rfl) (Rs.ns y4 fun p5 g5 E5 y5 => ?_))))
 have ld4 := y5.ldS 2 (r := ⟨fi, frt, true⟩) (k := R.length * 9 + 4) rfl ((fsS_get hl h9a (by decide)).trans rfl)
 have E5' := (((q.E.trans E1).trans E2).trans E3).trans E5
 refine Rs.b rfl (Rs.b rfl (Rs.b (y5.ldO 1 2 rfl rfl) (Rs.b ix (Rs.b rfl (Rs.b ld4 (Rs.b rfl (Rs.b rfl (Rs.b rfl (Rs.b (y5.ldO 1 0 rfl rfl) (Rs.b t1 (Rs.b rfl (Rs.b (t2 g5 E5').2.2.1 (Rs.b rfl (Rs.ns y5 fun p6 g6 E6 y6 => ?_))))))))))))))
 obtain ⟨j7, g7, a7, E7, y7⟩ := y6.appT 1 (n' := 0) (m := F.nd.length) (esz := 1) (bytes := 16) rfl (pf.1.src y6 (fun x hx => List.mem_cons_of_mem _ (List.mem_cons_of_mem _ (List.mem_cons_of_mem _ (List.mem_cons_of_mem _ (List.mem_cons_of_mem _ (List.mem_cons_of_mem _ (List.mem_cons_of_mem _ (List.mem_cons_of_mem _ (List.mem_cons_of_mem _ (List.mem_cons_of_mem _ (List.mem_cons_of_mem _ (List.mem_append_right _ hx)))))))))))) hnm) (by decide) (by show _ ≤ 140737488355328; omega) (by show _ ≤ 140737488355328; omega)
 rw [show ([] : List Value).take (0 * 1) ++ strs (F.nd.map (tx c.T)) = strs (F.nd.map (tx c.T)) from rfl] at y7
 have E7' := (E5'.trans E6).trans E7
 refine Rs.b a7 (Rs.b (ag (y7.ldO 2 2 rfl rfl) (AM.SR.vb _ _)) (Rs.ct rfl (Rs.b (ag (y7.ldO 2 0 rfl rfl) ok.tr.vb) (Rs.ct rfl (Rs.b (agS' (t2 g7 E7').2.2.1) (Rs.ct rfl ?_))))))
 obtain ⟨j8, g8, a8, E8, y8⟩ := y7.appT 1 (n' := 0 + F.nd.length) (m := 1) (esz := 1) (bytes := 16) rfl (srcN y7 0 (k := 1) (esz := 1) rfl rfl) (by rw [hnm]; omega) (by show _ ≤ 140737488355328; omega) (by show _ ≤ 140737488355328; omega)
 rw [show (strs (F.nd.map (tx c.T))).take ((0 + F.nd.length) * 1) = strs (F.nd.map (tx c.T)) from List.take_of_length_le (by omega)] at y8
 refine Rs.b a8 (Rs.b (ag (y8.ldO 2 2 rfl rfl) (AM.SR.vb _ _)) (Rs.ct rfl (Rs.b ix (Rs.b rfl ?_))))
 obtain ⟨g9, a9, E9, y9⟩ := stC y8 3 (fi := fi) (frt := frt) (rs := rs) (R := R) (jk := jk) rfl hl h9a (m := 4) (by decide) (slcC j8 (0 + F.nd.length + 1))
 have h9b : (((FRw.cells ⟨pr, pu, rcd, nm, rnd, up, ow, uc, cc⟩ F).set 8 (ow'.val (F.own.length + 1))).set 4 (slc j8 0 (0 + F.nd.length + 1))).length = 9 := by rw [List.length_set]; exact h9a
 refine Rs.b a9 (Rs.b rfl (Rs.b rfl (Rs.b (y9.ldO 2 2 rfl rfl) (Rs.ns y9 fun pa ga Ea ya => ?_))))
 have ld5 := ya.ldS 4 (r := ⟨fi, frt, true⟩) (k := R.length * 9 + 5) rfl ((fsS_get hl h9b (by decide)).trans rfl)
 refine Rs.b rfl (Rs.b rfl (Rs.b (ya.ldO 3 2 rfl rfl) (Rs.b ix (Rs.b rfl (Rs.b ld5 (Rs.ns ya fun pb gb Eb yb => ?_))))))
 obtain ⟨jc, gc, ac, Ec, yc⟩ := yb.appT 1 (n' := 0) (m := F.nd.length) (esz := 1) (bytes := 8) rfl (pf.2.1.src yb (fun x hx => List.mem_cons_of_mem _ (List.mem_cons_of_mem _ (List.mem_cons_of_mem _ (List.mem_cons_of_mem _ (List.mem_cons_of_mem _ (List.mem_cons_of_mem _ (List.mem_cons_of_mem _ (List.mem_cons_of_mem _ (List.mem_cons_of_mem _ (List.mem_cons_of_mem _ (List.mem_cons_of_mem _ (List.mem_cons_of_mem _ (List.mem_cons_of_mem _ (List.mem_append_right _ hx)))))))))))))) hnd2) (by decide) (by show _ ≤ 140737488355328; omega) (by show _ ≤ 140737488355328; omega)
 rw [show ([] : List Value).take (0 * 1) ++ ints F.nd = ints F.nd from rfl] at yc
 refine Rs.b ac (Rs.b (ag (yc.ldO 4 2 rfl rfl) (AM.SR.vb _ _)) (Rs.ct rfl ?_))
 obtain ⟨jd, gd, ad, Ed, yd⟩ := yc.appT 1 (n' := 0 + F.nd.length) (m := 1) (esz := 1) (bytes := 8) rfl (srcN yc 0 (k := 1) (esz := 1) rfl rfl) (by rw [hnd2]; omega) (by show _ ≤ 140737488355328; omega) (by show _ ≤ 140737488355328; omega)
 rw [show (ints F.nd).take ((0 + F.nd.length) * 1) = ints F.nd from List.take_of_length_le (by omega)] at yd
 refine Rs.b ad (Rs.b (ag (yd.ldO 4 2 rfl rfl) (AM.SR.vb _ _)) (Rs.ct rfl (Rs.b ix (Rs.b rfl ?_))))
 obtain ⟨ge, ae, Ee, ye⟩ := stC yd 5 (fi := fi) (frt := frt) (rs := rs) (R := R) (jk := jk) rfl hl h9b (m := 5) (by decide) (slcC jd (0 + F.nd.length + 1))
 refine Rs.b ae ?_
 have E := (((((((E7'.trans E8).trans E9).trans Ea).trans Eb).trans Ec).trans Ed).trans Ee)
 have k2 : FsOk (⟨pr, pu, rcd, ⟨j8, p5, true⟩, ⟨jd, pa, true⟩, up, ow', uc, cc⟩ :: rs) ({ F with own := F.own ++ [(i : Int)], nd := F.nd ++ [(i : Int)] } :: R) := k
 have hlo : (F.own ++ [(i : Int)]).length = F.own.length + 1 := by simp
 have hln : (F.nd ++ [(i : Int)]).length = F.nd.length + 1 := by simp
 have eo : ints (F.own ++ [(i : Int)]) = ints F.own ++ [.int .i64 (i : Int)] := by simp [ints]
 have en : ints (F.nd ++ [(i : Int)]) = ints F.nd ++ [.int .i64 (i : Int)] := by simp [ints]
 have em : strs ((F.nd ++ [(i : Int)]).map (tx c.T)) = strs (F.nd.map (tx c.T)) ++ [.string n.t] := by simp [strs, txAt hn]
 refine Rs.fin ⟨rfl, ⟨R.length + 1, ⟨fi, frt, true⟩, ou, tx', ⟨pr, pu, rcd, ⟨j8, p5, true⟩, ⟨jd, pa, true⟩, up, ow', uc, cc⟩ :: rs, jk, oc, nd⟩, ⟨j8, p5, 9, true, strs ((F.nd ++ [(i : Int)]).map (tx c.T))⟩ :: ⟨jd, pa, 3, true, ints (F.nd ++ [(i : Int)])⟩ :: P, rfl, fun x hx => List.mem_cons_of_mem _ (List.mem_cons_of_mem _ (hq hx)), ⟨?_, E, k2, q.o, q.n, ⟨⟨fun _ => List.mem_cons_self, fun h => by cases h⟩, ⟨fun _ => List.mem_cons_of_mem _ List.mem_cons_self, fun h => by cases h⟩, pf.2.2.mono fun x hx => List.mem_cons_of_mem _ (List.mem_cons_of_mem _ hx)⟩, fun x hx => hx⟩⟩
 show AM.Cx c.b ge [] (⟨c.G, c.G, 167, true, gC c ⟨R.length + 1, ⟨fi, frt, true⟩, ou, tx', rs, jk, oc, nd⟩ ⟨F :: R, sbx, ts, cd⟩⟩ :: AM.SR.row ⟨fi, frt, true⟩ 195 (fsC rs R ++ [.int .i64 pr, .int .i64 0, pu.val F.up.length, rcd.val F.ln, slc j8 0 (F.nd ++ [(i : Int)]).length, slc jd 0 (F.nd ++ [(i : Int)]).length, up.val F.up.length, .slice none 0 0, ow'.val (F.own ++ [(i : Int)]).length] ++ jk) :: c.bx.row 4 (bls sbx) :: ou.row 173 oc :: tx'.row 9 (strs ts) :: pu.row 219 uc :: rcd.row 206 cc :: up.row 3 (ints F.up) :: ow'.row 3 (ints (F.own ++ [(i : Int)])) :: (fsR c.T rs R ++ (⟨j8, p5, 9, true, strs ((F.nd ++ [(i : Int)]).map (tx c.T))⟩ :: ⟨jd, pa, 3, true, ints (F.nd ++ [(i : Int)])⟩ :: P))) []
 rw [hlo, hln, eo, en, em]
 rw [Nat.zero_add] at ye
 have yf := ye.pick (O' := ⟨jd, pa, 3, true, ints F.nd ++ [.int .i64 (i : Int)]⟩ :: ⟨j8, p5, 9, true, strs (F.nd.map (tx c.T)) ++ [.string n.t]⟩ :: (([⟨c.G, c.G, 167, true, gC c ⟨R.length + 1, ⟨fi, frt, true⟩, ou, tx', rs, jk, oc, nd⟩ ⟨F :: R, sbx, ts, cd⟩⟩, AM.SR.row ⟨fi, frt, true⟩ 195 (fsC rs R ++ [.int .i64 pr, .int .i64 0, pu.val F.up.length, rcd.val F.ln, slc j8 0 (F.nd.length + 1), slc jd 0 (F.nd.length + 1), up.val F.up.length, .slice none 0 0, ow'.val (F.own.length + 1)] ++ jk), c.bx.row 4 (bls sbx), ou.row 173 oc, tx'.row 9 (strs ts), pu.row 219 uc, rcd.row 206 cc, up.row 3 (ints F.up), ow'.row 3 (ints F.own ++ [.int .i64 (i : Int)])] ++ fsR c.T rs R) ++ P))
  (.cons _ (.cons_cons _ (.cons _ (.cons_cons _ (List.Sublist.refl _)))))
 refine yf.perm ?_
 refine (List.Perm.swap _ _ _).trans ?_
 exact (List.Perm.cons _ List.perm_middle.symm).trans List.perm_middle.symm
end
open Go.AM (Rs)
theorem l235 {C : ACall} {N : Nat} {t : BA} {i : Nat} {h : AHeap} {xs : List BA} (r : AM.Row h i (strs xs)) (hx : xs.length ≤ 1000) : ∀ (k j m : Nat), xs.length - j = k → j ≤ xs.length → 1 ≤ j → k < m →
  Rs (fun v g => ∃ z : Int, v = .int .i64 z ∧ g = h ∧ (0 < z ↔ ((xs.drop j).any fun s => s.toList == t.toList) = true)) (s235_0 hk0 C N m t (slc i 0 xs.length) (j : Int) h) := by
 intro k
 induction k with
 | zero =>
  intro j m hk hj h1 hm
  obtain ⟨m, rfl⟩ : ∃ q, m = q + 1 := ⟨m - 1, by omega⟩
  rw [s235_0_eq, List.drop_eq_nil_of_le (by omega)]
  exact Rs.b rfl (Rs.b rfl (Rs.cf (decide_eq_false (by omega)) (Rs.fin ⟨0, rfl, rfl, by simp⟩)))
 | succ k ih =>
  intro j m hk hj h1 hm
  obtain ⟨m, rfl⟩ : ∃ q, m = q + 1 := ⟨m - 1, by omega⟩
  have hlt : j < xs.length := by omega
  have ix : aIdx (slc i 0 xs.length) (.int .i64 (j : Int)) 1 = some (ptr i j) := by simp [aIdx, slc, hlt]
  have ld : aLd1 h (ptr i j) = some (.string xs[j]) := r.ld1 (by simp [strs, hlt])
  rw [s235_0_eq, List.drop_eq_getElem_cons hlt]
  refine Rs.b rfl (Rs.b rfl (Rs.ct (decide_eq_true (by omega)) (Rs.b ix (Rs.b ld (Rs.b rfl ?_)))))
  by_cases hc : (xs[j].toList == t.toList) = true
  ·exact Rs.ct hc (Rs.fin ⟨j, rfl, rfl, ⟨fun _ => by rw [List.any_cons, hc, Bool.true_or], fun _ => by omega⟩⟩)
  ·refine Rs.cf (Bool.eq_false_iff.2 hc) ?_
   rw [wq (by omega) (by omega), show ((j : Int) + 1) = ((j + 1 : Nat) : Int) by omega]
   refine (ih (j + 1) m (by omega) (by omega) (by omega) (by omega)).mono fun v g ⟨z, a, b, d⟩ => ⟨z, a, b, ?_⟩
   rw [d, List.any_cons, Bool.eq_false_iff.2 hc, Bool.false_or]
theorem u235 {e : Nat} {t : BA} {h : AHeap} (he : 30 ≤ e) : Rs (fun v g => ∃ z : Int, v = .int .i64 z ∧ AM.Ext h.size h g ∧ (0 < z ↔ isLib t = true)) (call Tp Ms (e + 1) 235 [.string t] h) := by
 obtain ⟨e, rfl⟩ : ∃ q, e = q + 1 := ⟨e - 1, by omega⟩
 have c240' : call Tp Ms (e + 1) 240 [] h = some (slc h.size 0 (⟨#[]⟩ :: libB).length, h.new 9 (strs (⟨#[]⟩ :: libB))) := by
  rw [c240, e240]; rfl
 have E1 := AM.Ext.new (Nat.le_refl h.size) 9 (strs (⟨#[]⟩ :: libB))
 have r1 : AM.Row (h.new 9 (strs (⟨#[]⟩ :: libB))) h.size (strs (⟨#[]⟩ :: libB)) := ⟨_, at?_new_same h 9 _, rfl⟩
 rw [c235, e235]
 refine Rs.b c240' ?_
 show Rs _ (s235_0 hk0 (call Tp Ms (e + 1)) (e + 1) (e + 1) t (slc h.size 0 (⟨#[]⟩ :: libB).length) 1 (h.new 9 (strs (⟨#[]⟩ :: libB))))
 generalize h.new 9 (strs (⟨#[]⟩ :: libB)) = g at E1 r1 ⊢
 exact (l235 (C := call Tp Ms (e + 1)) (N := e + 1) (t := t) r1 (by decide) 11 1 (e + 1) (by decide) (by decide) (by decide) (by omega)).mono fun v g' ⟨z, a, b, d⟩ => ⟨z, a, by rw [b]; exact E1, d⟩
section
variable {c : Cn} {Q : List AM.ORow} {s : SG} {h g : AHeap}
theorem bls_set {bx : List Bool} {n : Nat} (hn : n < bx.length) : splice (bls bx) n [.bool true] = bls (bx.set n true) := by
 have h1 : (bls bx).length = bx.length := by simp [bls]
 unfold splice
 rw [show (bls bx).take n ++ [Value.bool true] ++ (bls bx).drop (n + [Value.bool true].length) = (bls bx).set n (.bool true) from by
  rw [List.set_eq_take_append_cons_drop, if_pos (by omega)]; simp]
 unfold bls
 rw [List.map_set]
theorem SpM.bx (q : SpM c Q s h) {z : Int} (h0 : 0 ≤ z) (h1 : z < (s.bx.length : Int)) : ∃ v p, aLd1 h (ptr c.G 3) = some v ∧ aIdx v (.int .i64 z) 1 = some p ∧ aLd1 h p = some (.bool (s.bx.getD z.toNat false)) ∧
  ∃ g, aSt h p (.bool true) 1 = some g ∧ SpM c Q { s with bx := s.bx.set z.toNat true } g := by
 obtain ⟨⟨wn, fr, ou, tx', rs, jk, oc, nd⟩, P, hwn, hq, q⟩ := q
 obtain ⟨fs, sbx, ts, cd⟩ := s
 obtain ⟨k, rfl⟩ : ∃ k : Nat, z = k := ⟨z.toNat, by omega⟩
 have y := q.y
 dsimp only at y h1 hwn
 have hl : (bls sbx).length = sbx.length := by simp [bls]
 have hk : k < sbx.length := by omega
 have ix := y.ix 2 (r := c.bx) (e := 4) (cs := bls sbx) (k := sbx.length) (esz := 1) (j := k) rfl (by omega) (by decide) hk
 obtain ⟨ix, hlv⟩ := ix
 rw [Nat.mul_one] at ix
 have ld := y.ldS 2 (r := c.bx) (k := k) (v := .bool (sbx.getD k false)) rfl (by simp [bls, List.getD, hk])
 have eR : c.bx.row 4 (bls sbx) = ⟨c.bx.i, c.bx.rt, 4, true, bls sbx⟩ := by unfold AM.SR.row; rw [hlv]
 obtain ⟨g, a, E, y2, _⟩ := y.st 2 (i := c.bx.i) (rt := c.bx.rt) (t := 4) (cs := bls sbx) (off := k) (m := 1) (vs := [.bool true]) (v := .bool true) (by rw [← eR]; rfl) rfl rfl (by rw [hl]; omega)
 refine ⟨_, _, y.ldO 0 3 rfl rfl, ix, by rw [Int.toNat_natCast]; exact ld, g, a, ⟨wn, fr, ou, tx', rs, jk, oc, nd⟩, P, hwn, hq, ⟨?_, q.E.trans E, q.k, q.o, q.n, q.p, q.q⟩⟩
 rw [bls_set hk] at y2
 have e1 : (sbx.set k true).length = sbx.length := List.length_set
 have e2 : c.bx.row 4 (bls (sbx.set k true)) = ⟨c.bx.i, c.bx.rt, 4, true, bls (sbx.set k true)⟩ := by unfold AM.SR.row; rw [hlv]
 show AM.Cx c.b g [] (⟨c.G, c.G, 167, true, [c.nv, .int .i64 c.top, fr.val wn, c.bx.val (sbx.set k true).length, ou.val c.on, tx'.val ts.length, .int .i64 cd, .int .i64 nd]⟩ :: fr.row 195 (fsC rs fs ++ jk) :: c.bx.row 4 (bls (sbx.set k true)) :: ou.row 173 oc :: tx'.row 9 (strs ts) :: (fsR c.T rs fs ++ P)) []
 rw [e1, e2]
 exact y2
theorem SpM.slot {e : Nat} {x1 : Int} (q : SpM c Q s h) (hfs : s.fs ≠ []) (hb : Bs 10000000 s) (he : 10000000 < e) : ∃ v p a, aLd1 h (ptr c.G 2) = some v ∧ aLen v = some (.int .i64 (s.fs.length : Int)) ∧ aIdx v (.int .i64 ((s.fs.length : Int) - 1)) 9 = some p ∧ aLdN h p 9 = some a ∧
  Rs (fun v g => ∃ z : Int, v = .int .i64 z ∧ SpM c Q s g) (call Tp Ms (e + 1) 211 [a, .int .i64 x1] h) := by
 obtain ⟨W, P, hwn, hq, q⟩ := q
 match es : s.fs, hfs with
 | F :: R, _ =>
  obtain ⟨r, rs, er⟩ : ∃ r rs, W.rs = r :: rs := by
   have k := q.k
   rw [es] at k
   match hrs : W.rs, k with
   | [], k => exact k.elim
   | r :: rs, _ => exact ⟨r, rs, rfl⟩
  have ix := (q.ixF es).1
  have ldN := q.ldN es er
  have len := q.len
  rw [hwn, es] at len
  refine ⟨_, _, _, q.y.ldO 0 2 rfl rfl, by rw [hwn, es]; exact len, ?_, ldN, ?_⟩
  ·rw [List.length_cons, show (((R.length + 1 : Nat) : Int) - 1) = (R.length : Int) by omega]; exact ix
  ·have hF := hb.f F (by rw [es]; simp)
   have y := q.y
   rw [es, er] at y
   exact (u211 (e := e) (ov := r.ow.val F.own.length) (frCells r F) rfl (kd_of y 8 rfl) hF.own (Nat.lt_of_le_of_lt hF.own he)).mono fun v g ⟨z, a, E, _⟩ => ⟨z, a, ⟨W, P, hwn, hq, q.ext E⟩⟩
theorem u224 {e : Nat} {x2 : Int} (q : SpM c Q s h) (hb : Bs 1000000 s) (hex : ∃ O ∈ s.fs.tail, x2 ∈ O.own) (he : 3000000 ≤ e) : Rs (fun v g => ∃ z : Int, v = .int .i64 z ∧ SpM c Q { s with fs := upS x2 s.fs } g) (call Tp Ms (e + 1) 224 [ptr c.G 0, .int .i64 ((s.fs.length : Int) - 1), .int .i64 x2] h) := by
 obtain ⟨W, P, hwn, hq, q⟩ := q
 match es : s.fs with
 | [] => rw [es] at hex; obtain ⟨O, h, _⟩ := hex; cases h
 | F :: R =>
  rw [es] at hex
  have hn := hb.n
  rw [es, List.length_cons] at hn
  have := l224 (c := c) (x2 := x2) (L := 1000001) (by omega) R F P P W s h e es q hex (fun F' h' => by
   have b := hb.f F' (by rw [es]; exact h')
   have b1 := b.up
   have b2 := b.own
   omega) (by omega) (by omega)
  rw [List.length_cons, show (((R.length + 1 : Nat) : Int) - 1) = (R.length : Int) by omega]
  refine this.mono fun v g ⟨k, e1, W', e2, e3, q'⟩ => ⟨k, e1, W', P, ?_, hq, ?_⟩
  ·rw [e2, hwn]
   show s.fs.length = (upS x2 (F :: R)).length
   rw [up_len, es]
  ·rw [es] at q'; exact q'
theorem SpM.cd (q : SpM c Q s h) : aLd1 h (ptr c.G 6) = some (.int .i64 s.cd) := by
 obtain ⟨W, P, _, _, q⟩ := q
 exact q.y.ldO 0 6 rfl rfl
theorem SpM.t (q : SpM c Q s h) : aLd1 h (ptr c.G 0) = some c.nv ∧ AM.Ext c.b c.h0 h := by
 obtain ⟨W, P, _, _, q⟩ := q
 exact ⟨q.y.ldO 0 0 rfl rfl, q.E⟩
theorem SpM.len (q : SpM c Q s h) : ∃ v, aLd1 h (ptr c.G 2) = some v ∧ aLen v = some (.int .i64 (s.fs.length : Int)) := by
 obtain ⟨W, P, hwn, hq, q⟩ := q
 have len := q.len
 rw [hwn] at len
 exact ⟨_, q.y.ldO 0 2 rfl rfl, by rw [hwn]; exact len⟩
theorem seen_in {T : List Kn} {t : BA} {q : Int} {d : Nat} : ∀ (fs : List CF) (d0 : Nat), seenS T t fs d0 = some (q, d) → ∃ (k : Nat) (F : CF), d = d0 + k ∧ fs[k]? = some F ∧ q ∈ F.nd
 | [], _, h => by cases h
 | F :: R, d0, h => by
  unfold seenS at h
  cases hf : findL T t F.nd.reverse with
  | some z =>
   rw [hf] at h
   cases h
   exact ⟨0, F, rfl, rfl, List.mem_reverse.1 (List.mem_of_find?_eq_some hf)⟩
  | none =>
   rw [hf] at h
   obtain ⟨k, F', h1, h2, h3⟩ := seen_in R (d0 + 1) h
   exact ⟨k + 1, F', by omega, h2, h3⟩
end
open Go.AM (Rs)
section
variable {c : Cn} {Q : List AM.ORow} {s : SG} {h g : AHeap}
abbrev PU (c : Cn) (Q : List AM.ORow) (s : SG) : Value → AHeap → Prop := fun v g => v = unitV ∧ SpM c Q s g
theorem Bs.b7 {s : SG} (h : Bs 1000000 s) : Bs 10000000 s := h.mono (by omega)
theorem seen_ok {t : BA} {q : Int} {d : Nat} (hi : In c.T s) (h : seenS c.T t s.fs 0 = some (q, d)) : 0 ≤ q ∧ q < (s.bx.length : Int) ∧ d < s.fs.length ∧ (0 < d → ∃ O ∈ s.fs.tail, q ∈ O.own) := by
 obtain ⟨k, F, h1, h2, h3⟩ := seen_in s.fs 0 h
 have hk := (List.getElem?_eq_some_iff.1 h2).1
 have hF := hi.a F (List.mem_of_getElem? h2)
 have ho := hF.1 q h3
 have hr := hF.2 q ho
 refine ⟨hr.1, by rw [hi.b]; exact hr.2, by omega, fun hd => ⟨F, ?_, ho⟩⟩
 match hfs : s.fs with
 | [] => rw [hfs] at hk; simp at hk
 | A :: R =>
  rw [hfs] at h2
  obtain ⟨k, rfl⟩ : ∃ q, k = q + 1 := ⟨k - 1, by omega⟩
  exact List.mem_of_getElem? (i := k) h2
theorem u226 {e i : Nat} {n : Kn} (ok : c.Ok) (q : SpM c Q s h) (hfs : s.fs ≠ []) (hb : Bs 1000000 s) (hi : In c.T s) (hn : c.T[i]? = some n) (he : 20000000 ≤ e) : Rs (PU c Q (nameS c.T false (i : Int) s)) (call Tp Ms (e + 2) 226 [ptr c.G 0, .int .i64 (i : Int)] h) := by
 obtain ⟨tq, kv, t1, kd, t2⟩ := ok.tr.at' i n hn
 have ht := q.t
 have etx := txAt hn
 have hbn := hb.n
 rw [c226, e226]
 refine Rs.b rfl (Rs.b rfl (Rs.b rfl (Rs.b ht.1 (Rs.b t1 (Rs.b rfl (Rs.b (t2 h ht.2).2.2.1 (Rs.b rfl (Rs.c (u223 (e := e) q hb.b7 (fun F hF => by have := (hb.f F hF).nd; omega) (by omega)) fun v g hv => ?_))))))))
 obtain ⟨rfl, rfl⟩ := hv
 obtain ⟨lv, ll1, ll2⟩ := q.len
 unfold nameS seenV
 rw [etx]
 cases hs : seenS c.T n.t s.fs 0 with
 | none =>
  dsimp only
  refine Rs.b rfl (Rs.b rfl (Rs.b rfl (Rs.b rfl (Rs.b rfl (Rs.b rfl (Rs.b ll1 (Rs.b ll2 (Rs.b rfl (Rs.ct rfl (Rs.c (u235 (e := e) (t := n.t) (by omega)) fun v g hv => ?_))))))))))
  obtain ⟨z, rfl, E1, hz⟩ := hv
  have q1 := q.ext E1
  refine Rs.b rfl ?_
  rw [s226_0_j, s226_0_eq]
  refine Rs.i (fun hp => ?_) (fun hp => ?_)
  ·have hL := hz.1 (by omega)
   rw [if_pos ⟨rfl, hL⟩]
   refine Rs.c (u235 (e := e) (t := n.t) (by omega)) fun v g2 hv => ?_
   obtain ⟨z2, rfl, E2, _⟩ := hv
   have q2 := q1.ext E2
   exact Rs.b rfl (Rs.c (u178 (e := e) q2 hfs hb.b7 27 z2) fun v g3 hv => by
    obtain ⟨rfl, q3⟩ := hv
    exact Rs.b rfl (Rs.fin ⟨rfl, q3⟩))
  ·have hL : ¬ (false = false ∧ isLib n.t = true) := fun h => hp (hz.2 h.2)
   rw [if_neg hL]
   exact Rs.ct rfl (Rs.c (u180 (e := e) q1 2 (i : Int)) fun v g3 hv => Rs.fin ⟨rfl, hv.2⟩)
 | some p =>
  obtain ⟨z, d⟩ := p
  obtain ⟨z0, z1, hd, hO⟩ := seen_ok hi hs
  dsimp only
  refine Rs.b rfl (Rs.b rfl (Rs.b rfl (Rs.b rfl (Rs.b rfl (Rs.b rfl (Rs.b ll1 (Rs.b ll2 (Rs.b rfl (Rs.cf (decide_eq_false (by omega)) ?_)))))))))
  rw [s226_0_j, s226_0_eq, wq (by omega) (by omega)]
  obtain ⟨bv, bp, b1, b2, b3, g2, b4, q2⟩ := q.bx z0 z1
  refine Rs.cf rfl (Rs.cf (decide_eq_false (by omega)) (Rs.i (fun hlt => ?_) (fun hge => ?_)))
  ·obtain ⟨d, rfl⟩ : ∃ x, d = x + 1 := ⟨d - 1, by omega⟩
   refine Rs.b rfl (Rs.b rfl (Rs.b b1 (Rs.b b2 (Rs.b b4 (Rs.c (u224 (e := e) (s := { s with bx := s.bx.set z.toNat true }) q2 ⟨hb.f, hb.t, hb.n⟩ (hO (by omega)) (by omega)) fun v g3 hv => ?_)))))
   obtain ⟨z2, rfl, q3⟩ := hv
   have hfs3 : upS z s.fs ≠ [] := fun h => hfs (by
    have := up_len (q := z) s.fs
    rw [h] at this
    exact List.length_eq_zero_iff.1 this.symm)
   exact Rs.b rfl (Rs.c (u178 (e := e) q3 hfs3 ((hb.ups z _).mono (by omega)) 7 z2) fun v g4 hv => by
    obtain ⟨rfl, q4⟩ := hv
    exact Rs.b rfl (Rs.fin ⟨rfl, q4⟩))
  ·have hd0 : d = 0 := by omega
   subst hd0
   have fin : ∀ op : Int, Rs (PU c Q s.emit) ((aNil (ptr c.G 0)).bind fun v41 => (aOff v41 2).bind fun v42 => (aLd1 g v42).bind fun v43 => (aIdx v43 (.int .i64 ((s.fs.length : Int) - 1)) 9).bind fun v44 => (aLdN g v44 9).bind fun v45 => (call Tp Ms (e + 1) 211 [v45, .int .i64 z] g).bind fun r46 => (asI .i64 r46.1).bind fun n47 => (call Tp Ms (e + 1) 178 [ptr c.G 0, .int .i64 op, .int .i64 n47] r46.2).bind fun r48 => (asI .i64 r48.1).bind fun n49 => some (.tuple (List.toArray []), r48.2)) := fun op => by
    obtain ⟨v, p, a, s1, s2, s3, s4, s5⟩ := q.slot (e := e) (x1 := z) hfs hb.b7 (by omega)
    refine Rs.b rfl (Rs.b rfl (Rs.b s1 (Rs.b s3 (Rs.b s4 (Rs.c s5 fun v g3 hv => ?_)))))
    obtain ⟨z2, rfl, q3⟩ := hv
    exact Rs.b rfl (Rs.c (u178 (e := e) q3 hfs hb.b7 op z2) fun v g4 hv => by
     obtain ⟨rfl, q4⟩ := hv
     exact Rs.b rfl (Rs.fin ⟨rfl, q4⟩))
   refine Rs.b rfl (Rs.b rfl (Rs.b b1 (Rs.b b2 (Rs.b b3 (Rs.b rfl ?_)))))
   cases s.bx.getD z.toNat false with
   | true => exact fin 6
   | false => exact fin 5
theorem SpM.node {i : Nat} {n : Kn} (ok : c.Ok) (q : SpM c Q s h) (hn : c.T[i]? = some n) : ∃ (tq : Nat) (kv : Value), aIdx c.nv (.int .i64 (i : Int)) 4 = some (ptr tq (i * 4)) ∧ aLdN h (ptr tq (i * 4)) 4 = some (knVal n kv) ∧ KdH c.b c.h0 kv n.ks ∧ aCells (knVal n kv) = some (knCells n kv) := by
 obtain ⟨tq, kv, t1, kd, t2⟩ := ok.tr.at' i n hn
 refine ⟨tq, kv, t1, (t2 h q.t.2).1, kd, ?_⟩
 have e : (List.all (List.toArray (knCells n kv)).toList isCell) = true := by
  show (true && (true && (true && (isCell kv && true)))) = true
  rw [kd.cell.1]; rfl
 show (if (List.all (List.toArray (knCells n kv)).toList isCell) = true then some (List.toArray (knCells n kv)).toList else none) = _
 rw [if_pos e]
theorem SpM.put {n : Kn} {kv : Value} (q : SpM c Q s h) (hc : aCells (knVal n kv) = some (knCells n kv)) {P : Value → AHeap → Prop} {k : AHeap → Value → Option (Value × AHeap)}
  (hk : ∀ p g, SpM c (⟨p, p, 73, true, knCells n kv⟩ :: Q) s g → Rs P (k g (ptr p 0))) :
  Rs P (aNew h 73 [.int .i64 0, .string ⟨#[]⟩, .int .i64 0, .slice none 0 0] fun p7 h8 => (aSt h8 p7 (knVal n kv) 4).bind fun h9 => k h9 p7) := by
 show Rs P ((aSt (h.new 73 [.int .i64 0, .string ⟨#[]⟩, .int .i64 0, .slice none 0 0]) (ptr h.size 0) (knVal n kv) 4).bind _)
 obtain ⟨W, P, hwn, hq, q0⟩ := q
 have q2 := q0.ins q0.q (q0.y.nw 73 [.int .i64 0, .string ⟨#[]⟩, .int .i64 0, .slice none 0 0]) (q0.y.new 73 [.int .i64 0, .string ⟨#[]⟩, .int .i64 0, .slice none 0 0])
 obtain ⟨g, a, E, q3⟩ := q2.stQ q0.q (off := 0) (m := 4) (vs := knCells n kv) (v := knVal n kv) hc rfl (by show 4 ≤ 4; decide)
 refine Rs.b a (hk _ _ ⟨W, _, hwn, List.cons_subset_cons _ hq, q3.grow (List.subset_cons_self _ _) (fun x hx => hx)⟩)
theorem SpM.ld {p t : Nat} {cs : List Value} (q : SpM c (⟨p, p, t, true, cs⟩ :: Q) s h) {k : Nat} {v : Value} (hv : cs[k]? = some v) : aLd1 h (ptr p k) = some v := (q.row (row := ⟨p, p, t, true, cs⟩) (by simp) rfl).ld1 hv
theorem KdH.ld {kv : Value} {ks : List Int} (kd : KdH c.b c.h0 kv ks) (q : SpM c Q s h) {j : Nat} {k : Int} (hk : ks[j]? = some k) : ∃ p, aIdx kv (.int .i64 (j : Int)) 1 = some p ∧ aLd1 h p = some (.int .i64 k) := let ⟨p, a, f⟩ := kd.at' j k hk; ⟨p, a, f h q.t.2⟩
end
open Go.AM (Rs)
def eE : Nat := 20000000
structure Rd (c : Cn) (K : Nat) (s : SG) : Prop where
 fs : s.fs ≠ []
 v : Iv c.T K s
section
variable {c : Cn} {Q : List AM.ORow} {s s' : SG} {h g : AHeap} {K w : Nat}
theorem Rd.gd (r : Rd c K s) (g : Gd c.T w s s') : Rd c (K + w) s' := ⟨fun h => r.fs (by
 have := MoL.len g.m
 rw [h] at this
 exact List.length_eq_zero_iff.1 this.symm), g.v K r.v⟩
theorem Rd.bs (r : Rd c K s) (h : K ≤ 1000000) : Bs 1000000 s := r.v.b.mono h
theorem Rd.b7 (r : Rd c K s) (h : K ≤ 1000000) : Bs 10000000 s := r.v.b.mono (by omega)
def EvOk (c : Cn) (m : Nat) (fn : FuncId) (i : Int) (f : Nat) : Prop := ∀ (e : Nat) (Q : List AM.ORow) (s : SG) (h : AHeap) (K : Nat), eE + 8 * f ≤ e → SpM c Q s h → Rd c K s → K + 5 * sz c.T i ≤ 900000 →
 Rs (PU c Q (runS c.T f m i s)) (call Tp Ms e fn [ptr c.G 0, .int .i64 i] h)
theorem gd_ev (ok : c.Ok) {f m : Nat} {i : Int} (hm : m < 3) (hi : 0 ≤ i) (s : SG) : Gd c.T (5 * sz c.T i) s (runS c.T f m i s) := by
 have := gd_run ok.S f m i (by omega) hi s
 unfold cost at this
 rwa [if_neg (by omega)] at this
theorem bT {a b : Int} (h : a = b) : (a == b) = true := by rw [h]; exact beq_self_eq_true _
theorem bF {a b : Int} (h : a ≠ b) : (a == b) = false := by simp [h]
theorem nT {a b : Int} (h : a ≠ b) : (a != b) = true := by simp [h]
theorem nF {a b : Int} (h : a = b) : (a != b) = false := by simp [h]
theorem u206 {e i f : Nat} {n : Kn} {k0 : Int} (ok : c.Ok) (hn : c.T[i]? = some n) (hks : n.ks = [k0]) (kid : EvOk c 0 209 k0 f) (q : SpM c Q s h) (hr : Rd c K s) (hK : K + 5 * sz c.T k0 + 5 ≤ 900000) (he : eE + 8 * f ≤ e + 1) :
  Rs (PU c Q (if (runS c.T f 0 k0 s).cd ≠ 0 then runS c.T f 0 k0 s else nameS c.T true (i : Int) (runS c.T f 0 k0 s))) (call Tp Ms (e + 2) 206 [ptr c.G 0, .int .i64 (i : Int)] h) := by
 have he' : 20000000 ≤ e + 1 := Nat.le_trans (Nat.le_add_right _ _) he
 obtain ⟨tq, kv, t1, t2, kd, hc⟩ := q.node ok hn
 have etx := txAt hn
 have lo := (ok.S.lo i n hn k0 (by rw [hks]; simp)).1
 rw [c206, e206]
 refine Rs.b rfl (Rs.b rfl (Rs.b rfl (Rs.b q.t.1 (Rs.b t1 (Rs.b t2 (q.put hc fun p g q1 => ?_))))))
 obtain ⟨p', k1, k2⟩ := kd.ld q1 (j := 0) (k := k0) (by rw [hks]; rfl)
 refine Rs.b rfl (Rs.b (q1.ld (k := 3) rfl) (Rs.b k1 (Rs.b k2 (Rs.b rfl (Rs.c (kid (e + 1) _ _ _ K he q1 hr (by omega)) fun v g2 hv => ?_)))))
 obtain ⟨rfl, q2⟩ := hv
 have hr2 := hr.gd (gd_ev ok (f := f) (m := 0) (by decide) lo s)
 refine Rs.b rfl (Rs.b rfl (Rs.b q2.cd (Rs.b rfl ?_)))
 generalize runS c.T f 0 k0 s = s2 at q2 hr2 ⊢
 by_cases hcd : s2.cd = 0
 case neg =>
  rw [if_pos hcd]
  exact Rs.ct (nT hcd) (Rs.fin ⟨rfl, q2.out⟩)
 rw [if_neg (fun h => h hcd)]
 have hb := hr2.bs (by omega)
 have hbn := hb.n
 refine Rs.cf (nF hcd) (Rs.b rfl (Rs.b (q2.ld (k := 1) rfl) (Rs.b rfl (Rs.c (u223 (e := e) q2 hb.b7 (fun F hF => by have := (hb.f F hF).nd; omega) (by omega)) fun v g hv => ?_))))
 obtain ⟨rfl, rfl⟩ := hv
 obtain ⟨lv, ll1, ll2⟩ := q2.len
 unfold nameS seenV
 rw [etx]
 cases hs : seenS c.T n.t s2.fs 0 with
 | none =>
  dsimp only
  refine Rs.b rfl (Rs.b rfl (Rs.b rfl (Rs.b rfl (Rs.b rfl (Rs.b rfl (Rs.b ll1 (Rs.b ll2 (Rs.b rfl (Rs.ct rfl ?_)))))))))
  rw [if_neg (fun h => by cases h.1)]
  exact Rs.c (u180 (e := e) q2 2 (i : Int)) fun v g3 hv => Rs.fin ⟨rfl, hv.2.out⟩
 | some pr =>
  obtain ⟨z, d⟩ := pr
  obtain ⟨z0, z1, hd, hO⟩ := seen_ok hr2.v.i hs
  dsimp only
  refine Rs.b rfl (Rs.b rfl (Rs.b rfl (Rs.b rfl (Rs.b rfl (Rs.b rfl (Rs.b ll1 (Rs.b ll2 (Rs.b rfl (Rs.cf (decide_eq_false (by omega)) ?_)))))))))
  rw [wq (by omega) (by omega)]
  obtain ⟨bv, bp, b1, b2, b3, g2, b4, q3⟩ := q2.bx z0 z1
  refine Rs.i (fun hlt => ?_) (fun hge => ?_)
  ·obtain ⟨d, rfl⟩ : ∃ x, d = x + 1 := ⟨d - 1, by omega⟩
   refine Rs.b rfl (Rs.b rfl (Rs.b b1 (Rs.b b2 (Rs.b b4 (Rs.c (u224 (e := e) (s := { s2 with bx := s2.bx.set z.toNat true }) q3 ⟨hb.f, hb.t, hb.n⟩ (hO (by omega)) (by omega)) fun v g3 hv => ?_)))))
   obtain ⟨z2, rfl, q4⟩ := hv
   have hfs3 : upS z s2.fs ≠ [] := fun h => hr2.fs (by
    have := up_len (q := z) s2.fs
    rw [h] at this
    exact List.length_eq_zero_iff.1 this.symm)
   exact Rs.b rfl (Rs.c (u178 (e := e) q4 hfs3 ((hb.ups z _).mono (by omega)) 10 z2) fun v g4 hv => by
    obtain ⟨rfl, q5⟩ := hv
    exact Rs.b rfl (Rs.fin ⟨rfl, q5.out⟩))
  ·have hd0 : d = 0 := by omega
   subst hd0
   have fin : ∀ op : Int, Rs (PU c Q s2.emit) ((aNil (ptr c.G 0)).bind fun v41 => (aOff v41 2).bind fun v42 => (aLd1 g v42).bind fun v43 => (aIdx v43 (.int .i64 ((s2.fs.length : Int) - 1)) 9).bind fun v44 => (aLdN g v44 9).bind fun v45 => (call Tp Ms (e + 1) 211 [v45, .int .i64 z] g).bind fun r46 => (asI .i64 r46.1).bind fun n47 => (call Tp Ms (e + 1) 178 [ptr c.G 0, .int .i64 op, .int .i64 n47] r46.2).bind fun r48 => (asI .i64 r48.1).bind fun n49 => some (.tuple (List.toArray []), r48.2)) := fun op => by
    obtain ⟨v, p, a, s1, s2', s3, s4, s5⟩ := q2.slot (e := e) (x1 := z) hr2.fs hb.b7 (by omega)
    refine Rs.b rfl (Rs.b rfl (Rs.b s1 (Rs.b s3 (Rs.b s4 (Rs.c s5 fun v g3 hv => ?_)))))
    obtain ⟨z2, rfl, q3⟩ := hv
    exact Rs.b rfl (Rs.c (u178 (e := e) q3 hr2.fs hb.b7 op z2) fun v g4 hv => by
     obtain ⟨rfl, q4⟩ := hv
     exact Rs.b rfl (Rs.fin ⟨rfl, q4.out⟩))
   refine Rs.b rfl (Rs.b rfl (Rs.b b1 (Rs.b b2 (Rs.b b3 (Rs.b rfl ?_)))))
   cases s2.bx.getD z.toNat false with
   | true => exact fin 9
   | false => exact fin 8
end
open Go.AM (Rs)
section
variable {c : Cn} {Q Q2 : List AM.ORow} {s s' : SG} {h g : AHeap} {K w : Nat}
theorem restore {nm rnd : AM.SR} {nd0 : List Int} (q : SpM c Q2 s h) (hfs : s.fs ≠ []) (h1 : RowP Q2 nm 9 (strs (nd0.map (tx c.T)))) (h2 : RowP Q2 rnd 3 (ints nd0)) (hQ : Q ⊆ Q2) :
  Rs (PU c Q (s.hd fun F => { F with nd := nd0 })) ((aNil (ptr c.G 0)).bind fun v51 => (aOff v51 2).bind fun v52 => (aLd1 h v52).bind fun v53 => (aIdx v53 (.int .i64 ((s.fs.length : Int) - 1)) 9).bind fun v54 => (aOff v54 4).bind fun v55 => (aSt h v55 (nm.val nd0.length) 1).bind fun h56 => (aNil (ptr c.G 0)).bind fun v57 => (aOff v57 2).bind fun v58 => (aLd1 h56 v58).bind fun v59 => (aIdx v59 (.int .i64 ((s.fs.length : Int) - 1)) 9).bind fun v60 => (aOff v60 5).bind fun v61 => (aSt h56 v61 (rnd.val nd0.length) 1).bind fun h62 => some (.tuple (List.toArray []), h62)) := by
 obtain ⟨⟨wn, ⟨fi, frt, flv⟩, ou, tx', rs, jk, oc, nd⟩, P, hwn, hq, q⟩ := q
 obtain ⟨fs, sbx, ts, cd⟩ := s
 cases fs with
 | nil => exact absurd rfl hfs
 | cons F R =>
 cases rs with
 | nil => exact q.k.elim
 | cons r rs =>
 obtain ⟨pr, pu, rcd, nm0, nd1, up, ow, uc, cc⟩ := r
 dsimp only at hwn
 subst hwn
 have ix := q.ixF rfl
 have k := q.k
 have y := q.y
 have pf := q.p
 dsimp only at ix k y pf
 obtain ⟨ix, hlv⟩ := ix
 subst hlv
 have hl := k.2.2.len
 rw [show ((⟨F :: R, sbx, ts, cd⟩ : SG).fs.length : Int) - 1 = (R.length : Int) by show ((R.length + 1 : Nat) : Int) - 1 = _; omega]
 obtain ⟨g1, a1, E1, y1⟩ := stC y 1 (fi := fi) (frt := frt) (rs := rs) (R := R) (jk := jk) (cells := FRw.cells ⟨pr, pu, rcd, nm0, nd1, up, ow, uc, cc⟩ F) rfl hl rfl (m := 4) (by decide) (srCells nm nd0.length)
 obtain ⟨g2, a2, E2, y2⟩ := stC y1 1 (fi := fi) (frt := frt) (rs := rs) (R := R) (jk := jk) rfl hl (by rw [List.length_set]; rfl) (m := 5) (by decide) (srCells rnd nd0.length)
 refine Rs.b rfl (Rs.b rfl (Rs.b (y.ldO 0 2 rfl rfl) (Rs.b ix (Rs.b rfl (Rs.b a1 (Rs.b rfl (Rs.b rfl (Rs.b (y1.ldO 0 2 rfl rfl) (Rs.b ix (Rs.b rfl (Rs.b a2 ?_)))))))))))
 exact Rs.fin ⟨rfl, ⟨R.length + 1, ⟨fi, frt, true⟩, ou, tx', ⟨pr, pu, rcd, nm, rnd, up, ow, uc, cc⟩ :: rs, jk, oc, nd⟩, P, rfl, fun x hx => hq (hQ hx), ⟨y2, (q.E.trans E1).trans E2, k, q.o, q.n, ⟨h1.mono hq, h2.mono hq, pf.2.2⟩, q.q⟩⟩
theorem SpM.names (q : SpM c Q s h) (hfs : s.fs ≠ []) : ∃ (Q2 : List AM.ORow) (nm rnd : AM.SR) (nd0 : List Int) (v p : Value), Q ⊆ Q2 ∧ SpM c Q2 s h ∧ RowP Q2 nm 9 (strs (nd0.map (tx c.T))) ∧ RowP Q2 rnd 3 (ints nd0) ∧ nd0 = (match s.fs with | [] => [] | F0 :: _ => F0.nd) ∧
  aLd1 h (ptr c.G 2) = some v ∧ aLen v = some (.int .i64 (s.fs.length : Int)) ∧ vbeq v v = true ∧ ∃ (i k : Nat), aIdx v (.int .i64 ((s.fs.length : Int) - 1)) 9 = some (ptr i k) ∧ aLd1 h (ptr i (k + 4)) = some (nm.val nd0.length) ∧ aLd1 h (ptr i (k + 5)) = some (rnd.val nd0.length) := by
 obtain ⟨⟨wn, fr, ou, tx', rs, jk, oc, nd⟩, P, hwn, hq, q⟩ := q
 have q0 := q
 obtain ⟨fs, sbx, ts, cd⟩ := s
 cases fs with
 | nil => exact absurd rfl hfs
 | cons F R =>
 cases rs with
 | nil => exact q.k.elim
 | cons r rs =>
 dsimp only at hwn
 subst hwn
 have ix := (q.ixF rfl).1
 have k := q.k
 have y := q.y
 have pf := q.p
 have len := q.len
 dsimp only at ix k y pf len
 refine ⟨P, r.nm, r.nd, F.nd, _, .int .i64 0, hq, ⟨_, P, rfl, fun x hx => hx, q0⟩, pf.1, pf.2.1, rfl, y.ldO 0 2 rfl rfl, len, fr.vb _, fr.i, R.length * 9, ?_, ?_, ?_⟩
 ·show aIdx _ (.int .i64 (((R.length + 1 : Nat) : Int) - 1)) 9 = _
  rw [show (((R.length + 1 : Nat) : Int) - 1) = (R.length : Int) by omega]; exact ix
 ·exact y.ldS 1 (r := fr) (k := R.length * 9 + 4) rfl ((fsC_get k (by decide)).trans rfl)
 ·exact y.ldS 1 (r := fr) (k := R.length * 9 + 5) rfl ((fsC_get k (by decide)).trans rfl)
theorem fold_cd {T : List Kn} {f : Nat} : ∀ (l : List Int) (g : SG), g.cd ≠ 0 → l.foldl (fun g k => if g.cd = 0 then runS T f 1 k g else g) g = g
 | [], _, _ => rfl
 | k :: l, g, h => by rw [List.foldl_cons, if_neg h]; exact fold_cd l g h
theorem SpM.sub (q : SpM c Q2 s h) (hQ : Q ⊆ Q2) : SpM c Q s h := let ⟨W, P, a, b, d⟩ := q; ⟨W, P, a, fun x hx => b (hQ hx), d⟩
theorem l179 {e N f p i : Nat} {n : Kn} {kv : Value} {nm rnd : AM.SR} {nd0 : List Int} {L : Nat} (ok : c.Ok) (kd : KdH c.b c.h0 kv n.ks) (lo : ∀ k ∈ n.ks, 0 ≤ k) (hl : n.ks.length ≤ 1100000) (h1 : RowP Q2 nm 9 (strs (nd0.map (tx c.T)))) (h2 : RowP Q2 rnd 3 (ints nd0)) (hQ : Q ⊆ Q2)
  (he : eE + 8 * f ≤ e) (hE : ∀ k ∈ n.ks, EvOk c 1 199 k f) :
  ∀ (k j m : Nat) (s : SG) (h : AHeap) (K : Nat), n.ks.length - j = k → j ≤ n.ks.length → k < m → SpM c (⟨p, p, 73, true, knCells n kv⟩ :: Q2) s h → Rd c K s → s.fs.length = L → K + 5 * ((n.ks.drop j).map (sz c.T)).sum ≤ 900000 →
   Rs (PU c Q (((n.ks.drop j).foldl (fun g k => if g.cd = 0 then runS c.T f 1 k g else g) s).hd fun F => { F with nd := nd0 })) (s179_0 hk0 (call Tp Ms e) N m (ptr c.G 0) ((L : Int) - 1) (nm.val nd0.length) (rnd.val nd0.length) (ptr p 0) (j : Int) h) := by
 intro k
 induction k with
 | zero =>
  intro j m s h K hk hj hm q hr hL hK
  obtain ⟨m, rfl⟩ : ∃ q, m = q + 1 := ⟨m - 1, by omega⟩
  rw [List.drop_eq_nil_of_le (by omega), s179_0_eq]
  refine Rs.b rfl (Rs.b (q.ld (k := 3) rfl) (Rs.b kd.len (Rs.b rfl (Rs.cf (decide_eq_false (by omega)) ?_))))
  rw [← hL]
  exact restore (q.sub (List.subset_cons_self _ _)) hr.fs h1 h2 hQ
 | succ k ih =>
  intro j m s h K hk hj hm q hr hL hK
  obtain ⟨m, rfl⟩ : ∃ q, m = q + 1 := ⟨m - 1, by omega⟩
  have hlt : j < n.ks.length := by omega
  rw [s179_0_eq]
  refine Rs.b rfl (Rs.b (q.ld (k := 3) rfl) (Rs.b kd.len (Rs.b rfl (Rs.ct (decide_eq_true (by omega)) (Rs.b rfl (Rs.b rfl (Rs.b q.cd (Rs.b rfl ?_))))))))
  by_cases hcd : s.cd = 0
  case neg =>
   rw [fold_cd _ _ hcd]
   refine Rs.cf (bF hcd) ?_
   rw [← hL]
   exact restore (q.sub (List.subset_cons_self _ _)) hr.fs h1 h2 hQ
  rw [List.drop_eq_getElem_cons hlt] at hK ⊢
  rw [List.map_cons, List.sum_cons] at hK
  rw [List.foldl_cons, if_pos hcd]
  have hmem : n.ks[j] ∈ n.ks := List.getElem_mem hlt
  have hgd := gd_ev ok (f := f) (m := 1) (by decide) (lo _ hmem) s
  obtain ⟨p', k1, k2⟩ := kd.ld q (j := j) (k := n.ks[j]) (List.getElem?_eq_getElem hlt)
  refine Rs.ct (bT hcd) ?_
  rw [s179_1_j, s179_1_eq]
  refine Rs.b rfl (Rs.b (q.ld (k := 3) rfl) (Rs.b k1 (Rs.b k2 (Rs.b rfl (Rs.c (hE _ hmem e _ _ _ K he q hr (by omega)) fun v g hv => ?_)))))
  obtain ⟨rfl, q2⟩ := hv
  rw [wq (by omega) (by omega), show ((j : Int) + 1) = ((j + 1 : Nat) : Int) by omega]
  exact ih (j + 1) m _ g (K + 5 * sz c.T n.ks[j]) (by omega) (by omega) (by omega) q2 (hr.gd hgd) ((MoL.len hgd.m).trans hL) (by omega)
theorem u179 {e i f : Nat} {n : Kn} (ok : c.Ok) (hn : c.T[i]? = some n) (hk : n.k = 21) (hE : ∀ k ∈ n.ks, EvOk c 1 199 k f) (hl : n.ks.length ≤ 1100000) : EvOk c 2 179 (i : Int) (f + 1) := by
 intro e Q s h K he q hr hK
 obtain ⟨e, rfl⟩ : ∃ x, e = x + 1 := ⟨e - 1, by unfold eE at he; omega⟩
 have he' : 20000000 ≤ e := by unfold eE at he; omega
 have hbn := (hr.bs (by omega)).n
 obtain ⟨Q2, nm, rnd, nd0, v, p, hQ, q2, h1, h2, hnd, ld2, len, vb, ii, kk', ix, ld4, ld5⟩ := q.names hr.fs
 obtain ⟨tq, kv, t1, t2, kd, hc⟩ := q2.node ok hn
 have e1 : runS c.T (f + 1) 2 (i : Int) s = (n.ks.foldl (fun g k => if g.cd = 0 then runS c.T f 1 k g else g) s).hd fun F => { F with nd := nd0 } := by
  rw [hnd]
  show stepS c.T (runS c.T f) 2 (i : Int) s = _
  unfold stepS
  rw [Int.toNat_natCast, hn]; rfl
 have hsz := sz_s ok.S.lo hn
 rw [e1, c179, e179]
 refine Rs.b rfl (Rs.b rfl (Rs.b ld2 (Rs.b len (Rs.b rfl (Rs.b rfl (Rs.b rfl (Rs.b ld2 ?_)))))))
 rw [wq (by omega) (by omega)]
 refine Rs.b ix (Rs.b rfl (Rs.b ld4 (Rs.b rfl (Rs.b rfl (Rs.b ld2 (Rs.b ix (Rs.b rfl (Rs.b ld5 (Rs.b (ag ld2 vb) (Rs.ct rfl (Rs.b (ag ld5 (AM.SR.vb _ _)) (Rs.ct rfl (Rs.b rfl (Rs.b rfl (Rs.b rfl (Rs.b q2.t.1 (Rs.b t1 (Rs.b t2 (q2.put hc fun p g q3 => ?_)))))))))))))))))))
 have := l179 (N := e) (e := e) (f := f) (p := p) (i := i) (L := s.fs.length) ok kd (fun k hk => (ok.S.lo i n hn k hk).1) hl h1 h2 hQ (by omega) hE n.ks.length 0 e s g K (by omega) (by omega) (by omega) q3 hr rfl (by rw [List.drop_zero]; omega)
 rw [List.drop_zero] at this
 exact this
end
open Go.AM (Rs)
section
variable {c : Cn} {Q Q2 : List AM.ORow} {s s' : SG} {h g : AHeap} {K w : Nat}
theorem hdLn_emit (hfs : s.fs ≠ []) : hdLn s.emit = hdLn s + 1 := by
 unfold hdLn SG.emit SG.hd
 cases e : s.fs with
 | nil => exact absurd e hfs
 | cons F R => rfl
theorem hdLn_mo (m : Mo s s') : hdLn s ≤ hdLn s' := by
 unfold Mo at m
 unfold hdLn
 cases e : s.fs with
 | nil => exact Nat.zero_le _
 | cons F R =>
  cases e' : s'.fs with
  | nil => rw [e, e'] at m; exact m.elim
  | cons F' R' =>
   rw [e, e'] at m
   exact m.1
theorem Rd.emit (r : Rd c K s) : Rd c (K + 1) s.emit := r.gd (Gd.emit s)
theorem SpM.ldN4 {p : Nat} {n : Kn} {kv : Value} (q : SpM c (⟨p, p, 73, true, knCells n kv⟩ :: Q) s h) : aLdN h (ptr p 0) 4 = some (knVal n kv) := by
 have := (q.row (row := ⟨p, p, 73, true, knCells n kv⟩) (by simp) rfl).ldN (off := 0) (n := 4) (by show 4 ≤ 4; decide)
 exact this
theorem SpM.nw {P : Value → AHeap → Prop} {t : TypeId} {cs : List Value} {k : Value → AHeap → Option (Value × AHeap)} (q : SpM c Q s h) (hk : ∀ p g, SpM c (⟨p, p, t, true, cs⟩ :: Q) s g → Rs P (k (ptr p 0) g)) : Rs P (aNew h t cs k) := hk _ _ (q.new t cs)
theorem putI {e : Nat} {x1 x2 : Int} (q : SpM c Q s h) (hr : Rd c K s) (hK : K ≤ 1000000) : Rs (fun v g => v = .int .i64 (hdLn s : Int) ∧ SpM c Q s.emit g) (call Tp Ms (e + 1) 178 [ptr c.G 0, .int .i64 x1, .int .i64 x2] h) := u178 q hr.fs (hr.b7 hK) x1 x2
theorem u207 {e i f : Nat} {n : Kn} {kv : Value} {c0 : Int} {l : List Int} (ok : c.Ok) (hn : c.T[i]? = some n) (hk : n.k = 17) (hks : n.ks = c0 :: l) (hlen : l.length = 1 ∨ l.length = 2) (kd : KdH c.b c.h0 kv n.ks) (hc : aCells (knVal n kv) = some (knCells n kv)) (hE : EvOk c 0 209 c0 f) (hB : ∀ k ∈ l, EvOk c 2 179 k f)
  (q : SpM c Q s h) (hr : Rd c K s) (hK : K + 5 * sz c.T (i : Int) ≤ 900000) (he : eE + 8 * f ≤ e + 2) :
  Rs (PU c Q (runS c.T (f + 1) 1 (i : Int) s)) (call Tp Ms (e + 3) 207 [ptr c.G 0, knVal n kv] h) := by
 have hsz := sz_s ok.S.lo hn
 have lo := ok.S.lo i n hn
 rw [hks] at hsz lo
 rw [List.map_cons, List.sum_cons] at hsz
 have em : runS c.T (f + 1) 1 (i : Int) s = if n.ks.length = 2 then runS c.T f 2 (n.ks.getD 1 0) (runS c.T f 0 (n.ks.getD 0 0) s).emit else runS c.T f 2 (n.ks.getD 2 0) (runS c.T f 2 (n.ks.getD 1 0) (runS c.T f 0 (n.ks.getD 0 0) s).emit).emit := by
  show stepS c.T (runS c.T f) 1 (i : Int) s = _
  rw [st1_at hn, if_neg (by omega), if_pos hk]
 rw [em, c207, e207]
 refine Rs.b hc (q.nw fun p g1 q1 => ?_)
 obtain ⟨p1, a1, a2⟩ := kd.ld q1 (j := 0) (k := c0) (by rw [hks]; rfl)
 refine Rs.b rfl (Rs.b (q1.ld (k := 3) rfl) (Rs.b a1 (Rs.b a2 (Rs.b rfl (Rs.c (hE (e + 2) _ _ _ K he q1 hr (by omega)) fun v g2 hv => ?_)))))
 obtain ⟨rfl, q2⟩ := hv
 have g0 := gd_ev ok (f := f) (m := 0) (by decide) (lo c0 (by simp)).1 s
 have r2 := hr.gd g0
 rw [hks]
 show Rs (PU c Q (if (c0 :: l).length = 2 then runS c.T f 2 (l.getD 0 0) (runS c.T f 0 c0 s).emit else runS c.T f 2 (l.getD 1 0) (runS c.T f 2 (l.getD 0 0) (runS c.T f 0 c0 s).emit).emit)) _
 generalize runS c.T f 0 c0 s = s2 at q2 r2 ⊢
 refine Rs.c (putI (e := e + 1) q2 r2 (by omega)) fun v g3 hv => ?_
 obtain ⟨rfl, q3⟩ := hv
 have r3 := r2.emit
 have l3 := hdLn_emit r2.fs
 generalize s2.emit = s3 at q3 r3 l3 ⊢
 obtain ⟨x, hx⟩ : ∃ x, l[0]? = some x := ⟨l[0], by simp⟩
 have hxm := List.mem_of_getElem? hx
 obtain ⟨p2, b1, b2⟩ := kd.ld q3 (j := 1) (k := x) (by rw [hks]; exact hx)
 have szx : sz c.T x ≤ (l.map (sz c.T)).sum := mem_sz hxm
 refine Rs.b rfl (Rs.b rfl (Rs.b (q3.ld (k := 3) rfl) (Rs.b b1 (Rs.b b2 (Rs.b rfl (Rs.c (hB x hxm (e + 2) _ _ _ _ he q3 r3 (by omega)) fun v g4 hv => ?_))))))
 obtain ⟨rfl, q4⟩ := hv
 have g1' := gd_ev ok (f := f) (m := 2) (by decide) (lo x (by simp [hxm])).1 s3
 have r4 := r3.gd g1'
 have l4 := hdLn_mo g1'.m
 have ex : l.getD 0 0 = x := by rw [List.getD, hx]; rfl
 rw [ex]
 generalize runS c.T f 2 x s3 = s4 at q4 r4 l4 ⊢
 refine Rs.b rfl (Rs.b (q4.ld (k := 3) rfl) (Rs.b kd.len (Rs.b rfl ?_)))
 have hkl : n.ks.length = l.length + 1 := by rw [hks]; rfl
 rcases hlen with hl1 | hl2
 ·rw [if_pos (by rw [List.length_cons, hl1])]
  refine Rs.ct (bT (by omega)) ?_
  refine Rs.c (u210 (e := e) q4 r4.fs (r4.b7 (by omega)) (a := hdLn s2) (by omega)) fun v g5 hv => ?_
  obtain ⟨rfl, q5⟩ := hv
  exact Rs.fin ⟨rfl, q5.out⟩
 ·rw [if_neg (by rw [List.length_cons, hl2]; decide)]
  refine Rs.cf (bF (by omega)) ?_
  refine Rs.c (putI (e := e + 1) q4 r4 (by omega)) fun v g5 hv => ?_
  obtain ⟨rfl, q5⟩ := hv
  have r5 := r4.emit
  have l5 := hdLn_emit r4.fs
  generalize s4.emit = s5 at q5 r5 l5 ⊢
  refine Rs.b rfl ?_
  refine Rs.c (u210 (e := e) q5 r5.fs (r5.b7 (by omega)) (a := hdLn s2) (by omega)) fun v g6 hv => ?_
  obtain ⟨rfl, q6⟩ := hv
  obtain ⟨y, hy⟩ : ∃ y, l[1]? = some y := ⟨l[1], by simp⟩
  have hym := List.mem_of_getElem? hy
  obtain ⟨p3, d1, d2⟩ := kd.ld q6 (j := 2) (k := y) (by rw [hks]; exact hy)
  have szy : sz c.T x + sz c.T y ≤ (l.map (sz c.T)).sum := by
   match l, hl2, hx, hy with
   | [a, b], _, hx, hy =>
    cases hx
    cases hy
    simp
  refine Rs.b rfl (Rs.b (q6.ld (k := 3) rfl) (Rs.b d1 (Rs.b d2 (Rs.b rfl (Rs.c (hB y hym (e + 2) _ _ _ _ he q6 r5 (by omega)) fun v g7 hv => ?_)))))
  obtain ⟨rfl, q7⟩ := hv
  have g2' := gd_ev ok (f := f) (m := 2) (by decide) (lo y (by simp [hym])).1 s5
  have r7 := r5.gd g2'
  have l7 := hdLn_mo g2'.m
  have ey : l.getD 1 0 = y := by rw [List.getD, hy]; rfl
  rw [ey]
  generalize runS c.T f 2 y s5 = s7 at q7 r7 l7 ⊢
  refine Rs.c (u210 (e := e) q7 r7.fs (r7.b7 (by omega)) (a := hdLn s4) (by omega)) fun v g8 hv => ?_
  obtain ⟨rfl, q8⟩ := hv
  exact Rs.fin ⟨rfl, q8.out⟩
theorem l199_1 {e N f p i : Nat} {n : Kn} {kv : Value} (ok : c.Ok) (kd : KdH c.b c.h0 kv n.ks) (lo : ∀ k ∈ n.ks, 0 ≤ k) (hl : n.ks.length ≤ 1100000) (he : eE + 8 * f ≤ e + 1) (hE : ∀ k ∈ n.ks, EvOk c 0 209 k f) :
  ∀ (k j m : Nat) (s : SG) (h : AHeap) (K : Nat), n.ks.length - j = k → j ≤ n.ks.length → k < m → SpM c (⟨p, p, 73, true, knCells n kv⟩ :: Q) s h → Rd c K s → K + 5 * ((n.ks.drop j).map (sz c.T)).sum ≤ 900000 →
   Rs (PU c Q ((n.ks.drop j).foldl (fun g k => runS c.T f 0 k g) s).emit) (s199_1 hk0 (call Tp Ms (e + 1)) N m (ptr c.G 0) (ptr p 0) (j : Int) h) := by
 intro k
 induction k with
 | zero =>
  intro j m s h K hk hj hm q hr hK
  obtain ⟨m, rfl⟩ : ∃ q, m = q + 1 := ⟨m - 1, by omega⟩
  rw [List.drop_eq_nil_of_le (by omega), s199_1_eq]
  refine Rs.b rfl (Rs.b (q.ld (k := 3) rfl) (Rs.b kd.len (Rs.b rfl (Rs.cf (decide_eq_false (by omega)) (Rs.b rfl (Rs.b (q.ld (k := 0) rfl) (Rs.b rfl ?_)))))))
  have fin : ∀ op : Int, Rs (PU c Q s.emit) ((call Tp Ms (e + 1) 178 [ptr c.G 0, .int .i64 op, .int .i64 0] h).bind fun r82 => (asI .i64 r82.1).bind fun n83 => some (.tuple (List.toArray []), r82.2)) := fun op =>
   Rs.c (putI (e := e) q hr (by omega)) fun v g hv => by
    obtain ⟨rfl, q2⟩ := hv
    exact Rs.b rfl (Rs.fin ⟨rfl, q2.out⟩)
  by_cases h1 : n.k = 16
  ·exact Rs.ct (bT h1) (fin 15)
  refine Rs.cf (bF h1) ?_
  by_cases h2 : n.k = 19
  ·exact Rs.ct (bT h2) (fin 24)
  ·exact Rs.cf (bF h2) (fin 25)
 | succ k ih =>
  intro j m s h K hk hj hm q hr hK
  obtain ⟨m, rfl⟩ : ∃ q, m = q + 1 := ⟨m - 1, by omega⟩
  have hlt : j < n.ks.length := by omega
  rw [List.drop_eq_getElem_cons hlt] at hK ⊢
  rw [List.map_cons, List.sum_cons] at hK
  rw [List.foldl_cons]
  have hmem : n.ks[j] ∈ n.ks := List.getElem_mem hlt
  have hgd := gd_ev ok (f := f) (m := 0) (by decide) (lo _ hmem) s
  obtain ⟨p', k1, k2⟩ := kd.ld q (j := j) (k := n.ks[j]) (List.getElem?_eq_getElem hlt)
  rw [s199_1_eq]
  refine Rs.b rfl (Rs.b (q.ld (k := 3) rfl) (Rs.b kd.len (Rs.b rfl (Rs.ct (decide_eq_true (by omega)) (Rs.b rfl (Rs.b (q.ld (k := 3) rfl) (Rs.b k1 (Rs.b k2 (Rs.b rfl (Rs.c (hE _ hmem (e + 1) _ _ _ K he q hr (by omega)) fun v g hv => ?_))))))))))
  obtain ⟨rfl, q2⟩ := hv
  rw [wq (by omega) (by omega), show ((j : Int) + 1) = ((j + 1 : Nat) : Int) by omega]
  exact ih (j + 1) m _ g (K + 5 * sz c.T n.ks[j]) (by omega) (by omega) (by omega) q2 (hr.gd hgd) (by omega)
theorem u199 {i f : Nat} {n : Kn} (ok : c.Ok) (hn : c.T[i]? = some n) (hk : xSt n.k) (hE : ∀ k ∈ n.ks, xEx (kk c.T k) → EvOk c 0 209 k f) (hB : ∀ k ∈ n.ks, kk c.T k = 21 → EvOk c 2 179 k f) (hl : n.ks.length ≤ 1100000) : EvOk c 1 199 (i : Int) (f + 1) := by
 intro e Q s h K he q hr hK
 obtain ⟨e, rfl⟩ : ∃ x, e = x + 4 := ⟨e - 4, by unfold eE at he; omega⟩
 have he' : 20000000 ≤ e + 1 := by unfold eE at he; omega
 have hbn := (hr.bs (by omega)).n
 have hsz := sz_s ok.S.lo hn
 have lo := ok.S.lo i n hn
 have hiT : (i : Int) < (c.T.length : Int) := by have := (List.getElem?_eq_some_iff.1 hn).1; omega
 obtain ⟨tq, kv, t1, t2, kd, hc⟩ := q.node ok hn
 have em : runS c.T (f + 1) 1 (i : Int) s = stepS c.T (runS c.T f) 1 (i : Int) s := rfl
 unfold xSt at hk
 rw [c199, e199]
 refine Rs.b rfl (Rs.b rfl (Rs.b rfl (Rs.b q.t.1 (Rs.b t1 (Rs.b t2 (q.put hc fun p g q1 => ?_))))))
 refine Rs.b rfl (Rs.b (q1.ld (k := 0) rfl) (Rs.b rfl ?_))
 by_cases h15 : n.k = 15
 ·have hone := ok.S.one i n hn (.inr h15)
  match hks : n.ks, hone with
  | [c0], _ =>
  rw [hks] at hsz
  simp only [List.map_cons, List.map_nil, List.sum_cons, List.sum_nil] at hsz
  have hx := ok.S.ex i n hn (by omega) c0 (by rw [hks]; simp)
  rw [em, st1_at hn, if_pos h15, hks]
  refine Rs.ct (bT h15) (Rs.c (u206 (e := e + 1) ok hn hks (hE c0 (by rw [hks]; simp) hx) q1 hr (by omega) (by omega)) fun v g2 hv => ?_)
  obtain ⟨rfl, q2⟩ := hv
  exact Rs.fin ⟨rfl, q2.out⟩
 refine Rs.cf (bF h15) ?_
 by_cases h17 : n.k = 17
 ·obtain ⟨c0, l, hks, hx, hlen, hb⟩ := ok.S.iff i n hn h17
  refine Rs.ct (bT h17) (Rs.b q1.ldN4 (Rs.c (u207 (e := e) ok hn h17 hks hlen kd hc (hE c0 (by rw [hks]; simp) hx) (fun k hk => hB k (by rw [hks]; simp [hk]) (hb k hk)) q1 hr hK (by omega)) fun v g2 hv => ?_))
  obtain ⟨rfl, q2⟩ := hv
  exact Rs.fin ⟨rfl, q2.out⟩
 refine Rs.cf (bF h17) ?_
 by_cases h18 : n.k = 18
 ·obtain ⟨c0, x, hks, hx, hb⟩ := ok.S.whl i n hn h18
  rw [hks] at hsz
  simp only [List.map_cons, List.map_nil, List.sum_cons, List.sum_nil] at hsz
  rw [em, st1_at hn, if_neg h15, if_neg h17, if_pos h18, hks]
  show Rs (PU c Q (runS c.T f 2 x (runS c.T f 0 c0 s).emit).emit) _
  refine Rs.ct (bT h18) (Rs.c (u208 (e := e + 2) q1 hr.fs (hr.b7 (by omega))) fun v g2 hv => ?_)
  obtain ⟨rfl, rfl⟩ := hv
  obtain ⟨p1, a1, a2⟩ := kd.ld q1 (j := 0) (k := c0) (by rw [hks]; rfl)
  refine Rs.b rfl (Rs.b rfl (Rs.b (q1.ld (k := 3) rfl) (Rs.b a1 (Rs.b a2 (Rs.b rfl (Rs.c (hE c0 (by rw [hks]; simp) hx (e + 3) _ _ _ K (by omega) q1 hr (by omega)) fun v g3 hv => ?_))))))
  obtain ⟨rfl, q2⟩ := hv
  have r2 := hr.gd (gd_ev ok (f := f) (m := 0) (by decide) (lo c0 (by rw [hks]; simp)).1 s)
  generalize runS c.T f 0 c0 s = s2 at q2 r2 ⊢
  refine Rs.c (putI (e := e + 2) q2 r2 (by omega)) fun v g4 hv => ?_
  obtain ⟨rfl, q3⟩ := hv
  have r3 := r2.emit
  have l3 := hdLn_emit r2.fs
  generalize s2.emit = s3 at q3 r3 l3 ⊢
  obtain ⟨p2, b1, b2⟩ := kd.ld q3 (j := 1) (k := x) (by rw [hks]; rfl)
  refine Rs.b rfl (Rs.b rfl (Rs.b (q3.ld (k := 3) rfl) (Rs.b b1 (Rs.b b2 (Rs.b rfl (Rs.c (hB x (by rw [hks]; simp) hb (e + 3) _ _ _ _ (by omega) q3 r3 (by omega)) fun v g5 hv => ?_))))))
  obtain ⟨rfl, q4⟩ := hv
  have gB := gd_ev ok (f := f) (m := 2) (by decide) (lo x (by rw [hks]; simp)).1 s3
  have r4 := r3.gd gB
  have l4 := hdLn_mo gB.m
  generalize runS c.T f 2 x s3 = s4 at q4 r4 l4 ⊢
  refine Rs.c (putI (e := e + 2) q4 r4 (by omega)) fun v g6 hv => ?_
  obtain ⟨rfl, q5⟩ := hv
  have r5 := r4.emit
  have l5 := hdLn_emit r4.fs
  generalize s4.emit = s5 at q5 r5 l5 ⊢
  refine Rs.b rfl (Rs.c (u210 (e := e + 1) q5 r5.fs (r5.b7 (by omega)) (a := hdLn s2) (by omega)) fun v g7 hv => ?_)
  obtain ⟨rfl, q6⟩ := hv
  exact Rs.fin ⟨rfl, q6.out⟩
 refine Rs.cf (bF h18) ?_
 have hx : ∀ k ∈ n.ks, xEx (kk c.T k) := ok.S.ex i n hn (by omega)
 by_cases h14 : n.k = 14
 ·have hone := ok.S.one i n hn (.inl h14)
  match hks : n.ks, hone with
  | [c0], _ =>
  rw [hks] at hsz hx
  simp only [List.map_cons, List.map_nil, List.sum_cons, List.sum_nil] at hsz
  rw [em, st1_at hn, if_neg h15, if_neg h17, if_neg h18, if_pos h14, hks]
  show Rs (PU c Q (if (runS c.T f 0 c0 s).cd ≠ 0 then runS c.T f 0 c0 s else if (localS (i : Int) (runS c.T f 0 c0 s)).2 = false then (localS (i : Int) (runS c.T f 0 c0 s)).1 else if (localS (i : Int) (runS c.T f 0 c0 s)).1.bx.getD i false = true then (localS (i : Int) (runS c.T f 0 c0 s)).1.emit.emit else (localS (i : Int) (runS c.T f 0 c0 s)).1.emit)) _
  obtain ⟨p1, a1, a2⟩ := kd.ld q1 (j := 0) (k := c0) (by rw [hks]; rfl)
  refine Rs.ct (bT h14) (Rs.b rfl (Rs.b (q1.ld (k := 3) rfl) (Rs.b a1 (Rs.b a2 (Rs.b rfl (Rs.c (hE c0 (by rw [hks]; simp) (hx c0 (by simp)) (e + 3) _ _ _ K (by omega) q1 hr (by omega)) fun v g3 hv => ?_))))))
  obtain ⟨rfl, q2⟩ := hv
  have r2 := hr.gd (gd_ev ok (f := f) (m := 0) (by decide) (lo c0 (by rw [hks]; simp)).1 s)
  generalize runS c.T f 0 c0 s = s2 at q2 r2 ⊢
  refine Rs.b rfl (Rs.b rfl (Rs.b q2.cd (Rs.b rfl ?_)))
  by_cases hcd : s2.cd = 0
  case neg =>
   rw [if_pos hcd]
   exact Rs.ct (nT hcd) (Rs.fin ⟨rfl, q2.out⟩)
  rw [if_neg (fun h => h hcd)]
  refine Rs.cf (nF hcd) (Rs.c (u177 (e := e + 1) ok q2 r2.fs (r2.b7 (by omega)) hn) fun v g4 hv => ?_)
  obtain ⟨rfl, q3⟩ := hv
  have r3 := r2.gd (Gd.local s2 (i : Int) (by omega) hiT)
  generalize localS (i : Int) s2 = L at q3 r3 ⊢
  refine Rs.b rfl ?_
  cases hL : L.2 with
  | false =>
   rw [if_pos rfl]
   exact Rs.ct rfl (Rs.fin ⟨rfl, q3.out⟩)
  | true =>
   rw [if_neg (by decide)]
   refine Rs.cf rfl ?_
   have hb7 := r3.b7 (by omega)
   have hbn3 := (r3.bs (by omega)).n
   obtain ⟨v, pp, a, s1, s2', s3, s4, s5⟩ := q3.slot (e := e + 2) (x1 := (i : Int)) r3.fs hb7 (by omega)
   rw [s199_0_j, s199_0_eq]
   refine Rs.b rfl (Rs.b rfl (Rs.b s1 (Rs.b rfl (Rs.b rfl (Rs.b s1 (Rs.b s2' (Rs.b rfl ?_)))))))
   rw [wq (by omega) (by omega)]
   refine Rs.b s3 (Rs.b s4 (Rs.c s5 fun v g5 hv => ?_))
   obtain ⟨z2, rfl, q4⟩ := hv
   refine Rs.b rfl (Rs.c (putI (e := e + 2) q4 r3 (by omega)) fun v g6 hv => ?_)
   obtain ⟨rfl, q5⟩ := hv
   have r5 := r3.emit
   obtain ⟨bv, bp, b1, b2, b3, _⟩ := q5.bx (z := (i : Int)) (by omega) (by rw [show L.1.emit.bx = L.1.bx from rfl, r3.v.i.b]; exact hiT)
   refine Rs.b rfl (Rs.b rfl (Rs.b rfl (Rs.b b1 (Rs.b b2 (Rs.b b3 (Rs.b rfl ?_))))))
   have eb : L.1.emit.bx.getD (i : Int).toNat false = L.1.bx.getD i false := by rw [Int.toNat_natCast]; rfl
   rw [eb]
   cases L.1.bx.getD i false with
   | true =>
    rw [if_pos rfl]
    refine Rs.ct rfl (Rs.c (putI (e := e + 2) q5 r5 (by omega)) fun v g7 hv => ?_)
    obtain ⟨rfl, q6⟩ := hv
    exact Rs.b rfl (Rs.fin ⟨rfl, q6.out⟩)
   | false =>
    rw [if_neg (by decide)]
    exact Rs.cf rfl (Rs.fin ⟨rfl, q5.out⟩)
 refine Rs.cf (bF h14) ?_
 rw [em, st1_at hn, if_neg h15, if_neg h17, if_neg h18, if_neg h14]
 have := l199_1 (Q := Q) (N := e + 3) (e := e + 2) (f := f) (p := p) (i := i) ok kd (fun k hk => (lo k hk).1) hl (by omega) (fun k hk => hE k hk (hx k hk)) n.ks.length 0 (e + 3) s g K (by omega) (by omega) (by omega) q1 hr (by rw [List.drop_zero]; omega)
 rw [List.drop_zero] at this
 exact this
end
open Go.AM (Rs)
theorem vbKn {n : Kn} {kv : Value} (h : isCell kv = true ∧ ∀ f a c, kv ≠ .func f a c) : vbeq (knVal n kv) (knVal n kv) = true := by
 have h1 := vbeq1_self kv h.1 h.2
 have h2 : vbeq1 (.string n.t) (.string n.t) = true := vbeq1_self (.string n.t) rfl (fun _ _ _ h => by cases h)
 show (vbeq1 (.int .i64 n.k) (.int .i64 n.k) && (vbeq1 (.string n.t) (.string n.t) && (vbeq1 (.int .i64 n.i) (.int .i64 n.i) && (vbeq1 kv kv && true)))) = true
 rw [h1, h2]
 simp [vbeq1]
section
variable {c : Cn} {Q Q2 : List AM.ORow} {s s' : SG} {h g : AHeap} {K w : Nat}
theorem SpM.put2 {P : Value → AHeap → Prop} {n : Kn} {kv : Value} {k : Value → AHeap → Option (Value × AHeap)} (q : SpM c Q s h) (hc : aCells (knVal n kv) = some (knCells n kv))
  (hk : ∀ p g, SpM c Q s g → (∃ g', aSt g (ptr p 0) (knVal n kv) 4 = some g' ∧ SpM c (⟨p, p, 73, true, knCells n kv⟩ :: Q) s g') → Rs P (k (ptr p 0) g)) : Rs P (aNew h 73 [.int .i64 0, .string ⟨#[]⟩, .int .i64 0, .slice none 0 0] k) := by
 have qr := q.new 73 [.int .i64 0, .string ⟨#[]⟩, .int .i64 0, .slice none 0 0]
 obtain ⟨W, P', hwn, hq, q0⟩ := q
 have q2 := q0.ins q0.q (q0.y.nw 73 [.int .i64 0, .string ⟨#[]⟩, .int .i64 0, .slice none 0 0]) (q0.y.new 73 [.int .i64 0, .string ⟨#[]⟩, .int .i64 0, .slice none 0 0])
 obtain ⟨g, a, E, q3⟩ := q2.stQ q0.q (off := 0) (m := 4) (vs := knCells n kv) (v := knVal n kv) hc rfl (by show 4 ≤ 4; decide)
 exact hk _ _ qr.out ⟨g, a, W, _, hwn, List.cons_subset_cons _ hq, q3.grow (List.subset_cons_self _ _) (fun x hx => hx)⟩
theorem l228_2 {e N m1 f p : Nat} {x3 : Value} {x4 x5 : Int} {n : Kn} {kv : Value} (ok : c.Ok) (kd : KdH c.b c.h0 kv n.ks) (lo : ∀ k ∈ n.ks, 0 ≤ k) (hl : n.ks.length ≤ 1100000) (he : eE + 8 * f ≤ e + 1) (hE : ∀ k ∈ n.ks, EvOk c 0 209 k f) {P : Value → AHeap → Prop} {S : SG} {KS : Nat} (hKS : KS ≤ 900000)
  (hk : ∀ g, SpM c (⟨p, p, 73, true, knCells n kv⟩ :: Q) S.emit g → Rd c (KS + 1) S.emit → Rs P (s228_0 hk0 (call Tp Ms (e + 1)) N m1 (ptr c.G 0) x3 x4 (IntKind.i64.wrap (x5 + 1)) g)) :
  ∀ (k j m : Nat) (s : SG) (h : AHeap) (K : Nat), n.ks.length - j = k → j ≤ n.ks.length → k < m → SpM c (⟨p, p, 73, true, knCells n kv⟩ :: Q) s h → Rd c K s → K + 5 * ((n.ks.drop j).map (sz c.T)).sum ≤ KS → (n.ks.drop j).foldl (fun g k => runS c.T f 0 k g) s = S →
   Rs P (s228_2 hk0 (call Tp Ms (e + 1)) N m1 m (ptr c.G 0) x3 x4 x5 (ptr p 0) (j : Int) h) := by
 intro k
 induction k with
 | zero =>
  intro j m s h K hk' hj hm q hr hK hS
  obtain ⟨m, rfl⟩ : ∃ q, m = q + 1 := ⟨m - 1, by omega⟩
  rw [List.drop_eq_nil_of_le (by omega)] at hS
  have hS' : s = S := hS
  subst hS'
  rw [s228_2_eq]
  refine Rs.b rfl (Rs.b (q.ld (k := 3) rfl) (Rs.b kd.len (Rs.b rfl (Rs.cf (decide_eq_false (by omega)) (Rs.c (putI (e := e) q hr (by omega)) fun v g hv => ?_)))))
  obtain ⟨rfl, q2⟩ := hv
  have r2 := hr.emit
  exact Rs.b rfl (hk g q2 ⟨r2.fs, r2.v.mono (by omega)⟩)
 | succ k ih =>
  intro j m s h K hk' hj hm q hr hK hS
  obtain ⟨m, rfl⟩ : ∃ q, m = q + 1 := ⟨m - 1, by omega⟩
  have hlt : j < n.ks.length := by omega
  rw [List.drop_eq_getElem_cons hlt] at hK hS
  rw [List.map_cons, List.sum_cons] at hK
  rw [List.foldl_cons] at hS
  have hmem : n.ks[j] ∈ n.ks := List.getElem_mem hlt
  have hgd := gd_ev ok (f := f) (m := 0) (by decide) (lo _ hmem) s
  obtain ⟨p', k1, k2⟩ := kd.ld q (j := j) (k := n.ks[j]) (List.getElem?_eq_getElem hlt)
  rw [s228_2_eq]
  refine Rs.b rfl (Rs.b (q.ld (k := 3) rfl) (Rs.b kd.len (Rs.b rfl (Rs.ct (decide_eq_true (by omega)) (Rs.b rfl (Rs.b (q.ld (k := 3) rfl) (Rs.b k1 (Rs.b k2 (Rs.b rfl (Rs.c (hE _ hmem (e + 1) _ _ _ K he q hr (by omega)) fun v g hv => ?_))))))))))
  obtain ⟨rfl, q2⟩ := hv
  rw [wq (by omega) (by omega), show ((j : Int) + 1) = ((j + 1 : Nat) : Int) by omega]
  exact ih (j + 1) m _ g (K + 5 * sz c.T n.ks[j]) (by omega) (by omega) (by omega) q2 (hr.gd hgd) (by omega) hS
theorem l228_0 {e N f p i : Nat} {n : Kn} {kv : Value} (ok : c.Ok) (hN : 1100000 < N) (kd : KdH c.b c.h0 kv n.ks) (lo : ∀ k ∈ n.ks, 0 ≤ k ∧ k < (i : Int)) (hi : i ≤ c.T.length) (hl : n.ks.length ≤ 1100000) (he : eE + 8 * f ≤ e + 1)
  (hE : ∀ x ∈ n.ks, ∀ (j : Nat) (m : Kn), x = j → c.T[j]? = some m → m.ks.length ≤ 1100000 ∧ ∀ k ∈ m.ks, EvOk c 0 209 k f) :
  ∀ (k j m : Nat) (it : Nat) (s : SG) (h : AHeap) (K : Nat), n.ks.length - j = k → j ≤ n.ks.length → k < m → it ≤ j → SpM c (⟨p, p, 73, true, knCells n kv⟩ :: Q) s h → Rd c K s → K + 5 * ((n.ks.drop j).map (sz c.T)).sum ≤ 900000 →
   Rs (PU c Q ((n.ks.drop j).foldl (itemS c.T (runS c.T f 0)) s)) (s228_0 hk0 (call Tp Ms (e + 1)) N m (ptr c.G 0) (ptr p 0) (it : Int) (j : Int) h) := by
 intro k
 induction k with
 | zero =>
  intro j m it s h K hk' hj hm hit q hr hK
  obtain ⟨m, rfl⟩ : ∃ q, m = q + 1 := ⟨m - 1, by omega⟩
  rw [List.drop_eq_nil_of_le (by omega), s228_0_eq]
  exact Rs.b rfl (Rs.b (q.ld (k := 3) rfl) (Rs.b kd.len (Rs.b rfl (Rs.cf (decide_eq_false (by omega)) (Rs.fin ⟨rfl, q.out⟩)))))
 | succ k ih =>
  intro j m it s h K hk' hj hm hit q hr hK
  obtain ⟨m, rfl⟩ : ∃ q, m = q + 1 := ⟨m - 1, by omega⟩
  have hlt : j < n.ks.length := by omega
  rw [List.drop_eq_getElem_cons hlt] at hK ⊢
  rw [List.map_cons, List.sum_cons] at hK
  rw [List.foldl_cons]
  have hmem : n.ks[j] ∈ n.ks := List.getElem_mem hlt
  have lox := lo _ hmem
  obtain ⟨x, ex⟩ : ∃ x : Nat, n.ks[j] = x := ⟨n.ks[j].toNat, by omega⟩
  have hxT : x < c.T.length := by omega
  obtain ⟨mx, hmx⟩ : ∃ mx, c.T[x]? = some mx := ⟨c.T[x], by simp [hxT]⟩
  obtain ⟨hml, hmE⟩ := hE _ hmem x mx ex hmx
  obtain ⟨p', k1, k2⟩ := kd.at' j n.ks[j] (List.getElem?_eq_getElem hlt)
  obtain ⟨tq, kx, t1, kdx, t2⟩ := ok.tr.at' x mx hmx
  obtain ⟨_, _, _, _, _, hcx⟩ := q.node ok hmx
  have hcx' : aCells (knVal mx kx) = some (knCells mx kx) := by
   have e : (List.all (List.toArray (knCells mx kx)).toList isCell) = true := by
    show (true && (true && (true && (isCell kx && true)))) = true
    rw [kdx.cell.1]; rfl
   show (if (List.all (List.toArray (knCells mx kx)).toList isCell) = true then some (List.toArray (knCells mx kx)).toList else none) = _
   rw [if_pos e]
  have hsz := sz_s ok.S.lo hmx
  have gi : Gd c.T (5 * sz c.T (x : Int)) s (itemS c.T (runS c.T f 0) s (x : Int)) := gd_item ok.S hmx (fun k hk s => gd_ev ok (by decide) (ok.S.lo x mx hmx k hk).1 s) s
  rw [ex] at hK k2 ⊢
  rw [s228_0_eq]
  refine Rs.b rfl (Rs.b (q.ld (k := 3) rfl) (Rs.b kd.len (Rs.b rfl (Rs.ct (decide_eq_true (by omega)) (Rs.b rfl (Rs.b rfl (Rs.b rfl (Rs.b q.t.1 (Rs.b rfl (Rs.b (q.ld (k := 3) rfl) (Rs.b k1 (Rs.b (k2 h q.t.2) (Rs.b rfl (Rs.b t1 (Rs.b (t2 h q.t.2).1 (q.put2 hcx' fun p2 g2 q2 hst => ?_))))))))))))))))
  obtain ⟨g3, a3, q3⟩ := hst
  refine Rs.b (ag q2.t.1 ok.tr.vb) (Rs.ct rfl (Rs.b (ag (q2.ld (k := 3) rfl) kd.vb) (Rs.ct rfl (Rs.b (agI' (k2 g2 q2.t.2)) (Rs.ct rfl (Rs.b (ag (t2 g2 q2.t.2).1 (vbKn kdx.cell)) (Rs.ct rfl (Rs.b a3 (Rs.c (putI (e := e) q3 hr (by omega)) fun v g4 hv => ?_)))))))))
  obtain ⟨rfl, q4⟩ := hv
  have r4 := hr.emit
  have em : itemS c.T (runS c.T f 0) s (x : Int) = (mx.ks.foldl (fun g k => runS c.T f 0 k g) (if mx.k = 23 then s.emit.emit else s.emit)).emit := by
   unfold itemS
   rw [Int.toNat_natCast, hmx]
  have fin : ∀ (g5 : AHeap) (it' : Nat) (s5 : SG), it' ≤ j + 1 → SpM c (⟨p2, p2, 73, true, knCells mx kx⟩ :: ⟨p, p, 73, true, knCells n kv⟩ :: Q) s5 g5 → Rd c (K + 2) s5 → s5 = (if mx.k = 23 then s.emit.emit else s.emit) →
    Rs (PU c Q ((n.ks.drop (j + 1)).foldl (itemS c.T (runS c.T f 0)) (itemS c.T (runS c.T f 0) s (x : Int)))) (s228_1 hk0 (call Tp Ms (e + 1)) N m (ptr c.G 0) (ptr p 0) (it' : Int) (j : Int) (ptr p2 0) g5) := fun g5 it' s5 hit' q5 r5 e5 => by
   rw [s228_1_j, s228_1_eq, em, ← e5]
   refine l228_2 (N := N) (m1 := m) (x3 := ptr p 0) (x4 := (it' : Int)) (x5 := (j : Int)) (p := p2) (KS := K + 2 + 5 * (mx.ks.map (sz c.T)).sum) ok kdx (fun k hk => (ok.S.lo x mx hmx k hk).1) hml he hmE (by omega) (fun g6 q6 r6 => ?_) mx.ks.length 0 N s5 g5 (K + 2) (by omega) (by omega) (by omega) q5 r5 (by rw [List.drop_zero]; omega) (by rw [List.drop_zero])
   rw [wq (by omega) (by omega), show ((j : Int) + 1) = ((j + 1 : Nat) : Int) by omega]
   exact ih (j + 1) m it' _ g6 (K + 2 + 5 * (mx.ks.map (sz c.T)).sum + 1) (by omega) (by omega) (by omega) hit' q6.out r6 (by omega)
  refine Rs.b rfl (Rs.b rfl (Rs.b (q4.ld (k := 0) rfl) (Rs.b rfl ?_)))
  by_cases h23 : mx.k = 23
  ·refine Rs.ct (bT h23) ?_
   rw [wq (by omega) (by omega), show ((it : Int) + 1) = ((it + 1 : Nat) : Int) by omega]
   refine Rs.c (putI (e := e) q4 r4 (by omega)) fun v g5 hv => ?_
   obtain ⟨rfl, q5⟩ := hv
   exact Rs.b rfl (fin g5 (it + 1) _ (by omega) q5 r4.emit (by rw [if_pos h23]))
  ·exact Rs.cf (bF h23) (fin g4 it _ (by omega) q4 ⟨r4.fs, r4.v.mono (by omega)⟩ (by rw [if_neg h23]))
theorem u228 {e i f : Nat} {n : Kn} {kv : Value} (ok : c.Ok) (hn : c.T[i]? = some n) (kd : KdH c.b c.h0 kv n.ks) (hc : aCells (knVal n kv) = some (knCells n kv)) (hl : n.ks.length ≤ 1100000) (he : eE + 8 * f ≤ e + 1)
  (hE : ∀ x ∈ n.ks, ∀ (j : Nat) (m : Kn), x = j → c.T[j]? = some m → m.ks.length ≤ 1100000 ∧ ∀ k ∈ m.ks, EvOk c 0 209 k f) (q : SpM c Q s h) (hr : Rd c K s) (hK : K + 5 * sz c.T (i : Int) ≤ 900000) :
  Rs (PU c Q (n.ks.foldl (itemS c.T (runS c.T f 0)) s.emit)) (call Tp Ms (e + 2) 228 [ptr c.G 0, knVal n kv] h) := by
 have he' : 20000000 ≤ e + 1 := by unfold eE at he; omega
 have hsz := sz_s ok.S.lo hn
 have hiT : i < c.T.length := (List.getElem?_eq_some_iff.1 hn).1
 rw [c228, e228]
 refine Rs.b hc (q.nw fun p g1 q1 => Rs.c (putI (e := e) q1 hr (by omega)) fun v g2 hv => ?_)
 obtain ⟨rfl, q2⟩ := hv
 have r2 := hr.emit
 have := l228_0 (Q := Q) (N := e + 1) (e := e) (f := f) (p := p) (i := i) ok (by omega) kd (ok.S.lo i n hn) (by omega) hl he hE n.ks.length 0 (e + 1) 0 s.emit g2 (K + 1) (by omega) (by omega) (by omega) (by omega) q2 r2 (by rw [List.drop_zero]; omega)
 rw [List.drop_zero] at this
 exact Rs.b rfl this
theorem l140 {C : ACall} {N p : Nat} {x1 : Nat} {b : Nat} {h0 : AHeap} {nv : Value} {T : List Kn} (tr : TrH b h0 nv T) (E : AM.Ext b h0 g) (hl : aLd1 g (ptr p 0) = some nv) (hx : x1 ≤ T.length) (hT : T.length ≤ 3000) :
  ∀ (k j m : Nat) (a : Nat), x1 - j = k → j ≤ x1 → k < m → a ≤ j + 1 → Rs (fun v g' => g' = g ∧ v = .int .i64 ((a + (((T.take x1).drop j).filter fun n => n.k == 6).length : Nat) : Int)) (s140_0 hk0 C N m (x1 : Int) (ptr p 0) (a : Int) (j : Int) g) := by
 intro k
 induction k with
 | zero =>
  intro j m a hk hj hm ha
  obtain ⟨m, rfl⟩ : ∃ q, m = q + 1 := ⟨m - 1, by omega⟩
  rw [s140_0_eq, List.drop_eq_nil_of_le (by rw [List.length_take]; omega)]
  exact Rs.cf (decide_eq_false (by omega)) (Rs.fin ⟨rfl, rfl⟩)
 | succ k ih =>
  intro j m a hk hj hm ha
  obtain ⟨m, rfl⟩ : ∃ q, m = q + 1 := ⟨m - 1, by omega⟩
  have hlt : j < T.length := by omega
  have hlt2 : j < (T.take x1).length := by rw [List.length_take]; omega
  have hg : T[j]? = some T[j] := by simp [hlt]
  obtain ⟨tq, kx, t1, kdx, t2⟩ := tr.at' j T[j] hg
  have eg : (T.take x1)[j] = T[j] := List.getElem_take
  rw [s140_0_eq, List.drop_eq_getElem_cons hlt2, eg]
  refine Rs.ct (decide_eq_true (by omega)) (Rs.b rfl (Rs.b hl (Rs.b t1 (Rs.b rfl (Rs.b (t2 g E).2.1 (Rs.b rfl ?_))))))
  by_cases h6 : T[j].k = 6
  ·refine Rs.ct (bT h6) ?_
   rw [wq (by omega) (by omega), wq (by omega) (by omega), show ((a : Int) + 1) = ((a + 1 : Nat) : Int) by omega, show ((j : Int) + 1) = ((j + 1 : Nat) : Int) by omega]
   refine (ih (j + 1) m (a + 1) (by omega) (by omega) (by omega) (by omega)).mono fun v g ⟨e1, e2⟩ => ⟨e1, ?_⟩
   rw [e2, List.filter_cons_of_pos (by simp [h6]), List.length_cons]
   congr 2
   omega
  ·refine Rs.cf (bF h6) ?_
   rw [wq (by omega) (by omega), show ((j : Int) + 1) = ((j + 1 : Nat) : Int) by omega]
   refine (ih (j + 1) m a (by omega) (by omega) (by omega) (by omega)).mono fun v g ⟨e1, e2⟩ => ⟨e1, ?_⟩
   rw [e2, List.filter_cons_of_neg (by simp [h6])]
theorem u140 {e x1 : Nat} {b : Nat} {h0 : AHeap} {nv : Value} {top : Int} {T : List Kn} (tr : TrH b h0 nv T) (E : AM.Ext b h0 h) (hb : b ≤ h.size) (hx : x1 ≤ T.length) (hT : T.length ≤ 3000) (he : 20000 ≤ e) :
  Rs (fun v g => AM.Ext h.size h g ∧ v = .int .i64 ((numS T (x1 : Int) : Nat) : Int)) (call Tp Ms (e + 1) 140 [trVal nv top, .int .i64 (x1 : Int)] h) := by
 have hc : aCells (trVal nv top) = some [nv, .int .i64 top] := by
  have e : (List.all (List.toArray [nv, Value.int .i64 top]).toList isCell) = true := by
   show (isCell nv && (true && true)) = true
   rw [tr.cell.1]; rfl
  show (if (List.all (List.toArray [nv, Value.int .i64 top]).toList isCell) = true then some (List.toArray [nv, Value.int .i64 top]).toList else none) = _
  rw [if_pos e]
 have E1 := AM.Ext.new (Nat.le_refl h.size) 35 [nv, .int .i64 top]
 have r1 : AM.Row (h.new 35 [nv, .int .i64 top]) h.size [nv, .int .i64 top] := ⟨_, at?_new_same h 35 _, rfl⟩
 rw [c140, e140]
 refine Rs.b hc ?_
 show Rs _ (s140_0 hk0 (call Tp Ms e) e e (x1 : Int) (ptr h.size 0) 1 0 (h.new 35 [nv, .int .i64 top]))
 generalize h.new 35 [nv, .int .i64 top] = g at E1 r1 ⊢
 refine (l140 (C := call Tp Ms e) (N := e) (p := h.size) (x1 := x1) tr (E.trans (E1.mono hb)) (r1.ld1 rfl) hx hT x1 0 e 1 (by omega) (by omega) (by omega) (by omega)).mono fun v g' ⟨e1, e2⟩ => ⟨by rw [e1]; exact E1, ?_⟩
 rw [e2, List.drop_zero]
 unfold numS
 rw [Int.toNat_natCast]
end
open Go.AM (Rs)
section
variable {c : Cn} {Q Q2 : List AM.ORow} {s s' : SG} {h g : AHeap} {K w : Nat}
theorem SpM.top (q : SpM c Q s h) (hfs : s.fs ≠ []) : ∃ (F : CF) (R : List CF) (r : FRw) (v : Value) (i : Nat), s.fs = F :: R ∧ aLd1 h (ptr c.G 2) = some v ∧ aIdx v (.int .i64 (R.length : Int)) 9 = some (ptr i (R.length * 9)) ∧ aLdN h (ptr i (R.length * 9)) 9 = some (.agg (List.toArray (r.cells F))) ∧
  aLen (r.pu.val F.up.length) = some (.int .i64 (F.up.length : Int)) ∧ aLen (r.cd.val F.ln) = some (.int .i64 (F.ln : Int)) ∧ aLen (r.ow.val F.own.length) = some (.int .i64 (F.own.length : Int)) ∧
  ∀ z : Int, ∃ g, aSt h (ptr i (R.length * 9 + 0 + 0)) (.int .i64 z) 1 = some g ∧ SpM c Q s g := by
 obtain ⟨⟨wn, ⟨fi, frt, flv⟩, ou, tx', rs, jk, oc, nd⟩, P, hwn, hq, q⟩ := q
 have q0 := q
 obtain ⟨fs, sbx, ts, cd⟩ := s
 cases fs with
 | nil => exact absurd rfl hfs
 | cons F R =>
 cases rs with
 | nil => exact q.k.elim
 | cons r rs =>
 dsimp only at hwn
 subst hwn
 have ix := q.ixF rfl
 have k := q.k
 have y := q.y
 have ldN := q.ldN rfl rfl
 dsimp only at ix k y ldN
 obtain ⟨ix, hlv⟩ := ix
 subst hlv
 refine ⟨F, R, r, _, fi, rfl, y.ldO 0 2 rfl rfl, ix, ldN, y.len 5 (r := r.pu) (esz := 2) rfl (by have := k.1; show F.up.length * 2 ≤ r.uc.length; omega) (by decide), y.len 6 (r := r.cd) (esz := 2) rfl (by have := k.2.1; show F.ln * 2 ≤ r.cc.length; omega) (by decide), y.len 8 (r := r.ow) (esz := 1) (k := F.own.length) rfl (by simp [ints]) (by decide), fun z => ?_⟩
 obtain ⟨g1, a1, E1, y1⟩ := stC y 1 (fi := fi) (frt := frt) (rs := rs) (R := R) (jk := jk) (cells := r.cells F) rfl k.2.2.len rfl (m := 0) (by decide) (v := .int .i64 z) rfl
 exact ⟨g1, a1, ⟨R.length + 1, ⟨fi, frt, true⟩, ou, tx', { r with pr := z } :: rs, jk, oc, nd⟩, P, rfl, hq, ⟨y1, q.E.trans E1, k, q.o, q.n, q.p, q.q⟩⟩
theorem l141_6 {C : ACall} {N p : Nat} {cells : List Value} {F : CF} {R : List CF} {nb : Nat} (q : SpM c (⟨p, p, 195, true, cells⟩ :: Q) s h) (e : s.fs = F :: R) (h9 : 4 ≤ cells.length) (hc : aCells (.agg (List.toArray (cells.take 4))) = some (cells.take 4)) (hnb : nb < c.on) :
  Rs (PU c Q { s with fs := s.fs.tail }) (s141_6 hk0 C N (ptr c.G 0) (nb : Int) (R.length : Int) (ptr p 0) h) := by
 have qo := q
 obtain ⟨⟨wn, ⟨fi, frt, flv⟩, ⟨oi, ort, olv⟩, tx', rs, jk, oc, nd⟩, P, hwn, hq, q⟩ := q
 obtain ⟨fs, sbx, ts, cd⟩ := s
 dsimp only at e
 subst e
 cases rs with
 | nil => exact q.k.elim
 | cons r rs =>
 dsimp only at hwn
 subst hwn
 have ix := q.ixF rfl
 have k := q.k
 have y := q.y
 have pf := q.p
 have ho := q.o
 have hn := q.n
 dsimp only at ix k y pf ho hn
 obtain ⟨ix, hlv⟩ := ix
 subst hlv
 have sub : aSub h 195 (AM.SR.val ⟨fi, frt, true⟩ (F :: R).length) none (some (.int .i64 (R.length : Int))) 9 = some (AM.SR.val ⟨fi, frt, true⟩ R.length) := by
  obtain ⟨⟨ep, a⟩, _⟩ := (y.ow _ (List.mem_of_getElem? (show _ = _ from rfl : (_ :: AM.SR.row ⟨fi, frt, true⟩ 195 (fsC (r :: rs) (F :: R) ++ jk) :: _ : List AM.ORow)[1]? = some _))).1 rfl
  have a' : h.at? fi = _ := a
  have b1 : aBound (.int .i64 (R.length : Int)) (R.length + 1) = some R.length := if_pos ⟨by omega, by omega⟩
  show aSub h 195 (slc fi 0 (F :: R).length) none (some (.int .i64 (R.length : Int))) 9 = some (slc fi 0 R.length)
  simp [aSub, slc, a', AM.SR.row, b1]
 obtain ⟨ixo, hol⟩ := y.ix 3 (r := ⟨oi, ort, olv⟩) (e := 173) (cs := oc) (k := c.on) (esz := 4) (j := nb) rfl (by omega) (by decide) hnb
 dsimp only at hol
 subst hol
 obtain ⟨g1, a1, E1, y1, _⟩ := y.st 0 (off := 2) (m := 1) (vs := [AM.SR.val ⟨fi, frt, true⟩ R.length]) (v := AM.SR.val ⟨fi, frt, true⟩ R.length) rfl (srCells _ _) rfl (by show 3 ≤ 8; decide)
 have pr : AM.Row g1 p cells := memRow y1 (q := ⟨p, p, 195, true, cells⟩) (List.mem_cons_of_mem _ (List.mem_cons_of_mem _ (List.mem_cons_of_mem _ (List.mem_cons_of_mem _ (List.mem_cons_of_mem _ (List.mem_append_right _ (hq List.mem_cons_self))))))) rfl
 have ld4 : aLdN g1 (ptr p 0) 4 = some (.agg (List.toArray (cells.take 4))) := by
  have := pr.ldN (off := 0) (n := 4) (by omega)
  rw [List.drop_zero] at this
  exact this
 have hl4 : (cells.take 4).length = 4 := by rw [List.length_take]; omega
 obtain ⟨g2, a2, E2, y2, _⟩ := y1.st 3 (off := nb * 4) (m := 4) (vs := cells.take 4) (v := .agg (List.toArray (cells.take 4))) rfl hc hl4 (by show nb * 4 + 4 ≤ oc.length; omega)
 rw [s141_6_j, s141_6_eq]
 refine Rs.b rfl (Rs.b rfl (Rs.b (y.ldO 0 2 rfl rfl) (Rs.b sub (Rs.b rfl (Rs.b rfl (Rs.b a1 (Rs.b rfl (Rs.b rfl (Rs.b (y1.ldO 0 4 rfl rfl) (Rs.b rfl (Rs.b ld4 (Rs.b ixo (Rs.b a2 ?_)))))))))))))
 refine Rs.fin ⟨rfl, ⟨R.length, ⟨fi, frt, true⟩, ⟨oi, ort, true⟩, tx', rs, r.cells F ++ jk, splice oc (nb * 4) (cells.take 4), nd⟩, P, rfl, fun x hx => hq (List.mem_cons_of_mem _ hx), ⟨?_, (q.E.trans E1).trans E2, k.2.2, ?_, ?_, pf.2.2, q.q⟩⟩
 ·have e1 : fsC (r :: rs) (F :: R) ++ jk = fsC rs R ++ (r.cells F ++ jk) := by
   show fsC rs R ++ r.cells F ++ jk = _
   rw [List.append_assoc]
  rw [e1] at y2
  refine y2.pick ?_
  refine .cons_cons _ (.cons_cons _ (.cons_cons _ (.cons_cons _ (.cons_cons _ ?_))))
  exact .cons _ (.cons _ (.cons _ (.cons _ (List.Sublist.refl _))))
 ·show (splice oc (nb * 4) (cells.take 4)).length = c.on * 4
  unfold splice
  simp only [List.length_append, List.length_take, List.length_drop]
  omega
 ·show R.length ≤ R.length ∧ R.length * 9 ≤ R.length * 9 + _
  omega
theorem l141_4 {e N f L nb : Nat} {x1 b : Int} (ok : c.Ok) (hb0 : 0 ≤ b) (hB : EvOk c 2 179 b f) (q : SpM c Q s h) (hr : Rd c K s) (hK : K + 5 * sz c.T b ≤ 900000) (hL : s.fs.length = L + 1) (hnb : nb < c.on) (he : eE + 8 * f ≤ e + 1) :
  Rs (PU c Q ((fun g4 : SG => { g4 with fs := g4.fs.tail }) (match (runS c.T f 2 b s).emit.emit.fs with | [] => (runS c.T f 2 b s).emit.emit | F :: _ => if F.up.length > 12 ∨ F.ln > 4000 then (runS c.T f 2 b s).emit.emit.fail 3 else (runS c.T f 2 b s).emit.emit))) (s141_4 hk0 (call Tp Ms (e + 1)) N (ptr c.G 0) x1 (nb : Int) (L : Int) b h) := by
 rw [s141_4_j, s141_4_eq]
 refine Rs.c (hB (e + 1) _ _ _ K he q hr (by omega)) fun v g1 hv => ?_
 obtain ⟨rfl, q1⟩ := hv
 have gB := gd_ev ok (f := f) (m := 2) (by decide) hb0 s
 have r1 := hr.gd gB
 have hL1 : (runS c.T f 2 b s).fs.length = L + 1 := (MoL.len gB.m).trans hL
 generalize runS c.T f 2 b s = s1 at q1 r1 hL1 ⊢
 refine Rs.c (putI (e := e) q1 r1 (by omega)) fun v g2 hv => ?_
 obtain ⟨rfl, q2⟩ := hv
 have r2 := r1.emit
 have hL2 : s1.emit.fs.length = L + 1 := (MoL.len (Gd.emit (T := c.T) s1).m).trans hL1
 generalize s1.emit = s2 at q2 r2 hL2 ⊢
 refine Rs.b rfl (Rs.c (putI (e := e) q2 r2 (by omega)) fun v g3 hv => ?_)
 obtain ⟨rfl, q3⟩ := hv
 have r3 := r2.emit
 have hL3 : s2.emit.fs.length = L + 1 := (MoL.len (Gd.emit (T := c.T) s2).m).trans hL2
 generalize s2.emit = s3 at q3 r3 hL3 ⊢
 obtain ⟨F, R, r, v, i, es, t1, t2, t3, t4, t5, t6, _⟩ := q3.top r3.fs
 have hRL : R.length = L := by rw [es] at hL3; simp at hL3; omega
 subst hRL
 obtain ⟨W, P, hwn, hq, q0⟩ := q3
 refine Rs.b rfl (Rs.b rfl (Rs.b rfl (Rs.b t1 (Rs.b t2 (Rs.b t3 (Rs.n q0.y fun p g4 E4 y4 => ?_))))))
 have q5 := q0.ins q0.q E4 y4
 obtain ⟨g6, a6, E6, q6⟩ := q5.stQ q0.q (off := 0) (m := 9) (vs := r.cells F) (v := .agg (List.toArray (r.cells F))) (frCells r F) rfl (by show 9 ≤ 9; decide)
 have es6 : splice [Value.int .i64 0, .int .i64 0, .slice none 0 0, .slice none 0 0, .slice none 0 0, .slice none 0 0, .slice none 0 0, .slice none 0 0, .slice none 0 0] 0 (r.cells F) = r.cells F := by
  unfold splice
  simp [FRw.cells]
 rw [es6] at q6
 have f6 := q6.front
 obtain ⟨g7, a7, E7, q7⟩ := q6.stQ q0.q (off := 1) (m := 1) (vs := [.int .i64 (F.own.length : Int)]) (v := .int .i64 (F.own.length : Int)) rfl rfl (by show 2 ≤ 9; decide)
 refine Rs.b a6 (Rs.b rfl (Rs.b (f6.ldO 0 8 rfl rfl) (Rs.b t6 (Rs.b rfl (Rs.b rfl (Rs.b rfl (Rs.b a7 ?_)))))))
 have f7 := q7.front
 have qM : SpM c (⟨p, p, 195, true, splice (r.cells F) 1 [.int .i64 (F.own.length : Int)]⟩ :: Q) s3 g7 := ⟨W, _, hwn, List.cons_subset_cons _ hq, q7.grow (List.subset_cons_self _ _) (fun x hx => hx)⟩
 have hc : aCells (.agg (List.toArray ((splice (r.cells F) 1 [.int .i64 (F.own.length : Int)]).take 4))) = some ((splice (r.cells F) 1 [.int .i64 (F.own.length : Int)]).take 4) := by
  have e : (List.all (List.toArray ((splice (r.cells F) 1 [Value.int .i64 (F.own.length : Int)]).take 4)).toList isCell) = true := by
   show (true && (true && (isCell (r.pu.val F.up.length) && (isCell (r.cd.val F.ln) && true)))) = true
   simp [AM.SR.cell]
  show (if (List.all (List.toArray ((splice (r.cells F) 1 [Value.int .i64 (F.own.length : Int)]).take 4)).toList isCell) = true then some (List.toArray ((splice (r.cells F) 1 [Value.int .i64 (F.own.length : Int)]).take 4)).toList else none) = _
  rw [if_pos e]
 have e5 : ∀ x : Bool, (x = true ↔ (F.up.length > 12 ∨ F.ln > 4000)) → Rs (PU c Q ((fun g4 : SG => { g4 with fs := g4.fs.tail }) (match s3.fs with | [] => s3 | F :: _ => if F.up.length > 12 ∨ F.ln > 4000 then s3.fail 3 else s3))) (s141_5 hk0 (call Tp Ms (e + 1)) N (ptr c.G 0) x1 (nb : Int) (R.length : Int) (ptr p 0) x g7) := fun x hx => by
  rw [es, s141_5_j, s141_5_eq]
  dsimp only
  cases x with
  | true =>
   rw [if_pos (hx.1 rfl)]
   refine Rs.ct rfl (Rs.c (u180 (e := e) qM 3 x1) fun v g8 hv => ?_)
   have ef : (s3.fail 3).fs = s3.fs := by unfold SG.fail; split <;> rfl
   exact l141_6 (F := F) (R := R) hv.2 (ef.trans es) (by show 4 ≤ 9; decide) hc hnb
  | false =>
   rw [if_neg (fun h => by have := hx.2 h; cases this)]
   exact Rs.cf rfl (l141_6 (F := F) (R := R) qM es (by show 4 ≤ 9; decide) hc hnb)
 refine Rs.b rfl (Rs.b rfl (Rs.b (f7.ldO 0 2 rfl rfl) (Rs.b t4 (Rs.b rfl (Rs.i (fun h12 => ?_) (fun h12 => ?_))))))
 ·exact e5 true ⟨fun _ => .inl (by omega), fun _ => rfl⟩
 ·refine Rs.b rfl (Rs.b rfl (Rs.b (f7.ldO 0 3 rfl rfl) (Rs.b t5 (Rs.b rfl ?_))))
  refine e5 _ ?_
  rw [decide_eq_true_iff]
  omega
end
open Go.AM (Rs)
abbrev zero9 : List Value := [.int .i64 0, .int .i64 0, .slice none 0 0, .slice none 0 0, .slice none 0 0, .slice none 0 0, .slice none 0 0, .slice none 0 0, .slice none 0 0]
section
variable {c : Cn} {Q Q2 : List AM.ORow} {s s' : SG} {h g : AHeap} {K w : Nat}
def pushS (s : SG) : SG := { s with fs := ⟨[], [], [], 0⟩ :: s.fs }
theorem push {P : Value → AHeap → Prop} {k : AHeap → Option (Value × AHeap)} (q : SpM c Q s h) (hb : s.fs.length ≤ 1000000) (hk : ∀ g, SpM c Q (pushS s) g → Rs P (k g)) :
  Rs P ((aNil (ptr c.G 0)).bind fun v1 => (aOff v1 2).bind fun v2 => (aLd1 h v2).bind fun v3 => (aFill zero9 [(0, 9, .agg (List.toArray zero9))]).bind fun c4 => aNewS h 195 c4 1 fun p5 h6 => (aApp h6 195 9 184 v3 p5).bind fun r7 => (aNil (ptr c.G 0)).bind fun v8 => (aOff v8 2).bind fun v9 => (aSt r7.2 v9 r7.1 1).bind fun h10 => k h10) := by
 obtain ⟨⟨wn, fr, ou, tx', rs, jk, oc, nd⟩, PP, hwn, hq, q⟩ := q
 obtain ⟨fs, sbx, ts, cd⟩ := s
 dsimp only at hwn hb
 subst hwn
 have kf := q.k
 have y := q.y
 have pf := q.p
 have hn := q.n
 dsimp only at kf y pf hn
 have hl := kf.len
 refine Rs.b rfl (Rs.b rfl (Rs.b (y.ldO 0 2 rfl rfl) (Rs.b (r := zero9) rfl (Rs.ns y fun p1 g1 E1 y1 => ?_))))
 obtain ⟨fr', g2, a2, hl2, E2, y2⟩ := y1.apS 2 (r := fr) (n' := fs.length) (m := 1) (esz := 9) (bytes := 184) (t := 195) rfl (srcN y1 0 (k := 1) (esz := 9) rfl rfl) (by decide) (by decide) (by rw [List.length_append, hl]; omega) (by show _ ≤ 140737488355328; omega) (by show _ ≤ 140737488355328; omega)
 rw [show (fsC rs fs ++ jk).take (fs.length * 9) = fsC rs fs by rw [← hl, List.take_left]] at y2
 obtain ⟨g3, a3, E3, y3, _⟩ := y2.st 1 (off := 2) (m := 1) (vs := [fr'.val (fs.length + 1)]) (v := fr'.val (fs.length + 1)) rfl (srCells _ _) rfl (by show 3 ≤ 8; decide)
 refine Rs.b a2 (Rs.b rfl (Rs.b rfl (Rs.b a3 (hk g3 ?_))))
 have y4 := y3.pick (List.sublist_cons_self _ _)
 have dd : ∀ (t : TypeId) {O : List AM.ORow}, AM.Cx c.b g3 [] O [] → AM.Cx c.b g3 [] (AM.SR.none.row t [] :: O) [] := fun t O y => y.add (AM.Ext.refl _ _) (fun h => by cases h) (fun _ => rfl)
 have y5 := dd 219 (dd 206 (dd 3 (dd 3 y4)))
 refine ⟨⟨fs.length + 1, fr', ou, tx', ⟨0, AM.SR.none, AM.SR.none, AM.SR.none, AM.SR.none, AM.SR.none, AM.SR.none, [], []⟩ :: rs, [], oc, nd⟩, PP, rfl, hq, ⟨?_, ((q.E.trans E1).trans E2).trans E3, ⟨rfl, rfl, kf⟩, q.o, ?_, ⟨⟨(fun h => by cases h), fun _ => rfl⟩, ⟨(fun h => by cases h), fun _ => rfl⟩, pf⟩, q.q⟩⟩
 ·show AM.Cx c.b g3 [] ([⟨c.G, c.G, 167, true, [c.nv, .int .i64 c.top, fr'.val (fs.length + 1), c.bx.val sbx.length, ou.val c.on, tx'.val ts.length, .int .i64 cd, .int .i64 nd]⟩, fr'.row 195 (fsC rs fs ++ zero9 ++ []), c.bx.row 4 (bls sbx), ou.row 173 oc, tx'.row 9 (strs ts)] ++ ([AM.SR.none.row 219 [], AM.SR.none.row 206 [], AM.SR.none.row 3 [], AM.SR.none.row 3 []] ++ (fsR c.T rs fs ++ PP))) []
  rw [List.append_nil]
  refine y5.perm ?_
  have p : ∀ (A B C : List AM.ORow), List.Perm (A ++ (B ++ C)) (B ++ (A ++ C)) := fun A B C => by
   rw [← List.append_assoc, ← List.append_assoc]
   exact List.Perm.append_right _ List.perm_append_comm
  exact p [AM.SR.none.row 219 [], AM.SR.none.row 206 [], AM.SR.none.row 3 [], AM.SR.none.row 3 []] [⟨c.G, c.G, 167, true, [c.nv, .int .i64 c.top, fr'.val (fs.length + 1), c.bx.val sbx.length, ou.val c.on, tx'.val ts.length, .int .i64 cd, .int .i64 nd]⟩, fr'.row 195 (fsC rs fs ++ zero9), c.bx.row 4 (bls sbx), ou.row 173 oc, tx'.row 9 (strs ts)] (fsR c.T rs fs ++ PP)
 ·show fs.length + 1 ≤ fs.length + 1 ∧ (fs.length + 1) * 9 ≤ (fs.length + 1) * 9 + 0
  omega
theorem pushS_len (s : SG) : (pushS s).fs.length = s.fs.length + 1 := rfl
theorem Rd.push (hi : Iv c.T K s) : Rd c (K + 1) (pushS s) := ⟨by unfold pushS; simp, ⟨hi.b.push, ⟨fun F hF => by
 rcases List.mem_cons.1 hF with h | h
 ·subst h; exact ⟨(fun q hq => by cases hq), (fun q hq => by cases hq)⟩
 ·exact hi.i.a F h, hi.i.b⟩⟩⟩
theorem l141_2 {e N L i : Nat} {n : Kn} {kv : Value} {x1 x2 b : Int} {ps : List Int} (ok : c.Ok) (kd : KdH c.b c.h0 kv n.ks) (hks : n.ks = ps ++ [b]) (hps : ∀ k ∈ ps, 0 ≤ k ∧ k < (c.T.length : Int)) (hl : ps.length ≤ 1100000) (he : 20000000 ≤ e + 1) {P : Value → AHeap → Prop} {S : SG} {KS : Nat} (hKS : KS ≤ 900000)
  (hk : ∀ g, SpM c Q S g → Rd c KS S → Rs P (s141_4 hk0 (call Tp Ms (e + 1)) N (ptr c.G 0) x1 x2 (L : Int) b g)) :
  ∀ (k j m : Nat) (s : SG) (h : AHeap) (K : Nat), ps.length - j = k → j ≤ ps.length → k < m → SpM c Q s h → Rd c K s → K + (ps.length - j) ≤ KS → (ps.drop j).foldl (fun g k => if g.cd = 0 ∧ g.bx.getD k.toNat false = true then g.emit else g) s = S →
   Rs P (s141_2 hk0 (call Tp Ms (e + 1)) N m (ptr c.G 0) x1 x2 (L : Int) b kv (j : Int) h) := by
 have hkl : n.ks.length = ps.length + 1 := by rw [hks]; simp
 have skip : ∀ (l : List Int) (g : SG), g.cd ≠ 0 → l.foldl (fun g k => if g.cd = 0 ∧ g.bx.getD k.toNat false = true then g.emit else g) g = g := fun l => by
  induction l with
  | nil => intro g _; rfl
  | cons k l ih => intro g h; rw [List.foldl_cons, if_neg (fun x => h x.1)]; exact ih g h
 intro k
 induction k with
 | zero =>
  intro j m s h K hk' hj hm q hr hK hS
  obtain ⟨m, rfl⟩ : ∃ q, m = q + 1 := ⟨m - 1, by omega⟩
  rw [List.drop_eq_nil_of_le (by omega)] at hS
  have hS' : s = S := hS
  subst hS'
  rw [s141_2_eq]
  refine Rs.b kd.len (Rs.b rfl ?_)
  rw [wq (by omega) (by omega)]
  exact Rs.cf (decide_eq_false (by omega)) (hk h q ⟨hr.fs, hr.v.mono (by omega)⟩)
 | succ k ih =>
  intro j m s h K hk' hj hm q hr hK hS
  obtain ⟨m, rfl⟩ : ∃ q, m = q + 1 := ⟨m - 1, by omega⟩
  have hlt : j < ps.length := by omega
  have hkj : n.ks[j]? = some ps[j] := by rw [hks, List.getElem?_append_left hlt, List.getElem?_eq_getElem hlt]
  have hmem : ps[j] ∈ ps := List.getElem_mem hlt
  rw [s141_2_eq]
  refine Rs.b kd.len (Rs.b rfl ?_)
  rw [wq (by omega) (by omega)]
  refine Rs.ct (decide_eq_true (by omega)) (Rs.b rfl (Rs.b rfl (Rs.b q.cd (Rs.b rfl ?_))))
  by_cases hcd : s.cd = 0
  case neg =>
   rw [skip _ _ hcd] at hS
   subst hS
   exact Rs.cf (bF hcd) (hk h q ⟨hr.fs, hr.v.mono (by omega)⟩)
  rw [List.drop_eq_getElem_cons hlt, List.foldl_cons] at hS
  obtain ⟨p', k1, k2⟩ := kd.ld q hkj
  obtain ⟨bv, bp, b1, b2, b3, _⟩ := q.bx (hps _ hmem).1 (by rw [hr.v.i.b]; exact (hps _ hmem).2)
  refine Rs.ct (bT hcd) ?_
  rw [s141_3_j, s141_3_eq]
  refine Rs.b rfl (Rs.b rfl (Rs.b b1 (Rs.b k1 (Rs.b k2 (Rs.b rfl (Rs.b b2 (Rs.b b3 (Rs.b rfl ?_))))))))
  rw [wq (by omega) (by omega), show ((j : Int) + 1) = ((j + 1 : Nat) : Int) by omega]
  by_cases hbx : s.bx.getD ps[j].toNat false = true
  ·rw [if_pos ⟨hcd, hbx⟩] at hS
   rw [hbx]
   refine Rs.ct rfl (Rs.c (putI (e := e) q hr (by omega)) fun v g hv => ?_)
   obtain ⟨rfl, q2⟩ := hv
   exact Rs.b rfl (ih (j + 1) m s.emit g (K + 1) (by omega) (by omega) (by omega) q2 hr.emit (by omega) hS)
  ·rw [if_neg (fun x => hbx x.2)] at hS
   rw [Bool.eq_false_iff.2 hbx]
   exact Rs.cf rfl (ih (j + 1) m s h K (by omega) (by omega) (by omega) q hr (by omega) hS)
theorem l141_0 {e N L i : Nat} {n : Kn} {kv : Value} {x1 x2 b : Int} {ps : List Int} (ok : c.Ok) (kd : KdH c.b c.h0 kv n.ks) (hks : n.ks = ps ++ [b]) (hps : ∀ k ∈ ps, 0 ≤ k ∧ k < (c.T.length : Int)) (hl : ps.length ≤ 1100000) (he : 20000000 ≤ e + 1) {P : Value → AHeap → Prop} {S : SG} {KS : Nat} (hKS : KS ≤ 900000)
  (hk : ∀ g, SpM c Q S g → Rd c KS S → Rs P (s141_2 hk0 (call Tp Ms (e + 2)) N N (ptr c.G 0) x1 x2 (L : Int) b kv 0 g)) :
  ∀ (k j m : Nat) (s : SG) (h : AHeap) (K : Nat), ps.length - j = k → j ≤ ps.length → k < m → SpM c Q s h → Rd c K s → s.fs.length = L + 1 → K + (ps.length - j) ≤ KS → (ps.drop j).foldl (fun g k => if g.cd = 0 then (localS k g).1 else g) s = S →
   Rs P (s141_0 hk0 (call Tp Ms (e + 2)) N m (ptr c.G 0) x1 x2 (L : Int) b kv (j : Int) h) := by
 have hkl : n.ks.length = ps.length + 1 := by rw [hks]; simp
 have skip : ∀ (l : List Int) (g : SG), g.cd ≠ 0 → l.foldl (fun g k => if g.cd = 0 then (localS k g).1 else g) g = g := fun l => by
  induction l with
  | nil => intro g _; rfl
  | cons k l ih => intro g h; rw [List.foldl_cons, if_neg h]; exact ih g h
 intro k
 induction k with
 | zero =>
  intro j m s h K hk' hj hm q hr hL hK hS
  obtain ⟨m, rfl⟩ : ∃ q, m = q + 1 := ⟨m - 1, by omega⟩
  rw [List.drop_eq_nil_of_le (by omega)] at hS
  have hS' : s = S := hS
  subst hS'
  obtain ⟨F, R, r, v, ii, es, t1, t2, _, _, _, _, tp⟩ := q.top hr.fs
  have hRL : R.length = L := by rw [es] at hL; simp at hL; omega
  rw [hRL] at t2 tp
  rw [s141_0_eq]
  refine Rs.b kd.len (Rs.b rfl ?_)
  rw [wq (by omega) (by omega)]
  obtain ⟨g, a, q2⟩ := tp (IntKind.i64.wrap ((n.ks.length : Int) - 1))
  exact Rs.cf (decide_eq_false (by omega)) (Rs.b rfl (Rs.b rfl (Rs.b t1 (Rs.b kd.len (Rs.b rfl (Rs.b t2 (Rs.b rfl (Rs.b rfl (Rs.b a (hk g q2 ⟨hr.fs, hr.v.mono (by omega)⟩))))))))))
 | succ k ih =>
  intro j m s h K hk' hj hm q hr hL hK hS
  obtain ⟨m, rfl⟩ : ∃ q, m = q + 1 := ⟨m - 1, by omega⟩
  have hlt : j < ps.length := by omega
  have hkj : n.ks[j]? = some ps[j] := by rw [hks, List.getElem?_append_left hlt, List.getElem?_eq_getElem hlt]
  have hmem : ps[j] ∈ ps := List.getElem_mem hlt
  have hp := hps _ hmem
  rw [s141_0_eq]
  refine Rs.b kd.len (Rs.b rfl ?_)
  rw [wq (by omega) (by omega)]
  refine Rs.ct (decide_eq_true (by omega)) (Rs.b rfl (Rs.b rfl (Rs.b q.cd (Rs.b rfl ?_))))
  by_cases hcd : s.cd = 0
  case neg =>
   rw [skip _ _ hcd] at hS
   subst hS
   obtain ⟨F, R, r, v, ii, es, t1, t2, _, _, _, _, tp⟩ := q.top hr.fs
   have hRL : R.length = L := by rw [es] at hL; simp at hL; omega
   rw [hRL] at t2 tp
   obtain ⟨g, a, q2⟩ := tp (IntKind.i64.wrap ((n.ks.length : Int) - 1))
   exact Rs.cf (bF hcd) (Rs.b rfl (Rs.b rfl (Rs.b t1 (Rs.b kd.len (Rs.b rfl (Rs.b t2 (Rs.b rfl (Rs.b rfl (Rs.b a (hk g q2 ⟨hr.fs, hr.v.mono (by omega)⟩))))))))))
  rw [List.drop_eq_getElem_cons hlt, List.foldl_cons, if_pos hcd] at hS
  obtain ⟨p', k1, k2⟩ := kd.ld q hkj
  obtain ⟨x, ex⟩ : ∃ x : Nat, ps[j] = x := ⟨ps[j].toNat, by omega⟩
  have hxT : x < c.T.length := by omega
  rw [ex] at hS k2
  have gl := Gd.local (T := c.T) s (x : Int) (by omega) (by omega)
  refine Rs.ct (bT hcd) ?_
  rw [s141_1_j, s141_1_eq]
  refine Rs.b k1 (Rs.b k2 (Rs.b rfl (Rs.c (u177 (e := e) ok q hr.fs (hr.b7 (by omega)) (show c.T[x]? = some c.T[x] by simp [hxT])) fun v g hv => ?_)))
  obtain ⟨rfl, q2⟩ := hv
  refine Rs.b rfl ?_
  rw [wq (by omega) (by omega), show ((j : Int) + 1) = ((j + 1 : Nat) : Int) by omega]
  exact ih (j + 1) m _ g (K + 1) (by omega) (by omega) (by omega) q2 (hr.gd gl) ((MoL.len gl.m).trans hL) (by omega) hS
theorem u141 {e i f nb : Nat} {n : Kn} (ok : c.Ok) (hn : c.T[i]? = some n) (hl : n.ks.length ≤ 1100000) (hB : EvOk c 2 179 (if n.k = 6 then n.ks.getLastD 0 else (i : Int)) f) (hnb : nb < c.on) (q : SpM c Q s h) (hi : Iv c.T K s) (hK : n.k = 6 → K + 5 * sz c.T (i : Int) ≤ 900000) (hK' : n.k ≠ 6 → K + 1 + 5 * sz c.T (i : Int) ≤ 900000) (he : eE + 8 * f ≤ e + 1) :
  Rs (PU c Q (bodyS c.T (runS c.T f 2) (i : Int) s)) (call Tp Ms (e + 3) 141 [ptr c.G 0, .int .i64 (i : Int), .int .i64 (nb : Int)] h) := by
 have he' : 20000000 ≤ e + 1 := by unfold eE at he; omega
 have hsl := hi.b.n
 have hKK : K ≤ 900000 := by
  by_cases h : n.k = 6
  ·have := hK h; omega
  ·have := hK' h; omega
 have hsz := sz_s ok.S.lo hn
 obtain ⟨tq, kv, t1, kd, t2⟩ := ok.tr.at' i n hn
 have eb : bodyS c.T (runS c.T f 2) (i : Int) s = ((fun g4 : SG => { g4 with fs := g4.fs.tail }) (match (runS c.T f 2 (if n.k = 6 then n.ks.getLastD 0 else (i : Int)) ((if n.k = 6 then n.ks.dropLast else []).foldl (fun g k => if g.cd = 0 ∧ g.bx.getD k.toNat false = true then g.emit else g) ((if n.k = 6 then n.ks.dropLast else []).foldl (fun g k => if g.cd = 0 then (localS k g).1 else g) (pushS s)))).emit.emit.fs with
   | [] => (runS c.T f 2 (if n.k = 6 then n.ks.getLastD 0 else (i : Int)) ((if n.k = 6 then n.ks.dropLast else []).foldl (fun g k => if g.cd = 0 ∧ g.bx.getD k.toNat false = true then g.emit else g) ((if n.k = 6 then n.ks.dropLast else []).foldl (fun g k => if g.cd = 0 then (localS k g).1 else g) (pushS s)))).emit.emit
   | F :: _ => if F.up.length > 12 ∨ F.ln > 4000 then (runS c.T f 2 (if n.k = 6 then n.ks.getLastD 0 else (i : Int)) ((if n.k = 6 then n.ks.dropLast else []).foldl (fun g k => if g.cd = 0 ∧ g.bx.getD k.toNat false = true then g.emit else g) ((if n.k = 6 then n.ks.dropLast else []).foldl (fun g k => if g.cd = 0 then (localS k g).1 else g) (pushS s)))).emit.emit.fail 3 else (runS c.T f 2 (if n.k = 6 then n.ks.getLastD 0 else (i : Int)) ((if n.k = 6 then n.ks.dropLast else []).foldl (fun g k => if g.cd = 0 ∧ g.bx.getD k.toNat false = true then g.emit else g) ((if n.k = 6 then n.ks.dropLast else []).foldl (fun g k => if g.cd = 0 then (localS k g).1 else g) (pushS s)))).emit.emit)) := by
  unfold bodyS
  rw [Int.toNat_natCast, hn]
  rfl
 rw [eb, c141, e141]
 refine push q (by omega) fun g q1 => ?_
 have r1 : Rd c (K + 1) (pushS s) := Rd.push hi
 obtain ⟨lv, ll1, ll2⟩ := q1.len
 refine Rs.b rfl (Rs.b rfl (Rs.b ll1 (Rs.b ll2 (Rs.b rfl (Rs.b rfl (Rs.b rfl (Rs.b rfl (Rs.b q1.t.1 (Rs.b t1 (Rs.b rfl (Rs.b (t2 g q1.t.2).2.1 (Rs.b rfl ?_))))))))))))
 have eL : IntKind.i64.wrap (((pushS s).fs.length : Int) - 1) = (s.fs.length : Int) := by rw [pushS_len, wp _ (by omega)]
 rw [eL]
 by_cases h6 : n.k = 6
 ·have hK := hK h6
  simp only [if_pos h6] at hB ⊢
  obtain ⟨ps, b, hks, _, _⟩ := ok.S.fn i n hn h6
  have lo := ok.S.lo i n hn
  have hkl : n.ks.length = ps.length + 1 := by rw [hks]; simp
  have hiT := (List.getElem?_eq_some_iff.1 hn).1
  have hps : ∀ k ∈ ps, 0 ≤ k ∧ k < (c.T.length : Int) := fun k hk => by
   have := lo k (by rw [hks]; simp [hk])
   omega
  have hb0 := (lo b (by rw [hks]; simp)).1
  have hlast : n.ks[ps.length]? = some b := by rw [hks]; simp
  have e1 : n.ks.dropLast = ps := by rw [hks, List.dropLast_concat]
  have e2 : n.ks.getLastD 0 = b := by rw [hks, List.getLastD_concat]
  rw [e2] at hB
  rw [e1, e2]
  have szps : ps.length + sz c.T b ≤ (n.ks.map (sz c.T)).sum := by
   rw [hks, List.map_append, List.sum_append]
   simp only [List.map_cons, List.map_nil, List.sum_cons, List.sum_nil]
   have : ∀ l : List Int, (∀ k ∈ l, 0 ≤ k ∧ k < (c.T.length : Int)) → l.length ≤ (l.map (sz c.T)).sum := fun l => by
    induction l with
    | nil => intro _; simp
    | cons a l ih =>
     intro h
     have h1 := ih fun k hk => h k (by simp [hk])
     have h2 := h a (by simp)
     obtain ⟨j, rfl⟩ : ∃ q : Nat, a = q := ⟨a.toNat, by omega⟩
     have hj : j < c.T.length := by omega
     have h3 := sz_s ok.S.lo (show c.T[j]? = some c.T[j] by simp [hj])
     rw [List.map_cons, List.sum_cons, List.length_cons]; omega
   have := this ps hps
   omega
  obtain ⟨p', k1, k2⟩ := kd.ld q1 hlast
  refine Rs.ct (bT h6) (Rs.b rfl (Rs.b rfl (Rs.b rfl (Rs.b q1.t.1 (Rs.b t1 (Rs.b rfl (Rs.b (t2 g q1.t.2).2.2.2.2 (Rs.b kd.len (Rs.b rfl ?_)))))))))
  rw [show IntKind.i64.wrap ((n.ks.length : Int) - 1) = (ps.length : Int) by rw [hkl, wp _ (by omega)]]
  refine Rs.b k1 (Rs.b k2 (Rs.b rfl ?_))
  refine l141_0 (Q := Q) (e := e) (N := e + 2) (L := s.fs.length) (i := i) (x1 := (i : Int)) (x2 := (nb : Int)) (KS := K + 1 + ps.length) ok kd hks hps (by omega) (by omega) (by omega) (fun g2 q2 r2 => ?_) ps.length 0 (e + 2) (pushS s) g (K + 1) (by omega) (by omega) (by omega) q1 r1 (pushS_len s) (by omega) (by rw [List.drop_zero])
  have hL2 : (ps.foldl (fun g k => if g.cd = 0 then (localS k g).1 else g) (pushS s)).fs.length = s.fs.length + 1 := by
   have := gd_fold (T := c.T) (R := fun g k => if g.cd = 0 then (localS k g).1 else g) (w := fun _ => 1) ps (fun k hk s => by
    split
    ·exact Gd.local s k (hps k hk).1 (hps k hk).2
    ·exact (Gd.refl s).mono (by omega)) (pushS s)
   exact (MoL.len this.m).trans (pushS_len s)
  refine l141_2 (Q := Q) (e := e + 1) (N := e + 2) (L := s.fs.length) (i := i) (x1 := (i : Int)) (x2 := (nb : Int)) (KS := K + 1 + ps.length + ps.length) ok kd hks hps (by omega) (by omega) (by omega) (fun g3 q3 r3 => ?_) ps.length 0 (e + 2) _ g2 (K + 1 + ps.length) (by omega) (by omega) (by omega) q2 r2 (by omega) (by rw [List.drop_zero])
  have hL3 : (ps.foldl (fun g k => if g.cd = 0 ∧ g.bx.getD k.toNat false = true then g.emit else g) (ps.foldl (fun g k => if g.cd = 0 then (localS k g).1 else g) (pushS s))).fs.length = s.fs.length + 1 := by
   have := gd_fold (T := c.T) (R := fun g k => if g.cd = 0 ∧ g.bx.getD k.toNat false = true then g.emit else g) (w := fun _ => 1) ps (fun k hk s => by
    split
    ·exact Gd.emit s
    ·exact (Gd.refl s).mono (by omega)) (ps.foldl (fun g k => if g.cd = 0 then (localS k g).1 else g) (pushS s))
   exact (MoL.len this.m).trans hL2
  exact l141_4 (e := e + 1) (N := e + 2) (L := s.fs.length) (nb := nb) (x1 := (i : Int)) ok hb0 hB q3 r3 (by omega) hL3 hnb (by omega)
 ·have hK := hK' h6
  simp only [if_neg h6] at hB ⊢
  refine Rs.cf (bF h6) ?_
  exact l141_4 (e := e + 1) (N := e + 2) (L := s.fs.length) (nb := nb) (x1 := (i : Int)) ok (by omega) hB q1 r1 (by omega) (pushS_len s) hnb (by omega)
end
end Go.Proofs.Ytadmoackacickaa
