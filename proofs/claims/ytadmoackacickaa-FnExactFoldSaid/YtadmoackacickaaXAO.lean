import Derived.Test.YtadmoackacickaaXAN
/- FnExactFold, as the small evaluator runs it. -/
set_option linter.unusedSimpArgs false
namespace Go.Proofs.Ytadmoackacickaa
open Go Go.AH

theorem flK_ok {Q : Kn → Prop} {F : Int → Nat → List Kn} : ∀ (ks : List Int) (b : Nat), (∀ k ∈ ks, ∀ b, ∀ n ∈ F k b, Q n) → ∀ n ∈ (flK F ks b).1, Q n
  | [], _, _, n, hn => by simp [flK] at hn
  | k :: ks, b, h, n, hn => by
    rw [flK] at hn
    rcases List.mem_append.1 hn with hn | hn
    · exact h k (by simp) b n hn
    · exact flK_ok ks _ (fun q hq => h q (by simp [hq])) n hn
theorem FL_ok {T : List Kn} (K : Tg T) : ∀ (i : Nat) (r : RT) (b : Nat), RtOk T i r → i < T.length → ∀ n ∈ FL T r b, n.t.size ≤ 1048576 ∧ n.ks.length ≤ 1048576 := by
  intro i
  induction i using Nat.strongRecOn with
  | _ i ih =>
    intro r b hr hi n hn
    cases r with
    | c m =>
      rw [FL_c] at hn
      rw [List.mem_singleton.1 hn]
      exact ⟨hr.2.1, by show 0 ≤ _; decide⟩
    | o j =>
      have hj : j ≤ i := hr
      have hjl : j < T.length := by omega
      have hnj : T[j]? = some T[j] := by simp [hjl]
      have hok := K.txt _ (List.getElem_mem hjl)
      rw [FL_o K hnj] at hn
      rcases List.mem_append.1 hn with hn | hn
      · refine flK_ok (Q := fun n => n.t.size ≤ 1048576 ∧ n.ks.length ≤ 1048576) T[j].ks b (fun k hk b n hn => ?_) n hn
        have hkr := (K.good _ _ hnj).rng _ hk
        have z := RR_ok K k.toNat (by omega)
        rw [show ((k.toNat : Nat) : Int) = k by omega] at z
        exact ih k.toNat (by omega) _ b z (by omega) n hn
      · rw [List.mem_singleton.1 hn]
        exact ⟨hok.1, by show (flK _ _ _).2.length ≤ _; rw [flK_len]; exact hok.2⟩
theorem foldL_ok {T : List Kn} {top : Int} (hN : ∀ n ∈ T, n.t.size ≤ 1048576 ∧ n.ks.length ≤ 1048576) : (foldL T top).length ≤ 3000 ∧ ∀ n ∈ foldL T top, n.t.size ≤ 1048576 ∧ n.ks.length ≤ 1048576 := by
  unfold foldL
  by_cases hok : specOk T top = true
  · rw [if_pos hok]
    have R := right_of hok
    have K := R.tg hN
    have hpos := R.pos
    have hlen := R.len
    have rok := RR_ok K (T.length - 1) (by omega)
    have htop : ((T.length - 1 : Nat) : Int) = (T.length : Int) - 1 := by omega
    rw [htop] at rok
    have fb := fl_bound K (T.length + 1) ((T.length : Int) - 1) 0 (by omega) (by omega) (by omega) (by rw [R.num]; omega) 0
    refine ⟨?_, FL_ok K (T.length - 1) _ 0 rok (by omega)⟩
    have h2 := fb.2
    unfold foldT
    omega
  · rw [if_neg hok]
    exact ⟨by simp, fun n hn => by simp at hn⟩
theorem RowE.ge {b : Nat} {h g : AHeap} {i : Nat} {e : TypeId} {cs : List Value} (r : RowE h i e cs) (x : Ext b h g) (hi : i < b) : RowE g i e cs := let ⟨o, a, q1, q2⟩ := r; ⟨o, x.at? hi a, q1, q2⟩
theorem RowE.lt {h : AHeap} {i : Nat} {e : TypeId} {cs : List Value} (r : RowE h i e cs) : i < h.size := let ⟨_, a, _⟩ := r; (at?_obj a).2.1
theorem KSl.lo {c d : Nat} {h : AHeap} {v : Value} {ns : List Kn} (x : KSl c h v ns) (hd : c ≤ d) : KSl d h v ns := x.mono hd
/-- The last part: marks on what the program gave, and its Fold once more. -/
theorem l10_3 {d p2 p13 p26 c B p' : Nat} (hd : 1048577 < d) {nv v4 v8 : Value} {T : List Kn} {top : Int} {rts : List Nat} {rn : Nat} {h : AHeap} (hT : T.length ≤ 1048576) (hK : ∀ n ∈ T, n.t.size ≤ 1048576 ∧ n.ks.length ≤ 1048576)
    (x : KSl c h nv T) (hcB : c ≤ B) (hB : B ≤ h.size) (r2 : RowE h p2 30 [nv, .int .i64 top]) (hp2 : p2 < B) (r13 : RowE h p13 35 [v4, .int .i64 (foldTop T top)]) (hp13 : p13 < B) (s4 : KSl c h v4 (foldL T top))
    (r26 : RowE h p26 35 [v8, .int .i64 (foldTop T top)]) (n8 : NS B p' h v8 (foldL T top) rts rn) :
    ∃ g, s10_3 hk0 (call Try.prog Ms (d + 13010 + 8)) (d + 13010 + 8) (ptr p2 0) (ptr p13 0) (specOk T top) (ptr p26 0) h = some (.bool true, g) := by
  have L := foldL_ok (top := top) hK
  have Lk : ∀ n ∈ foldL T top, n.ks.length ≤ 1048576 := fun n hn => (L.2 n hn).2
  obtain ⟨h1, c1, e1, hd1, u1⟩ := l33F (d := d + 13010 + 5) (by omega) (tp := foldTop T top) n8 hB L.1 Lk
  have c1' : call Try.prog Ms (d + 13010 + 8) 33 [trVal v8 (foldTop T top), .int .i64 1] h = _ := c1
  have r26a : RowE h1 p26 35 [v8, .int .i64 (foldTop T top)] := let ⟨o, a, q1, q2⟩ := r26; ⟨o, u1 _ o a (by rw [q1]; decide) (by rw [q1]; decide), q1, q2⟩
  obtain ⟨h2, c2, e2⟩ := l44 (d := d + 13010 + 5) (by omega) (tp := foldTop T top) n8.cell L.1 Lk hd1
  have c2' : call Try.prog Ms (d + 13010 + 8) 44 [trVal v8 (foldTop T top), .int .i64 1] h1 = _ := c2
  have E2 : Ext B h h2 := e1.trans (e2.mono (Nat.le_trans hB e1.size))
  have r2b := r2.ge E2 hp2
  obtain ⟨nd, h3, c3, e3, k3⟩ := l21 (d := d + 13010 + 4) (by omega) (top := top) (x.ext (E2.mono hcB)) (by have := E2.size; omega) hT hK
  have c3' : call Try.prog Ms (d + 13010 + 8) 21 [trVal nv top] h2 = _ := c3
  obtain ⟨v4', h4, rts4, rn4, p4, c4, e4, n4, nx4⟩ := l43 hd (top := top) k3.kse hT hK
  have e5 := Ext.new (Nat.le_refl h4.size) 35 [.slice none 0 0, .int .i64 0]
  have o5 := Own.new (Nat.le_refl h4.size) 35 [.slice none 0 0, .int .i64 0]
  generalize hg5 : h4.new 35 [.slice none 0 0, .int .i64 0] = h5 at e5 o5
  obtain ⟨h6, c6, e6, o6, _⟩ := Own.stN o5 (tv_cells n4.cell (foldTop T top)) rfl rfl
  have E46 : Ext h4.size h4 h6 := e5.trans e6
  have r6 : RowE h6 h4.size 35 [v4', .int .i64 (foldTop T top)] := Own.rowE o6
  have s24 := Nat.le_trans e3.size e4.size
  have E6 : Ext B h h6 := E2.trans (((Ext.tr e3 e4).mono E2.size |>.mono hB).trans (E46.mono (by have := E2.size; omega)))
  have r13b := r13.ge E6 hp13
  have ks4 := ((n4.kse nx4).lf (SF.ext E46).lf).mono E46.size
  have s13 := (s4.ext (E6.mono hcB)).lo (show c ≤ h6.size by have := E6.size; omega)
  obtain ⟨h7, c7, e7⟩ := l23 (d := d + 13010 + 4) (by omega) (top := foldTop T top) ks4.ksl s13 (Nat.le_refl _) (by have := L.1; omega) L.2
  have c7' : call Try.prog Ms (d + 13010 + 8) 23 [trVal v4' (foldTop T top), trVal v4 (foldTop T top)] h6 = _ := c7
  have E27 : Ext h2.size h2 h7 := (Ext.tr e3 e4).trans ((E46.mono s24).trans (e7.mono (by have := E46.size; omega)))
  have E17 := Ext.tr e2 E27
  have r26b := r26a.ext' E17
  obtain ⟨h8, c8, e8⟩ := l44 (d := d + 13010 + 5) (by omega) (tp := foldTop T top) n8.cell L.1 Lk (hd1.ext E17)
  have c8' : call Try.prog Ms (d + 13010 + 8) 44 [trVal v8 (foldTop T top), .int .i64 1] h7 = _ := c8
  have fb := fM_le Lk (foldL T top).length
  have hneg : decide (fM (foldL T top) (foldL T top).length < 0) = false := decide_eq_false (by omega)
  refine ⟨h8, ?_⟩
  rw [s10_3_j, s10_3_eq]
  refine eb (ld2 r26.row).2.2 (eb c1' (eb rfl (eb (ld2 r26a.row).2.2 (eb c2' (eb rfl (ecf hneg (ecf (bne_self_eq_false _) (eb (ld2 r2b.row).2.2 (eb c3' (eb c4 (eb rfl (eb rfl (eb rfl ?_)))))))))))))
  show (aNew h4 35 [.slice none 0 0, .int .i64 0] _) = _
  simp only [aNew]
  rw [hg5]
  refine eb c6 (eb (ld2 r6.row).2.2 (eb (ld2 r13b.row).2.2 (eb c7' (eb rfl (ecf rfl ?_)))))
  have hbb : (!(specOk T top == specOk T top)) = false := by simp
  rw [hbb, s10_4_j, s10_4_eq]
  refine ecf rfl ?_
  rw [s10_5_j, s10_5_eq]
  exact eb (ld2 r26b.row).2.2 (eb c8' (eb rfl (ecf hneg (ecf (bne_self_eq_false _) rfl))))
theorem l10 {d : Nat} (hd : 1048577 < d) {nv : Value} {T : List Kn} {top : Int} {h : AHeap} (x : KSg 133 h.size h nv T) (hb : T.length ≤ bigT) (hN : ∀ n ∈ T, okK n) :
    ∃ h', call Try.prog Ms (d + 13010 + 9) 10 [trVal nv top] h = some (.bool true, h') := by
  have hcall : call Try.prog Ms (d + 13010 + 9) 10 [trVal nv top] h = evFn hk0 Try.prog (call Try.prog Ms (d + 13010 + 8)) M10 (d + 13010 + 8) Try.f10 [trVal nv top] h := c10 (d + 13010 + 8) _ _
  rw [hcall, e10, tr_aCells x.ksl, Option.bind_some]
  have e1 := Ext.new (Nat.le_refl h.size) 30 [nv, .int .i64 top]
  have r1 := RowE.new h 30 [nv, .int .i64 top]
  simp only [aNew]
  have x1 := (x.ksl.ext e1).mono e1.size
  generalize h.new 30 [nv, .int .i64 top] = h1 at e1 r1 x1 ⊢
  have a1 : aLdN h1 (ptr h.size 0) 2 = some (trVal nv top) := (ld2 r1.row).2.2
  obtain ⟨h2, c2, e2⟩ := l19 (d := d + 13010 + 4) (by omega) (top := top) x1 (Nat.le_refl _) hN hb
  have c2' : call Try.prog Ms (d + 13010 + 8) 19 [trVal nv top, .int .i64 1048576] h1 = _ := c2
  by_cases hs : szT T 1048576 < 0
  · rw [if_pos hs] at c2'
    exact ⟨h2, eb a1 (eb c2' (eb rfl (ect rfl rfl)))⟩
  rw [if_neg hs] at c2'
  obtain ⟨hT, hK⟩ := szT_ok (ns := T) (by omega)
  have L := foldL_ok (top := top) hK
  have r2 := r1.ext' e2
  have x2 := (x1.ext e2).mono e2.size
  obtain ⟨na, h3, c3, e3, k3⟩ := l21 (d := d + 13010 + 4) (by omega) (top := top) x2 (Nat.le_refl _) hT hK
  have c3' : call Try.prog Ms (d + 13010 + 8) 21 [trVal nv top] h2 = _ := c3
  obtain ⟨v4, h4, rts4, rn4, p4, c4, e4, n4, nx4⟩ := l42 hd (top := top) k3.kse hT hK
  -- the reference's tree is kept
  have e5 := Ext.new (Nat.le_refl h4.size) 35 [.slice none 0 0, .int .i64 0]
  have o5 := Own.new (Nat.le_refl h4.size) 35 [.slice none 0 0, .int .i64 0]
  generalize hg5 : h4.new 35 [.slice none 0 0, .int .i64 0] = h5 at e5 o5
  obtain ⟨h6, c6, e6, o6, s6⟩ := Own.stN o5 (tv_cells n4.cell (foldTop T top)) rfl rfl
  have E46 : Ext h4.size h4 h6 := e5.trans e6
  have r13 : RowE h6 h4.size 35 [v4, .int .i64 (foldTop T top)] := Own.rowE o6
  have E26 := (Ext.tr e3 e4).trans (E46.mono (Nat.le_trans e3.size e4.size))
  have r6 := r2.ext' E26
  have x6 := (x2.ext E26).mono E26.size
  have s4 := (((n4.kse nx4).lf (SF.ext E46).lf).mono E46.size).ksl
  have hp2 := r6.lt
  have hp13 := r13.lt
  -- the program's
  obtain ⟨nb, h7, c7, e7, k7⟩ := l21 (d := d + 13010 + 4) (by omega) (top := top) x6 (Nat.le_refl _) hT hK
  have c7' : call Try.prog Ms (d + 13010 + 8) 21 [trVal nv top] h6 = _ := c7
  have e8 := Ext.new (Nat.le_refl h7.size) 35 [.slice none 0 0, .int .i64 0]
  have o8 := Own.new (Nat.le_refl h7.size) 35 [.slice none 0 0, .int .i64 0]
  have k8 := k7.ext e8
  generalize hg8 : h7.new 35 [.slice none 0 0, .int .i64 0] = h8 at e8 o8 k8
  obtain ⟨h9, c9, e9, o9, s9, q9⟩ := Own.stX o8 (off := 0) (n := 2) (v := trVal nb top) (tr_aCells k8.ksl top) rfl (by show 0 + 2 ≤ 2; omega)
  have k9 := k8.keep (e := 35) (by decide) (by decide) q9
  have E79 : Ext h7.size h7 h9 := e8.trans e9
  have r18 : RowE h9 h7.size 35 [nb, .int .i64 top] := Own.rowE o9
  obtain ⟨rb, rq, cells, hnb, nn⟩ := k9.nodes
  obtain ⟨v10, h10, rts10, rn10, p10, c10, e10, n10, nx10⟩ := l43 hd (top := top) k9.kse hT hK
  have e11 := Ext.new (Nat.le_refl h10.size) 35 [.slice none 0 0, .int .i64 0]
  have o11 := OwnR.new h10 35 [.slice none 0 0, .int .i64 0]
  generalize hg11 : h10.new 35 [.slice none 0 0, .int .i64 0] = h11 at e11 o11
  obtain ⟨h12, c12, e12, k12, o12, s12⟩ := stAll (b := h10.size) o11 (Nat.le_refl _) (tv_cells n10.cell (foldTop T top)) rfl rfl
  have E1012 : Ext h10.size h10 h12 := e11.trans e12
  have n12 := n10.ext E1012
  have z7 := e7.size
  have z79 := E79.size
  have z10 := e10.size
  have z12 := E1012.size
  have E912 := Ext.tr e10 E1012
  have E712 := Ext.tr E79 E912
  have E612 := Ext.tr e7 E712
  have r2L := r6.ext' E612
  have r13L := r13.ext' E612
  have s4L := s4.ext E612
  have xL := x6.ext E612
  have r26 : RowE h12 h10.size 35 [v10, .int .i64 (foldTop T top)] := let ⟨ep, a⟩ := o12; ⟨_, a, rfl, rfl⟩
  have r18L := r18.ext' E912
  have ksr := (((n10.kse nx10).lf (SF.ext E1012).lf).mono E1012.size).ksl
  obtain ⟨h13, c13, e13⟩ := l23 (d := d + 13010 + 4) (by omega) (top := foldTop T top) ksr (s4L.mono (by omega)) (Nat.le_refl _) (by have := L.1; omega) L.2
  have c13' : call Try.prog Ms (d + 13010 + 8) 23 [trVal v10 (foldTop T top), trVal v4 (foldTop T top)] h12 = _ := c13
  have z13 := e13.size
  -- the copy that the program had
  have E613 := Ext.tr E612 e13
  have r18M := r18L.ext' e13
  have r2M := r2L.ext' e13
  obtain ⟨nc, h14, c14, e14, k14⟩ := l21 (d := d + 13010 + 4) (by omega) (top := top) (x6.ext E613) (by omega) hT hK
  have c14' : call Try.prog Ms (d + 13010 + 8) 21 [trVal nv top] h13 = _ := c14
  have r18N := r18M.ext' e14
  have E914 := Ext.tr (Ext.tr E912 e13) e14
  have k9N := k9.ext E914
  obtain ⟨h15, c15, e15⟩ := l23 (d := d + 13010 + 4) (by omega) (top := top) k9N.ksl k14.ksl (Nat.le_refl _) hT hK
  have c15' : call Try.prog Ms (d + 13010 + 8) 23 [trVal nb top, trVal nc top] h14 = _ := c15
  have z14 := e14.size
  have z15 := e15.size
  have r18O := r18N.ext' e15
  have E915 := Ext.tr E914 e15
  have nnO := nn.ext E915
  have kO := (k9.ext E915).ksl
  rw [hnb] at kO
  obtain ⟨h16, k1, c16, b16, e16, u16⟩ := l33 (d := d + 13010 + 5) (by omega) (top := top) kO (by omega) (by omega) hT hK nnO
  rw [← hnb] at c16
  have c16' : call Try.prog Ms (d + 13010 + 8) 33 [trVal nb top, .int .i64 1] h15 = _ := c16
  have E1215 := Ext.tr (Ext.tr e13 e14) e15
  have n15 := n12.ext E1215
  have z16 := e16.size
  have n16 : NS h9.size p10 h16 v10 (foldL T top) rts10 rn10 := by
    rcases n15 with q | ⟨q1, q2⟩
    · exact .inl q
    · exact NS.keep (.inr ⟨q1, q2⟩) z16 fun j o a he => u16 j o a (by
        rcases he with he | he
        · rw [he.2]; exact q1
        · exact (q2.2.2.2.1 _ he.2).1)
  have r26P : RowE h16 h10.size 35 [v10, .int .i64 (foldTop T top)] := by
    obtain ⟨ep, a⟩ := o12.ext E1215
    exact ⟨_, u16 _ _ a (by show h9.size ≤ h10.size; omega), rfl, rfl⟩
  have E616 : Ext h6.size h6 h16 := (Ext.tr E612 E1215).trans e16
  have r2P := r6.ext' E616
  have r13P := r13.ext' E616
  have s4P := s4.ext E616
  have ksr16 : KSl h16.size h16 v10 (foldL T top) := (n16.kse (nx10.imp id fun nx => by
    have nx15 : NX h15 v10 (foldL T top) := (nx.keep fun j o a _ _ _ => E1012.at? (at?_obj a).2.1 a).keep fun j o a _ _ _ => E1215.at? (at?_obj a).2.1 a
    rcases n15 with q | ⟨q1, q2, q3, q4, q5, r, cells', q6, ⟨ep, q7⟩, _⟩
    · obtain ⟨r, rt, cs, w1, _⟩ := nx15
      rw [q.1] at w1; cases w1
    · refine nx15.keep fun j o a _ _ hj => u16 j o a ?_
      rw [q6] at hj
      have : r = j := by simp [slc] at hj; exact hj
      subst this
      rw [q7] at a; cases a
      exact q1)).ksl
  obtain ⟨h17, c17, e17⟩ := l23 (d := d + 13010 + 4) (by omega) (top := foldTop T top) ksr16 (s4P.mono (by omega)) (Nat.le_refl _) (by have := L.1; omega) L.2
  have c17' : call Try.prog Ms (d + 13010 + 8) 23 [trVal v10 (foldTop T top), trVal v4 (foldTop T top)] h16 = _ := c17
  have z17 := e17.size
  have E617 := E616.trans (e17.mono (by omega))
  obtain ⟨h18, c18⟩ := l10_3 (d := d) hd (p2 := h.size) (p13 := h4.size) (p26 := h10.size) (c := h6.size) (B := h9.size) (p' := p10) (rts := rts10) (rn := rn10) (h := h17) hT hK (x6.ext E617) (by omega) (by omega) (r6.ext' E617) (by omega) (r13.ext' E617) (by omega) (s4.ext E617) (r26P.ext' e17) (n16.ext e17)
  have hbb : (!(specOk T top == specOk T top)) = false := by simp
  have hneg : decide (k1 < 0) = false := decide_eq_false (by omega)
  refine ⟨h18, ?_⟩
  refine eb a1 (eb c2' (eb rfl (ecf (decide_eq_false hs) (eb (ld2 r2.row).2.2 (eb c3' (eb c4 (eb rfl (eb rfl (eb rfl ?_)))))))))
  rw [hg5]
  refine eb c6 (eb (ld2 r6.row).2.2 (eb c7' ?_))
  rw [hg8]
  refine eb c9 (eb (ld2 r18.row).2.2 (eb c10 (eb rfl (eb rfl (eb rfl ?_)))))
  rw [hg11]
  refine eb c12 (eb (ld2 r26.row).2.2 (eb (ld2 r13L.row).2.2 (eb c13' (eb rfl (ecf rfl ?_)))))
  rw [hbb, s10_0_j, s10_0_eq]
  refine ecf rfl ?_
  rw [s10_1_j, s10_1_eq]
  refine eb (ld2 r18M.row).2.2 (eb (ld2 r2M.row).2.2 (eb c14' (eb (ag1 (ld2 r18N.row).2.2) (ect (tr_vbeq k9N.ksl top) (eb c15' (eb rfl (ecf rfl (eb (ld2 r18O.row).2.2 (eb c16' (eb rfl (ecf hneg (eb (ld2 r26P.row).2.2 (eb (ld2 r13P.row).2.2 (eb c17' (eb rfl (ecf rfl ?_))))))))))))))))
  rw [hbb, s10_2_j, s10_2_eq]
  exact ecf rfl c18
end Go.Proofs.Ytadmoackacickaa
