import Derived.Test.YtadmoackacickaaXAJ
import Derived.Test.YtadmoackacickaaXAH
import Derived.Test.YtadmoackacickaaXAF
/- impl.Parse, once more. -/
set_option linter.unusedSimpArgs false
namespace Go.Proofs.Ytadmoackacickaa
open Go Go.AH

def IsPG (h0 : AHeap) (r : PRes) (o : Option (Value × AHeap)) : Prop := ∃ h' nv g', o = some (tval nv r, h') ∧ NodesG h' nv r.1 g' ∧ PK none h0 h' ∧ GN none g' h0
section
variable {c : PC} {D : Nat}
theorem par_loopG {stmt : PI} (hD : 1 ≤ D) (hb : Simg c D 63 stmt) {N : Nat} {h0 : AHeap} {i1 rt : Nat} (hi : h0.size ≤ i1) (hrt : h0.size ≤ rt) {r : PRes} : ∀ (n m : Nat) (out : List Int) (v : Value) (h : AHeap) (st : PSt) (g : GR), n ≤ m → out.length + n ≤ 2000000 → GS c none h0 st g h → PLG h v out rt g →
    OwnR h i1 i1 35 [.slice none 0 0, .int .i64 0] → ((topLoop c stmt n out st).bind fun l => finP l.1 l.2) = some r → IsPG h0 r (s28_0 hk0 (call Try.prog Ms D) N m (ptr i1 0) c.tv (ptr c.p 0) v h) := by
  intro n
  induction n with
  | zero => intro m out v h st g hm hl w li o hp; cases hp
  | succ n ih =>
    intro m out v h st g hm hl w li o hp
    obtain ⟨m, rfl⟩ : ∃ q, m = q + 1 := ⟨m - 1, by omega⟩
    rw [s28_0_eq]
    rw [topLoop] at hp
    obtain ⟨nv0, _, f0, f1, _, _, _, f5, _⟩ := w.ph.old.ld
    have tk : TokH h c.tv c.toks := let ⟨_, _, a, _⟩ := w.ph; a
    refine pb rfl (pb rfl (pb f1 (pb rfl (pb tk.len (pb rfl ?_)))))
    by_cases hlt : st.at' < c.toks.length
    · refine pct (decide_eq_true (by omega)) (pb rfl (pb rfl (pb f5 (pb rfl ?_))))
      by_cases hc : st.code = 0
      · rw [if_pos ⟨hlt, hc⟩] at hp
        obtain ⟨l, e0, hp⟩ := bnd hp
        obtain ⟨⟨a2, s2⟩, e2, e0⟩ := bnd e0
        refine pct (by simp [hc]) ?_
        rw [s28_1_j, s28_1_eq]
        refine gS w (hb _ _ _ _ _ w.ph e2) fun h2 g2 w2 k2 => ?_
        have o2 := o.pk k2.1 (by decide) (by decide)
        have l2 := li.next k2
        have hp' : ((topLoop c stmt n (out ++ [a2]) s2).bind fun l => finP l.1 l.2) = some r := by
          dsimp only at e0; rw [e0]; exact hp
        obtain ⟨v3, h3, q1, q2, q3⟩ := l2.1.push (by omega) a2
        have w3 : GS c none h0 s2 g2 h3 ∧ PLG h3 v3 (out ++ [a2]) rt g2 := by
          refine ⟨⟨?_, ?_, w2.fr.2⟩, ?_, l2.2⟩
          · obtain ⟨nv, ⟨ep, a⟩, b, d⟩ := w2.ph
            refine ⟨nv, ⟨ep, q3.2.1 _ _ a⟩, ?_, d.keep q3.1 fun j o y _ => q3.2.1 j o y⟩
            rcases b with b | ⟨i, z, o, e1, e2, e3⟩
            · exact .inl b
            · exact .inr ⟨i, z, o, q3.2.1 _ _ e1, e2, e3⟩
          · refine ⟨Nat.le_trans w2.fr.1.1 q3.1, fun j o a b d => q3.2.1 j o (w2.fr.1.2.1 j o a b d), fun r hr => ?_⟩
            rw [q3.2.2 r (Nat.lt_of_lt_of_le hr w2.fr.1.1) (by omega)]
            exact w2.fr.1.2.2 r hr
          · exact q2
        show IsPG h0 r ((aApp (h2.new 3 [.int .i64 a2]) 3 1 8 v (slc h2.size 0 1)).bind _)
        exact pb q1 (ih m (out ++ [a2]) v3 h3 s2 g2 (by omega) (by simp; omega) w3.1 w3.2 (let ⟨ep, z⟩ := o2; ⟨ep, q3.2.1 _ _ z⟩) hp')
      · rw [if_neg (fun z => hc z.2), Option.bind_some] at hp
        dsimp only [finP] at hp
        have hc1 := hc
        rw [if_pos hc] at hp; cases hp
        refine pcf (by simpa using hc) ?_
        obtain ⟨nv, _, _, _, _, _, _, f5, f6⟩ := w.ph.old.ld
        obtain ⟨g2, a1, a2, a3, a4, a5⟩ := stE o (n := 2) (two35 (nv := .slice none 0 0) rfl 0) rfl rfl (by decide)
        obtain ⟨nv2, ⟨ep, q⟩, _⟩ := w.ph
        have o2 : OwnR g2 c.p c.p 81 (pcells c nv2 st) := ⟨ep, a4 _ _ q (.inl (by show (81 : TypeId) ≠ 35; decide))⟩
        have m5 : aLd1 g2 (ptr c.p 5) = some (.int .i64 st.code) := o2.row.ld1 rfl
        have m6 : aLd1 g2 (ptr c.p 6) = some (.int .i64 st.place) := o2.row.ld1 rfl
        have v3 : ((aLd1 g2 (ptr c.p 5)).bind fun v43 => (asI .i64 v43).bind fun n44 => some (vbeq (.int .i64 n44) (.int .i64 st.code))) = some true := by
          rw [m5]; show some (vbeq (.int .i64 st.code) (.int .i64 st.code)) = _; simp [vbeq, vbeq1]
        have v4 : ((aLd1 g2 (ptr c.p 6)).bind fun v43 => (asI .i64 v43).bind fun n44 => some (vbeq (.int .i64 n44) (.int .i64 st.place))) = some true := by
          rw [m6]; show some (vbeq (.int .i64 st.place) (.int .i64 st.place)) = _; simp [vbeq, vbeq1]
        refine pb rfl (pb rfl (pb f5 (pb rfl (pct (by simpa using hc1) (pb rfl (pb rfl (pb f5 (pb rfl (pb rfl (pb rfl (pb f6 (pb rfl (pb a1 (pb v3 (pct rfl (pb v4 (pct rfl (pb v4 (pct rfl ?_)))))))))))))))))))
        refine pb (v := .agg (List.toArray [.slice none 0 0, .int .i64 0])) (by rw [a2.row.ldN (by show 0 + 2 ≤ 2; omega)]; rfl) (pct rfl ?_)
        exact ⟨g2, .slice none 0 0, none, rfl, .inl ⟨rfl, rfl, rfl⟩, w.fr.1.st35 hi a3 a4 a5, .inl rfl, fun q hq => by cases hq⟩
    · rw [if_neg (fun z => hlt z.1), Option.bind_some] at hp
      dsimp only [finP] at hp
      refine pcf (decide_eq_false (by omega)) ?_
      by_cases hc1 : st.code = 0
      · rw [if_neg (by simp [hc1]), Option.map_eq_some_iff] at hp
        have hq := hp
        refine pb rfl (pb rfl (pb f5 (pb rfl (pcf (by simp [hc1]) ?_))))
        obtain ⟨⟨q, s1⟩, e1, he⟩ := hq
        cases he
        have hlt := li.1.lt
        have kg : KidG h v out rt := let ⟨⟨i, a, b⟩, _⟩ := li.1; .inr ⟨i, a, b⟩
        obtain ⟨h1, g1, c1, w1, pk1, _⟩ := g64 (D := D) hD w kg li.2 (by omega) hrt e1
        have o1 := o.pk pk1 (by decide) (by decide)
        obtain ⟨nv, o81, _, nd⟩ := id w1.ph
        have f4 : aLd1 h1 (ptr c.p 4) = some nv := o81.row.ld1 rfl
        obtain ⟨h2, a1, a2, a3, a4, a5⟩ := stE o1 (n := 2) (two35 nd.old.cell q) rfl rfl (by decide)
        refine pb c1 (pb rfl (pb rfl (pb rfl (pb f4 (pb (fill35 nd.old.cell q) (pb a1 (pb (v := .agg (List.toArray [nv, .int .i64 q])) (by rw [a2.row.ldN (by show 0 + 2 ≤ 2; omega)]; rfl) (pct rfl ?_))))))))
        exact ⟨h2, nv, g1, rfl, nd.keep (by omega) fun j o a b => a4 j o a (.inl (by rcases b with b | b <;> rw [b] <;> decide)), w1.fr.1.st35 hi a3 a4 a5, w1.fr.2⟩
      · rw [if_pos hc1] at hp; cases hp
        obtain ⟨nv, _, _, _, _, _, _, f5, f6⟩ := w.ph.old.ld
        obtain ⟨g2, a1, a2, a3, a4, a5⟩ := stE o (n := 2) (two35 (nv := .slice none 0 0) rfl 0) rfl rfl (by decide)
        obtain ⟨nv2, ⟨ep, q⟩, _⟩ := w.ph
        have o2 : OwnR g2 c.p c.p 81 (pcells c nv2 st) := ⟨ep, a4 _ _ q (.inl (by show (81 : TypeId) ≠ 35; decide))⟩
        have m5 : aLd1 g2 (ptr c.p 5) = some (.int .i64 st.code) := o2.row.ld1 rfl
        have m6 : aLd1 g2 (ptr c.p 6) = some (.int .i64 st.place) := o2.row.ld1 rfl
        have v3 : ((aLd1 g2 (ptr c.p 5)).bind fun v43 => (asI .i64 v43).bind fun n44 => some (vbeq (.int .i64 n44) (.int .i64 st.code))) = some true := by
          rw [m5]; show some (vbeq (.int .i64 st.code) (.int .i64 st.code)) = _; simp [vbeq, vbeq1]
        have v4 : ((aLd1 g2 (ptr c.p 6)).bind fun v43 => (asI .i64 v43).bind fun n44 => some (vbeq (.int .i64 n44) (.int .i64 st.place))) = some true := by
          rw [m6]; show some (vbeq (.int .i64 st.place) (.int .i64 st.place)) = _; simp [vbeq, vbeq1]
        refine pb rfl (pb rfl (pb f5 (pb rfl (pct (by simpa using hc1) (pb rfl (pb rfl (pb f5 (pb rfl (pb rfl (pb rfl (pb f6 (pb rfl (pb a1 (pb v3 (pct rfl (pb v4 (pct rfl (pb v4 (pct rfl ?_)))))))))))))))))))
        refine pb (v := .agg (List.toArray [.slice none 0 0, .int .i64 0])) (by rw [a2.row.ldN (by show 0 + 2 ≤ 2; omega)]; rfl) (pct rfl ?_)
        exact ⟨g2, .slice none 0 0, none, rfl, .inl ⟨rfl, rfl, rfl⟩, w.fr.1.st35 hi a3 a4 a5, .inl rfl, fun q hq => by cases hq⟩
end
theorem g28 {d : Nat} (hd : 3000 < d) {s : ByteArray} {h : AHeap} {r : PRes} (hD : d + 21 ≤ 2000000) (hp : parseR (d + 21) s = some r) : IsPG h r (call Try.prog Ms (d + 22) 28 [.string s] h) := by
  have e1 := Ext.new (Nat.le_refl h.size) 35 [.slice none 0 0, .int .i64 0]
  have o1 := OwnR.new h 35 [.slice none 0 0, .int .i64 0]
  rw [show call Try.prog Ms (d + 22) 28 [.string s] h = evFn hk0 Try.prog (call Try.prog Ms (d + 21)) M28 (d + 21) Try.f28 [.string s] h from c28 (d + 21) _ _, e28]
  refine nN (P := IsPG h r) ?_
  obtain ⟨h2, v, c2, x2, os, _⟩ := l15 (d := d + 17) (by omega) s (h.new 35 [.slice none 0 0, .int .i64 0])
  have o2 := o1.ext x2
  have k2 : PK none h h2 := PK.ext (e1.trans (x2.mono e1.size))
  refine pb (P := IsPG h r) c2 (pb rfl (pb rfl (pb rfl (pb rfl (pb rfl ?_)))))
  unfold parseR at hp
  by_cases hc : (lexR s).2.1 = 0
  · rw [if_neg (by simp [hc])] at hp
    have e3 := Ext.new (Nat.le_refl h2.size) 81 [v, .int .i64 0, .int .i64 (s.size : Int), .int .i64 0, .slice none 0 0, .int .i64 0, .int .i64 0]
    have o3 := OwnR.new h2 81 [v, .int .i64 0, .int .i64 (s.size : Int), .int .i64 0, .slice none 0 0, .int .i64 0, .int .i64 0]
    have hq : GH ⟨h2.size, v, (lexR s).1, s.size⟩ (h2.new 81 [v, .int .i64 0, .int .i64 (s.size : Int), .int .i64 0, .slice none 0 0, .int .i64 0, .int .i64 0]) st0 none :=
      ⟨.slice none 0 0, o3, os.tok.pk (PK.ext e3 (rn := none)), .inl ⟨rfl, rfl, rfl⟩⟩
    have k3 : PK none h (h2.new 81 [v, .int .i64 0, .int .i64 (s.size : Int), .int .i64 0, .slice none 0 0, .int .i64 0, .int .i64 0]) := k2.trans (.inl rfl) (PK.ext e3)
    have w3 : GS ⟨h2.size, v, (lexR s).1, s.size⟩ none h st0 none _ := ⟨hq, k3, .inl rfl, fun q hq => .inl hq⟩
    refine pcf (P := IsPG h r) (by simp [hc]) (pb (fill81 os.tok.cell _) (pb (cells81 os.tok.cell _) (nN ?_)))
    refine rowG (P := IsPG h r) [] w3 rfl rfl fun g4 v4 rt w4 l4 k4 hr => ?_
    rw [parse_indep 0 h2.size (.slice none 0 0) v] at hp
    exact par_loopG (N := d + 21) (by omega) (allG ⟨h2.size, v, (lexR s).1, s.size⟩ (d + 21)).s63 (Nat.le_refl _) (Nat.le_trans k3.1 hr) (d + 21) (d + 21) [] v4 g4 st0 none (Nat.le_refl _) (by simpa using hD) w4 l4 ((o2.ext e3).pk k4.1 (by decide) (by decide)) hp
  · rw [if_pos hc] at hp; cases hp
    obtain ⟨g2, a1, a2, a3, a4, a5⟩ := stE o2 (n := 2) (two35 (nv := .slice none 0 0) rfl 0) rfl rfl (by decide)
    refine pct (P := IsPG h _) (by simp [hc]) (pb a1 (pb (v := .agg (List.toArray [.slice none 0 0, .int .i64 0])) (by rw [a2.row.ldN (by show 0 + 2 ≤ 2; omega)]; rfl) (pct rfl ?_)))
    exact ⟨g2, .slice none 0 0, none, rfl, .inl ⟨rfl, rfl, rfl⟩, k2.st35 (Nat.le_refl _) a3 a4 a5, .inl rfl, fun q hq => .inl hq⟩
end Go.Proofs.Ytadmoackacickaa
/- The reference's Parse. -/
set_option linter.unusedSimpArgs false
namespace Go.Proofs.Ytadmoackacickaa
open Go Go.AH

def finS (l : List Int) (st : PSt) : Option PRes := (nodeS 21 E0 0 l st).bind fun x => if x.2.code ≠ 0 then some ([], 0, x.2.code, x.2.place) else some (x.2.nodes, x.1, 0, 0)
def sparseC (c : PC) (D : Nat) : Option PRes := (topS c (sp c D 82) D [] st0).bind fun l => finS l.1 l.2
def sparseR (D : Nat) (s : ByteArray) : Option PRes := if (lexR s).2.1 ≠ 0 then some ([], 0, 1, ((lexR s).2.2 : Int)) else sparseC ⟨0, .slice none 0 0, (lexR s).1, s.size⟩ D
theorem sparse_indep (p p' : Nat) (tv tv' : Value) (toks : List Tok) (en : Int) (D : Nat) : sparseC ⟨p, tv, toks, en⟩ D = sparseC ⟨p', tv', toks, en⟩ D := by kernel_rfl
def IsSp (h0 : AHeap) (r : PRes) (o : Option (Value × AHeap)) : Prop := ∃ h' nv rn', o = some (tval nv r, h') ∧ NodesH h' nv r.1 rn' ∧ QK none h0 h' ∧ PRN none rn' h0
theorem QK.st35 {h0 h h' : AHeap} {rn : Option Nat} {i1 : Nat} (k : QK rn h0 h) (hi : h0.size ≤ i1) (hs : h'.size = h.size) (hk : ∀ j o, h.at? j = some o → o.elem ≠ 35 ∨ o.root ≠ i1 → h'.at? j = some o) (ht : ∀ r, h'.tip 3 r = h.tip 3 r) : QK rn h0 h' :=
  ⟨by rw [hs]; exact k.1, fun j o a b c => hk j o (k.2.1 j o a b c) (.inr (by have := at?_obj a; omega)), fun r hr => (ht r).trans (k.2.2 r hr)⟩
section
variable {c : PC} {D N : Nat}
theorem sparse_loop {stm : PI} (hD : 2 ≤ D) (hs : Simq c D 82 stm) {h0 : AHeap} {i1 rt : Nat} (hi : h0.size ≤ i1) (hrt : h0.size ≤ rt) {r : PRes} : ∀ (n m : Nat) (out : List Int) (v : Value) (h : AHeap) (st : PSt) (rn : Option Nat), n ≤ m → QS c none h0 st rn h → PLI h v out rt →
    OwnR h i1 i1 35 [.slice none 0 0, .int .i64 0] → ((topS c stm n out st).bind fun l => finS l.1 l.2) = some r → IsSp h0 r (s47_0 hk0 (call Try.prog Ms D) N m (ptr i1 0) c.tv (ptr c.p 0) v h) := by
  intro n
  induction n with
  | zero => intro m out v h st rn hm w li o hp; cases hp
  | succ n ih =>
    intro m out v h st rn hm w li o hp
    obtain ⟨m, rfl⟩ : ∃ q, m = q + 1 := ⟨m - 1, by omega⟩
    rw [s47_0_eq]
    rw [topS] at hp
    refine codS w ?_
    by_cases hc : st.code = 0
    · obtain ⟨nv0, _, g0, g1', _⟩ := w.ph.ld
      have tk : TokH h c.tv c.toks := let ⟨_, _, a, _⟩ := w.ph; a
      refine pct (by simp [hc]) (pb rfl (pb rfl (pb g1' (pb rfl (pb tk.len (pb rfl ?_))))))
      by_cases hl : st.at' < c.toks.length
      · rw [if_pos ⟨hc, hl⟩] at hp
        obtain ⟨l, e0, hp⟩ := bnd hp
        obtain ⟨⟨a4, s4⟩, e4, e0⟩ := bnd e0
        by_cases hb2 : out.length > 1000000
        · rw [if_pos hb2] at e0; cases e0
        rw [if_neg hb2] at e0
        have hp' : ((topS c stm n (out ++ [a4]) s4).bind fun l => finS l.1 l.2) = some r := by
          dsimp only at e0; rw [e0]; exact hp
        refine pct (decide_eq_true (by omega)) ?_
        rw [s47_1_j, s47_1_eq]
        refine calS w (hs _ _ _ _ _ w.ph e4) fun g4 r4 w4 k4 _ => ?_
        have o4 := o.qk k4 (by decide) (by decide)
        refine pushS w4 (li.qk k4) hrt (by omega) fun g5 v5 w5 l5 k5 => ?_
        exact ih m (out ++ [a4]) v5 g5 s4 r4 (by omega) w5 l5 (let ⟨ep, z⟩ := o4; ⟨ep, k5.2.1 _ _ z⟩) hp'
      · rw [if_neg (fun z => hl z.2), Option.bind_some] at hp
        dsimp only [finS] at hp
        obtain ⟨⟨a, s1⟩, e1, hp⟩ := bnd hp
        dsimp only at hp
        refine pcf (decide_eq_false (by omega)) ?_
        refine nodA w (by omega) li.kid e1 fun g1 r1 w1 k1 n1 => ?_
        have o1 := o.qk k1 (by decide) (by decide)
        refine codS w1 ?_
        by_cases hc1 : s1.code = 0
        · rw [if_neg (by simp [hc1])] at hp; cases hp
          obtain ⟨nv, nd, _, _, f2, _⟩ := w1.ph.ld
          obtain ⟨g2, a1, a2, a3, a4, a5⟩ := stE o1 (n := 2) (two35 nd.cell a) rfl rfl (by decide)
          refine pcf (by simp [hc1]) (pb rfl (pb rfl (pb f2 (pb (fill35 nd.cell a) (pb a1 (pb (v := .agg (List.toArray [nv, .int .i64 a])) (by rw [a2.row.ldN (by show 0 + 2 ≤ 2; omega)]; rfl) (pct rfl ?_)))))))
          exact ⟨g2, nv, r1, rfl, nd.keep' (e := 35) (by decide) (by decide) (fun j o a b => a4 j o a (.inl b)), w1.fr.st35 hi a3 a4 a5, w1.rr⟩
        · rw [if_pos hc1] at hp; cases hp
          obtain ⟨nv, _, _, _, _, f3, f4, _⟩ := w1.ph.ld
          obtain ⟨g2, a1, a2, a3, a4, a5⟩ := stE o1 (n := 2) (two35 (nv := .slice none 0 0) rfl 0) rfl rfl (by decide)
          obtain ⟨nv2, ⟨ep, q⟩, _⟩ := w1.ph
          have o2 : OwnR g2 c.p c.p 114 (qcells c nv2 s1) := ⟨ep, a4 _ _ q (.inl (by show (114 : TypeId) ≠ 35; decide))⟩
          have m3 : aLd1 g2 (ptr c.p 3) = some (.int .i64 s1.code) := o2.row.ld1 rfl
          have m4 : aLd1 g2 (ptr c.p 4) = some (.int .i64 s1.place) := o2.row.ld1 rfl
          have v3 : ((aLd1 g2 (ptr c.p 3)).bind fun v43 => (asI .i64 v43).bind fun n44 => some (vbeq (.int .i64 n44) (.int .i64 s1.code))) = some true := by
            rw [m3]; show some (vbeq (.int .i64 s1.code) (.int .i64 s1.code)) = _; simp [vbeq, vbeq1]
          have v4 : ((aLd1 g2 (ptr c.p 4)).bind fun v43 => (asI .i64 v43).bind fun n44 => some (vbeq (.int .i64 n44) (.int .i64 s1.place))) = some true := by
            rw [m4]; show some (vbeq (.int .i64 s1.place) (.int .i64 s1.place)) = _; simp [vbeq, vbeq1]
          refine pct (by simpa using hc1) (pb rfl (pb rfl (pb f3 (pb rfl (pb rfl (pb rfl (pb f4 (pb rfl (pb a1 (pb v3 (pct rfl (pb v4 (pct rfl (pb v4 (pct rfl ?_)))))))))))))))
          refine pb (v := .agg (List.toArray [.slice none 0 0, .int .i64 0])) (by rw [a2.row.ldN (by show 0 + 2 ≤ 2; omega)]; rfl) (pct rfl ?_)
          exact ⟨g2, .slice none 0 0, none, rfl, .inl ⟨rfl, rfl, rfl⟩, w1.fr.st35 hi a3 a4 a5, .inl rfl⟩
    · rw [if_neg (fun z => hc z.1), Option.bind_some] at hp
      dsimp only [finS] at hp
      obtain ⟨⟨a, s1⟩, e1, hp⟩ := bnd hp
      dsimp only at hp
      refine pcf (by simpa using hc) ?_
      refine nodA w (by omega) li.kid e1 fun g1 r1 w1 k1 n1 => ?_
      have o1 := o.qk k1 (by decide) (by decide)
      refine codS w1 ?_
      by_cases hc1 : s1.code = 0
      · rw [if_neg (by simp [hc1])] at hp; cases hp
        obtain ⟨nv, nd, _, _, f2, _⟩ := w1.ph.ld
        obtain ⟨g2, a1, a2, a3, a4, a5⟩ := stE o1 (n := 2) (two35 nd.cell a) rfl rfl (by decide)
        refine pcf (by simp [hc1]) (pb rfl (pb rfl (pb f2 (pb (fill35 nd.cell a) (pb a1 (pb (v := .agg (List.toArray [nv, .int .i64 a])) (by rw [a2.row.ldN (by show 0 + 2 ≤ 2; omega)]; rfl) (pct rfl ?_)))))))
        exact ⟨g2, nv, r1, rfl, nd.keep' (e := 35) (by decide) (by decide) (fun j o a b => a4 j o a (.inl b)), w1.fr.st35 hi a3 a4 a5, w1.rr⟩
      · rw [if_pos hc1] at hp; cases hp
        obtain ⟨nv, _, _, _, _, f3, f4, _⟩ := w1.ph.ld
        obtain ⟨g2, a1, a2, a3, a4, a5⟩ := stE o1 (n := 2) (two35 (nv := .slice none 0 0) rfl 0) rfl rfl (by decide)
        obtain ⟨nv2, ⟨ep, q⟩, _⟩ := w1.ph
        have o2 : OwnR g2 c.p c.p 114 (qcells c nv2 s1) := ⟨ep, a4 _ _ q (.inl (by show (114 : TypeId) ≠ 35; decide))⟩
        have m3 : aLd1 g2 (ptr c.p 3) = some (.int .i64 s1.code) := o2.row.ld1 rfl
        have m4 : aLd1 g2 (ptr c.p 4) = some (.int .i64 s1.place) := o2.row.ld1 rfl
        have v3 : ((aLd1 g2 (ptr c.p 3)).bind fun v43 => (asI .i64 v43).bind fun n44 => some (vbeq (.int .i64 n44) (.int .i64 s1.code))) = some true := by
          rw [m3]; show some (vbeq (.int .i64 s1.code) (.int .i64 s1.code)) = _; simp [vbeq, vbeq1]
        have v4 : ((aLd1 g2 (ptr c.p 4)).bind fun v43 => (asI .i64 v43).bind fun n44 => some (vbeq (.int .i64 n44) (.int .i64 s1.place))) = some true := by
          rw [m4]; show some (vbeq (.int .i64 s1.place) (.int .i64 s1.place)) = _; simp [vbeq, vbeq1]
        refine pct (by simpa using hc1) (pb rfl (pb rfl (pb f3 (pb rfl (pb rfl (pb rfl (pb f4 (pb rfl (pb a1 (pb v3 (pct rfl (pb v4 (pct rfl (pb v4 (pct rfl ?_)))))))))))))))
        refine pb (v := .agg (List.toArray [.slice none 0 0, .int .i64 0])) (by rw [a2.row.ldN (by show 0 + 2 ≤ 2; omega)]; rfl) (pct rfl ?_)
        exact ⟨g2, .slice none 0 0, none, rfl, .inl ⟨rfl, rfl, rfl⟩, w1.fr.st35 hi a3 a4 a5, .inl rfl⟩
end
theorem fill114 {tv : Value} (h : isCell tv = true) (en : Int) : aFill [.slice none 0 0, .int .i64 0, .slice none 0 0, .int .i64 0, .int .i64 0, .int .i64 0, .int .i64 0] [(0, 1, tv), (6, 1, .int .i64 en)] = some [tv, .int .i64 0, .slice none 0 0, .int .i64 0, .int .i64 0, .int .i64 0, .int .i64 en] := by
  simp [aFill, aCells_int, aCells_one h, splice]
theorem cells114 {tv : Value} (h : isCell tv = true) (en : Int) : aCells (.agg (List.toArray [tv, .int .i64 0, .slice none 0 0, .int .i64 0, .int .i64 0, .int .i64 0, .int .i64 en])) = some [tv, .int .i64 0, .slice none 0 0, .int .i64 0, .int .i64 0, .int .i64 0, .int .i64 en] := by
  show (if (List.all [tv, .int .i64 0, .slice none 0 0, .int .i64 0, .int .i64 0, .int .i64 0, .int .i64 en] isCell) = true then _ else _) = _
  rw [if_pos (by show (isCell tv && (true && (true && (true && (true && (true && (true && true))))))) = true; rw [h]; rfl)]
theorem q47 {d : Nat} (hd : 3010 < d) {s : ByteArray} {h : AHeap} {r : PRes} (hp : sparseR (d + 4) s = some r) : IsSp h r (call Try.prog Ms (d + 5) 47 [.string s] h) := by
  have e1 := Ext.new (Nat.le_refl h.size) 35 [.slice none 0 0, .int .i64 0]
  have o1 := OwnR.new h 35 [.slice none 0 0, .int .i64 0]
  rw [show call Try.prog Ms (d + 5) 47 [.string s] h = evFn hk0 Try.prog (call Try.prog Ms (d + 4)) M47 (d + 4) Try.f47 [.string s] h from c47 (d + 4) _ _, e47]
  refine nN (P := IsSp h r) ?_
  obtain ⟨h2, v, c2, x2, os, _⟩ := l14 (d := d) (by omega) s (h.new 35 [.slice none 0 0, .int .i64 0])
  have o2 := o1.ext x2
  have k2 : QK none h h2 := QK.ext (e1.trans (x2.mono e1.size))
  refine pb (P := IsSp h r) c2 (pb rfl (pb rfl (pb rfl (pb rfl (pb rfl ?_)))))
  unfold sparseR at hp
  by_cases hc : (lexR s).2.1 = 0
  · rw [if_neg (by simp [hc])] at hp
    have e3 := Ext.new (Nat.le_refl h2.size) 114 [v, .int .i64 0, .slice none 0 0, .int .i64 0, .int .i64 0, .int .i64 0, .int .i64 (s.size : Int)]
    have o3 := OwnR.new h2 114 [v, .int .i64 0, .slice none 0 0, .int .i64 0, .int .i64 0, .int .i64 0, .int .i64 (s.size : Int)]
    have hq : QH ⟨h2.size, v, (lexR s).1, s.size⟩ (h2.new 114 [v, .int .i64 0, .slice none 0 0, .int .i64 0, .int .i64 0, .int .i64 0, .int .i64 (s.size : Int)]) st0 none :=
      ⟨.slice none 0 0, o3, os.tok.qk (QK.ext e3 (rn := none)), .inl ⟨rfl, rfl, rfl⟩⟩
    have k3 : QK none h (h2.new 114 [v, .int .i64 0, .slice none 0 0, .int .i64 0, .int .i64 0, .int .i64 0, .int .i64 (s.size : Int)]) := k2.trans (.inl rfl) (QK.ext e3)
    have w3 : QS ⟨h2.size, v, (lexR s).1, s.size⟩ none h st0 none _ := ⟨hq, k3, .inl rfl⟩
    refine pcf (P := IsSp h r) (by simp [hc]) (pb (fill114 os.tok.cell _) (pb (cells114 os.tok.cell _) (nN ?_)))
    refine rowS (P := IsSp h r) [] w3 rfl rfl fun g4 v4 rt w4 l4 k4 hr => ?_
    rw [sparse_indep 0 h2.size (.slice none 0 0) v] at hp
    have z := sparse_loop (N := d + 4) (by omega) (allSq ⟨h2.size, v, (lexR s).1, s.size⟩ (d + 4)).s82 (Nat.le_refl _) (Nat.le_trans k3.1 hr) (d + 4) (d + 4) [] v4 g4 st0 none (Nat.le_refl _) w4 l4 ((o2.ext e3).qk k4 (by decide) (by decide)) hp
    exact z
  · rw [if_pos hc] at hp; cases hp
    obtain ⟨g2, a1, a2, a3, a4, a5⟩ := stE o2 (n := 2) (two35 (nv := .slice none 0 0) rfl 0) rfl rfl (by decide)
    refine pct (P := IsSp h _) (by simp [hc]) (pb a1 (pb (v := .agg (List.toArray [.slice none 0 0, .int .i64 0])) (by rw [a2.row.ldN (by show 0 + 2 ≤ 2; omega)]; rfl) (pct rfl ?_)))
    exact ⟨g2, .slice none 0 0, none, rfl, .inl ⟨rfl, rfl, rfl⟩, k2.st35 (Nat.le_refl _) a3 a4 a5, .inl rfl⟩
end Go.Proofs.Ytadmoackacickaa
/- FnExactLex, as the small evaluator runs it. -/
set_option linter.unusedSimpArgs false
namespace Go.Proofs.Ytadmoackacickaa
open Go Go.AH

end Go.Proofs.Ytadmoackacickaa
/- A text of tokens with blanks between has the same tokens: bytes. -/
set_option linter.unusedSimpArgs false
namespace Go.Proofs.Ytadmoackacickaa
open Go Go.AH

theorem bt_ext {s : ByteArray} {i e j : Nat} (h : i + j < e) (he : e ≤ s.size) : bt (s.extract i e) j = bt s (i + j) := by
  unfold bt
  have hs : s.size = s.data.size := rfl
  rw [ByteArray.data_extract, Array.getElem?_extract_of_lt (by omega), Array.getElem?_eq_getElem (by omega)]
theorem exSize {s : ByteArray} {i e : Nat} (he : e ≤ s.size) : (s.extract i e).size = e - i := by
  rw [ByteArray.size_extract]; omega
/-- A run of bytes of a kind, and where it ends. -/
theorem endOf_all {p : Int → Bool} {s : ByteArray} : ∀ (n i : Nat), endOf p s i - i = n → i ≤ s.size → (∀ j, i ≤ j → j < endOf p s i → p (bt s j) = true) ∧ ¬ (endOf p s i < s.size ∧ p (bt s (endOf p s i)) = true) := by
  intro n
  induction n with
  | zero =>
    intro i hn hi
    have hb := endOf_bd (p := p) (s := s) _ i rfl hi
    have he : endOf p s i = i := by omega
    refine ⟨fun j h1 h2 => by omega, ?_⟩
    rw [he]
    intro h
    rw [endOf_step h.1 h.2] at he
    have := (endOf_bd (p := p) (s := s) _ (i + 1) rfl h.1).1
    omega
  | succ n ih =>
    intro i hn hi
    have hb := endOf_bd (p := p) (s := s) _ i rfl hi
    have h : i < s.size ∧ p (bt s i) = true := by
      by_cases h : i < s.size ∧ p (bt s i) = true
      · exact h
      · rw [endOf_stop h] at hn; omega
    have st := endOf_step (p := p) h.1 h.2
    obtain ⟨h1, h2⟩ := ih (i + 1) (by rw [← st]; omega) h.1
    rw [st]
    refine ⟨fun j a b => ?_, h2⟩
    by_cases hj : j = i
    · rw [hj]; exact h.2
    · exact h1 j (by omega) b
theorem numGo_eq {s t : ByteArray} : ∀ (n i j : Nat) (x : Int), (∀ k, k < n → bt s (i + k) = bt t (j + k)) → numGo s n i x = numGo t n j x := by
  intro n
  induction n with
  | zero => intro i j x _; rfl
  | succ n ih =>
    intro i j x h
    unfold numGo
    have h0 := h 0 (by omega)
    rw [Nat.add_zero, Nat.add_zero] at h0
    rw [h0]
    exact ih _ _ _ (fun k hk => by have := h (k + 1) (by omega); rw [show i + 1 + k = i + (k + 1) by omega, show j + 1 + k = j + (k + 1) by omega]; exact this)
end Go.Proofs.Ytadmoackacickaa
/- A text of tokens with blanks between has the same tokens: a token. -/
set_option linter.unusedSimpArgs false
namespace Go.Proofs.Ytadmoackacickaa
open Go Go.AH

def AllB (p : Int → Bool) (w : ByteArray) : Prop := ∀ j, j < w.size → p (bt w j) = true
/-- A token as it is read. -/
inductive GTok : Tok → Prop where
  | word (a : Nat) (w : ByteArray) : 0 < w.size → AllB isLet w → isWd w = true → GTok ⟨2, a, w, 0⟩
  | name (a : Nat) (w : ByteArray) : 0 < w.size → AllB isLet w → isWd w = false → w.size ≤ 12 → GTok ⟨1, a, w, 0⟩
  | num (a : Nat) (w : ByteArray) : 0 < w.size → AllB isDig w → w.size ≤ 15 → (1 < w.size → bt w 0 ≠ 48) → GTok ⟨3, a, w, numGo w w.size 0 0⟩
  | text (a : Nat) (w : ByteArray) : AllB isPln w → w.size ≤ 160 → GTok ⟨4, a, w, 0⟩
  | mark (a : Nat) (w : ByteArray) : w ∈ marksL → GTok ⟨5, a, w, 0⟩
theorem AllB.sub {p : Int → Bool} {s : ByteArray} {i e : Nat} (he : e ≤ s.size) (h : ∀ j, i ≤ j → j < e → p (bt s j) = true) : AllB p (s.extract i e) := fun j hj => by
  rw [exSize he] at hj
  rw [bt_ext (by omega) he]
  exact h _ (by omega) (by omega)
theorem tokR_good {s : ByteArray} {i : Nat} (hi : i < s.size) (h0 : (tokR s i).2.1 = 0) : GTok (tokR s i).1 ∧ (tokR s i).1.at' = (i : Int) := by
  unfold tokR at h0 ⊢
  by_cases hL : isLet (bt s i) = true
  · rw [if_pos hL] at h0 ⊢
    have st := endOf_step hi hL
    have bd := endOf_bd (p := isLet) (s := s) _ (i + 1) rfl (by omega)
    have al := endOf_all (p := isLet) (s := s) _ i rfl (by omega)
    have A := AllB.sub (by omega) al.1
    have sz : (s.extract i (endOf isLet s i)).size = endOf isLet s i - i := exSize (by omega)
    by_cases hW : isWd (s.extract i (endOf isLet s i)) = true
    · rw [if_pos hW]; exact ⟨.word _ _ (by omega) A hW, rfl⟩
    · rw [if_neg hW] at h0 ⊢
      by_cases hn : endOf isLet s i - i > 12
      · rw [if_pos hn] at h0; cases h0
      · rw [if_neg hn]; exact ⟨.name _ _ (by omega) A (by simpa using hW) (by omega), rfl⟩
  · rw [if_neg hL] at h0 ⊢
    by_cases hD : isDig (bt s i) = true
    · rw [if_pos hD] at h0 ⊢
      have st := endOf_step hi hD
      have bd := endOf_bd (p := isDig) (s := s) _ (i + 1) rfl (by omega)
      have al := endOf_all (p := isDig) (s := s) _ i rfl (by omega)
      have A := AllB.sub (by omega) al.1
      have sz : (s.extract i (endOf isDig s i)).size = endOf isDig s i - i := exSize (by omega)
      by_cases hN : numBad s i = true
      · rw [if_pos hN] at h0; cases h0
      · rw [if_neg hN]
        unfold numBad at hN
        simp only [Bool.or_eq_true, Bool.and_eq_true, decide_eq_true_eq, not_or, not_and, beq_iff_eq] at hN
        refine ⟨?_, rfl⟩
        have e : numGo s (endOf isDig s i - i) i 0 = numGo (s.extract i (endOf isDig s i)) (s.extract i (endOf isDig s i)).size 0 0 := by
          rw [sz]; exact numGo_eq _ _ _ _ (fun k hk => by rw [bt_ext (by omega) (by omega), Nat.zero_add])
        unfold numTok
        rw [e]
        refine .num _ _ (by omega) A (by omega) (fun h => ?_)
        rw [bt_ext (by omega) (by omega)]
        exact hN.1.2 (by omega)
    · rw [if_neg hD] at h0 ⊢
      by_cases h34 : bt s i = 34
      · rw [if_pos h34] at h0 ⊢
        have bd := endOf_bd (p := isPln) (s := s) _ (i + 1) rfl (by omega)
        have al := endOf_all (p := isPln) (s := s) _ (i + 1) rfl (by omega)
        have A := AllB.sub (by omega) al.1
        have sz : (s.extract (i + 1) (endOf isPln s (i + 1))).size = endOf isPln s (i + 1) - (i + 1) := exSize (by omega)
        by_cases hc : endOf isPln s (i + 1) ≥ s.size ∨ bt s (endOf isPln s (i + 1)) ≠ 34 ∨ endOf isPln s (i + 1) - i - 1 > 160
        · rw [if_pos hc] at h0; cases h0
        · rw [if_neg hc]
          exact ⟨.text _ _ A (by omega), rfl⟩
      · rw [if_neg h34] at h0 ⊢
        cases hm : markOf s i with
        | none => rw [hm] at h0; cases h0
        | some m => exact ⟨.mark _ _ (List.mem_of_find?_eq_some hm), rfl⟩
theorem mark_sz : ∀ m, m ∈ marksL → m.size ≤ 2 := by decide +kernel
end Go.Proofs.Ytadmoackacickaa
/- A text of tokens with blanks between has the same tokens: all of them. -/
set_option linter.unusedSimpArgs false
namespace Go.Proofs.Ytadmoackacickaa
open Go Go.AH

theorem lexGo_inv {s : ByteArray} : ∀ (f i : Nat) (acc : List Tok), (∀ t, t ∈ acc → GTok t ∧ t.at' < (i : Int)) → acc.Pairwise (fun a b => a.at' < b.at') →
    (∀ t, t ∈ (lexGo s f i acc).1 → GTok t) ∧ (lexGo s f i acc).1.Pairwise (fun a b => a.at' < b.at') ∧ ((lexGo s f i acc).2.1 ≠ 0 → (lexGo s f i acc).1 = []) := by
  intro f
  induction f with
  | zero => intro i acc h p; exact ⟨fun t ht => (h t ht).1, p, fun h => absurd rfl h⟩
  | succ f ih =>
    intro i acc h p
    unfold lexGo
    by_cases h1 : s.size ≤ i
    · rw [if_pos h1]; exact ⟨fun t ht => (h t ht).1, p, fun h => absurd rfl h⟩
    rw [if_neg h1]
    by_cases h2 : bt s i = 9 ∨ bt s i = 10 ∨ bt s i = 32
    · rw [if_pos h2]; exact ih _ _ (fun t ht => ⟨(h t ht).1, by have := (h t ht).2; omega⟩) p
    rw [if_neg h2]
    by_cases h3 : bt s i = 45 ∧ i + 1 < s.size ∧ bt s (i + 1) = 45
    · rw [if_pos h3]
      have := (endOf_bd (p := fun b => b != 10) (s := s) _ i rfl (by omega)).1
      exact ih _ _ (fun t ht => ⟨(h t ht).1, by have := (h t ht).2; omega⟩) p
    rw [if_neg h3]
    by_cases h4 : (tokR s i).2.1 ≠ 0
    · rw [if_pos h4]; exact ⟨fun t ht => (List.not_mem_nil ht).elim, .nil, fun _ => rfl⟩
    rw [if_neg h4]
    have h4' : (tokR s i).2.1 = 0 := by omega
    obtain ⟨g, ga⟩ := tokR_good (by omega) h4'
    have bd := tokR_bd (by omega) h4'
    refine ih _ _ (fun t ht => ?_) ?_
    · rcases List.mem_append.1 ht with ht | ht
      · exact ⟨(h t ht).1, by have := (h t ht).2; omega⟩
      · obtain rfl := List.mem_singleton.1 ht
        exact ⟨g, by omega⟩
    · rw [List.pairwise_append]
      refine ⟨p, List.pairwise_singleton _ _, fun a ha b hb => ?_⟩
      obtain rfl := List.mem_singleton.1 hb
      have := (h a ha).2; omega
theorem lexR_inv (s : ByteArray) : (∀ t, t ∈ (lexR s).1 → GTok t) ∧ (lexR s).1.Pairwise (fun a b => a.at' < b.at') ∧ ((lexR s).2.1 ≠ 0 → (lexR s).1 = []) := by
  unfold lexR
  by_cases h : s.size > 3000
  · rw [if_pos h]; exact ⟨fun t ht => (List.not_mem_nil ht).elim, .nil, fun _ => rfl⟩
  · rw [if_neg h]; exact lexGo_inv _ _ _ (fun t ht => (List.not_mem_nil ht).elim) .nil
end Go.Proofs.Ytadmoackacickaa
/- The two parsers are alike: states behind a fault; levels. -/
set_option linter.unusedSimpArgs false
namespace Go.Proofs.Ytadmoackacickaa
open Go Go.AH

section
variable {c : PC} {st : PSt}
theorem isP_d (h : st.code ≠ 0) (t : ByteArray) : isP c st t = false := isP_zero (pk_dead h)
theorem failP_d (h : st.code ≠ 0) (k : Int) : failP c st k = st := by unfold failP; rw [if_neg h]
theorem takesP_d (h : st.code ≠ 0) (t : ByteArray) : takesP c t st = some (false, st) := by unfold takesP; rw [isP_d h]; rfl
theorem wantP_d (h : st.code ≠ 0) (t : ByteArray) : wantP c t st = some st := by unfold wantP; rw [takesP_d h]; simp [failP_d h]
theorem nameN_d (h : st.code ≠ 0) : nameN c st = some (E0, st) := by unfold nameN; rw [pk_dead h, if_pos (by decide), failP_d h]
theorem nodeS_d (h : st.code ≠ 0) (k : Int) (t : ByteArray) (i : Int) (ks : List Int) : nodeS k t i ks st = some (-1, st) := by unfold nodeS; rw [if_pos h]
theorem openS_d (h : st.code ≠ 0) : openS c st = some (false, st) := by unfold openS; rw [if_pos h]
theorem opOf_d (h : st.code ≠ 0) : ∀ ts, opOfP c ts st = 0 := by
  intro ts
  induction ts with
  | nil => rfl
  | cons t ts ih => rw [opOfP, isP_d h, if_neg (by simp), ih]
/-- At the end of the tokens, without a fault. -/
def AtEnd (c : PC) (st : PSt) : Prop := st.code = 0 ∧ c.toks.length ≤ st.at'
theorem isP_e (h : AtEnd c st) (t : ByteArray) : isP c st t = false := isP_zero (by rw [pk_end h.1 h.2])
theorem takesP_e (h : AtEnd c st) (t : ByteArray) : takesP c t st = some (false, st) := by unfold takesP; rw [isP_e h]; rfl
/-- Nothing is there: a fault, or no token. -/
def Gone (c : PC) (st : PSt) : Prop := st.code ≠ 0 ∨ AtEnd c st
theorem Gone.is (h : Gone c st) (t : ByteArray) : isP c st t = false := h.elim (fun h => isP_d h t) (fun h => isP_e h t)
theorem Gone.pk (h : Gone c st) : (pk c st).k = 0 := h.elim pk_dead (fun h => by rw [pk_end h.1 h.2])
theorem Gone.takes (h : Gone c st) (t : ByteArray) : takesP c t st = some (false, st) := h.elim (fun h => takesP_d h t) (fun h => takesP_e h t)
theorem failP_code (k : Int) (hk : k ≠ 0) : (failP c st k).code ≠ 0 := by
  unfold failP
  by_cases h : st.code = 0
  · rw [if_pos h]; exact hk
  · rw [if_neg h]; exact h
theorem failP_nest (k : Int) : (failP c st k).nest = st.nest := by unfold failP; split <;> rfl
theorem failP_at (k : Int) : (failP c st k).at' = st.at' := by unfold failP; split <;> rfl
theorem failP_nodes (k : Int) : (failP c st k).nodes = st.nodes := by unfold failP; split <;> rfl
end
/-- What impl's expressions do where nothing is there: a fault is noted. -/
def GoneF (c : PC) (m : PI) : Prop := ∀ st, Gone c st → -500 ≤ st.nest → st.nest ≤ 500 → m st = some (0, failP c st 2)
section
variable {c : PC}
theorem gone_bin {w : ByteArray} {k : Int} {sub : PI} {n : Nat} (h : GoneF c sub) : GoneF c (binP c w k sub (n + 1)) := fun st g a b => by
  unfold binP
  rw [h st g a b, Option.bind_some, binLoop, takesP_d (failP_code 2 (by decide))]
  rfl
theorem gone_row {ts : List ByteArray} {sub : PI} {n : Nat} (h : GoneF c sub) : GoneF c (rowP c ts sub (n + 1)) := fun st g a b => by
  unfold rowP
  rw [h st g a b, Option.bind_some, rowLoop, if_pos (opOf_d (failP_code 2 (by decide)) _)]
theorem gone_cmp {sub : PI} (h : GoneF c sub) : GoneF c (compareP c sub) := fun st g a b => by
  unfold compareP
  rw [h st g a b, Option.bind_some, if_pos (opOf_d (failP_code 2 (by decide)) _)]
theorem gone_unary {self beh : PI} (h : GoneF c beh) : GoneF c (unaryP c self beh) := fun st g a b => by
  unfold unaryP
  rw [g.is, g.is, g.is, if_neg (by simp), if_neg (by simp), if_neg (by simp), h st g a b]
theorem gone_behind {prim whole : PI} {args : PM} {n : Nat} (h : GoneF c prim) : GoneF c (behindP c prim whole args (n + 1)) := fun st g a b => by
  have d := failP_code (c := c) (st := st) 2 (by decide)
  unfold behindP
  rw [h st g a b, Option.bind_some, behindLoop, takesP_d d]
  simp only [Option.bind_some]
  rw [if_neg (by simp), takesP_d d]
  simp only [Option.bind_some]
  rw [if_neg (by simp), isP_d d, if_neg (by simp)]
theorem gone_primary {whole fn table : PI} : GoneF c (primaryP c whole fn table) := fun st g a b => by
  unfold primaryP
  rw [g.pk, if_neg (by decide), if_neg (by decide), if_neg (by decide)]
  simp only [g.takes, Option.bind_some]
  rw [if_neg (by simp), if_neg (by simp), if_neg (by simp), if_neg (by simp), if_neg (by simp), g.is, if_neg (by simp)]
theorem gone_whole {sub : PI} (h : GoneF c sub) {st : PSt} (g : Gone c st) (a : -400 ≤ st.nest) (b : st.nest ≤ 400) : wholeP c sub st = some (0, failP c st 2) := by
  have ho : openP c st = some { st with nest := st.nest + 1 } := by
    unfold openP
    rw [g.pk, if_neg (c := (0 : Int) ≠ 0 ∧ st.nest = 30) (fun z => z.1 rfl)]
    unfold nestTo
    rw [if_pos (by omega)]
  have g1 : Gone c { st with nest := st.nest + 1 } := g
  unfold wholeP
  rw [ho, Option.bind_some, h _ g1 (by show -500 ≤ st.nest + 1; omega) (by show st.nest + 1 ≤ 500; omega), Option.bind_some]
  unfold nestTo
  have e : (failP c { st with nest := st.nest + 1 } 2).nest + -1 = st.nest := by rw [failP_nest]; show st.nest + 1 + -1 = st.nest; omega
  rw [if_pos (by rw [e]; omega), e]
  show some (0, _) = some (0, _)
  congr 2
  unfold failP
  split
  · rfl
  · rfl
theorem parse_gone : ∀ D, 60 ≤ D → D ≤ 2000000 →
    GoneF c (un (parse c D 158)) ∧ GoneF c (un (parse c D 188)) ∧ GoneF c (un (parse c D 203)) ∧ GoneF c (un (parse c D 220)) ∧ GoneF c (un (parse c D 232)) ∧ GoneF c (un (parse c D 238)) ∧ GoneF c (un (parse c D 241)) ∧ GoneF c (un (parse c D 242)) ∧ GoneF c (un (parse c D 243)) := by
  have s243 : ∀ D, 31 ≤ D → D ≤ 2000000 → GoneF c (un (parse c D 243)) := fun D h1 h2 st g a b => by
    obtain ⟨D, rfl⟩ : ∃ d, D = d + 1 := ⟨D - 1, by omega⟩
    rw [un_eq (parse_243 c (by omega) _), un_ret]; exact gone_primary st g a b
  have s242 : ∀ D, 33 ≤ D → D ≤ 2000000 → GoneF c (un (parse c D 242)) := fun D h1 h2 st g a b => by
    obtain ⟨D, rfl⟩ : ∃ d, D = d + 1 + 1 := ⟨D - 2, by omega⟩
    rw [un_eq (parse_242 c (by omega) _), un_ret]; exact gone_behind (s243 _ (by omega) (by omega)) st g a b
  have s241 : ∀ D, 34 ≤ D → D ≤ 2000000 → GoneF c (un (parse c D 241)) := fun D h1 h2 st g a b => by
    obtain ⟨D, rfl⟩ : ∃ d, D = d + 1 := ⟨D - 1, by omega⟩
    rw [un_eq (parse_241 c (by omega) _), un_ret]; exact gone_unary (s242 _ (by omega) (by omega)) st g a b
  have s238 : ∀ D, 37 ≤ D → D ≤ 2000000 → GoneF c (un (parse c D 238)) := fun D h1 h2 st g a b => by
    obtain ⟨D, rfl⟩ : ∃ d, D = d + 1 + 1 + 1 := ⟨D - 3, by omega⟩
    rw [un_eq (parse_238 c (by omega) _), un_eq (parse_2312 c (by omega) _), un_ret]; exact gone_row (s241 _ (by omega) (by omega)) st g a b
  have s232 : ∀ D, 40 ≤ D → D ≤ 2000000 → GoneF c (un (parse c D 232)) := fun D h1 h2 st g a b => by
    obtain ⟨D, rfl⟩ : ∃ d, D = d + 1 + 1 + 1 := ⟨D - 3, by omega⟩
    rw [un_eq (parse_232 c (by omega) _), un_eq (parse_2311 c (by omega) _), un_ret]; exact gone_row (s238 _ (by omega) (by omega)) st g a b
  have s220 : ∀ D, 43 ≤ D → D ≤ 2000000 → GoneF c (un (parse c D 220)) := fun D h1 h2 st g a b => by
    obtain ⟨D, rfl⟩ : ∃ d, D = d + 1 + 1 + 1 := ⟨D - 3, by omega⟩
    rw [un_eq (parse_220 c (by omega) _), un_eq (parse_2310 c (by omega) _), un_ret]; exact gone_row (s232 _ (by omega) (by omega)) st g a b
  have s203 : ∀ D, 44 ≤ D → D ≤ 2000000 → GoneF c (un (parse c D 203)) := fun D h1 h2 st g a b => by
    obtain ⟨D, rfl⟩ : ∃ d, D = d + 1 := ⟨D - 1, by omega⟩
    rw [un_eq (parse_203 c (by omega) _), un_ret]; exact gone_cmp (s220 _ (by omega) (by omega)) st g a b
  have s188 : ∀ D, 46 ≤ D → D ≤ 2000000 → GoneF c (un (parse c D 188)) := fun D h1 h2 st g a b => by
    obtain ⟨D, rfl⟩ : ∃ d, D = d + 1 + 1 := ⟨D - 2, by omega⟩
    rw [un_eq (parse_188 c (by omega) _), un_ret]; exact gone_bin (s203 _ (by omega) (by omega)) st g a b
  have s158 : ∀ D, 48 ≤ D → D ≤ 2000000 → GoneF c (un (parse c D 158)) := fun D h1 h2 st g a b => by
    obtain ⟨D, rfl⟩ : ∃ d, D = d + 1 + 1 := ⟨D - 2, by omega⟩
    rw [un_eq (parse_158 c (by omega) _), un_ret]; exact gone_bin (s188 _ (by omega) (by omega)) st g a b
  intro D h1 h2
  exact ⟨s158 D (by omega) h2, s188 D (by omega) h2, s203 D (by omega) h2, s220 D (by omega) h2, s232 D (by omega) h2, s238 D (by omega) h2, s241 D (by omega) h2, s242 D (by omega) h2, s243 D (by omega) h2⟩
theorem whole_gone {D : Nat} (h1 : 61 ≤ D) (h2 : D ≤ 2000000) {st : PSt} (g : Gone c st) (a : -400 ≤ st.nest) (b : st.nest ≤ 400) : un (parse c D 110) st = some (0, failP c st 2) := by
  obtain ⟨D, rfl⟩ : ∃ d, D = d + 1 := ⟨D - 1, by omega⟩
  rw [un_eq (parse_110 c (by omega) _), un_ret]
  exact gone_whole (parse_gone D (by omega) (by omega)).1 g a b
/-- A node is put. -/
def putN (k : Int) (t : ByteArray) (i : Int) (ks : List Int) (st : PSt) : PSt := { st with nodes := st.nodes ++ [⟨k, t, i, ks⟩] }
theorem nodeP_ok {k i : Int} {t : ByteArray} {ks : List Int} {st : PSt} (h : st.nodes.length ≤ 1000000) : nodeP k t i ks st = some ((st.nodes.length : Int), putN k t i ks st) := by unfold nodeP; rw [if_pos h]; rfl
theorem nodeS_ok {k i : Int} {t : ByteArray} {ks : List Int} {st : PSt} (hc : st.code = 0) (h : st.nodes.length ≤ 1000000) : nodeS k t i ks st = some ((st.nodes.length : Int), putN k t i ks st) := by unfold nodeS; rw [if_neg (by simp [hc]), nodeP_ok h]
theorem block_dead {D : Nat} (h1 : 61 ≤ D) (h2 : D ≤ 2000000) {st : PSt} (d : st.code ≠ 0) (a : -400 ≤ st.nest) (b : st.nest ≤ 400) (hl : st.nodes.length ≤ 100000) : ∃ v, un (parse c D 111) st = some (v, putN 21 E0 0 [] st) := by
  obtain ⟨D, rfl⟩ : ∃ d, D = d + 1 + 1 := ⟨D - 2, by omega⟩
  refine ⟨(st.nodes.length : Int), ?_⟩
  rw [un_eq (parse_111 c (by omega) _), un_ret]
  have ho : openP c st = some { st with nest := st.nest + 1 } := by
    unfold openP
    rw [pk_dead d, if_neg (c := (0 : Int) ≠ 0 ∧ st.nest = 30) (fun z => z.1 rfl)]
    unfold nestTo
    rw [if_pos (by omega)]
  have d1 : ({ st with nest := st.nest + 1 } : PSt).code ≠ 0 := d
  unfold blockP
  rw [ho, Option.bind_some, wantP_d d1, Option.bind_some, blockLoop, if_neg (fun z => d z.1), Option.bind_some]
  dsimp only
  rw [wantP_d d1, Option.bind_some]
  unfold nestTo
  have e : ({ st with nest := st.nest + 1 } : PSt).nest + -1 = st.nest := by show st.nest + 1 + -1 = st.nest; omega
  rw [if_pos (by rw [e]; omega), e, Option.bind_some]
  exact nodeP_ok (by show st.nodes.length ≤ 1000000; omega)
end
end Go.Proofs.Ytadmoackacickaa
/- The two parsers are alike: levels of expressions. -/
set_option linter.unusedSimpArgs false
namespace Go.Proofs.Ytadmoackacickaa
open Go Go.AH

/-- What is known of the tokens. -/
def Cx (c : PC) : Prop := c.toks.length ≤ 3000 ∧ ∀ t, t ∈ c.toks → t.k ≠ 0
/-- No fault; so far all is well. -/
def LvS (c : PC) (n : Int) (st : PSt) : Prop := st.code = 0 ∧ st.nest = n ∧ st.at' ≤ c.toks.length ∧ st.nodes.length ≤ 3 * st.at'
/-- An index has two kids. -/
def Ix (v : Int) (s : PSt) : Prop := ∀ n, s.nodes[v.toNat]? = some n → n.k = 8 → ∃ a b, n.ks = [a, b]
theorem ix_put {k i : Int} {t : ByteArray} {ks : List Int} {q : PSt} (h : k = 8 → ∃ a b, ks = [a, b]) : Ix (q.nodes.length : Int) (putN k t i ks q) := fun n hn h8 => by
  have e : (putN k t i ks q).nodes = q.nodes ++ [⟨k, t, i, ks⟩] := rfl
  rw [e, show ((q.nodes.length : Int)).toNat = q.nodes.length by omega, List.getElem?_append_right (Nat.le_refl _), Nat.sub_self] at hn
  have : n = ⟨k, t, i, ks⟩ := by simpa using hn.symm
  subst this
  exact h h8
/-- No fault: something was read. -/
def LvP (c : PC) (e : Nat) (st0 : PSt) (v : Int) (s : PSt) : Prop := s.code = 0 ∧ s.nest = st0.nest ∧ st0.at' < s.at' ∧ s.at' ≤ c.toks.length ∧ s.nodes.length + 3 * st0.at' + e ≤ st0.nodes.length + 3 * s.at' ∧ 0 ≤ v ∧ v < s.nodes.length ∧ Ix v s
/-- The same fault. -/
def DdP (w : Nat) (n : Int) (s s2 : PSt) : Prop := s.code ≠ 0 ∧ s.nest = n ∧ s.at' ≤ w ∧ s2.code = s.code ∧ s2.place = s.place ∧ s2.nest = n ∧ s2.at' ≤ w ∧ s2.nodes.length ≤ w
def Out (c : PC) (w e : Nat) (st0 : PSt) (o1 o2 : Option (Int × PSt)) : Prop :=
  (∃ v s, o1 = some (v, s) ∧ o2 = some (v, s) ∧ LvP c e st0 v s) ∨ ∃ v s v2 s2, o1 = some (v, s) ∧ o2 = some (v2, s2) ∧ DdP w st0.nest s s2
section
variable {c : PC} {w w' e n1 n2 : Nat} {n : Int} {st st0 s s2 : PSt}
theorem DdP.mono (x : DdP w n s s2) (h : w ≤ w') : DdP w' n s s2 := let ⟨a, b, d, e, f, g, i, j⟩ := x; ⟨a, b, by omega, e, f, g, by omega, by omega⟩
theorem DdP.d2 (x : DdP w n s s2) : s2.code ≠ 0 := by rw [x.2.2.2.1]; exact x.1
theorem DdP.put (x : DdP w n s s2) (k : Int) (t : ByteArray) (i : Int) (ks : List Int) : DdP (w + 1) n s (putN k t i ks s2) :=
  let ⟨a, b, d, e, f, g, i', j⟩ := x; ⟨a, b, by omega, e, f, g, by show s2.at' ≤ w + 1; omega, by show (s2.nodes ++ [_]).length ≤ w + 1; simp; omega⟩
theorem Out.mono {o1 o2 : Option (Int × PSt)} (x : Out c w e st0 o1 o2) (h : w ≤ w') : Out c w' e st0 o1 o2 := by
  rcases x with x | ⟨v, s, v2, s2, a, b, d⟩
  · exact .inl x
  · exact .inr ⟨v, s, v2, s2, a, b, d.mono h⟩
theorem Out.weak {o1 o2 : Option (Int × PSt)} (x : Out c w 2 st0 o1 o2) : Out c w 1 st0 o1 o2 := by
  rcases x with ⟨v, s, a, b, p⟩ | x
  · obtain ⟨q1, q2, q3, q4, q5, q6⟩ := p; exact .inl ⟨v, s, a, b, q1, q2, q3, q4, by omega, q6⟩
  · exact .inr x
def stp (st : PSt) : PSt := { st with at' := st.at' + 1 }
theorem isP_live {t : ByteArray} (h : isP c st t = true) : st.code = 0 ∧ st.at' < c.toks.length := by
  have hz : (pk c st).k ≠ 0 := fun z => by rw [isP_zero z] at h; cases h
  exact pk_live hz
theorem adv_ok (h : st.at' ≤ 100000) : adv 1 st = some (stp st) := by unfold adv; rw [if_pos (by omega)]; rfl
theorem takesP_ok {t : ByteArray} (h : isP c st t = true) (hl : st.at' ≤ 100000) : takesP c t st = some (true, stp st) := by unfold takesP; rw [if_pos h, adv_ok hl]; rfl
theorem takesP_no {t : ByteArray} (h : isP c st t = false) : takesP c t st = some (false, st) := by unfold takesP; rw [if_neg (by simp [h])]
theorem wantP_ok {t : ByteArray} (h : isP c st t = true) (hl : st.at' ≤ 100000) : wantP c t st = some (stp st) := by unfold wantP; rw [takesP_ok h hl]; rfl
theorem wantP_no {t : ByteArray} (h : isP c st t = false) : wantP c t st = some (failP c st 2) := by unfold wantP; rw [takesP_no h]; simp
theorem LvS.stp (hx : Cx c) (x : LvS c n st) (h : st.at' < c.toks.length) : LvS c n (Ytadmoackacickaa.stp st) := ⟨x.1, x.2.1, by show st.at' + 1 ≤ _; omega, by have := x.2.2.2; show st.nodes.length ≤ 3 * (st.at' + 1); omega⟩
theorem LvP.lvs {v : Int} (x : LvS c n st0) (y : LvP c e st0 v s) : LvS c n s := ⟨y.1, by rw [y.2.1]; exact x.2.1, y.2.2.2.1, by have := x.2.2.2; have := y.2.2.2.2.1; omega⟩
theorem LvS.sz (hx : Cx c) (x : LvS c n st) : st.at' ≤ 3000 ∧ st.nodes.length ≤ 9000 := by have := hx.1; have := x.2.2; omega
/-- A fault at a state without one: both note it. -/
theorem dd_fail (hx : Cx c) (x : LvS c n st) (k : Int) (hk : k ≠ 0) (hw : 9000 ≤ w) : DdP w n (failP c st k) (failP c st k) := by
  have := x.sz hx
  exact ⟨failP_code k hk, by rw [failP_nest]; exact x.2.1, by rw [failP_at]; omega, rfl, rfl, by rw [failP_nest]; exact x.2.1, by rw [failP_at]; omega, by rw [failP_nodes]; omega⟩
/-- A part is read, a node is put. -/
theorem pair_node {k op a : Int} {sub1 sub2 : Option (Int × PSt)} {K1 K2 : Int × PSt → Option (Int × PSt)} (hx : Cx c) (hw : w ≤ 100000) (l : LvS c n s) (x : Out c w 2 s sub1 sub2)
    (live : ∀ b q, LvP c 2 s b q → Out c w' e st0 (K1 ((q.nodes.length : Int), putN k E0 op [a, b] q)) (K2 ((q.nodes.length : Int), putN k E0 op [a, b] q)))
    (dead : ∀ v q v2 q2, DdP (w + 1) n q q2 → Out c w' e st0 (K1 (v, q)) (K2 (v2, q2))) :
    Out c w' e st0 (sub1.bind fun b => (nodeS k E0 op [a, b.1] b.2).bind fun x => K1 x) (sub2.bind fun b => (nodeP k E0 op [a, b.1] b.2).bind fun x => K2 x) := by
  rcases x with ⟨v, q, rfl, rfl, p⟩ | ⟨v, q, v2, q2, rfl, rfl, d⟩
  · have := (p.lvs l).sz hx
    rw [Option.bind_some, Option.bind_some]
    dsimp only
    rw [nodeS_ok p.1 (by omega), nodeP_ok (by omega), Option.bind_some, Option.bind_some]
    exact live v q p
  · rw [Option.bind_some, Option.bind_some]
    dsimp only
    rw [nodeS_d d.1, nodeP_ok (by have := d.2.2.2.2.2.2.2; omega), Option.bind_some, Option.bind_some]
    exact dead _ _ _ _ (by rw [l.2.1] at d; exact d.put k E0 op [a, v2])
theorem LvP.node {a b k op : Int} {ks : List Int} {s0 s q : PSt} (p : LvP c 2 s0 a s) (l : LvS c n s0) (h : s.at' < c.toks.length) (r : LvP c 2 (stp s) b q) (h8 : k ≠ 8) : LvP c 2 s0 (q.nodes.length : Int) (putN k E0 op ks q) := by
  obtain ⟨p1, p2, p3, p4, p5, p6, p7⟩ := p
  obtain ⟨r1, r2, r3, r4, r5, r6, r7⟩ := r
  have hs : (stp s).at' = s.at' + 1 := rfl
  have hn : (stp s).nodes = s.nodes := rfl
  have hl : (putN k E0 op ks q).nodes.length = q.nodes.length + 1 := by show (q.nodes ++ [_]).length = _; simp
  rw [hs] at r3 r5; rw [hn] at r5
  refine ⟨r1, by show q.nest = _; rw [r2]; exact p2, by show s0.at' < q.at'; omega, r4, ?_, by omega, by rw [hl]; omega, ix_put (fun z => absurd z h8)⟩
  rw [hl]; show q.nodes.length + 1 + 3 * s0.at' + 2 ≤ s0.nodes.length + 3 * q.at'
  omega
theorem opGo_live {L : Int} : ∀ (l : List (Int × ByteArray)) (i : Nat), opGo c L l i st ≠ 0 → st.code = 0 ∧ st.at' < c.toks.length := by
  intro l
  induction l with
  | nil => intro i h; exact absurd rfl h
  | cons p l ih =>
    intro i h
    rw [opGo] at h
    by_cases hp : p.1 = L ∧ isP c st p.2 = true
    · exact isP_live hp.2
    · rw [if_neg hp] at h; exact ih _ h
theorem levLoop_dead {L : Int} {sub : PI} {m : Nat} {a : Int} (h : st.code ≠ 0) : levLoop c L sub (m + 1) a st = some (a, st) := by rw [levLoop, if_neg h]
/-- Rows of operands with operators between. -/
theorem row_pair {L : Int} {ts : List ByteArray} {sub1 sub2 : PI} (hx : Cx c) (hw : w ≤ 90000) (hL : L ≠ 1 ∧ L ≠ 2 ∧ L ≠ 3) (hop : ∀ st, opOfP c ts st = opGo c L opsL 1 st) (l0 : LvS c n st0)
    (hs : ∀ st, LvS c n st → Out c w 2 st (sub1 st) (sub2 st)) : ∀ (k : Nat) (a : Int) (s : PSt) (m1 m2 : Nat), c.toks.length - s.at' ≤ k → LvP c 2 st0 a s → k + 1 < m1 → k + 1 < m2 →
    Out c (w + 1) 2 st0 (levLoop c L sub1 m1 a s) (rowLoop c ts sub2 m2 a s) := by
  intro k
  induction k with
  | zero =>
    intro a s m1 m2 hk p h1 h2
    obtain ⟨m1, rfl⟩ : ∃ q, m1 = q + 1 := ⟨m1 - 1, by omega⟩
    obtain ⟨m2, rfl⟩ : ∃ q, m2 = q + 1 := ⟨m2 - 1, by omega⟩
    have z : opGo c L opsL 1 s = 0 := by
      apply Decidable.byContradiction
      intro h; have := opGo_live (c := c) _ _ h; omega
    have kz : (kindS c L s).1 = 0 := by
      unfold kindS; rw [if_neg (fun z => hL.1 z.1), if_neg (fun z => hL.2.1 z.1), if_pos z]
    rw [levLoop, rowLoop, if_pos p.1, if_pos kz, if_pos (by rw [hop, z])]
    exact .inl ⟨a, s, rfl, rfl, p⟩
  | succ k ih =>
    intro a s m1 m2 hk p h1 h2
    obtain ⟨m1, rfl⟩ : ∃ q, m1 = q + 1 + 1 := ⟨m1 - 2, by omega⟩
    obtain ⟨m2, rfl⟩ : ∃ q, m2 = q + 1 + 1 := ⟨m2 - 2, by omega⟩
    rw [levLoop, rowLoop, if_pos p.1]
    by_cases z : opGo c L opsL 1 s = 0
    · have kz : (kindS c L s).1 = 0 := by
        unfold kindS; rw [if_neg (fun z => hL.1 z.1), if_neg (fun z => hL.2.1 z.1), if_pos z]
      rw [if_pos kz, if_pos (by rw [hop, z])]
      exact .inl ⟨a, s, rfl, rfl, p⟩
    · have ke : kindS c L s = (10, opGo c L opsL 1 s) := by
        unfold kindS; rw [if_neg (fun z => hL.1 z.1), if_neg (fun z => hL.2.1 z.1), if_neg z]
      obtain ⟨_, hl⟩ := opGo_live (c := c) _ _ z
      have ls := p.lvs l0
      have sz := ls.sz hx
      rw [ke]
      dsimp only
      rw [if_neg (by decide), if_neg (by rw [hop]; exact z), adv_ok (by omega), Option.bind_some, Option.bind_some, hop]
      refine pair_node hx (by omega) (ls.stp hx hl) (hs _ (ls.stp hx hl)) (fun b q r => ?_) (fun v q v2 q2 d => ?_)
      · rw [if_neg hL.2.2]
        exact ih _ _ (m1 + 1) (m2 + 1) (by have := r.2.2.1; have e : (stp s).at' = s.at' + 1 := rfl; show c.toks.length - q.at' ≤ k; omega) (p.node l0 hl r (by decide)) (by omega) (by omega)
      · rw [if_neg hL.2.2, levLoop_dead d.1, rowLoop, if_pos (opOf_d d.d2 _)]
        exact .inr ⟨_, _, _, _, rfl, rfl, by rw [l0.2.1]; exact d⟩
theorem pair_row {L : Int} {ts : List ByteArray} {sub1 sub2 : PI} (hx : Cx c) (hw : w ≤ 90000) (hL : L ≠ 1 ∧ L ≠ 2 ∧ L ≠ 3) (hop : ∀ st, opOfP c ts st = opGo c L opsL 1 st) (h1 : 3100 ≤ n1) (h2 : 3100 ≤ n2)
    (hs : ∀ st, LvS c n st → Out c w 2 st (sub1 st) (sub2 st)) (l : LvS c n st) : Out c (w + 1) 2 st (levelS c L sub1 n1 st) (rowP c ts sub2 n2 st) := by
  unfold levelS rowP
  have hl := hx.1
  rcases hs st l with ⟨v, q, e1, e2, p⟩ | ⟨v, q, v2, q2, e1, e2, d⟩
  · rw [e1, e2, Option.bind_some, Option.bind_some]
    exact row_pair hx hw hL hop l hs (c.toks.length - q.at') v q n1 n2 (Nat.le_refl _) p (by omega) (by omega)
  · obtain ⟨n1, rfl⟩ : ∃ q, n1 = q + 1 := ⟨n1 - 1, by omega⟩
    obtain ⟨n2, rfl⟩ : ∃ q, n2 = q + 1 := ⟨n2 - 1, by omega⟩
    rw [e1, e2, Option.bind_some, Option.bind_some, levLoop_dead d.1, rowLoop, if_pos (opOf_d d.d2 _)]
    exact .inr ⟨_, _, _, _, rfl, rfl, d.mono (by omega)⟩
/-- or, and. -/
theorem bin_pair {L kd : Int} {wd : ByteArray} {sub1 sub2 : PI} (hx : Cx c) (hw : w ≤ 90000) (h3 : L ≠ 3) (hkd : kd ≠ 0) (hk8 : kd ≠ 8) (hk : ∀ st, kindS c L st = if isP c st wd = true then (kd, 0) else (0, 0)) (l0 : LvS c n st0)
    (hs : ∀ st, LvS c n st → Out c w 2 st (sub1 st) (sub2 st)) : ∀ (k : Nat) (a : Int) (s : PSt) (m1 m2 : Nat), c.toks.length - s.at' ≤ k → LvP c 2 st0 a s → k + 1 < m1 → k + 1 < m2 →
    Out c (w + 1) 2 st0 (levLoop c L sub1 m1 a s) (binLoop c wd kd sub2 m2 a s) := by
  intro k
  induction k with
  | zero =>
    intro a s m1 m2 hk' p h1 h2
    obtain ⟨m1, rfl⟩ : ∃ q, m1 = q + 1 := ⟨m1 - 1, by omega⟩
    obtain ⟨m2, rfl⟩ : ∃ q, m2 = q + 1 := ⟨m2 - 1, by omega⟩
    have z : isP c s wd = false := by
      cases h : isP c s wd with
      | false => rfl
      | true => have := isP_live h; omega
    rw [levLoop, binLoop, if_pos p.1, hk, if_neg (c := isP c s wd = true) (by simp [z]), if_pos rfl, takesP_no z]
    exact .inl ⟨a, s, rfl, rfl, p⟩
  | succ k ih =>
    intro a s m1 m2 hk' p h1 h2
    obtain ⟨m1, rfl⟩ : ∃ q, m1 = q + 1 + 1 := ⟨m1 - 2, by omega⟩
    obtain ⟨m2, rfl⟩ : ∃ q, m2 = q + 1 + 1 := ⟨m2 - 2, by omega⟩
    rw [levLoop, binLoop, if_pos p.1, hk]
    cases hi : isP c s wd with
    | false =>
      rw [if_neg (c := false = true) (by simp), if_pos rfl, takesP_no hi]
      exact .inl ⟨a, s, rfl, rfl, p⟩
    | true =>
      obtain ⟨_, hl⟩ := isP_live hi
      have ls := p.lvs l0
      have sz := ls.sz hx
      rw [if_pos (c := true = true) rfl]
      dsimp only
      rw [if_neg hkd, adv_ok (by omega), takesP_ok hi (by omega), Option.bind_some, Option.bind_some]
      dsimp only
      rw [if_pos rfl]
      refine pair_node hx (by omega) (ls.stp hx hl) (hs _ (ls.stp hx hl)) (fun b q r => ?_) (fun v q v2 q2 d => ?_)
      · rw [if_neg h3]
        exact ih _ _ (m1 + 1) (m2 + 1) (by have := r.2.2.1; have e : (stp s).at' = s.at' + 1 := rfl; show c.toks.length - q.at' ≤ k; omega) (p.node l0 hl r hk8) (by omega) (by omega)
      · rw [if_neg h3, levLoop_dead d.1, binLoop, takesP_d d.d2]
        exact .inr ⟨_, _, _, _, rfl, rfl, by rw [l0.2.1]; exact d⟩
theorem pair_bin {L kd : Int} {wd : ByteArray} {sub1 sub2 : PI} (hx : Cx c) (hw : w ≤ 90000) (h3 : L ≠ 3) (hkd : kd ≠ 0) (hk8 : kd ≠ 8) (hk : ∀ st, kindS c L st = if isP c st wd = true then (kd, 0) else (0, 0)) (h1 : 3100 ≤ n1) (h2 : 3100 ≤ n2)
    (hs : ∀ st, LvS c n st → Out c w 2 st (sub1 st) (sub2 st)) (l : LvS c n st) : Out c (w + 1) 2 st (levelS c L sub1 n1 st) (binP c wd kd sub2 n2 st) := by
  unfold levelS binP
  have hl := hx.1
  rcases hs st l with ⟨v, q, e1, e2, p⟩ | ⟨v, q, v2, q2, e1, e2, d⟩
  · rw [e1, e2, Option.bind_some, Option.bind_some]
    exact bin_pair hx hw h3 hkd hk8 hk l hs (c.toks.length - q.at') v q n1 n2 (Nat.le_refl _) p (by omega) (by omega)
  · obtain ⟨n1, rfl⟩ : ∃ q, n1 = q + 1 := ⟨n1 - 1, by omega⟩
    obtain ⟨n2, rfl⟩ : ∃ q, n2 = q + 1 := ⟨n2 - 1, by omega⟩
    rw [e1, e2, Option.bind_some, Option.bind_some, levLoop_dead d.1, binLoop, takesP_d d.d2]
    exact .inr ⟨_, _, _, _, rfl, rfl, d.mono (by omega)⟩
/-- Comparisons. -/
theorem pair_cmp {sub1 sub2 : PI} (hx : Cx c) (hw : w ≤ 90000) (hop : ∀ st, opOfP c cmpTexts st = opGo c 3 opsL 1 st) (h1 : 10 ≤ n1)
    (hs : ∀ st, LvS c n st → Out c w 2 st (sub1 st) (sub2 st)) (l : LvS c n st) : Out c (w + 1) 2 st (levelS c 3 sub1 n1 st) (compareP c sub2 st) := by
  obtain ⟨n1, rfl⟩ : ∃ q, n1 = q + 1 := ⟨n1 - 1, by omega⟩
  unfold levelS compareP
  rcases hs st l with ⟨v, q, e1, e2, p⟩ | ⟨v, q, v2, q2, e1, e2, d⟩
  · rw [e1, e2, Option.bind_some, Option.bind_some]
    dsimp only
    rw [levLoop, if_pos p.1]
    by_cases z : opGo c 3 opsL 1 q = 0
    · have kz : (kindS c 3 q).1 = 0 := by
        unfold kindS; rw [if_neg (fun z => absurd z.1 (by decide)), if_neg (fun z => absurd z.1 (by decide)), if_pos z]
      rw [if_pos kz, if_pos (by rw [hop, z])]
      exact .inl ⟨v, q, rfl, rfl, p⟩
    · have ke : kindS c 3 q = (10, opGo c 3 opsL 1 q) := by
        unfold kindS; rw [if_neg (fun z => absurd z.1 (by decide)), if_neg (fun z => absurd z.1 (by decide)), if_neg z]
      obtain ⟨_, hl⟩ := opGo_live (c := c) _ _ z
      have ls := p.lvs l
      have sz := ls.sz hx
      rw [ke]
      dsimp only
      rw [if_neg (by decide), if_neg (by rw [hop]; exact z), adv_ok (by omega), Option.bind_some, Option.bind_some, hop]
      have e : (fun b : Int × PSt => nodeP 10 E0 (opGo c 3 opsL 1 q) [v, b.1] b.2) = fun b => (nodeP 10 E0 (opGo c 3 opsL 1 q) [v, b.1] b.2).bind fun x => some x := by
        funext b; cases nodeP 10 E0 (opGo c 3 opsL 1 q) [v, b.1] b.2 <;> rfl
      rw [e]
      refine pair_node hx (by omega) (ls.stp hx hl) (hs _ (ls.stp hx hl)) (fun b r pr => ?_) (fun v q v2 q2 d => ?_)
      · rw [if_pos rfl]
        exact .inl ⟨_, _, rfl, rfl, p.node l hl pr (by decide)⟩
      · rw [if_pos rfl]
        exact .inr ⟨_, _, _, _, rfl, rfl, by rw [l.2.1]; exact d⟩
  · rw [e1, e2, Option.bind_some, Option.bind_some]
    dsimp only
    rw [levLoop_dead d.1, if_pos (opOf_d d.d2 _)]
    exact .inr ⟨_, _, _, _, rfl, rfl, d.mono (by omega)⟩
theorem op4 (st : PSt) : opOfP c [⟨#[46, 46]⟩] st = opGo c 4 opsL 1 st := by
  simp [opOfP, opGo, opsL, ixGo, opTexts]
theorem op5 (st : PSt) : opOfP c [⟨#[43]⟩, ⟨#[45]⟩] st = opGo c 5 opsL 1 st := by
  simp [opOfP, opGo, opsL, ixGo, opTexts]
theorem op6 (st : PSt) : opOfP c [⟨#[42]⟩, ⟨#[47]⟩, ⟨#[37]⟩] st = opGo c 6 opsL 1 st := by
  simp [opOfP, opGo, opsL, ixGo, opTexts]
theorem op3 (st : PSt) : opOfP c cmpTexts st = opGo c 3 opsL 1 st := by
  simp [opOfP, opGo, opsL, ixGo, opTexts, cmpTexts]
theorem kind1 (st : PSt) : kindS c 1 st = if isP c st ⟨#[111, 114]⟩ = true then (13, 0) else (0, 0) := by
  unfold kindS; simp [opGo, opsL]
theorem kind2 (st : PSt) : kindS c 2 st = if isP c st ⟨#[97, 110, 100]⟩ = true then (12, 0) else (0, 0) := by
  unfold kindS; simp [opGo, opsL]
end
end Go.Proofs.Ytadmoackacickaa
/- The two parsers are alike: turns, expressions in others, lists. -/
set_option linter.unusedSimpArgs false
namespace Go.Proofs.Ytadmoackacickaa
open Go Go.AH

def opn (st : PSt) : PSt := { st with nest := st.nest + 1 }
def clo (st : PSt) : PSt := { st with nest := st.nest + -1 }
section
variable {c : PC} {w w' e n1 n2 : Nat} {n : Int} {st st0 s s2 : PSt}
theorem opn_ok (a : -400 ≤ st.nest) (b : st.nest ≤ 400) : nestTo 1 st = some (opn st) := by unfold nestTo; rw [if_pos (by omega)]; rfl
theorem clo_ok (a : -400 ≤ st.nest) (b : st.nest ≤ 400) : nestTo (-1) st = some (clo st) := by unfold nestTo; rw [if_pos (by omega)]; rfl
theorem clo_opn : clo (opn st) = st := by unfold clo opn; show ({ st with nest := st.nest + 1 + -1 } : PSt) = st; rw [show st.nest + 1 + -1 = st.nest by omega]
theorem failP_opn (k : Int) : failP c (opn st) k = opn (failP c st k) := by unfold failP opn; split <;> rfl
theorem pk_ne (hx : Cx c) (x : LvS c n st) (h : st.at' < c.toks.length) : (pk c st).k ≠ 0 := by rw [pk_at x.1 h]; exact hx.2 _ (List.getElem_mem h)
/-- What is opened: by the reference. -/
theorem openS_at (hx : Cx c) (x : LvS c n st) (h0 : 0 ≤ n) (h1 : n ≤ 30) : openS c st = some (if st.at' ≥ c.toks.length then (false, failP c st 2) else if n = 30 then (false, failP c st 3) else (true, opn st)) := by
  unfold openS
  rw [if_neg (by simp [x.1])]
  by_cases ha : st.at' ≥ c.toks.length
  · rw [if_pos ha, if_pos ha]
  · rw [if_neg ha, if_neg ha, x.2.1]
    by_cases hn : n = 30
    · rw [if_pos (by omega), if_pos hn]
    · rw [if_neg (by omega), if_neg hn, opn_ok (by rw [x.2.1]; omega) (by rw [x.2.1]; omega)]; rfl
theorem openP_at (hx : Cx c) (x : LvS c n st) (h0 : 0 ≤ n) (h1 : n ≤ 30) : openP c st = some (if st.at' ≥ c.toks.length then opn st else if n = 30 then opn (failP c st 3) else opn st) := by
  unfold openP
  by_cases ha : st.at' ≥ c.toks.length
  · rw [pk_end x.1 ha, if_neg (fun z => z.1 rfl), if_pos ha, opn_ok (by rw [x.2.1]; omega) (by rw [x.2.1]; omega)]
  · have hk := pk_ne hx x (by omega)
    rw [if_neg ha, x.2.1]
    by_cases hn : n = 30
    · rw [if_pos ⟨hk, hn⟩, if_pos hn, opn_ok (by rw [failP_nest, x.2.1]; omega) (by rw [failP_nest, x.2.1]; omega)]
    · rw [if_neg (fun z => hn z.2), if_neg hn, opn_ok (by rw [x.2.1]; omega) (by rw [x.2.1]; omega)]
theorem LvS.opn (x : LvS c n st) : LvS c (n + 1) (opn st) := ⟨x.1, by show st.nest + 1 = n + 1; rw [x.2.1], x.2.2⟩
theorem LvP.clo {v : Int} (p : LvP c e (opn st0) v s) : LvP c e st0 v (clo s) := ⟨p.1, by show s.nest + -1 = st0.nest; rw [p.2.1]; show st0.nest + 1 + -1 = _; omega, p.2.2⟩
theorem DdP.clo (d : DdP w (n + 1) s s2) : DdP w n (clo s) (clo s2) := ⟨d.1, by show s.nest + -1 = n; rw [d.2.1]; omega, d.2.2.1, d.2.2.2.1, d.2.2.2.2.1, by show s2.nest + -1 = n; rw [d.2.2.2.2.2.1]; omega, d.2.2.2.2.2.2⟩
/-- An expression within others. -/
theorem pair_expr {lv sub : PI} (hx : Cx c) (hw : 9000 ≤ w) (h0 : 0 ≤ n) (h1 : n ≤ 30) (hg : GoneF c sub) (hs : n < 30 → ∀ st, LvS c (n + 1) st → Out c w 2 st (lv st) (sub st)) (l : LvS c n st) : Out c w 2 st (exprS c lv st) (wholeP c sub st) := by
  by_cases ha : st.at' ≥ c.toks.length
  · have g : Gone c st := .inr ⟨l.1, ha⟩
    rw [gone_whole hg g (by rw [l.2.1]; omega) (by rw [l.2.1]; omega)]
    unfold exprS
    rw [openS_at hx l h0 h1, if_pos ha]
    exact .inr ⟨_, _, _, _, rfl, rfl, by rw [l.2.1]; exact dd_fail hx l 2 (by decide) hw⟩
  · unfold exprS wholeP
    rw [openS_at hx l h0 h1, openP_at hx l h0 h1, if_neg ha, if_neg ha]
    by_cases hn : n = 30
    · rw [if_pos hn, if_pos hn, Option.bind_some, Option.bind_some]
      have d3 := failP_code (c := c) (st := st) 3 (by decide)
      have d3' : (opn (failP c st 3)).code ≠ 0 := d3
      have nn : (opn (failP c st 3)).nest = n + 1 := by show (failP c st 3).nest + 1 = n + 1; rw [failP_nest, l.2.1]
      rw [hg _ (.inl d3') (by rw [nn]; omega) (by rw [nn]; omega), Option.bind_some, failP_d d3', clo_ok (by rw [nn]; omega) (by rw [nn]; omega), clo_opn]
      exact .inr ⟨_, _, _, _, rfl, rfl, by rw [l.2.1]; exact dd_fail hx l 3 (by decide) hw⟩
    · rw [if_neg hn, if_neg hn, Option.bind_some, Option.bind_some]
      rcases hs (by omega) _ l.opn with ⟨v, q, e1, e2, p⟩ | ⟨v, q, v2, q2, e1, e2, d⟩
      · have nn : q.nest = n + 1 := by rw [p.2.1]; show st.nest + 1 = _; rw [l.2.1]
        show Out c w 2 st ((lv (opn st)).bind _) ((sub (opn st)).bind _)
        rw [e1, e2, Option.bind_some, Option.bind_some]
        dsimp only
        rw [clo_ok (by rw [nn]; omega) (by rw [nn]; omega)]
        exact .inl ⟨_, _, rfl, rfl, p.clo⟩
      · have hd : DdP w (n + 1) q q2 := by have e : (opn st).nest = n + 1 := by show st.nest + 1 = _; rw [l.2.1]
                                           rw [e] at d; exact d
        show Out c w 2 st ((lv (opn st)).bind _) ((sub (opn st)).bind _)
        rw [e1, e2, Option.bind_some, Option.bind_some]
        dsimp only
        rw [clo_ok (by rw [hd.2.1]; omega) (by rw [hd.2.1]; omega), clo_ok (by rw [hd.2.2.2.2.2.1]; omega) (by rw [hd.2.2.2.2.2.1]; omega)]
        exact .inr ⟨_, _, _, _, rfl, rfl, by rw [l.2.1]; exact hd.clo⟩
/-- A turn. -/
theorem pair_turnT {t : Int} {self1 self2 : PI} (hx : Cx c) (hw : 9000 ≤ w) (hw2 : w ≤ 90000) (h0 : 0 ≤ n) (h1 : n ≤ 30) (hg : GoneF c self2) (hs : n < 30 → ∀ st, LvS c (n + 1) st → Out c w 2 st (self1 st) (self2 st)) (l : LvS c n st) (hl : st.at' < c.toks.length) : Out c (w + 1) 2 st (turnT c t self1 st) (turnP c t self2 st) := by
  have sz := l.sz hx
  unfold turnT turnP
  rw [openS_at hx l h0 h1, openP_at hx l h0 h1, if_neg (c := st.at' ≥ c.toks.length) (by omega), if_neg (c := st.at' ≥ c.toks.length) (by omega)]
  by_cases hn : n = 30
  · rw [if_pos hn, if_pos hn, Option.bind_some, Option.bind_some]
    have d3 := failP_code (c := c) (st := st) 3 (by decide)
    have d4 : (stp (opn (failP c st 3))).code ≠ 0 := d3
    have nn : (stp (opn (failP c st 3))).nest = n + 1 := by show (failP c st 3).nest + 1 = n + 1; rw [failP_nest, l.2.1]
    have na : (opn (failP c st 3)).at' = st.at' := failP_at 3
    have D := dd_fail (c := c) (w := w) hx l 3 (by decide) hw
    dsimp only [cond_false]
    rw [adv_ok (by rw [na]; omega), Option.bind_some, hg _ (.inl d4) (by rw [nn]; omega) (by rw [nn]; omega), Option.bind_some, failP_d d4]
    dsimp only
    rw [clo_ok (by rw [nn]; omega) (by rw [nn]; omega), Option.bind_some, nodeP_ok (by show (failP c st 3).nodes.length ≤ _; rw [failP_nodes]; omega)]
    refine .inr ⟨_, _, _, _, rfl, rfl, ?_⟩
    rw [l.2.1]
    refine ⟨D.1, D.2.1, by have := D.2.2.1; omega, rfl, rfl, ?_, ?_, ?_⟩
    · show (failP c st 3).nest + 1 + -1 = n; rw [failP_nest, l.2.1]; omega
    · show (failP c st 3).at' + 1 ≤ w + 1; rw [failP_at]; omega
    · show ((failP c st 3).nodes ++ [_]).length ≤ w + 1; rw [failP_nodes]; simp; omega
  · rw [if_neg hn, if_neg hn, Option.bind_some, Option.bind_some]
    dsimp only [cond_true]
    rw [adv_ok (by show st.at' ≤ _; omega), Option.bind_some, Option.bind_some]
    have l1 : LvS c (n + 1) (stp (opn st)) := l.opn.stp hx hl
    rcases hs (by omega) _ l1 with ⟨v, q, e1, e2, p⟩ | ⟨v, q, v2, q2, e1, e2, d⟩
    · have nn : q.nest = n + 1 := by rw [p.2.1]; exact l1.2.1
      have sz2 := (p.lvs l1).sz hx
      rw [e1, e2, Option.bind_some, Option.bind_some]
      dsimp only
      rw [clo_ok (by rw [nn]; omega) (by rw [nn]; omega), Option.bind_some, Option.bind_some, nodeS_ok (by show q.code = 0; exact p.1) (by show q.nodes.length ≤ _; omega), nodeP_ok (by show q.nodes.length ≤ _; omega)]
      refine .inl ⟨_, _, rfl, rfl, ?_⟩
      obtain ⟨r1, r2, r3, r4, r5, r6, r7⟩ := p
      have e1' : (stp (opn st)).at' = st.at' + 1 := rfl
      have e2' : (stp (opn st)).nodes = st.nodes := rfl
      rw [e1'] at r3 r5; rw [e2'] at r5
      have hlen : (putN 11 E0 t [v] (clo q)).nodes.length = q.nodes.length + 1 := by show (q.nodes ++ [_]).length = _; simp
      refine ⟨r1, ?_, by show st.at' < q.at'; omega, r4, ?_, by omega, ?_, ix_put (fun z => absurd z (by decide))⟩
      · show q.nest + -1 = st.nest; rw [nn, l.2.1]; omega
      · rw [hlen]; show q.nodes.length + 1 + 3 * st.at' + 2 ≤ st.nodes.length + 3 * q.at'; omega
      · rw [hlen]; show (q.nodes.length : Int) < _; omega
    · rw [l1.2.1] at d
      rw [e1, e2, Option.bind_some, Option.bind_some]
      dsimp only
      rw [clo_ok (by rw [d.2.1]; omega) (by rw [d.2.1]; omega), clo_ok (by rw [d.2.2.2.2.2.1]; omega) (by rw [d.2.2.2.2.2.1]; omega), Option.bind_some, Option.bind_some, nodeS_d d.clo.1, nodeP_ok (by have := d.2.2.2.2.2.2.2; show q2.nodes.length ≤ _; omega)]
      exact .inr ⟨_, _, _, _, rfl, rfl, by rw [l.2.1]; exact d.clo.put 11 E0 t [v2]⟩
theorem pair_turn {self1 self2 suf beh : PI} (hx : Cx c) (hw : 9000 ≤ w) (hw2 : w ≤ 90000) (h0 : 0 ≤ n) (h1 : n ≤ 30) (hg : GoneF c self2) (hs : n < 30 → ∀ st, LvS c (n + 1) st → Out c w 2 st (self1 st) (self2 st)) (hb : ∀ st, LvS c n st → Out c w 2 st (suf st) (beh st)) (l : LvS c n st) :
    Out c (w + 1) 2 st (turnS c self1 suf st) (unaryP c self2 beh st) := by
  unfold turnS unaryP
  by_cases i1 : isP c st ⟨#[45]⟩ = true
  · rw [if_pos i1, if_pos i1]; exact pair_turnT hx hw hw2 h0 h1 hg hs l (isP_live i1).2
  rw [if_neg i1, if_neg i1]
  by_cases i2 : isP c st ⟨#[110, 111, 116]⟩ = true
  · rw [if_pos i2, if_pos i2]; exact pair_turnT hx hw hw2 h0 h1 hg hs l (isP_live i2).2
  rw [if_neg i2, if_neg i2]
  by_cases i3 : isP c st ⟨#[35]⟩ = true
  · rw [if_pos i3, if_pos i3]; exact pair_turnT hx hw hw2 h0 h1 hg hs l (isP_live i3).2
  rw [if_neg i3, if_neg i3]
  exact (hb st l).mono (by omega)
theorem isP_ne {t u : ByteArray} (h : isP c st t = true) (hu : (t.toList == u.toList) = false) : isP c st u = false := by
  cases hi : isP c st u with
  | false => rfl
  | true =>
    unfold isP at h hi
    have key : ∀ x : ByteArray, (if (pk c st).k = 5 then (pk c st).text.toList == x.toList else if (pk c st).k = 2 then (pk c st).text.toList == x.toList else false) = true → (pk c st).text.toList = x.toList := fun x hx => by
      split at hx
      · simpa using hx
      · split at hx
        · simpa using hx
        · cases hx
    have a := key t h
    have b := key u hi
    rw [← a, ← b] at hu; simp at hu

/-! ### lists -/
/-- The reference's lists: items with commas between, up to a mark. -/
def gl (c : PC) (th : Nat) (cl : ByteArray) (item : PI) : Nat → List Int → PM
  | 0, _, _ => none
  | n + 1, ks, st => if st.code = 0 ∧ isP c st cl = false then (if ks.length > th then wantP c ⟨#[44]⟩ st else some st).bind fun s => (item s).bind fun e => if ks.length > 1000000 then none else gl c th cl item n (ks ++ [e.1]) e.2 else some (ks, st)
/-- impl's. -/
def gi (c : PC) (cl : ByteArray) (item : PI) : Nat → List Int → PM
  | 0, _, _ => none
  | n + 1, out, st => (item st).bind fun e => (takesP c ⟨#[44]⟩ e.2).bind fun r => if r.1 = true then gi c cl item n (out ++ [e.1]) r.2 else (wantP c cl r.2).map fun s => (out ++ [e.1], s)
/-- Of two lists. -/
def OutL (c : PC) (w : Nat) (st0 : PSt) (pre : List Int) (o1 o2 : Option (List Int × PSt)) : Prop :=
  (∃ l s, o1 = some (pre ++ l, s) ∧ o2 = some (l, s) ∧ s.code = 0 ∧ s.nest = st0.nest ∧ st0.at' < s.at' ∧ s.at' ≤ c.toks.length ∧ s.nodes.length + 3 * st0.at' + 1 ≤ st0.nodes.length + 3 * s.at' ∧ l.length ≤ s.at') ∨
  ∃ l s l2 s2, o1 = some (l, s) ∧ o2 = some (l2, s2) ∧ DdP w st0.nest s s2 ∧ l.length ≤ w ∧ l2.length ≤ w
theorem gl_dead {th : Nat} {cl : ByteArray} {item : PI} {m : Nat} {ks : List Int} (h : st.code ≠ 0) : gl c th cl item (m + 1) ks st = some (ks, st) := by rw [gl, if_neg (fun z => h z.1)]
section
variable {th : Nat} {cl : ByteArray} {item1 item2 : PI} {pre : List Int}
/-- Behind an item. -/
theorem list_more (hx : Cx c) (hw : 9000 ≤ w) (hcl : (cl.toList == (⟨#[44]⟩ : ByteArray).toList) = false) (hpre : pre.length = th) (hpre1 : th ≤ 1) (l0 : LvS c n st0) (hi : ∀ st, LvS c n st → Out c w 1 st (item1 st) (item2 st)) (hd : ∀ st : PSt, st.code ≠ 0 → ∃ v, item1 st = some (v, st)) :
    ∀ (k : Nat) (ks : List Int) (s : PSt) (m1 m2 : Nat), c.toks.length - s.at' ≤ k → k + 1 < m1 → k + 1 < m2 → s.code = 0 → s.nest = st0.nest → st0.at' < s.at' → s.at' ≤ c.toks.length → s.nodes.length + 3 * st0.at' + 1 ≤ st0.nodes.length + 3 * s.at' → ks.length ≤ s.at' → 0 < ks.length →
    OutL c w st0 pre ((gl c th cl item1 m1 (pre ++ ks) s).bind fun l => (wantP c cl l.2).map fun s => (l.1, s))
      ((takesP c ⟨#[44]⟩ s).bind fun r => if r.1 = true then gi c cl item2 m2 ks r.2 else (wantP c cl r.2).map fun s => (ks, s)) := by
  intro k
  induction k with
  | zero =>
    intro ks s m1 m2 hk h1 h2 a1 a2 a3 a4 a5 a6 a7
    obtain ⟨m1, rfl⟩ : ∃ q, m1 = q + 1 + 1 := ⟨m1 - 2, by omega⟩
    have hc := hx.1
    have ends : AtEnd c s := ⟨a1, by omega⟩
    have ls : LvS c n s := ⟨a1, by rw [a2]; exact l0.2.1, a4, by have := l0.2.2.2; omega⟩
    obtain ⟨v, hv⟩ := hd (failP c s 2) (failP_code 2 (by decide))
    have dF := failP_code (c := c) (st := s) 2 (by decide)
    rw [gl, if_pos ⟨a1, isP_e ends cl⟩, if_pos (by rw [List.length_append, hpre]; omega), wantP_no (isP_e ends _), Option.bind_some, hv, Option.bind_some]
    dsimp only
    rw [if_neg (by rw [List.length_append, hpre]; omega), gl_dead dF, Option.bind_some]
    dsimp only
    rw [wantP_d dF, takesP_e ends, Option.bind_some]
    dsimp only
    rw [if_neg (by simp), wantP_no (isP_e ends _)]
    exact .inr ⟨_, _, _, _, rfl, rfl, by rw [l0.2.1]; exact dd_fail hx ls 2 (by decide) hw, by simp; omega, by omega⟩
  | succ k ih =>
    intro ks s m1 m2 hk h1 h2 a1 a2 a3 a4 a5 a6 a7
    obtain ⟨m1, rfl⟩ : ∃ q, m1 = q + 1 + 1 := ⟨m1 - 2, by omega⟩
    obtain ⟨m2, rfl⟩ : ∃ q, m2 = q + 1 + 1 := ⟨m2 - 2, by omega⟩
    have hc := hx.1
    have ls : LvS c n s := ⟨a1, by rw [a2]; exact l0.2.1, a4, by have := l0.2.2.2; omega⟩
    have sz := ls.sz hx
    rw [gl]
    cases ic : isP c s cl with
    | true =>
      have no : isP c s ⟨#[44]⟩ = false := isP_ne ic hcl
      obtain ⟨_, hl⟩ := isP_live ic
      rw [if_neg (fun z => by cases z.2), Option.bind_some, takesP_no no, Option.bind_some]
      dsimp only
      rw [if_neg (by simp), wantP_ok ic (by omega)]
      refine .inl ⟨ks, stp s, rfl, rfl, a1, a2, by show _ < s.at' + 1; omega, by show s.at' + 1 ≤ _; omega, by show s.nodes.length + 3 * st0.at' + 1 ≤ st0.nodes.length + 3 * (s.at' + 1); omega, by show _ ≤ s.at' + 1; omega⟩
    | false =>
      rw [if_pos ⟨a1, rfl⟩, if_pos (by rw [List.length_append, hpre]; omega)]
      cases icm : isP c s ⟨#[44]⟩ with
      | false =>
        have dF := failP_code (c := c) (st := s) 2 (by decide)
        obtain ⟨v, hv⟩ := hd (failP c s 2) dF
        rw [wantP_no icm, Option.bind_some, hv, Option.bind_some]
        dsimp only
        rw [if_neg (by rw [List.length_append, hpre]; omega), gl_dead dF, Option.bind_some]
        dsimp only
        rw [wantP_d dF, takesP_no icm, Option.bind_some]
        dsimp only
        rw [if_neg (by simp), wantP_no ic]
        exact .inr ⟨_, _, _, _, rfl, rfl, by rw [l0.2.1]; exact dd_fail hx ls 2 (by decide) hw, by simp; omega, by omega⟩
      | true =>
        obtain ⟨_, hl⟩ := isP_live icm
        rw [wantP_ok icm (by omega), Option.bind_some, takesP_ok icm (by omega), Option.bind_some]
        dsimp only
        rw [if_pos rfl, gi]
        have l1 := ls.stp hx hl
        rcases hi _ l1 with ⟨v, q, e1, e2, p⟩ | ⟨v, q, v2, q2, e1, e2, d⟩
        · rw [e1, e2, Option.bind_some, Option.bind_some]
          dsimp only
          rw [if_neg (by rw [List.length_append, hpre]; omega), List.append_assoc]
          obtain ⟨r1, r2, r3, r4, r5, r6⟩ := p
          have e1' : (stp s).at' = s.at' + 1 := rfl
          have e2' : (stp s).nodes = s.nodes := rfl
          have e3' : (stp s).nest = s.nest := rfl
          rw [e1'] at r3 r5; rw [e2'] at r5; rw [e3'] at r2
          exact ih (ks ++ [v]) q (m1 + 1) (m2 + 1) (by omega) (by omega) (by omega) r1 (by rw [r2]; exact a2) (by omega) r4 (by omega) (by simp; omega) (by simp)
        · rw [e1, e2, Option.bind_some, Option.bind_some]
          dsimp only
          rw [if_neg (by rw [List.length_append, hpre]; omega), gl_dead d.1, Option.bind_some]
          dsimp only
          rw [wantP_d d.1, takesP_d d.d2, Option.bind_some]
          dsimp only
          rw [if_neg (by simp), wantP_d d.d2]
          exact .inr ⟨_, _, _, _, rfl, rfl, by rw [l1.2.1] at d; rw [l0.2.1]; exact d, by simp; omega, by simp; omega⟩
/-- From the first item on. -/
theorem list_pair (hx : Cx c) (hw : 9000 ≤ w) (hcl : (cl.toList == (⟨#[44]⟩ : ByteArray).toList) = false) (hpre : pre.length = th) (hpre1 : th ≤ 1) (l0 : LvS c n st0) (hi : ∀ st, LvS c n st → Out c w 1 st (item1 st) (item2 st)) (hd : ∀ st : PSt, st.code ≠ 0 → ∃ v, item1 st = some (v, st)) {m1 m2 : Nat} (h1 : 3010 ≤ m1) (h2 : 3010 ≤ m2) :
    OutL c w st0 pre ((gl c th cl item1 m1 pre st0).bind fun l => (wantP c cl l.2).map fun s => (l.1, s))
      ((takesP c cl st0).bind fun r => if r.1 = true then some ([], r.2) else gi c cl item2 m2 [] r.2) := by
  obtain ⟨m1, rfl⟩ : ∃ q, m1 = q + 1 + 1 := ⟨m1 - 2, by omega⟩
  obtain ⟨m2, rfl⟩ : ∃ q, m2 = q + 1 := ⟨m2 - 1, by omega⟩
  have sz := l0.sz hx
  have hc := hx.1
  rw [gl]
  cases ic : isP c st0 cl with
  | true =>
    obtain ⟨_, hl⟩ := isP_live ic
    rw [if_neg (fun z => by cases z.2), Option.bind_some, takesP_ok ic (by omega), Option.bind_some]
    dsimp only
    rw [if_pos rfl, wantP_ok ic (by omega)]
    refine .inl ⟨[], stp st0, by simp, rfl, l0.1, rfl, by show _ < st0.at' + 1; omega, by show st0.at' + 1 ≤ _; omega, by show st0.nodes.length + 3 * st0.at' + 1 ≤ st0.nodes.length + 3 * (st0.at' + 1); omega, by simp⟩
  | false =>
    rw [if_pos ⟨l0.1, rfl⟩, if_neg (by omega), Option.bind_some, takesP_no ic, Option.bind_some]
    dsimp only
    rw [if_neg (by simp), gi]
    rcases hi _ l0 with ⟨v, q, e1, e2, p⟩ | ⟨v, q, v2, q2, e1, e2, d⟩
    · rw [e1, e2, Option.bind_some, Option.bind_some]
      dsimp only
      rw [if_neg (by omega)]
      obtain ⟨r1, r2, r3, r4, r5, r6⟩ := p
      exact list_more hx hw hcl hpre hpre1 l0 hi hd (c.toks.length - q.at') [v] q (m1 + 1) m2 (Nat.le_refl _) (by omega) (by omega) r1 r2 r3 r4 r5 (by show 1 ≤ _; omega) (by simp)
    · rw [e1, e2, Option.bind_some, Option.bind_some]
      dsimp only
      rw [if_neg (by omega), gl_dead d.1, Option.bind_some]
      dsimp only
      rw [wantP_d d.1, takesP_d d.d2, Option.bind_some]
      dsimp only
      rw [if_neg (by simp), wantP_d d.d2]
      exact .inr ⟨_, _, _, _, rfl, rfl, d, by simp; omega, by simp; omega⟩
end
end
end Go.Proofs.Ytadmoackacickaa
/- The two parsers are alike: primaries, what stands behind them, functions, tables. -/
set_option linter.unusedSimpArgs false
namespace Go.Proofs.Ytadmoackacickaa
open Go Go.AH

section
variable {c : PC} {w w' e n1 n2 : Nat} {n : Int} {st st0 s s2 : PSt}
theorem bindA {α β γ : Type} (o : Option α) (f : α → Option β) (g : β → Option γ) : (o.bind f).bind g = o.bind fun x => (f x).bind g := Option.bind_assoc o f g
theorem mapB {α β : Type} (o : Option α) (f : α → β) : o.map f = o.bind fun x => some (f x) := by cases o <;> rfl
theorem callLoop_gl (ex : PI) : ∀ (n : Nat) (ks : List Int) (st : PSt), callLoop c ex n ks st = gl c 1 ⟨#[41]⟩ ex n ks st := by
  intro n
  induction n with
  | zero => intro ks st; rfl
  | succ n ih => intro ks st; rw [callLoop, gl]; simp only [ih]
def parItem (c : PC) : PI := fun s => (nameN c s).bind fun m => nodeS 22 m.1 0 [] m.2
def fnItem (c : PC) : PI := fun s => (nameN c s).bind fun m => nodeP 22 m.1 0 [] m.2
theorem parLoop_gl : ∀ (n : Nat) (ks : List Int) (st : PSt), parLoop c n ks st = gl c 0 ⟨#[41]⟩ (parItem c) n ks st := by
  intro n
  induction n with
  | zero => intro ks st; rfl
  | succ n ih => intro ks st; rw [parLoop, gl]; simp only [ih, parItem, bindA]
theorem tabLoop_gl (f : PI) : ∀ (n : Nat) (ks : List Int) (st : PSt), tabLoop c f n ks st = gl c 0 ⟨#[125]⟩ f n ks st := by
  intro n
  induction n with
  | zero => intro ks st; rfl
  | succ n ih => intro ks st; rw [tabLoop, gl]; simp only [ih]
theorem argsLoop_gi (f : PI) : ∀ (n : Nat) (ks : List Int) (st : PSt), argsLoop c f n ks st = gi c ⟨#[41]⟩ f n ks st := by
  intro n
  induction n with
  | zero => intro ks st; rfl
  | succ n ih => intro ks st; rw [argsLoop, gi]; simp only [ih]
theorem fnLoop_gi : ∀ (n : Nat) (ks : List Int) (st : PSt), fnLoop c n ks st = gi c ⟨#[41]⟩ (fnItem c) n ks st := by
  intro n
  induction n with
  | zero => intro ks st; rfl
  | succ n ih => intro ks st; rw [fnLoop, gi]; simp only [ih, fnItem, bindA]
theorem tableLoop_gi (f : PI) : ∀ (n : Nat) (ks : List Int) (st : PSt), tableLoop c f n ks st = gi c ⟨#[125]⟩ f n ks st := by
  intro n
  induction n with
  | zero => intro ks st; rfl
  | succ n ih => intro ks st; rw [tableLoop, gi]; simp only [ih]
/-- A leaf is put. -/
theorem LvP.leaf (l : LvS c n st) (h : st.at' < c.toks.length) {k i : Int} {t : ByteArray} {ks : List Int} (h8 : k ≠ 8) : LvP c 2 st (st.nodes.length : Int) (putN k t i ks (stp st)) := by
  have hl : (putN k t i ks (stp st)).nodes.length = st.nodes.length + 1 := by show (st.nodes ++ [_]).length = _; simp
  refine ⟨l.1, rfl, by show st.at' < st.at' + 1; omega, by show st.at' + 1 ≤ _; omega, ?_, by omega, by rw [hl]; omega, ix_put (fun z => absurd z h8)⟩
  rw [hl]; show st.nodes.length + 1 + 3 * st.at' + 2 ≤ st.nodes.length + 3 * (st.at' + 1); omega
theorem pair_par (hx : Cx c) (hw : 9000 ≤ w) (l : LvS c n st) : Out c (w + 1) 1 st (parItem c st) (fnItem c st) := by
  have sz := l.sz hx
  unfold parItem fnItem nameN
  by_cases hk : (pk c st).k ≠ 1
  · have dF := failP_code (c := c) (st := st) 2 (by decide)
    rw [if_pos hk, Option.bind_some, Option.bind_some]
    dsimp only
    rw [nodeS_d dF, nodeP_ok (by rw [failP_nodes]; omega)]
    exact .inr ⟨_, _, _, _, rfl, rfl, by rw [l.2.1]; exact (dd_fail hx l 2 (by decide) hw).put 22 E0 0 []⟩
  · obtain ⟨_, hl⟩ := pk_live (c := c) (st := st) (by omega)
    rw [if_neg hk, adv_ok (by omega)]
    show Out c (w + 1) 1 st (nodeS 22 (pk c st).text 0 [] (stp st)) (nodeP 22 (pk c st).text 0 [] (stp st))
    rw [nodeS_ok (st := stp st) l.1 (by show st.nodes.length ≤ _; omega), nodeP_ok (by show st.nodes.length ≤ _; omega)]
    exact Out.weak (.inl ⟨_, _, rfl, rfl, LvP.leaf l hl (by decide)⟩)
theorem par_dead (h : st.code ≠ 0) : ∃ v, parItem c st = some (v, st) := ⟨-1, by unfold parItem; rw [nameN_d h, Option.bind_some, nodeS_d h]⟩
/-- impl's arguments and what is put around them. -/
theorem sufLoop_dead {ex : PI} {N m : Nat} {a : Int} (h : st.code ≠ 0) : sufLoop c ex N (m + 1) a st = some (a, st) := by rw [sufLoop, if_neg h]
theorem behindLoop_dead {whole : PI} {args : PM} {m : Nat} {a : Int} (h : st.code ≠ 0) : behindLoop c whole args (m + 1) a st = some (a, st) := by
  rw [behindLoop, takesP_d h, Option.bind_some]
  dsimp only
  rw [if_neg (by simp), takesP_d h, Option.bind_some]
  dsimp only
  rw [if_neg (by simp), isP_d h, if_neg (by simp)]
/-- What is behind an operand. -/
theorem suf_pair {ex whole whole2 : PI} {N d2 : Nat} (hx : Cx c) (hw : 9000 ≤ w) (hw2 : w ≤ 90000) (hN : 3010 ≤ N) (hd2 : 3010 ≤ d2) (l0 : LvS c n st0) (hs : ∀ st, LvS c n st → Out c w 2 st (ex st) (whole st)) (hs2 : ∀ st, LvS c n st → Out c w 2 st (ex st) (whole2 st)) (hd : ∀ st : PSt, st.code ≠ 0 → ∃ v, ex st = some (v, st)) :
    ∀ (k : Nat) (a : Int) (s : PSt) (m1 m2 : Nat), c.toks.length - s.at' ≤ k → LvP c 2 st0 a s → k + 1 < m1 → k + 1 < m2 →
    Out c (w + 2) 2 st0 (sufLoop c ex N m1 a s) (behindLoop c whole (argsP c whole2 d2) m2 a s) := by
  intro k
  induction k with
  | zero =>
    intro a s m1 m2 hk p h1 h2
    obtain ⟨m1, rfl⟩ : ∃ q, m1 = q + 1 := ⟨m1 - 1, by omega⟩
    obtain ⟨m2, rfl⟩ : ∃ q, m2 = q + 1 := ⟨m2 - 1, by omega⟩
    have ends : AtEnd c s := ⟨p.1, by omega⟩
    rw [sufLoop, if_pos p.1, isP_e ends, if_neg (by simp), isP_e ends, if_neg (by simp), isP_e ends, if_neg (by simp), behindLoop, takesP_e ends, Option.bind_some]
    dsimp only
    rw [if_neg (by simp), takesP_e ends, Option.bind_some]
    dsimp only
    rw [if_neg (by simp), isP_e ends, if_neg (by simp)]
    exact .inl ⟨a, s, rfl, rfl, p⟩
  | succ k ih =>
    intro a s m1 m2 hk p h1 h2
    obtain ⟨m1, rfl⟩ : ∃ q, m1 = q + 1 + 1 := ⟨m1 - 2, by omega⟩
    obtain ⟨m2, rfl⟩ : ∃ q, m2 = q + 1 + 1 := ⟨m2 - 2, by omega⟩
    have ls := p.lvs l0
    have sz := ls.sz hx
    obtain ⟨p1, p2, p3, p4, p5, p6, p7⟩ := p
    rw [sufLoop, if_pos p1, behindLoop]
    cases i1 : isP c s ⟨#[40]⟩ with
    | true =>
      obtain ⟨_, hl⟩ := isP_live i1
      have no1 : isP c s ⟨#[91]⟩ = false := isP_ne i1 (by simp [ByteArray.toList_eq])
      have no2 : isP c s ⟨#[46]⟩ = false := isP_ne i1 (by simp [ByteArray.toList_eq])
      have l1 := ls.stp hx hl
      rw [if_pos rfl, adv_ok (by omega), Option.bind_some, takesP_no no1, Option.bind_some]
      dsimp only
      rw [if_neg (by simp), takesP_no no2, Option.bind_some]
      dsimp only
      rw [if_neg (by simp), i1, if_pos rfl]
      have LP := list_pair (c := c) (w := w) (th := 1) (cl := ⟨#[41]⟩) (item1 := ex) (item2 := whole2) (pre := [a]) hx hw (by simp [ByteArray.toList_eq]) rfl (by omega) l1 (fun st l => (hs2 st l).weak) hd hN hd2
      have eA : ((callLoop c ex N [a] (stp s)).bind fun l => (wantP c ⟨#[41]⟩ l.2).bind fun q => (nodeS 9 E0 0 l.1 q).bind fun x => sufLoop c ex N (m1 + 1) x.1 x.2) = ((gl c 1 ⟨#[41]⟩ ex N [a] (stp s)).bind fun l => (wantP c ⟨#[41]⟩ l.2).map fun q => (l.1, q)).bind fun l => (nodeS 9 E0 0 l.1 l.2).bind fun x => sufLoop c ex N (m1 + 1) x.1 x.2 := by
        rw [callLoop_gl, bindA]; simp only [mapB, bindA, Option.bind_some]
      have eB : argsP c whole2 d2 s = (takesP c ⟨#[41]⟩ (stp s)).bind fun r => if r.1 = true then some ([], r.2) else gi c ⟨#[41]⟩ whole2 d2 [] r.2 := by
        unfold argsP; rw [wantP_ok i1 (by omega), Option.bind_some]; simp only [argsLoop_gi]
      rw [eA, eB]
      rcases LP with ⟨l, q, e1, e2, q1, q2, q3, q4, q5, q6⟩ | ⟨l, q, l2, q2, e1, e2, d, d1, d2'⟩
      · rw [e1, e2, Option.bind_some, Option.bind_some]
        dsimp only
        have hq : (stp s).at' = s.at' + 1 := rfl
        have hn : (stp s).nodes = s.nodes := rfl
        rw [hq] at q3 q5; rw [hn] at q5
        have hc := hx.1
        rw [if_neg (by omega), nodeS_ok q1 (by omega), nodeP_ok (by omega), Option.bind_some, Option.bind_some]
        have hlen : (putN 9 E0 0 ([a] ++ l) q).nodes.length = q.nodes.length + 1 := by show (q.nodes ++ [_]).length = _; simp
        refine ih (q.nodes.length : Int) (putN 9 E0 0 ([a] ++ l) q) (m1 + 1) (m2 + 1) (by show c.toks.length - q.at' ≤ k; omega) ⟨q1, ?_, by show _ < q.at'; omega, q4, ?_, by omega, by rw [hlen]; omega, ix_put (fun z => absurd z (by decide))⟩ (by omega) (by omega)
        · show q.nest = _; rw [q2]; exact p2
        · rw [hlen]; show q.nodes.length + 1 + 3 * st0.at' + 2 ≤ st0.nodes.length + 3 * q.at'; omega
      · rw [l1.2.1] at d
        rw [e1, e2, Option.bind_some, Option.bind_some]
        dsimp only
        rw [if_neg (by omega), nodeS_d d.1, nodeP_ok (by have := d.2.2.2.2.2.2.2; omega), Option.bind_some, Option.bind_some]
        have dp := d.put 9 E0 0 (a :: l2)
        dsimp only
        rw [sufLoop_dead d.1, behindLoop_dead dp.d2]
        exact .inr ⟨_, _, _, _, rfl, rfl, by rw [l0.2.1]; exact dp.mono (by omega)⟩
    | false =>
    rw [if_neg (by simp)]
    cases i2 : isP c s ⟨#[91]⟩ with
    | true =>
      obtain ⟨_, hl⟩ := isP_live i2
      have l1 := ls.stp hx hl
      rw [if_pos rfl, adv_ok (by omega), takesP_ok i2 (by omega), Option.bind_some, Option.bind_some]
      dsimp only
      rw [if_pos rfl]
      rcases hs _ l1 with ⟨v, q, e1, e2, r⟩ | ⟨v, q, v2, q2, e1, e2, d⟩
      · rw [e1, e2, Option.bind_some, Option.bind_some]
        dsimp only
        have sz2 := (r.lvs l1).sz hx
        obtain ⟨r1, r2, r3, r4, r5, r6, r7⟩ := r
        have hq : (stp s).at' = s.at' + 1 := rfl
        have hn : (stp s).nodes = s.nodes := rfl
        have hne : (stp s).nest = s.nest := rfl
        rw [hq] at r3 r5; rw [hn] at r5; rw [hne] at r2
        cases iw : isP c q ⟨#[93]⟩ with
        | true =>
          obtain ⟨_, hl2⟩ := isP_live iw
          rw [wantP_ok iw (by omega), Option.bind_some, Option.bind_some, nodeS_ok (st := stp q) r1 (by show q.nodes.length ≤ _; omega), nodeP_ok (by show q.nodes.length ≤ _; omega), Option.bind_some, Option.bind_some]
          have hlen : (putN 8 E0 0 [a, v] (stp q)).nodes.length = q.nodes.length + 1 := by show (q.nodes ++ [_]).length = _; simp
          refine ih _ (putN 8 E0 0 [a, v] (stp q)) (m1 + 1) (m2 + 1) (by show c.toks.length - (q.at' + 1) ≤ k; omega) ⟨r1, by show q.nest = _; rw [r2]; exact p2, by show _ < q.at' + 1; omega, by show q.at' + 1 ≤ _; omega, ?_, by omega, ?_, ix_put (fun _ => ⟨a, v, rfl⟩)⟩ (by omega) (by omega)
          · rw [hlen]; show q.nodes.length + 1 + 3 * st0.at' + 2 ≤ st0.nodes.length + 3 * (q.at' + 1); omega
          · rw [hlen]; show (q.nodes.length : Int) < _; omega
        | false =>
          have dF := failP_code (c := c) (st := q) 2 (by decide)
          have lq : LvS c n q := ⟨r1, by rw [r2]; exact ls.2.1, r4, by have := ls.2.2.2; omega⟩
          have dd := dd_fail (c := c) (w := w) hx lq 2 (by decide) hw
          rw [wantP_no iw, Option.bind_some, Option.bind_some, nodeS_d dF, nodeP_ok (by rw [failP_nodes]; omega), Option.bind_some, Option.bind_some]
          have dp := dd.put 8 E0 0 [a, v]
          dsimp only
          rw [sufLoop_dead dF, behindLoop_dead dp.d2]
          exact .inr ⟨_, _, _, _, rfl, rfl, by rw [l0.2.1]; exact dp.mono (by omega)⟩
      · rw [l1.2.1] at d
        rw [e1, e2, Option.bind_some, Option.bind_some]
        dsimp only
        rw [wantP_d d.1, wantP_d d.d2, Option.bind_some, Option.bind_some, nodeS_d d.1, nodeP_ok (by have := d.2.2.2.2.2.2.2; omega), Option.bind_some, Option.bind_some]
        have dp := d.put 8 E0 0 [a, v2]
        dsimp only
        rw [sufLoop_dead d.1, behindLoop_dead dp.d2]
        exact .inr ⟨_, _, _, _, rfl, rfl, by rw [l0.2.1]; exact dp.mono (by omega)⟩
    | false =>
    rw [if_neg (by simp), takesP_no i2, Option.bind_some]
    dsimp only
    cases i3 : isP c s ⟨#[46]⟩ with
    | true =>
      obtain ⟨_, hl⟩ := isP_live i3
      have l1 := ls.stp hx hl
      rw [if_pos rfl, if_neg (c := false = true) (by simp), adv_ok (by omega), takesP_ok i3 (by omega), Option.bind_some, Option.bind_some]
      dsimp only
      rw [if_pos rfl]
      unfold nameN
      by_cases hk1 : (pk c (stp s)).k ≠ 1
      · have dF := failP_code (c := c) (st := stp s) 2 (by decide)
        have dd := dd_fail (c := c) (w := w) hx l1 2 (by decide) hw
        rw [if_pos hk1, Option.bind_some, Option.bind_some]
        dsimp only
        have dp := dd.put 4 E0 0 []
        rw [nodeS_d dF, nodeP_ok (by rw [failP_nodes]; show s.nodes.length ≤ _; omega), Option.bind_some, Option.bind_some]
        dsimp only
        rw [nodeS_d dF, nodeP_ok (Nat.le_trans dp.2.2.2.2.2.2.2 (by omega)), Option.bind_some, Option.bind_some]
        have dq := dp.put 8 E0 0 [a, ((failP c (stp s) 2).nodes.length : Int)]
        dsimp only
        rw [sufLoop_dead dF, behindLoop_dead dq.d2]
        exact .inr ⟨_, _, _, _, rfl, rfl, by rw [l0.2.1]; exact dq⟩
      · obtain ⟨_, hl2⟩ := pk_live (c := c) (st := stp s) (by omega)
        have e0 : (stp s).at' = s.at' + 1 := rfl
        rw [if_neg hk1, adv_ok (by rw [e0]; omega)]
        show Out c (w + 2) 2 st0 ((nodeS 4 (pk c (stp s)).text 0 [] (stp (stp s))).bind _) ((nodeP 4 (pk c (stp s)).text 0 [] (stp (stp s))).bind _)
        rw [nodeS_ok (st := stp (stp s)) p1 (by show s.nodes.length ≤ _; omega), nodeP_ok (by show s.nodes.length ≤ _; omega), Option.bind_some, Option.bind_some]
        dsimp only
        have hlen1 : (putN 4 (pk c (stp s)).text 0 [] (stp (stp s))).nodes.length = s.nodes.length + 1 := by show (s.nodes ++ [_]).length = _; simp
        rw [nodeS_ok (st := putN 4 (pk c (stp s)).text 0 [] (stp (stp s))) p1 (by rw [hlen1]; omega), nodeP_ok (by rw [hlen1]; omega), Option.bind_some, Option.bind_some]
        dsimp only
        have hlen2 : ∀ ks, (putN 8 E0 0 ks (putN 4 (pk c (stp s)).text 0 [] (stp (stp s)))).nodes.length = s.nodes.length + 2 := fun ks => by show ((s.nodes ++ [_]) ++ [_]).length = _; simp
        refine ih _ _ (m1 + 1) (m2 + 1) (by show c.toks.length - (s.at' + 1 + 1) ≤ k; omega) ⟨p1, p2, by show _ < s.at' + 1 + 1; omega, by show s.at' + 1 + 1 ≤ _; rw [e0] at hl2; omega, ?_, by omega, ?_, ix_put (fun _ => ⟨_, _, rfl⟩)⟩ (by omega) (by omega)
        · rw [hlen2]; show s.nodes.length + 2 + 3 * st0.at' + 2 ≤ st0.nodes.length + 3 * (s.at' + 1 + 1); omega
        · rw [hlen2, hlen1]; omega
    | false =>
      rw [if_neg (by simp), if_neg (c := false = true) (by simp), takesP_no i3, Option.bind_some]
      dsimp only
      rw [if_neg (by simp), i1, if_neg (by simp)]
      exact .inl ⟨a, s, rfl, rfl, p1, p2, p3, p4, p5, p6, p7⟩
theorem pair_suffix {ex whole whole2 prim1 prim2 : PI} {d2 : Nat} (hx : Cx c) (hw : 9000 ≤ w) (hw2 : w ≤ 90000) (h1 : 3100 ≤ n1) (h2 : 3100 ≤ n2) (hd2 : 3010 ≤ d2) (hp : ∀ st, LvS c n st → Out c w 2 st (prim1 st) (prim2 st)) (hs : ∀ st, LvS c n st → Out c w 2 st (ex st) (whole st)) (hs2 : ∀ st, LvS c n st → Out c w 2 st (ex st) (whole2 st)) (hd : ∀ st : PSt, st.code ≠ 0 → ∃ v, ex st = some (v, st)) (l : LvS c n st) :
    Out c (w + 2) 2 st (suffixS c prim1 ex n1 st) (behindP c prim2 whole (argsP c whole2 d2) n2 st) := by
  unfold suffixS behindP
  have hl := hx.1
  rcases hp st l with ⟨v, q, e1, e2, p⟩ | ⟨v, q, v2, q2, e1, e2, d⟩
  · rw [e1, e2, Option.bind_some, Option.bind_some]
    exact suf_pair hx hw hw2 (by omega) hd2 l hs hs2 hd (c.toks.length - q.at') v q n1 n2 (Nat.le_refl _) p (by omega) (by omega)
  · obtain ⟨n1, rfl⟩ : ∃ q, n1 = q + 1 := ⟨n1 - 1, by omega⟩
    obtain ⟨n2, rfl⟩ : ∃ q, n2 = q + 1 := ⟨n2 - 1, by omega⟩
    rw [e1, e2, Option.bind_some, Option.bind_some]
    dsimp only
    rw [sufLoop_dead d.1, behindLoop_dead d.d2]
    exact .inr ⟨_, _, _, _, rfl, rfl, d.mono (by omega)⟩
end
end Go.Proofs.Ytadmoackacickaa
