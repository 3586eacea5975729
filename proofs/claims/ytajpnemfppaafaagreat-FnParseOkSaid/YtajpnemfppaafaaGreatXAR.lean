import Derived.Test.YtajpnemfppaafaaGreatXAQ
set_option linter.unusedSimpArgs false
set_option linter.unusedVariables false
/- The two parsers are alike: levels of expressions. -/
namespace Go.Proofs.YtajpnemfppaafaaGreat
open Go Go.AH
def Cx (c : PC) : Prop := c.toks.length ≤ 3000 ∧ ∀ t, t ∈ c.toks → t.k ≠ 0
def LvS (c : PC) (n : Int) (st : PSt) : Prop := st.code = 0 ∧ st.nest = n ∧ st.at' ≤ c.toks.length ∧ st.nodes.length ≤ 3 * st.at'
def Ix (v : Int) (s : PSt) : Prop := ∀ n, s.nodes[v.toNat]? = some n → n.k = 8 → ∃ a b, n.ks = [a, b]
theorem ix_put {k i : Int} {t : ByteArray} {ks : List Int} {q : PSt} (h : k = 8 → ∃ a b, ks = [a, b]) : Ix (q.nodes.length : Int) (putN k t i ks q) := fun n hn h8 => by
 have e : (putN k t i ks q).nodes = q.nodes ++ [⟨k, t, i, ks⟩] := rfl
 rw [e, show ((q.nodes.length : Int)).toNat = q.nodes.length by omega, List.getElem?_append_right (Nat.le_refl _), Nat.sub_self] at hn
 have : n = ⟨k, t, i, ks⟩ := by simpa using hn.symm
 subst this
 exact h h8
def LvP (c : PC) (e : Nat) (st0 : PSt) (v : Int) (s : PSt) : Prop := s.code = 0 ∧ s.nest = st0.nest ∧ st0.at' < s.at' ∧ s.at' ≤ c.toks.length ∧ s.nodes.length + 3 * st0.at' + e ≤ st0.nodes.length + 3 * s.at' ∧ 0 ≤ v ∧ v < s.nodes.length ∧ Ix v s
def DdP (w : Nat) (n : Int) (s s2 : PSt) : Prop := s.code ≠ 0 ∧ s.nest = n ∧ s.at' ≤ w ∧ s2.code = s.code ∧ s2.place = s.place ∧ s2.nest = n ∧ s2.at' ≤ w ∧ s2.nodes.length ≤ w
def Out (c : PC) (w e : Nat) (st0 : PSt) (o1 o2 : Option (Int × PSt)) : Prop :=
 (∃ v s, o1 = some (v, s) ∧ o2 = some (v, s) ∧ LvP c e st0 v s) ∨ ∃ v s v2 s2, o1 = some (v, s) ∧ o2 = some (v2, s2) ∧ DdP w st0.nest s s2
section
variable {c : PC} {w w' e n1 n2 : Nat} {n : Int} {st st0 s s2 : PSt}
theorem DdP.mono (x : DdP w n s s2) (h : w ≤ w') : DdP w' n s s2 := let ⟨a, b, d, e, f, g, i, j⟩ := x; ⟨a, b, by omega, e, f, g, by omega, by omega⟩
theorem DdP.d2 (x : DdP w n s s2) : s2.code ≠ 0 := by rw [x.2.2.2.1]; exact x.1
theorem DdP.put (x : DdP w n s s2) (k : Int) (t : ByteArray) (i : Int) (ks : List Int) : DdP (w + 1) n s (putN k t i ks s2) :=
 let ⟨a, b, d, e, f, g, i', j⟩ := x; ⟨a, b, by omega, e, f, g, by show s2.at' ≤ w + 1; omega, by show (s2.nodes ++ [_]).length ≤ w + 1; simp; omega⟩
theorem Out.mono {o1 o2 : Option (Int × PSt)} (x : Out c w e st0 o1 o2) (h : w ≤ w') : Out c w' e st0 o1 o2 := by
 rcases x with x | ⟨v, s, v2, s2, a, b, d⟩
 ·exact .inl x
 ·exact .inr ⟨v, s, v2, s2, a, b, d.mono h⟩
theorem Out.weak {o1 o2 : Option (Int × PSt)} (x : Out c w 2 st0 o1 o2) : Out c w 1 st0 o1 o2 := by
 rcases x with ⟨v, s, a, b, p⟩ | x
 ·obtain ⟨q1, q2, q3, q4, q5, q6⟩ := p; exact .inl ⟨v, s, a, b, q1, q2, q3, q4, by omega, q6⟩
 ·exact .inr x
def stp (st : PSt) : PSt := { st with at' := st.at' + 1 }
theorem isP_live {t : ByteArray} (h : isP c st t = true) : st.code = 0 ∧ st.at' < c.toks.length := by
 have hz : (pk c st).k ≠ 0 := fun z => by rw [isP_zero z] at h; cases h
 exact pk_live hz
theorem adv_ok (h : st.at' ≤ 100000) : adv 1 st = some (stp st) := by unfold adv; rw [if_pos (by omega)]; rfl
theorem takesP_ok {t : ByteArray} (h : isP c st t = true) (hl : st.at' ≤ 100000) : takesP c t st = some (true, stp st) := by unfold takesP; rw [if_pos h, adv_ok hl]; rfl
theorem takesP_no {t : ByteArray} (h : isP c st t = false) : takesP c t st = some (false, st) := by unfold takesP; rw [if_neg (by simp [h])]
theorem wantP_ok {t : ByteArray} (h : isP c st t = true) (hl : st.at' ≤ 100000) : wantP c t st = some (stp st) := by unfold wantP; rw [takesP_ok h hl]; rfl
theorem wantP_no {t : ByteArray} (h : isP c st t = false) : wantP c t st = some (failP c st 2) := by unfold wantP; rw [takesP_no h]; simp
theorem LvS.stp (hx : Cx c) (x : LvS c n st) (h : st.at' < c.toks.length) : LvS c n (YtajpnemfppaafaaGreat.stp st) := ⟨x.1, x.2.1, by show st.at' + 1 ≤ _; omega, by have := x.2.2.2; show st.nodes.length ≤ 3 * (st.at' + 1); omega⟩
theorem LvP.lvs {v : Int} (x : LvS c n st0) (y : LvP c e st0 v s) : LvS c n s := ⟨y.1, by rw [y.2.1]; exact x.2.1, y.2.2.2.1, by have := x.2.2.2; have := y.2.2.2.2.1; omega⟩
theorem LvS.sz (hx : Cx c) (x : LvS c n st) : st.at' ≤ 3000 ∧ st.nodes.length ≤ 9000 := by have := hx.1; have := x.2.2; omega
theorem dd_fail (hx : Cx c) (x : LvS c n st) (k : Int) (hk : k ≠ 0) (hw : 9000 ≤ w) : DdP w n (failP c st k) (failP c st k) := by
 have := x.sz hx
 exact ⟨failP_code k hk, by rw [failP_nest]; exact x.2.1, by rw [failP_at]; omega, rfl, rfl, by rw [failP_nest]; exact x.2.1, by rw [failP_at]; omega, by rw [failP_nodes]; omega⟩
theorem pair_node {k op a : Int} {sub1 sub2 : Option (Int × PSt)} {K1 K2 : Int × PSt → Option (Int × PSt)} (hx : Cx c) (hw : w ≤ 100000) (l : LvS c n s) (x : Out c w 2 s sub1 sub2)
  (live : ∀ b q, LvP c 2 s b q → Out c w' e st0 (K1 ((q.nodes.length : Int), putN k E0 op [a, b] q)) (K2 ((q.nodes.length : Int), putN k E0 op [a, b] q)))
  (dead : ∀ v q v2 q2, DdP (w + 1) n q q2 → Out c w' e st0 (K1 (v, q)) (K2 (v2, q2))) :
  Out c w' e st0 (sub1.bind fun b => (nodeS k E0 op [a, b.1] b.2).bind fun x => K1 x) (sub2.bind fun b => (nodeP k E0 op [a, b.1] b.2).bind fun x => K2 x) := by
 rcases x with ⟨v, q, rfl, rfl, p⟩ | ⟨v, q, v2, q2, rfl, rfl, d⟩
 ·have := (p.lvs l).sz hx
  rw [oBs, oBs]
  dsimp only
  rw [nodeS_ok p.1 (by omega), nodeP_ok (by omega), oBs, oBs]
  exact live v q p
 ·rw [oBs, oBs]
  dsimp only
  rw [nodeS_d d.1, nodeP_ok (by have := d.2.2.2.2.2.2.2; omega), oBs, oBs]
  exact dead _ _ _ _ (by rw [l.2.1] at d; exact d.put k E0 op [a, v2])
theorem LvP.node {a b k op : Int} {ks : List Int} {s0 s q : PSt} (p : LvP c 2 s0 a s) (l : LvS c n s0) (h : s.at' < c.toks.length) (r : LvP c 2 (stp s) b q) (h8 : k ≠ 8) : LvP c 2 s0 (q.nodes.length : Int) (putN k E0 op ks q) := by
 obtain ⟨p1, p2, p3, p4, p5, p6, p7⟩ := p
 obtain ⟨r1, r2, r3, r4, r5, r6, r7⟩ := r
 have hs : (stp s).at' = s.at' + 1 := rfl
 have hn : (stp s).nodes = s.nodes := rfl
 have hl : (putN k E0 op ks q).nodes.length = q.nodes.length + 1 := by show (q.nodes ++ [_]).length = _; simp
 rw [hs] at r3 r5; rw [hn] at r5
 refine ⟨r1, by show q.nest = _; rw [r2]; exact p2, by show s0.at' < q.at'; omega, r4, ?_, by omega, by rw [hl]; omega, ix_put (fun z => absurd z h8)⟩
 rw [hl]; show q.nodes.length + 1 + 3 * s0.at' + 2 ≤ s0.nodes.length + 3 * q.at'
 omega
theorem opGo_live {L : Int} : ∀ (l : List (Int × ByteArray)) (i : Nat), opGo c L l i st ≠ 0 → st.code = 0 ∧ st.at' < c.toks.length := by
 intro l
 induction l with
 | nil => intro i h; exact absurd rfl h
 | cons p l ih =>
  intro i h
  rw [opGo] at h
  by_cases hp : p.1 = L ∧ isP c st p.2 = true
  ·exact isP_live hp.2
  ·rw [if_neg hp] at h; exact ih _ h
theorem levLoop_dead {L : Int} {sub : PI} {m : Nat} {a : Int} (h : st.code ≠ 0) : levLoop c L sub (m + 1) a st = some (a, st) := by rw [levLoop, if_neg h]
theorem row_pair {L : Int} {ts : List ByteArray} {sub1 sub2 : PI} (hx : Cx c) (hw : w ≤ 90000) (hL : L ≠ 1 ∧ L ≠ 2 ∧ L ≠ 3) (hop : ∀ st, opOfP c ts st = opGo c L opsL 1 st) (l0 : LvS c n st0)
  (hs : ∀ st, LvS c n st → Out c w 2 st (sub1 st) (sub2 st)) : ∀ (k : Nat) (a : Int) (s : PSt) (m1 m2 : Nat), c.toks.length - s.at' ≤ k → LvP c 2 st0 a s → k + 1 < m1 → k + 1 < m2 →
  Out c (w + 1) 2 st0 (levLoop c L sub1 m1 a s) (rowLoop c ts sub2 m2 a s) := by
 intro k
 induction k with
 | zero =>
  intro a s m1 m2 hk p h1 h2
  obtain ⟨m1, rfl⟩ : ∃ q, m1 = q + 1 := ⟨m1 - 1, by omega⟩
  obtain ⟨m2, rfl⟩ : ∃ q, m2 = q + 1 := ⟨m2 - 1, by omega⟩
  have z : opGo c L opsL 1 s = 0 := by
   apply Decidable.byContradiction
   intro h; have := opGo_live (c := c) _ _ h; omega
  have kz : (kindS c L s).1 = 0 := by
   unfold kindS; rw [if_neg (fun z => hL.1 z.1), if_neg (fun z => hL.2.1 z.1), if_pos z]
  rw [levLoop, rowLoop, if_pos p.1, if_pos kz, if_pos (by rw [hop, z])]
  exact .inl ⟨a, s, rfl, rfl, p⟩
 | succ k ih =>
  intro a s m1 m2 hk p h1 h2
  obtain ⟨m1, rfl⟩ : ∃ q, m1 = q + 1 + 1 := ⟨m1 - 2, by omega⟩
  obtain ⟨m2, rfl⟩ : ∃ q, m2 = q + 1 + 1 := ⟨m2 - 2, by omega⟩
  rw [levLoop, rowLoop, if_pos p.1]
  by_cases z : opGo c L opsL 1 s = 0
  ·have kz : (kindS c L s).1 = 0 := by
    unfold kindS; rw [if_neg (fun z => hL.1 z.1), if_neg (fun z => hL.2.1 z.1), if_pos z]
   rw [if_pos kz, if_pos (by rw [hop, z])]
   exact .inl ⟨a, s, rfl, rfl, p⟩
  ·have ke : kindS c L s = (10, opGo c L opsL 1 s) := by
    unfold kindS; rw [if_neg (fun z => hL.1 z.1), if_neg (fun z => hL.2.1 z.1), if_neg z]
   obtain ⟨_, hl⟩ := opGo_live (c := c) _ _ z
   have ls := p.lvs l0
   have sz := ls.sz hx
   rw [ke]
   dsimp only
   rw [if_neg (by decide), if_neg (by rw [hop]; exact z), adv_ok (by omega), oBs, oBs, hop]
   refine pair_node hx (by omega) (ls.stp hx hl) (hs _ (ls.stp hx hl)) (fun b q r => ?_) (fun v q v2 q2 d => ?_)
   ·rw [if_neg hL.2.2]
    exact ih _ _ (m1 + 1) (m2 + 1) (by have := r.2.2.1; have e : (stp s).at' = s.at' + 1 := rfl; show c.toks.length - q.at' ≤ k; omega) (p.node l0 hl r (by decide)) (by omega) (by omega)
   ·rw [if_neg hL.2.2, levLoop_dead d.1, rowLoop, if_pos (opOf_d d.d2 _)]
    exact .inr ⟨_, _, _, _, rfl, rfl, by rw [l0.2.1]; exact d⟩
theorem pair_row {L : Int} {ts : List ByteArray} {sub1 sub2 : PI} (hx : Cx c) (hw : w ≤ 90000) (hL : L ≠ 1 ∧ L ≠ 2 ∧ L ≠ 3) (hop : ∀ st, opOfP c ts st = opGo c L opsL 1 st) (h1 : 3100 ≤ n1) (h2 : 3100 ≤ n2)
  (hs : ∀ st, LvS c n st → Out c w 2 st (sub1 st) (sub2 st)) (l : LvS c n st) : Out c (w + 1) 2 st (levelS c L sub1 n1 st) (rowP c ts sub2 n2 st) := by
 unfold levelS rowP
 have hl := hx.1
 rcases hs st l with ⟨v, q, e1, e2, p⟩ | ⟨v, q, v2, q2, e1, e2, d⟩
 ·rw [e1, e2, oBs, oBs]
  exact row_pair hx hw hL hop l hs (c.toks.length - q.at') v q n1 n2 (Nat.le_refl _) p (by omega) (by omega)
 ·obtain ⟨n1, rfl⟩ : ∃ q, n1 = q + 1 := ⟨n1 - 1, by omega⟩
  obtain ⟨n2, rfl⟩ : ∃ q, n2 = q + 1 := ⟨n2 - 1, by omega⟩
  rw [e1, e2, oBs, oBs, levLoop_dead d.1, rowLoop, if_pos (opOf_d d.d2 _)]
  exact .inr ⟨_, _, _, _, rfl, rfl, d.mono (by omega)⟩
theorem bin_pair {L kd : Int} {wd : ByteArray} {sub1 sub2 : PI} (hx : Cx c) (hw : w ≤ 90000) (h3 : L ≠ 3) (hkd : kd ≠ 0) (hk8 : kd ≠ 8) (hk : ∀ st, kindS c L st = if isP c st wd = true then (kd, 0) else (0, 0)) (l0 : LvS c n st0)
  (hs : ∀ st, LvS c n st → Out c w 2 st (sub1 st) (sub2 st)) : ∀ (k : Nat) (a : Int) (s : PSt) (m1 m2 : Nat), c.toks.length - s.at' ≤ k → LvP c 2 st0 a s → k + 1 < m1 → k + 1 < m2 →
  Out c (w + 1) 2 st0 (levLoop c L sub1 m1 a s) (binLoop c wd kd sub2 m2 a s) := by
 intro k
 induction k with
 | zero =>
  intro a s m1 m2 hk' p h1 h2
  obtain ⟨m1, rfl⟩ : ∃ q, m1 = q + 1 := ⟨m1 - 1, by omega⟩
  obtain ⟨m2, rfl⟩ : ∃ q, m2 = q + 1 := ⟨m2 - 1, by omega⟩
  have z : isP c s wd = false := by
   cases h : isP c s wd with
   | false => rfl
   | true => have := isP_live h; omega
  rw [levLoop, binLoop, if_pos p.1, hk, if_neg (c := isP c s wd = true) (by simp [z]), if_pos rfl, takesP_no z]
  exact .inl ⟨a, s, rfl, rfl, p⟩
 | succ k ih =>
  intro a s m1 m2 hk' p h1 h2
  obtain ⟨m1, rfl⟩ : ∃ q, m1 = q + 1 + 1 := ⟨m1 - 2, by omega⟩
  obtain ⟨m2, rfl⟩ : ∃ q, m2 = q + 1 + 1 := ⟨m2 - 2, by omega⟩
  rw [levLoop, binLoop, if_pos p.1, hk]
  cases hi : isP c s wd with
  | false =>
   rw [if_neg (c := false = true) (by simp), if_pos rfl, takesP_no hi]
   exact .inl ⟨a, s, rfl, rfl, p⟩
  | true =>
   obtain ⟨_, hl⟩ := isP_live hi
   have ls := p.lvs l0
   have sz := ls.sz hx
   rw [if_pos (c := true = true) rfl]
   dsimp only
   rw [if_neg hkd, adv_ok (by omega), takesP_ok hi (by omega), oBs, oBs]
   dsimp only
   rw [if_pos rfl]
   refine pair_node hx (by omega) (ls.stp hx hl) (hs _ (ls.stp hx hl)) (fun b q r => ?_) (fun v q v2 q2 d => ?_)
   ·rw [if_neg h3]
    exact ih _ _ (m1 + 1) (m2 + 1) (by have := r.2.2.1; have e : (stp s).at' = s.at' + 1 := rfl; show c.toks.length - q.at' ≤ k; omega) (p.node l0 hl r hk8) (by omega) (by omega)
   ·rw [if_neg h3, levLoop_dead d.1, binLoop, takesP_d d.d2]
    exact .inr ⟨_, _, _, _, rfl, rfl, by rw [l0.2.1]; exact d⟩
theorem pair_bin {L kd : Int} {wd : ByteArray} {sub1 sub2 : PI} (hx : Cx c) (hw : w ≤ 90000) (h3 : L ≠ 3) (hkd : kd ≠ 0) (hk8 : kd ≠ 8) (hk : ∀ st, kindS c L st = if isP c st wd = true then (kd, 0) else (0, 0)) (h1 : 3100 ≤ n1) (h2 : 3100 ≤ n2)
  (hs : ∀ st, LvS c n st → Out c w 2 st (sub1 st) (sub2 st)) (l : LvS c n st) : Out c (w + 1) 2 st (levelS c L sub1 n1 st) (binP c wd kd sub2 n2 st) := by
 unfold levelS binP
 have hl := hx.1
 rcases hs st l with ⟨v, q, e1, e2, p⟩ | ⟨v, q, v2, q2, e1, e2, d⟩
 ·rw [e1, e2, oBs, oBs]
  exact bin_pair hx hw h3 hkd hk8 hk l hs (c.toks.length - q.at') v q n1 n2 (Nat.le_refl _) p (by omega) (by omega)
 ·obtain ⟨n1, rfl⟩ : ∃ q, n1 = q + 1 := ⟨n1 - 1, by omega⟩
  obtain ⟨n2, rfl⟩ : ∃ q, n2 = q + 1 := ⟨n2 - 1, by omega⟩
  rw [e1, e2, oBs, oBs, levLoop_dead d.1, binLoop, takesP_d d.d2]
  exact .inr ⟨_, _, _, _, rfl, rfl, d.mono (by omega)⟩
theorem pair_cmp {sub1 sub2 : PI} (hx : Cx c) (hw : w ≤ 90000) (hop : ∀ st, opOfP c cmpTexts st = opGo c 3 opsL 1 st) (h1 : 10 ≤ n1)
  (hs : ∀ st, LvS c n st → Out c w 2 st (sub1 st) (sub2 st)) (l : LvS c n st) : Out c (w + 1) 2 st (levelS c 3 sub1 n1 st) (compareP c sub2 st) := by
 obtain ⟨n1, rfl⟩ : ∃ q, n1 = q + 1 := ⟨n1 - 1, by omega⟩
 unfold levelS compareP
 rcases hs st l with ⟨v, q, e1, e2, p⟩ | ⟨v, q, v2, q2, e1, e2, d⟩
 ·rw [e1, e2, oBs, oBs]
  dsimp only
  rw [levLoop, if_pos p.1]
  by_cases z : opGo c 3 opsL 1 q = 0
  ·have kz : (kindS c 3 q).1 = 0 := by
    unfold kindS; rw [if_neg (fun z => absurd z.1 (by decide)), if_neg (fun z => absurd z.1 (by decide)), if_pos z]
   rw [if_pos kz, if_pos (by rw [hop, z])]
   exact .inl ⟨v, q, rfl, rfl, p⟩
  ·have ke : kindS c 3 q = (10, opGo c 3 opsL 1 q) := by
    unfold kindS; rw [if_neg (fun z => absurd z.1 (by decide)), if_neg (fun z => absurd z.1 (by decide)), if_neg z]
   obtain ⟨_, hl⟩ := opGo_live (c := c) _ _ z
   have ls := p.lvs l
   have sz := ls.sz hx
   rw [ke]
   dsimp only
   rw [if_neg (by decide), if_neg (by rw [hop]; exact z), adv_ok (by omega), oBs, oBs, hop]
   have e : (fun b : Int × PSt => nodeP 10 E0 (opGo c 3 opsL 1 q) [v, b.1] b.2) = fun b => (nodeP 10 E0 (opGo c 3 opsL 1 q) [v, b.1] b.2).bind fun x => some x := by
    funext b; cases nodeP 10 E0 (opGo c 3 opsL 1 q) [v, b.1] b.2 <;> rfl
   rw [e]
   refine pair_node hx (by omega) (ls.stp hx hl) (hs _ (ls.stp hx hl)) (fun b r pr => ?_) (fun v q v2 q2 d => ?_)
   ·rw [if_pos rfl]
    exact .inl ⟨_, _, rfl, rfl, p.node l hl pr (by decide)⟩
   ·rw [if_pos rfl]
    exact .inr ⟨_, _, _, _, rfl, rfl, by rw [l.2.1]; exact d⟩
 ·rw [e1, e2, oBs, oBs]
  dsimp only
  rw [levLoop_dead d.1, if_pos (opOf_d d.d2 _)]
  exact .inr ⟨_, _, _, _, rfl, rfl, d.mono (by omega)⟩
theorem op4 (st : PSt) : opOfP c [⟨#[46, 46]⟩] st = opGo c 4 opsL 1 st := by
 simp [opOfP, opGo, opsL, ixGo, opTexts]
theorem op5 (st : PSt) : opOfP c [⟨#[43]⟩, ⟨#[45]⟩] st = opGo c 5 opsL 1 st := by
 simp [opOfP, opGo, opsL, ixGo, opTexts]
theorem op6 (st : PSt) : opOfP c [⟨#[42]⟩, ⟨#[47]⟩, ⟨#[37]⟩] st = opGo c 6 opsL 1 st := by
 simp [opOfP, opGo, opsL, ixGo, opTexts]
theorem op3 (st : PSt) : opOfP c cmpTexts st = opGo c 3 opsL 1 st := by
 simp [opOfP, opGo, opsL, ixGo, opTexts, cmpTexts]
theorem kind1 (st : PSt) : kindS c 1 st = if isP c st ⟨#[111, 114]⟩ = true then (13, 0) else (0, 0) := by
 unfold kindS; simp [opGo, opsL]
theorem kind2 (st : PSt) : kindS c 2 st = if isP c st ⟨#[97, 110, 100]⟩ = true then (12, 0) else (0, 0) := by
 unfold kindS; simp [opGo, opsL]
end
def opn (st : PSt) : PSt := { st with nest := st.nest + 1 }
def clo (st : PSt) : PSt := { st with nest := st.nest + -1 }
section
variable {c : PC} {w w' e n1 n2 : Nat} {n : Int} {st st0 s s2 : PSt}
theorem opn_ok (a : -400 ≤ st.nest) (b : st.nest ≤ 400) : nestTo 1 st = some (opn st) := by unfold nestTo; rw [if_pos (by omega)]; rfl
theorem clo_ok (a : -400 ≤ st.nest) (b : st.nest ≤ 400) : nestTo (-1) st = some (clo st) := by unfold nestTo; rw [if_pos (by omega)]; rfl
theorem clo_opn : clo (opn st) = st := by unfold clo opn; show ({ st with nest := st.nest + 1 + -1 } : PSt) = st; rw [show st.nest + 1 + -1 = st.nest by omega]
theorem failP_opn (k : Int) : failP c (opn st) k = opn (failP c st k) := by unfold failP opn; split <;> rfl
theorem pk_ne (hx : Cx c) (x : LvS c n st) (h : st.at' < c.toks.length) : (pk c st).k ≠ 0 := by rw [pk_at x.1 h]; exact hx.2 _ (List.getElem_mem h)
theorem openS_at (hx : Cx c) (x : LvS c n st) (h0 : 0 ≤ n) (h1 : n ≤ 30) : openS c st = some (if st.at' ≥ c.toks.length then (false, failP c st 2) else if n = 30 then (false, failP c st 3) else (true, opn st)) := by
  unfold openS
  rw [if_neg (by simp [x.1])]
  by_cases ha : st.at' ≥ c.toks.length
  · rw [if_pos ha, if_pos ha]
  · rw [if_neg ha, if_neg ha, x.2.1]
    by_cases hn : n = 30
    · rw [if_pos (by omega), if_pos hn]
    · rw [if_neg (by omega), if_neg hn, opn_ok (by rw [x.2.1]; omega) (by rw [x.2.1]; omega)]; rfl
theorem openP_at (hx : Cx c) (x : LvS c n st) (h0 : 0 ≤ n) (h1 : n ≤ 30) : openP c st = some (if st.at' ≥ c.toks.length then opn st else if n = 30 then opn (failP c st 3) else opn st) := by
  unfold openP
  by_cases ha : st.at' ≥ c.toks.length
  · rw [pk_end x.1 ha, if_neg (fun z => z.1 rfl), if_pos ha, opn_ok (by rw [x.2.1]; omega) (by rw [x.2.1]; omega)]
  · have hk := pk_ne hx x (by omega)
    rw [if_neg ha, x.2.1]
    by_cases hn : n = 30
    · rw [if_pos ⟨hk, hn⟩, if_pos hn, opn_ok (by rw [failP_nest, x.2.1]; omega) (by rw [failP_nest, x.2.1]; omega)]
    · rw [if_neg (fun z => hn z.2), if_neg hn, opn_ok (by rw [x.2.1]; omega) (by rw [x.2.1]; omega)]
theorem LvS.opn (x : LvS c n st) : LvS c (n + 1) (opn st) := ⟨x.1, by show st.nest + 1 = n + 1; rw [x.2.1], x.2.2⟩
theorem LvP.clo {v : Int} (p : LvP c e (opn st0) v s) : LvP c e st0 v (clo s) := ⟨p.1, by show s.nest + -1 = st0.nest; rw [p.2.1]; show st0.nest + 1 + -1 = _; omega, p.2.2⟩
theorem DdP.clo (d : DdP w (n + 1) s s2) : DdP w n (clo s) (clo s2) := ⟨d.1, by show s.nest + -1 = n; rw [d.2.1]; omega, d.2.2.1, d.2.2.2.1, d.2.2.2.2.1, by show s2.nest + -1 = n; rw [d.2.2.2.2.2.1]; omega, d.2.2.2.2.2.2⟩
theorem pair_expr {lv sub : PI} (hx : Cx c) (hw : 9000 ≤ w) (h0 : 0 ≤ n) (h1 : n ≤ 30) (hg : GoneF c sub) (hs : n < 30 → ∀ st, LvS c (n + 1) st → Out c w 2 st (lv st) (sub st)) (l : LvS c n st) : Out c w 2 st (exprS c lv st) (wholeP c sub st) := by
  by_cases ha : st.at' ≥ c.toks.length
  · have g : Gone c st := .inr ⟨l.1, ha⟩
    rw [gone_whole hg g (by rw [l.2.1]; omega) (by rw [l.2.1]; omega)]
    unfold exprS
    rw [openS_at hx l h0 h1, if_pos ha]
    exact .inr ⟨_, _, _, _, rfl, rfl, by rw [l.2.1]; exact dd_fail hx l 2 (by decide) hw⟩
  · unfold exprS wholeP
    rw [openS_at hx l h0 h1, openP_at hx l h0 h1, if_neg ha, if_neg ha]
    by_cases hn : n = 30
    · rw [if_pos hn, if_pos hn, oBs, oBs]
      have d3 := failP_code (c := c) (st := st) 3 (by decide)
      have d3' : (opn (failP c st 3)).code ≠ 0 := d3
      have nn : (opn (failP c st 3)).nest = n + 1 := by show (failP c st 3).nest + 1 = n + 1; rw [failP_nest, l.2.1]
      rw [hg _ (.inl d3') (by rw [nn]; omega) (by rw [nn]; omega), oBs, failP_d d3', clo_ok (by rw [nn]; omega) (by rw [nn]; omega), clo_opn]
      exact .inr ⟨_, _, _, _, rfl, rfl, by rw [l.2.1]; exact dd_fail hx l 3 (by decide) hw⟩
    · rw [if_neg hn, if_neg hn, oBs, oBs]
      rcases hs (by omega) _ l.opn with ⟨v, q, e1, e2, p⟩ | ⟨v, q, v2, q2, e1, e2, d⟩
      · have nn : q.nest = n + 1 := by rw [p.2.1]; show st.nest + 1 = _; rw [l.2.1]
        show Out c w 2 st ((lv (opn st)).bind _) ((sub (opn st)).bind _)
        rw [e1, e2, oBs, oBs]
        dsimp only
        rw [clo_ok (by rw [nn]; omega) (by rw [nn]; omega)]
        exact .inl ⟨_, _, rfl, rfl, p.clo⟩
      · have hd : DdP w (n + 1) q q2 := by have e : (opn st).nest = n + 1 := by show st.nest + 1 = _; rw [l.2.1]
                                           rw [e] at d; exact d
        show Out c w 2 st ((lv (opn st)).bind _) ((sub (opn st)).bind _)
        rw [e1, e2, oBs, oBs]
        dsimp only
        rw [clo_ok (by rw [hd.2.1]; omega) (by rw [hd.2.1]; omega), clo_ok (by rw [hd.2.2.2.2.2.1]; omega) (by rw [hd.2.2.2.2.2.1]; omega)]
        exact .inr ⟨_, _, _, _, rfl, rfl, by rw [l.2.1]; exact hd.clo⟩
theorem pair_turnT {t : Int} {self1 self2 : PI} (hx : Cx c) (hw : 9000 ≤ w) (hw2 : w ≤ 90000) (h0 : 0 ≤ n) (h1 : n ≤ 30) (hg : GoneF c self2) (hs : n < 30 → ∀ st, LvS c (n + 1) st → Out c w 2 st (self1 st) (self2 st)) (l : LvS c n st) (hl : st.at' < c.toks.length) : Out c (w + 1) 2 st (turnT c t self1 st) (turnP c t self2 st) := by
  have sz := l.sz hx
  unfold turnT turnP
  rw [openS_at hx l h0 h1, openP_at hx l h0 h1, if_neg (c := st.at' ≥ c.toks.length) (by omega), if_neg (c := st.at' ≥ c.toks.length) (by omega)]
  by_cases hn : n = 30
  · rw [if_pos hn, if_pos hn, oBs, oBs]
    have d3 := failP_code (c := c) (st := st) 3 (by decide)
    have d4 : (stp (opn (failP c st 3))).code ≠ 0 := d3
    have nn : (stp (opn (failP c st 3))).nest = n + 1 := by show (failP c st 3).nest + 1 = n + 1; rw [failP_nest, l.2.1]
    have na : (opn (failP c st 3)).at' = st.at' := failP_at 3
    have D := dd_fail (c := c) (w := w) hx l 3 (by decide) hw
    dsimp only [cond_false]
    rw [adv_ok (by rw [na]; omega), oBs, hg _ (.inl d4) (by rw [nn]; omega) (by rw [nn]; omega), oBs, failP_d d4]
    dsimp only
    rw [clo_ok (by rw [nn]; omega) (by rw [nn]; omega), oBs, nodeP_ok (by show (failP c st 3).nodes.length ≤ _; rw [failP_nodes]; omega)]
    refine .inr ⟨_, _, _, _, rfl, rfl, ?_⟩
    rw [l.2.1]
    refine ⟨D.1, D.2.1, by have := D.2.2.1; omega, rfl, rfl, ?_, ?_, ?_⟩
    · show (failP c st 3).nest + 1 + -1 = n; rw [failP_nest, l.2.1]; omega
    · show (failP c st 3).at' + 1 ≤ w + 1; rw [failP_at]; omega
    · show ((failP c st 3).nodes ++ [_]).length ≤ w + 1; rw [failP_nodes]; simp; omega
  · rw [if_neg hn, if_neg hn, oBs, oBs]
    dsimp only [cond_true]
    rw [adv_ok (by show st.at' ≤ _; omega), oBs, oBs]
    have l1 : LvS c (n + 1) (stp (opn st)) := l.opn.stp hx hl
    rcases hs (by omega) _ l1 with ⟨v, q, e1, e2, p⟩ | ⟨v, q, v2, q2, e1, e2, d⟩
    · have nn : q.nest = n + 1 := by rw [p.2.1]; exact l1.2.1
      have sz2 := (p.lvs l1).sz hx
      rw [e1, e2, oBs, oBs]
      dsimp only
      rw [clo_ok (by rw [nn]; omega) (by rw [nn]; omega), oBs, oBs, nodeS_ok (by show q.code = 0; exact p.1) (by show q.nodes.length ≤ _; omega), nodeP_ok (by show q.nodes.length ≤ _; omega)]
      refine .inl ⟨_, _, rfl, rfl, ?_⟩
      obtain ⟨r1, r2, r3, r4, r5, r6, r7⟩ := p
      have e1' : (stp (opn st)).at' = st.at' + 1 := rfl
      have e2' : (stp (opn st)).nodes = st.nodes := rfl
      rw [e1'] at r3 r5; rw [e2'] at r5
      have hlen : (putN 11 E0 t [v] (clo q)).nodes.length = q.nodes.length + 1 := by show (q.nodes ++ [_]).length = _; simp
      refine ⟨r1, ?_, by show st.at' < q.at'; omega, r4, ?_, by omega, ?_, ix_put (fun z => absurd z (by decide))⟩
      · show q.nest + -1 = st.nest; rw [nn, l.2.1]; omega
      · rw [hlen]; show q.nodes.length + 1 + 3 * st.at' + 2 ≤ st.nodes.length + 3 * q.at'; omega
      · rw [hlen]; show (q.nodes.length : Int) < _; omega
    · rw [l1.2.1] at d
      rw [e1, e2, oBs, oBs]
      dsimp only
      rw [clo_ok (by rw [d.2.1]; omega) (by rw [d.2.1]; omega), clo_ok (by rw [d.2.2.2.2.2.1]; omega) (by rw [d.2.2.2.2.2.1]; omega), oBs, oBs, nodeS_d d.clo.1, nodeP_ok (by have := d.2.2.2.2.2.2.2; show q2.nodes.length ≤ _; omega)]
      exact .inr ⟨_, _, _, _, rfl, rfl, by rw [l.2.1]; exact d.clo.put 11 E0 t [v2]⟩
theorem pair_turn {self1 self2 suf beh : PI} (hx : Cx c) (hw : 9000 ≤ w) (hw2 : w ≤ 90000) (h0 : 0 ≤ n) (h1 : n ≤ 30) (hg : GoneF c self2) (hs : n < 30 → ∀ st, LvS c (n + 1) st → Out c w 2 st (self1 st) (self2 st)) (hb : ∀ st, LvS c n st → Out c w 2 st (suf st) (beh st)) (l : LvS c n st) :
    Out c (w + 1) 2 st (turnS c self1 suf st) (unaryP c self2 beh st) := by
  unfold turnS unaryP
  by_cases i1 : isP c st ⟨#[45]⟩ = true
  · rw [if_pos i1, if_pos i1]; exact pair_turnT hx hw hw2 h0 h1 hg hs l (isP_live i1).2
  rw [if_neg i1, if_neg i1]
  by_cases i2 : isP c st ⟨#[110, 111, 116]⟩ = true
  · rw [if_pos i2, if_pos i2]; exact pair_turnT hx hw hw2 h0 h1 hg hs l (isP_live i2).2
  rw [if_neg i2, if_neg i2]
  by_cases i3 : isP c st ⟨#[35]⟩ = true
  · rw [if_pos i3, if_pos i3]; exact pair_turnT hx hw hw2 h0 h1 hg hs l (isP_live i3).2
  rw [if_neg i3, if_neg i3]
  exact (hb st l).mono (by omega)
theorem isP_ne {t u : ByteArray} (h : isP c st t = true) (hu : (t.toList == u.toList) = false) : isP c st u = false := by
  cases hi : isP c st u with
  | false => rfl
  | true =>
    unfold isP at h hi
    have key : ∀ x : ByteArray, (if (pk c st).k = 5 then (pk c st).text.toList == x.toList else if (pk c st).k = 2 then (pk c st).text.toList == x.toList else false) = true → (pk c st).text.toList = x.toList := fun x hx => by
      split at hx
      · simpa using hx
      · split at hx
        · simpa using hx
        · cases hx
    have a := key t h
    have b := key u hi
    rw [← a, ← b] at hu; simp at hu
def gl (c : PC) (th : Nat) (cl : ByteArray) (item : PI) : Nat → List Int → PM
  | 0, _, _ => none
  | n + 1, ks, st => if st.code = 0 ∧ isP c st cl = false then (if ks.length > th then wantP c ⟨#[44]⟩ st else some st).bind fun s => (item s).bind fun e => if ks.length > 1000000 then none else gl c th cl item n (ks ++ [e.1]) e.2 else some (ks, st)
def gi (c : PC) (cl : ByteArray) (item : PI) : Nat → List Int → PM
  | 0, _, _ => none
  | n + 1, out, st => (item st).bind fun e => (takesP c ⟨#[44]⟩ e.2).bind fun r => if r.1 = true then gi c cl item n (out ++ [e.1]) r.2 else (wantP c cl r.2).map fun s => (out ++ [e.1], s)
def OutL (c : PC) (w : Nat) (st0 : PSt) (pre : List Int) (o1 o2 : Option (List Int × PSt)) : Prop :=
  (∃ l s, o1 = some (pre ++ l, s) ∧ o2 = some (l, s) ∧ s.code = 0 ∧ s.nest = st0.nest ∧ st0.at' < s.at' ∧ s.at' ≤ c.toks.length ∧ s.nodes.length + 3 * st0.at' + 1 ≤ st0.nodes.length + 3 * s.at' ∧ l.length ≤ s.at') ∨
  ∃ l s l2 s2, o1 = some (l, s) ∧ o2 = some (l2, s2) ∧ DdP w st0.nest s s2 ∧ l.length ≤ w ∧ l2.length ≤ w
theorem gl_dead {th : Nat} {cl : ByteArray} {item : PI} {m : Nat} {ks : List Int} (h : st.code ≠ 0) : gl c th cl item (m + 1) ks st = some (ks, st) := by rw [gl, if_neg (fun z => h z.1)]
section
variable {th : Nat} {cl : ByteArray} {item1 item2 : PI} {pre : List Int}
theorem list_more (hx : Cx c) (hw : 9000 ≤ w) (hcl : (cl.toList == (⟨#[44]⟩ : ByteArray).toList) = false) (hpre : pre.length = th) (hpre1 : th ≤ 1) (l0 : LvS c n st0) (hi : ∀ st, LvS c n st → Out c w 1 st (item1 st) (item2 st)) (hd : ∀ st : PSt, st.code ≠ 0 → ∃ v, item1 st = some (v, st)) :
    ∀ (k : Nat) (ks : List Int) (s : PSt) (m1 m2 : Nat), c.toks.length - s.at' ≤ k → k + 1 < m1 → k + 1 < m2 → s.code = 0 → s.nest = st0.nest → st0.at' < s.at' → s.at' ≤ c.toks.length → s.nodes.length + 3 * st0.at' + 1 ≤ st0.nodes.length + 3 * s.at' → ks.length ≤ s.at' → 0 < ks.length →
    OutL c w st0 pre ((gl c th cl item1 m1 (pre ++ ks) s).bind fun l => (wantP c cl l.2).map fun s => (l.1, s))
      ((takesP c ⟨#[44]⟩ s).bind fun r => if r.1 = true then gi c cl item2 m2 ks r.2 else (wantP c cl r.2).map fun s => (ks, s)) := by
  intro k
  induction k with
  | zero =>
    intro ks s m1 m2 hk h1 h2 a1 a2 a3 a4 a5 a6 a7
    obtain ⟨m1, rfl⟩ : ∃ q, m1 = q + 1 + 1 := ⟨m1 - 2, by omega⟩
    have hc := hx.1
    have ends : AtEnd c s := ⟨a1, by omega⟩
    have ls : LvS c n s := ⟨a1, by rw [a2]; exact l0.2.1, a4, by have := l0.2.2.2; omega⟩
    obtain ⟨v, hv⟩ := hd (failP c s 2) (failP_code 2 (by decide))
    have dF := failP_code (c := c) (st := s) 2 (by decide)
    rw [gl, if_pos ⟨a1, isP_e ends cl⟩, if_pos (by rw [List.length_append, hpre]; omega), wantP_no (isP_e ends _), oBs, hv, oBs]
    dsimp only
    rw [if_neg (by rw [List.length_append, hpre]; omega), gl_dead dF, oBs]
    dsimp only
    rw [wantP_d dF, takesP_e ends, oBs]
    dsimp only
    rw [if_neg (by simp), wantP_no (isP_e ends _)]
    exact .inr ⟨_, _, _, _, rfl, rfl, by rw [l0.2.1]; exact dd_fail hx ls 2 (by decide) hw, by simp; omega, by omega⟩
  | succ k ih =>
    intro ks s m1 m2 hk h1 h2 a1 a2 a3 a4 a5 a6 a7
    obtain ⟨m1, rfl⟩ : ∃ q, m1 = q + 1 + 1 := ⟨m1 - 2, by omega⟩
    obtain ⟨m2, rfl⟩ : ∃ q, m2 = q + 1 + 1 := ⟨m2 - 2, by omega⟩
    have hc := hx.1
    have ls : LvS c n s := ⟨a1, by rw [a2]; exact l0.2.1, a4, by have := l0.2.2.2; omega⟩
    have sz := ls.sz hx
    rw [gl]
    cases ic : isP c s cl with
    | true =>
      have no : isP c s ⟨#[44]⟩ = false := isP_ne ic hcl
      obtain ⟨_, hl⟩ := isP_live ic
      rw [if_neg (fun z => by cases z.2), oBs, takesP_no no, oBs]
      dsimp only
      rw [if_neg (by simp), wantP_ok ic (by omega)]
      refine .inl ⟨ks, stp s, rfl, rfl, a1, a2, by show _ < s.at' + 1; omega, by show s.at' + 1 ≤ _; omega, by show s.nodes.length + 3 * st0.at' + 1 ≤ st0.nodes.length + 3 * (s.at' + 1); omega, by show _ ≤ s.at' + 1; omega⟩
    | false =>
      rw [if_pos ⟨a1, rfl⟩, if_pos (by rw [List.length_append, hpre]; omega)]
      cases icm : isP c s ⟨#[44]⟩ with
      | false =>
        have dF := failP_code (c := c) (st := s) 2 (by decide)
        obtain ⟨v, hv⟩ := hd (failP c s 2) dF
        rw [wantP_no icm, oBs, hv, oBs]
        dsimp only
        rw [if_neg (by rw [List.length_append, hpre]; omega), gl_dead dF, oBs]
        dsimp only
        rw [wantP_d dF, takesP_no icm, oBs]
        dsimp only
        rw [if_neg (by simp), wantP_no ic]
        exact .inr ⟨_, _, _, _, rfl, rfl, by rw [l0.2.1]; exact dd_fail hx ls 2 (by decide) hw, by simp; omega, by omega⟩
      | true =>
        obtain ⟨_, hl⟩ := isP_live icm
        rw [wantP_ok icm (by omega), oBs, takesP_ok icm (by omega), oBs]
        dsimp only
        rw [if_pos rfl, gi]
        have l1 := ls.stp hx hl
        rcases hi _ l1 with ⟨v, q, e1, e2, p⟩ | ⟨v, q, v2, q2, e1, e2, d⟩
        · rw [e1, e2, oBs, oBs]
          dsimp only
          rw [if_neg (by rw [List.length_append, hpre]; omega), List.append_assoc]
          obtain ⟨r1, r2, r3, r4, r5, r6⟩ := p
          have e1' : (stp s).at' = s.at' + 1 := rfl
          have e2' : (stp s).nodes = s.nodes := rfl
          have e1003' : (stp s).nest = s.nest := rfl
          rw [e1'] at r3 r5; rw [e2'] at r5; rw [e1003'] at r2
          exact ih (ks ++ [v]) q (m1 + 1) (m2 + 1) (by omega) (by omega) (by omega) r1 (by rw [r2]; exact a2) (by omega) r4 (by omega) (by simp; omega) (by simp)
        · rw [e1, e2, oBs, oBs]
          dsimp only
          rw [if_neg (by rw [List.length_append, hpre]; omega), gl_dead d.1, oBs]
          dsimp only
          rw [wantP_d d.1, takesP_d d.d2, oBs]
          dsimp only
          rw [if_neg (by simp), wantP_d d.d2]
          exact .inr ⟨_, _, _, _, rfl, rfl, by rw [l1.2.1] at d; rw [l0.2.1]; exact d, by simp; omega, by simp; omega⟩
theorem list_pair (hx : Cx c) (hw : 9000 ≤ w) (hcl : (cl.toList == (⟨#[44]⟩ : ByteArray).toList) = false) (hpre : pre.length = th) (hpre1 : th ≤ 1) (l0 : LvS c n st0) (hi : ∀ st, LvS c n st → Out c w 1 st (item1 st) (item2 st)) (hd : ∀ st : PSt, st.code ≠ 0 → ∃ v, item1 st = some (v, st)) {m1 m2 : Nat} (h1 : 3010 ≤ m1) (h2 : 3010 ≤ m2) :
    OutL c w st0 pre ((gl c th cl item1 m1 pre st0).bind fun l => (wantP c cl l.2).map fun s => (l.1, s))
      ((takesP c cl st0).bind fun r => if r.1 = true then some ([], r.2) else gi c cl item2 m2 [] r.2) := by
  obtain ⟨m1, rfl⟩ : ∃ q, m1 = q + 1 + 1 := ⟨m1 - 2, by omega⟩
  obtain ⟨m2, rfl⟩ : ∃ q, m2 = q + 1 := ⟨m2 - 1, by omega⟩
  have sz := l0.sz hx
  have hc := hx.1
  rw [gl]
  cases ic : isP c st0 cl with
  | true =>
    obtain ⟨_, hl⟩ := isP_live ic
    rw [if_neg (fun z => by cases z.2), oBs, takesP_ok ic (by omega), oBs]
    dsimp only
    rw [if_pos rfl, wantP_ok ic (by omega)]
    refine .inl ⟨[], stp st0, by simp, rfl, l0.1, rfl, by show _ < st0.at' + 1; omega, by show st0.at' + 1 ≤ _; omega, by show st0.nodes.length + 3 * st0.at' + 1 ≤ st0.nodes.length + 3 * (st0.at' + 1); omega, by simp⟩
  | false =>
    rw [if_pos ⟨l0.1, rfl⟩, if_neg (by omega), oBs, takesP_no ic, oBs]
    dsimp only
    rw [if_neg (by simp), gi]
    rcases hi _ l0 with ⟨v, q, e1, e2, p⟩ | ⟨v, q, v2, q2, e1, e2, d⟩
    · rw [e1, e2, oBs, oBs]
      dsimp only
      rw [if_neg (by omega)]
      obtain ⟨r1, r2, r3, r4, r5, r6⟩ := p
      exact list_more hx hw hcl hpre hpre1 l0 hi hd (c.toks.length - q.at') [v] q (m1 + 1) m2 (Nat.le_refl _) (by omega) (by omega) r1 r2 r3 r4 r5 (by show 1 ≤ _; omega) (by simp)
    · rw [e1, e2, oBs, oBs]
      dsimp only
      rw [if_neg (by omega), gl_dead d.1, oBs]
      dsimp only
      rw [wantP_d d.1, takesP_d d.d2, oBs]
      dsimp only
      rw [if_neg (by simp), wantP_d d.d2]
      exact .inr ⟨_, _, _, _, rfl, rfl, d, by simp; omega, by simp; omega⟩
end
end
section
variable {c : PC} {w w' e n1 n2 : Nat} {n : Int} {st st0 s s2 : PSt}
theorem bindA {α β γ : Type} (o : Option α) (f : α → Option β) (g : β → Option γ) : (o.bind f).bind g = o.bind fun x => (f x).bind g := Option.bind_assoc o f g
theorem mapB {α β : Type} (o : Option α) (f : α → β) : o.map f = o.bind fun x => some (f x) := by cases o <;> rfl
theorem callLoop_gl (ex : PI) : ∀ (n : Nat) (ks : List Int) (st : PSt), callLoop c ex n ks st = gl c 1 ⟨#[41]⟩ ex n ks st := by
 intro n
 induction n with
 | zero => intro ks st; rfl
 | succ n ih => intro ks st; rw [callLoop, gl]; simp only [ih]
def parItem (c : PC) : PI := fun s => (nameN c s).bind fun m => nodeS 22 m.1 0 [] m.2
def fnItem (c : PC) : PI := fun s => (nameN c s).bind fun m => nodeP 22 m.1 0 [] m.2
theorem parLoop_gl : ∀ (n : Nat) (ks : List Int) (st : PSt), parLoop c n ks st = gl c 0 ⟨#[41]⟩ (parItem c) n ks st := by
 intro n
 induction n with
 | zero => intro ks st; rfl
 | succ n ih => intro ks st; rw [parLoop, gl]; simp only [ih, parItem, bindA]
theorem tabLoop_gl (f : PI) : ∀ (n : Nat) (ks : List Int) (st : PSt), tabLoop c f n ks st = gl c 0 ⟨#[125]⟩ f n ks st := by
 intro n
 induction n with
 | zero => intro ks st; rfl
 | succ n ih => intro ks st; rw [tabLoop, gl]; simp only [ih]
theorem argsLoop_gi (f : PI) : ∀ (n : Nat) (ks : List Int) (st : PSt), argsLoop c f n ks st = gi c ⟨#[41]⟩ f n ks st := by
 intro n
 induction n with
 | zero => intro ks st; rfl
 | succ n ih => intro ks st; rw [argsLoop, gi]; simp only [ih]
theorem fnLoop_gi : ∀ (n : Nat) (ks : List Int) (st : PSt), fnLoop c n ks st = gi c ⟨#[41]⟩ (fnItem c) n ks st := by
 intro n
 induction n with
 | zero => intro ks st; rfl
 | succ n ih => intro ks st; rw [fnLoop, gi]; simp only [ih, fnItem, bindA]
theorem tableLoop_gi (f : PI) : ∀ (n : Nat) (ks : List Int) (st : PSt), tableLoop c f n ks st = gi c ⟨#[125]⟩ f n ks st := by
 intro n
 induction n with
 | zero => intro ks st; rfl
 | succ n ih => intro ks st; rw [tableLoop, gi]; simp only [ih]
theorem LvP.leaf (l : LvS c n st) (h : st.at' < c.toks.length) {k i : Int} {t : ByteArray} {ks : List Int} (h8 : k ≠ 8) : LvP c 2 st (st.nodes.length : Int) (putN k t i ks (stp st)) := by
 have hl : (putN k t i ks (stp st)).nodes.length = st.nodes.length + 1 := by show (st.nodes ++ [_]).length = _; simp
 refine ⟨l.1, rfl, by show st.at' < st.at' + 1; omega, by show st.at' + 1 ≤ _; omega, ?_, by omega, by rw [hl]; omega, ix_put (fun z => absurd z h8)⟩
 rw [hl]; show st.nodes.length + 1 + 3 * st.at' + 2 ≤ st.nodes.length + 3 * (st.at' + 1); omega
theorem pair_par (hx : Cx c) (hw : 9000 ≤ w) (l : LvS c n st) : Out c (w + 1) 1 st (parItem c st) (fnItem c st) := by
 have sz := l.sz hx
 unfold parItem fnItem nameN
 by_cases hk : (pk c st).k ≠ 1
 ·have dF := failP_code (c := c) (st := st) 2 (by decide)
  rw [if_pos hk, oBs, oBs]
  dsimp only
  rw [nodeS_d dF, nodeP_ok (by rw [failP_nodes]; omega)]
  exact .inr ⟨_, _, _, _, rfl, rfl, by rw [l.2.1]; exact (dd_fail hx l 2 (by decide) hw).put 22 E0 0 []⟩
 ·obtain ⟨_, hl⟩ := pk_live (c := c) (st := st) (by omega)
  rw [if_neg hk, adv_ok (by omega)]
  show Out c (w + 1) 1 st (nodeS 22 (pk c st).text 0 [] (stp st)) (nodeP 22 (pk c st).text 0 [] (stp st))
  rw [nodeS_ok (st := stp st) l.1 (by show st.nodes.length ≤ _; omega), nodeP_ok (by show st.nodes.length ≤ _; omega)]
  exact Out.weak (.inl ⟨_, _, rfl, rfl, LvP.leaf l hl (by decide)⟩)
theorem par_dead (h : st.code ≠ 0) : ∃ v, parItem c st = some (v, st) := ⟨-1, by unfold parItem; rw [nameN_d h, oBs, nodeS_d h]⟩
theorem sufLoop_dead {ex : PI} {N m : Nat} {a : Int} (h : st.code ≠ 0) : sufLoop c ex N (m + 1) a st = some (a, st) := by rw [sufLoop, if_neg h]
theorem behindLoop_dead {whole : PI} {args : PM} {m : Nat} {a : Int} (h : st.code ≠ 0) : behindLoop c whole args (m + 1) a st = some (a, st) := by
 rw [behindLoop, takesP_d h, oBs]
 dsimp only
 rw [if_neg (by simp), takesP_d h, oBs]
 dsimp only
 rw [if_neg (by simp), isP_d h, if_neg (by simp)]
theorem suf_pair {ex whole whole2 : PI} {N d2 : Nat} (hx : Cx c) (hw : 9000 ≤ w) (hw2 : w ≤ 90000) (hN : 3010 ≤ N) (hd2 : 3010 ≤ d2) (l0 : LvS c n st0) (hs : ∀ st, LvS c n st → Out c w 2 st (ex st) (whole st)) (hs2 : ∀ st, LvS c n st → Out c w 2 st (ex st) (whole2 st)) (hd : ∀ st : PSt, st.code ≠ 0 → ∃ v, ex st = some (v, st)) :
  ∀ (k : Nat) (a : Int) (s : PSt) (m1 m2 : Nat), c.toks.length - s.at' ≤ k → LvP c 2 st0 a s → k + 1 < m1 → k + 1 < m2 →
  Out c (w + 2) 2 st0 (sufLoop c ex N m1 a s) (behindLoop c whole (argsP c whole2 d2) m2 a s) := by
 intro k
 induction k with
 | zero =>
  intro a s m1 m2 hk p h1 h2
  obtain ⟨m1, rfl⟩ : ∃ q, m1 = q + 1 := ⟨m1 - 1, by omega⟩
  obtain ⟨m2, rfl⟩ : ∃ q, m2 = q + 1 := ⟨m2 - 1, by omega⟩
  have ends : AtEnd c s := ⟨p.1, by omega⟩
  rw [sufLoop, if_pos p.1, isP_e ends, if_neg (by simp), isP_e ends, if_neg (by simp), isP_e ends, if_neg (by simp), behindLoop, takesP_e ends, oBs]
  dsimp only
  rw [if_neg (by simp), takesP_e ends, oBs]
  dsimp only
  rw [if_neg (by simp), isP_e ends, if_neg (by simp)]
  exact .inl ⟨a, s, rfl, rfl, p⟩
 | succ k ih =>
  intro a s m1 m2 hk p h1 h2
  obtain ⟨m1, rfl⟩ : ∃ q, m1 = q + 1 + 1 := ⟨m1 - 2, by omega⟩
  obtain ⟨m2, rfl⟩ : ∃ q, m2 = q + 1 + 1 := ⟨m2 - 2, by omega⟩
  have ls := p.lvs l0
  have sz := ls.sz hx
  obtain ⟨p1, p2, p3, p4, p5, p6, p7⟩ := p
  rw [sufLoop, if_pos p1, behindLoop]
  cases i1 : isP c s ⟨#[40]⟩ with
  | true =>
   obtain ⟨_, hl⟩ := isP_live i1
   have no1 : isP c s ⟨#[91]⟩ = false := isP_ne i1 (by simp [ByteArray.toList_eq])
   have no2 : isP c s ⟨#[46]⟩ = false := isP_ne i1 (by simp [ByteArray.toList_eq])
   have l1 := ls.stp hx hl
   rw [if_pos rfl, adv_ok (by omega), oBs, takesP_no no1, oBs]
   dsimp only
   rw [if_neg (by simp), takesP_no no2, oBs]
   dsimp only
   rw [if_neg (by simp), i1, if_pos rfl]
   have LP := list_pair (c := c) (w := w) (th := 1) (cl := ⟨#[41]⟩) (item1 := ex) (item2 := whole2) (pre := [a]) hx hw (by simp [ByteArray.toList_eq]) rfl (by omega) l1 (fun st l => (hs2 st l).weak) hd hN hd2
   have eA : ((callLoop c ex N [a] (stp s)).bind fun l => (wantP c ⟨#[41]⟩ l.2).bind fun q => (nodeS 9 E0 0 l.1 q).bind fun x => sufLoop c ex N (m1 + 1) x.1 x.2) = ((gl c 1 ⟨#[41]⟩ ex N [a] (stp s)).bind fun l => (wantP c ⟨#[41]⟩ l.2).map fun q => (l.1, q)).bind fun l => (nodeS 9 E0 0 l.1 l.2).bind fun x => sufLoop c ex N (m1 + 1) x.1 x.2 := by
    rw [callLoop_gl, bindA]; simp only [mapB, bindA, oBs]
   have eB : argsP c whole2 d2 s = (takesP c ⟨#[41]⟩ (stp s)).bind fun r => if r.1 = true then some ([], r.2) else gi c ⟨#[41]⟩ whole2 d2 [] r.2 := by
    unfold argsP; rw [wantP_ok i1 (by omega), oBs]; simp only [argsLoop_gi]
   rw [eA, eB]
   rcases LP with ⟨l, q, e1, e2, q1, q2, q3, q4, q5, q6⟩ | ⟨l, q, l2, q2, e1, e2, d, d1, d2'⟩
   ·rw [e1, e2, oBs, oBs]
    dsimp only
    have hq : (stp s).at' = s.at' + 1 := rfl
    have hn : (stp s).nodes = s.nodes := rfl
    rw [hq] at q3 q5; rw [hn] at q5
    have hc := hx.1
    rw [if_neg (by omega), nodeS_ok q1 (by omega), nodeP_ok (by omega), oBs, oBs]
    have hlen : (putN 9 E0 0 ([a] ++ l) q).nodes.length = q.nodes.length + 1 := by show (q.nodes ++ [_]).length = _; simp
    refine ih (q.nodes.length : Int) (putN 9 E0 0 ([a] ++ l) q) (m1 + 1) (m2 + 1) (by show c.toks.length - q.at' ≤ k; omega) ⟨q1, ?_, by show _ < q.at'; omega, q4, ?_, by omega, by rw [hlen]; omega, ix_put (fun z => absurd z (by decide))⟩ (by omega) (by omega)
    ·show q.nest = _; rw [q2]; exact p2
    ·rw [hlen]; show q.nodes.length + 1 + 3 * st0.at' + 2 ≤ st0.nodes.length + 3 * q.at'; omega
   ·rw [l1.2.1] at d
    rw [e1, e2, oBs, oBs]
    dsimp only
    rw [if_neg (by omega), nodeS_d d.1, nodeP_ok (by have := d.2.2.2.2.2.2.2; omega), oBs, oBs]
    have dp := d.put 9 E0 0 (a :: l2)
    dsimp only
    rw [sufLoop_dead d.1, behindLoop_dead dp.d2]
    exact .inr ⟨_, _, _, _, rfl, rfl, by rw [l0.2.1]; exact dp.mono (by omega)⟩
  | false =>
  rw [if_neg (by simp)]
  cases i2 : isP c s ⟨#[91]⟩ with
  | true =>
   obtain ⟨_, hl⟩ := isP_live i2
   have l1 := ls.stp hx hl
   rw [if_pos rfl, adv_ok (by omega), takesP_ok i2 (by omega), oBs, oBs]
   dsimp only
   rw [if_pos rfl]
   rcases hs _ l1 with ⟨v, q, e1, e2, r⟩ | ⟨v, q, v2, q2, e1, e2, d⟩
   ·rw [e1, e2, oBs, oBs]
    dsimp only
    have sz2 := (r.lvs l1).sz hx
    obtain ⟨r1, r2, r3, r4, r5, r6, r7⟩ := r
    have hq : (stp s).at' = s.at' + 1 := rfl
    have hn : (stp s).nodes = s.nodes := rfl
    have hne : (stp s).nest = s.nest := rfl
    rw [hq] at r3 r5; rw [hn] at r5; rw [hne] at r2
    cases iw : isP c q ⟨#[93]⟩ with
    | true =>
     obtain ⟨_, hl2⟩ := isP_live iw
     rw [wantP_ok iw (by omega), oBs, oBs, nodeS_ok (st := stp q) r1 (by show q.nodes.length ≤ _; omega), nodeP_ok (by show q.nodes.length ≤ _; omega), oBs, oBs]
     have hlen : (putN 8 E0 0 [a, v] (stp q)).nodes.length = q.nodes.length + 1 := by show (q.nodes ++ [_]).length = _; simp
     refine ih _ (putN 8 E0 0 [a, v] (stp q)) (m1 + 1) (m2 + 1) (by show c.toks.length - (q.at' + 1) ≤ k; omega) ⟨r1, by show q.nest = _; rw [r2]; exact p2, by show _ < q.at' + 1; omega, by show q.at' + 1 ≤ _; omega, ?_, by omega, ?_, ix_put (fun _ => ⟨a, v, rfl⟩)⟩ (by omega) (by omega)
     ·rw [hlen]; show q.nodes.length + 1 + 3 * st0.at' + 2 ≤ st0.nodes.length + 3 * (q.at' + 1); omega
     ·rw [hlen]; show (q.nodes.length : Int) < _; omega
    | false =>
     have dF := failP_code (c := c) (st := q) 2 (by decide)
     have lq : LvS c n q := ⟨r1, by rw [r2]; exact ls.2.1, r4, by have := ls.2.2.2; omega⟩
     have dd := dd_fail (c := c) (w := w) hx lq 2 (by decide) hw
     rw [wantP_no iw, oBs, oBs, nodeS_d dF, nodeP_ok (by rw [failP_nodes]; omega), oBs, oBs]
     have dp := dd.put 8 E0 0 [a, v]
     dsimp only
     rw [sufLoop_dead dF, behindLoop_dead dp.d2]
     exact .inr ⟨_, _, _, _, rfl, rfl, by rw [l0.2.1]; exact dp.mono (by omega)⟩
   ·rw [l1.2.1] at d
    rw [e1, e2, oBs, oBs]
    dsimp only
    rw [wantP_d d.1, wantP_d d.d2, oBs, oBs, nodeS_d d.1, nodeP_ok (by have := d.2.2.2.2.2.2.2; omega), oBs, oBs]
    have dp := d.put 8 E0 0 [a, v2]
    dsimp only
    rw [sufLoop_dead d.1, behindLoop_dead dp.d2]
    exact .inr ⟨_, _, _, _, rfl, rfl, by rw [l0.2.1]; exact dp.mono (by omega)⟩
  | false =>
  rw [if_neg (by simp), takesP_no i2, oBs]
  dsimp only
  cases i3 : isP c s ⟨#[46]⟩ with
  | true =>
   obtain ⟨_, hl⟩ := isP_live i3
   have l1 := ls.stp hx hl
   rw [if_pos rfl, if_neg (c := false = true) (by simp), adv_ok (by omega), takesP_ok i3 (by omega), oBs, oBs]
   dsimp only
   rw [if_pos rfl]
   unfold nameN
   by_cases hk1 : (pk c (stp s)).k ≠ 1
   ·have dF := failP_code (c := c) (st := stp s) 2 (by decide)
    have dd := dd_fail (c := c) (w := w) hx l1 2 (by decide) hw
    rw [if_pos hk1, oBs, oBs]
    dsimp only
    have dp := dd.put 4 E0 0 []
    rw [nodeS_d dF, nodeP_ok (by rw [failP_nodes]; show s.nodes.length ≤ _; omega), oBs, oBs]
    dsimp only
    rw [nodeS_d dF, nodeP_ok (Nat.le_trans dp.2.2.2.2.2.2.2 (by omega)), oBs, oBs]
    have dq := dp.put 8 E0 0 [a, ((failP c (stp s) 2).nodes.length : Int)]
    dsimp only
    rw [sufLoop_dead dF, behindLoop_dead dq.d2]
    exact .inr ⟨_, _, _, _, rfl, rfl, by rw [l0.2.1]; exact dq⟩
   ·obtain ⟨_, hl2⟩ := pk_live (c := c) (st := stp s) (by omega)
    have e0 : (stp s).at' = s.at' + 1 := rfl
    rw [if_neg hk1, adv_ok (by rw [e0]; omega)]
    show Out c (w + 2) 2 st0 ((nodeS 4 (pk c (stp s)).text 0 [] (stp (stp s))).bind _) ((nodeP 4 (pk c (stp s)).text 0 [] (stp (stp s))).bind _)
    rw [nodeS_ok (st := stp (stp s)) p1 (by show s.nodes.length ≤ _; omega), nodeP_ok (by show s.nodes.length ≤ _; omega), oBs, oBs]
    dsimp only
    have hlen1 : (putN 4 (pk c (stp s)).text 0 [] (stp (stp s))).nodes.length = s.nodes.length + 1 := by show (s.nodes ++ [_]).length = _; simp
    rw [nodeS_ok (st := putN 4 (pk c (stp s)).text 0 [] (stp (stp s))) p1 (by rw [hlen1]; omega), nodeP_ok (by rw [hlen1]; omega), oBs, oBs]
    dsimp only
    have hlen2 : ∀ ks, (putN 8 E0 0 ks (putN 4 (pk c (stp s)).text 0 [] (stp (stp s)))).nodes.length = s.nodes.length + 2 := fun ks => by show ((s.nodes ++ [_]) ++ [_]).length = _; simp
    refine ih _ _ (m1 + 1) (m2 + 1) (by show c.toks.length - (s.at' + 1 + 1) ≤ k; omega) ⟨p1, p2, by show _ < s.at' + 1 + 1; omega, by show s.at' + 1 + 1 ≤ _; rw [e0] at hl2; omega, ?_, by omega, ?_, ix_put (fun _ => ⟨_, _, rfl⟩)⟩ (by omega) (by omega)
    ·rw [hlen2]; show s.nodes.length + 2 + 3 * st0.at' + 2 ≤ st0.nodes.length + 3 * (s.at' + 1 + 1); omega
    ·rw [hlen2, hlen1]; omega
  | false =>
   rw [if_neg (by simp), if_neg (c := false = true) (by simp), takesP_no i3, oBs]
   dsimp only
   rw [if_neg (by simp), i1, if_neg (by simp)]
   exact .inl ⟨a, s, rfl, rfl, p1, p2, p3, p4, p5, p6, p7⟩
theorem pair_suffix {ex whole whole2 prim1 prim2 : PI} {d2 : Nat} (hx : Cx c) (hw : 9000 ≤ w) (hw2 : w ≤ 90000) (h1 : 3100 ≤ n1) (h2 : 3100 ≤ n2) (hd2 : 3010 ≤ d2) (hp : ∀ st, LvS c n st → Out c w 2 st (prim1 st) (prim2 st)) (hs : ∀ st, LvS c n st → Out c w 2 st (ex st) (whole st)) (hs2 : ∀ st, LvS c n st → Out c w 2 st (ex st) (whole2 st)) (hd : ∀ st : PSt, st.code ≠ 0 → ∃ v, ex st = some (v, st)) (l : LvS c n st) :
  Out c (w + 2) 2 st (suffixS c prim1 ex n1 st) (behindP c prim2 whole (argsP c whole2 d2) n2 st) := by
 unfold suffixS behindP
 have hl := hx.1
 rcases hp st l with ⟨v, q, e1, e2, p⟩ | ⟨v, q, v2, q2, e1, e2, d⟩
 ·rw [e1, e2, oBs, oBs]
  exact suf_pair hx hw hw2 (by omega) hd2 l hs hs2 hd (c.toks.length - q.at') v q n1 n2 (Nat.le_refl _) p (by omega) (by omega)
 ·obtain ⟨n1, rfl⟩ : ∃ q, n1 = q + 1 := ⟨n1 - 1, by omega⟩
  obtain ⟨n2, rfl⟩ : ∃ q, n2 = q + 1 := ⟨n2 - 1, by omega⟩
  rw [e1, e2, oBs, oBs]
  dsimp only
  rw [sufLoop_dead d.1, behindLoop_dead d.d2]
  exact .inr ⟨_, _, _, _, rfl, rfl, d.mono (by omega)⟩
end
def Pr (c : PC) (w e p : Nat) (st0 s s2 : PSt) : Prop :=
 (s2 = s ∧ s.code = 0 ∧ s.nest = st0.nest ∧ st0.at' + p ≤ s.at' ∧ s.at' ≤ c.toks.length ∧ s.nodes.length + 3 * st0.at' + e ≤ st0.nodes.length + 3 * s.at') ∨ DdP w st0.nest s s2
structure Pa (c : PC) (w : Nat) (n : Int) (e : Nat) (m1 m2 : PI) : Prop where
 live : ∀ st, LvS c n st → Out c w e st (m1 st) (m2 st)
 d1 : ∀ st : PSt, st.code ≠ 0 → ∃ v, m1 st = some (v, st)
section
variable {c : PC} {w w' e p : Nat} {n : Int} {st st0 s s2 : PSt}
theorem Pr.mono {e' p' : Nat} (x : Pr c w e p st0 s s2) (h : w ≤ w') (he : e' ≤ e) (hp : p' ≤ p) : Pr c w' e' p' st0 s s2 := by
 rcases x with ⟨a1, a2, a3, a4, a5, a6⟩ | d
 ·exact .inl ⟨a1, a2, a3, by omega, a5, by omega⟩
 ·exact .inr (d.mono h)
theorem Pr.start (l : LvS c n st) : Pr c w 0 0 st st st := .inl ⟨rfl, l.1, rfl, by omega, l.2.2.1, by omega⟩
theorem Pr.lvs (l0 : LvS c n st0) (x : Pr c w e p st0 s s2) (h : s.code = 0) : s2 = s ∧ LvS c n s := by
 rcases x with ⟨a1, a2, a3, a4, a5, a6⟩ | d
 ·exact ⟨a1, a2, by rw [a3]; exact l0.2.1, a5, by have := l0.2.2.2; omega⟩
 ·exact absurd h d.1
theorem Pr.is (x : Pr c w e p st0 s s2) (t : ByteArray) : isP c s2 t = isP c s t := by
 rcases x with ⟨a1, _⟩ | d
 ·rw [a1]
 ·rw [isP_d d.1, isP_d d.d2]
theorem Pr.step (l0 : LvS c n st0) (x : Pr c w e p st0 s s2) (hl : s.at' < c.toks.length) (h : s.code = 0) : s2 = s ∧ Pr c w (e + 3) (p + 1) st0 (stp s) (stp s) := by
 rcases x with ⟨a1, a2, a3, a4, a5, a6⟩ | d
 ·exact ⟨a1, .inl ⟨rfl, a2, a3, by show _ ≤ s.at' + 1; omega, by show s.at' + 1 ≤ _; omega, by show s.nodes.length + 3 * st0.at' + (e + 3) ≤ st0.nodes.length + 3 * (s.at' + 1); omega⟩⟩
 ·exact absurd h d.1
theorem Pr.want (hx : Cx c) (hw : 9000 ≤ w) (l0 : LvS c n st0) (x : Pr c w e p st0 s s2) (t : ByteArray) : ∃ s' s2', wantP c t s = some s' ∧ wantP c t s2 = some s2' ∧ Pr c w (e + 3) (p + 1) st0 s' s2' := by
 by_cases h : s.code = 0
 ·obtain ⟨rfl, ls⟩ := x.lvs l0 h
  have sz := ls.sz hx
  cases hi : isP c s2 t with
  | true =>
   obtain ⟨_, hl⟩ := isP_live hi
   exact ⟨_, _, wantP_ok hi (by omega), wantP_ok hi (by omega), (x.step l0 hl h).2⟩
  | false => exact ⟨_, _, wantP_no hi, wantP_no hi, .inr (by rw [l0.2.1]; exact dd_fail hx ls 2 (by decide) hw)⟩
 ·rcases x with ⟨a1, a2, _⟩ | d
  ·exact absurd a2 h
  ·exact ⟨_, _, wantP_d d.1 t, wantP_d d.d2 t, .inr d⟩
theorem Pr.name (hx : Cx c) (hw : 9000 ≤ w) (l0 : LvS c n st0) (x : Pr c w e p st0 s s2) : ∃ t s' t2 s2', nameN c s = some (t, s') ∧ nameN c s2 = some (t2, s2') ∧ Pr c w (e + 3) (p + 1) st0 s' s2' ∧ (s'.code = 0 → t2 = t) := by
 by_cases h : s.code = 0
 ·obtain ⟨rfl, ls⟩ := x.lvs l0 h
  have sz := ls.sz hx
  unfold nameN
  by_cases hk : (pk c s2).k ≠ 1
  ·rw [if_pos hk]
   exact ⟨_, _, _, _, rfl, rfl, .inr (by rw [l0.2.1]; exact dd_fail hx ls 2 (by decide) hw), fun _ => rfl⟩
  ·obtain ⟨_, hl⟩ := pk_live (c := c) (st := s2) (by omega)
   rw [if_neg hk, adv_ok (by omega)]
   exact ⟨_, _, _, _, rfl, rfl, (x.step l0 hl h).2, fun _ => rfl⟩
 ·rcases x with ⟨a1, a2, _⟩ | d
  ·exact absurd a2 h
  ·exact ⟨_, _, _, _, nameN_d d.1, nameN_d d.d2, .inr d, fun h => absurd h d.1⟩
theorem Pr.node (hw2 : w ≤ 900000) (hx : Cx c) (l0 : LvS c n st0) (x : Pr c w (e + 1) p st0 s s2) {k i : Int} {t t2 : ByteArray} {ks ks2 : List Int} (h8 : k ≠ 8) (ht : s.code = 0 → t2 = t ∧ ks2 = ks) :
  ∃ r s' r2 s2', nodeS k t i ks s = some (r, s') ∧ nodeP k t2 i ks2 s2 = some (r2, s2') ∧ Pr c (w + 1) e p st0 s' s2' ∧ (s'.code = 0 → r2 = r ∧ 0 ≤ r ∧ r < s'.nodes.length ∧ Ix r s') := by
 by_cases h : s.code = 0
 ·obtain ⟨rfl, ls⟩ := x.lvs l0 h
  obtain ⟨rfl, rfl⟩ := ht h
  have sz := ls.sz hx
  have hlen : (putN k t2 i ks2 s2).nodes.length = s2.nodes.length + 1 := by show (s2.nodes ++ [_]).length = _; simp
  refine ⟨_, _, _, _, nodeS_ok h (by omega), nodeP_ok (by omega), ?_, fun _ => ⟨rfl, by omega, by rw [hlen]; omega, ix_put (fun z => absurd z h8)⟩⟩
  rcases x with ⟨a1, a2, a3, a4, a5, a6⟩ | d
  ·exact .inl ⟨rfl, a2, a3, a4, a5, by rw [hlen]; show s2.nodes.length + 1 + 3 * st0.at' + e ≤ st0.nodes.length + 3 * s2.at'; omega⟩
  ·exact absurd h d.1
 ·rcases x with ⟨a1, a2, _⟩ | d
  ·exact absurd a2 h
  ·exact ⟨_, _, _, _, nodeS_d d.1 _ _ _ _, nodeP_ok (Nat.le_trans d.2.2.2.2.2.2.2 (by omega)), .inr (d.put k t2 i ks2), fun h => absurd h d.1⟩
theorem Pr.part {m1 m2 : PI} {f : Nat} (l0 : LvS c n st0) (a : Pa c w n f m1 m2) (g : ∀ st : PSt, st.code ≠ 0 → st.nest = n → st.nodes.length ≤ w → ∃ v s', m2 st = some (v, s') ∧ s'.code = st.code ∧ s'.place = st.place ∧ s'.nest = n ∧ s'.at' ≤ st.at' ∧ s'.nodes.length ≤ st.nodes.length + 1) (x : Pr c w e p st0 s s2) :
  ∃ v s' v2 s2', m1 s = some (v, s') ∧ m2 s2 = some (v2, s2') ∧ Pr c (w + 1) (e + f) (p + 1) st0 s' s2' ∧ (s'.code = 0 → v2 = v ∧ 0 ≤ v ∧ v < s'.nodes.length ∧ Ix v s') := by
 by_cases h : s.code = 0
 ·obtain ⟨rfl, ls⟩ := x.lvs l0 h
  rcases a.live s2 ls with ⟨v, q, e1, e2, q1, q2, q3, q4, q5, q6, q7⟩ | ⟨v, q, v2, q2, e1, e2, d⟩
  ·refine ⟨v, q, v, q, e1, e2, ?_, fun _ => ⟨rfl, q6, q7⟩⟩
   rcases x with ⟨a1, a2, a3, a4, a5, a6⟩ | d
   ·exact .inl ⟨rfl, q1, by rw [q2]; exact a3, by omega, q4, by omega⟩
   ·exact absurd h d.1
  ·exact ⟨v, q, v2, q2, e1, e2, .inr (by rw [ls.2.1] at d; rw [l0.2.1]; exact d.mono (by omega)), fun h => absurd h d.1⟩
 ·rcases x with ⟨a1, a2, _⟩ | d
  ·exact absurd a2 h
  ·obtain ⟨b1, b2, b3, b4, b5, b6, b7, b8⟩ := d
   obtain ⟨v, e1⟩ := a.d1 s h
   obtain ⟨v2, q2, e2, f1, f2, f3, f4, f5⟩ := g s2 (by rw [b4]; exact b1) (by rw [b6]; exact l0.2.1) b8
   exact ⟨v, s, v2, q2, e1, e2, .inr ⟨b1, b2, by omega, by rw [f1]; exact b4, by rw [f2]; exact b5, by rw [f3]; exact l0.2.1.symm, by omega, by omega⟩, fun h => absurd h b1⟩
theorem Pr.out {v v2 : Int} (x : Pr c w e 1 st0 s s2) (hv : s.code = 0 → v2 = v ∧ 0 ≤ v ∧ v < s.nodes.length ∧ Ix v s) : Out c w e st0 (some (v, s)) (some (v2, s2)) := by
 rcases x with ⟨a1, a2, a3, a4, a5, a6⟩ | d
 ·obtain ⟨rfl, h1, h2⟩ := hv a2
  subst a1
  exact .inl ⟨_, _, rfl, rfl, a2, a3, by omega, a5, a6, h1, h2⟩
 ·exact .inr ⟨_, _, _, _, rfl, rfl, d⟩
theorem Out.shift {o1 o2 : Option (Int × PSt)} (x : Out c w 2 (stp st) o1 o2) : Out c w 2 st o1 o2 := by
 rcases x with ⟨v, s, a, b, q1, q2, q3, q4, q5, q6⟩ | x
 ·have e1 : (stp st).at' = st.at' + 1 := rfl
  have e2 : (stp st).nodes = st.nodes := rfl
  rw [e1] at q3 q5; rw [e2] at q5
  exact .inl ⟨v, s, a, b, q1, q2, by omega, q4, by omega, q6⟩
 ·exact .inr x
def Wd (c : PC) (n : Int) (m : PI) : Prop := ∀ st : PSt, st.code ≠ 0 → st.nest = n → m st = some (0, st)
theorem Wd.g {m : PI} (h : Wd c n m) : ∀ st : PSt, st.code ≠ 0 → st.nest = n → st.nodes.length ≤ w → ∃ v s', m st = some (v, s') ∧ s'.code = st.code ∧ s'.place = st.place ∧ s'.nest = n ∧ s'.at' ≤ st.at' ∧ s'.nodes.length ≤ st.nodes.length + 1 :=
 fun st a b _ => ⟨0, st, h st a b, rfl, rfl, b, Nat.le_refl _, by omega⟩
theorem pair_field {ex whole : PI} (hx : Cx c) (hw : 9000 ≤ w) (hw2 : w ≤ 90000) (hs : Pa c w n 2 ex whole) (hg : Wd c n whole) (l : LvS c n st) : Out c (w + 3) 1 st (fieldS c ex st) (fieldP c whole st) := by
 have sz := l.sz hx
 have hsM : ∀ k, Pa c (w + k) n 2 ex whole := fun k => ⟨fun st l => (hs.live st l).mono (by omega), hs.d1⟩
 unfold fieldS fieldP
 cases i1 : isP c st ⟨#[91]⟩ with
 | true =>
  obtain ⟨_, hl⟩ := isP_live i1
  have x1 := ((Pr.start (w := w) l).step l hl l.1).2
  rw [if_pos rfl, adv_ok (by omega), takesP_ok i1 (by omega), oBs, oBs]
  dsimp only
  rw [if_pos rfl]
  obtain ⟨v2, s2, u2, t2, e2, f2, x2, g2⟩ := x1.part l hs hg.g
  rw [e2, f2, oBs, oBs]
  dsimp only
  obtain ⟨s3, t3, e1003, f3, x3⟩ := x2.want hx (by omega) l ⟨#[93]⟩
  rw [e1003, f3, oBs, oBs]
  obtain ⟨s4, t4, e1004, f4, x4⟩ := x3.want hx (by omega) l ⟨#[61]⟩
  rw [e1004, f4, oBs, oBs]
  obtain ⟨v5, s5, u5, t5, e1005, f5, x5, g5⟩ := x4.part l (hsM 1) hg.g
  rw [e1005, f5, oBs, oBs]
  dsimp only
  have c2 : s5.code = 0 → s2.code = 0 := fun h => by
   apply Decidable.byContradiction
   intro h2
   have r3 : s3 = s2 := by rw [wantP_d h2] at e1003; exact (Option.some.inj e1003).symm
   subst r3
   have r4 : s4 = s3 := by rw [wantP_d h2] at e1004; exact (Option.some.inj e1004).symm
   subst r4
   obtain ⟨v, hv⟩ := hs.d1 s4 h2
   rw [hv] at e1005; cases e1005; exact h2 h
  obtain ⟨r6, s6, q6, t6, e1006, f6, x6, g6⟩ := Pr.node (k := 24) (i := 0) (t := E0) (t2 := E0) (ks := [v2, v5]) (ks2 := [u2, u5]) (by omega) hx l (x5.mono (e' := 1 + 1) (p' := 1) (Nat.le_refl _) (by omega) (by omega)) (by decide) (fun h => ⟨rfl, by rw [(g5 h).1, (g2 (c2 h)).1]⟩)
  rw [e1006, f6]
  exact (x6.mono (w' := w + 3) (e' := 1) (by omega) (by omega) (by omega)).out g6
 | false =>
  rw [if_neg (by simp), if_neg (c := (pk c st).k = 1 ∧ st.at' > 1000000) (fun z => by omega), takesP_no i1, oBs]
  dsimp only
  rw [if_neg (c := false = true) (by simp), if_neg (c := st.at' > 1000000) (by omega)]
  by_cases hk : (pk c st).k = 1 ∧ eqNext c st = true
  ·obtain ⟨_, hl⟩ := pk_live (c := c) (st := st) (by omega)
   have hl2 : st.at' + 1 < c.toks.length := by
    have h2 := hk.2
    unfold eqNext at h2
    apply Decidable.byContradiction
    intro h0
    rw [List.getElem?_eq_none (by omega)] at h2; cases h2
   have x1 := ((Pr.start (w := w) l).step l hl l.1).2
   have x2 := (x1.step l hl2 l.1).2
   have eN : nameN c st = some ((pk c st).text, stp st) := by unfold nameN; rw [if_neg (by simp [hk.1]), adv_ok (by omega)]; rfl
   have eA : adv 2 st = some (stp (stp st)) := by unfold adv; rw [if_pos (by omega)]; rfl
   rw [if_pos hk, eN, oBs, adv_ok (by show st.at' + 1 ≤ _; omega), oBs, if_pos (by rw [hk.1, hk.2]; rfl), eA, oBs]
   dsimp only
   obtain ⟨v3, s3, u3, t3, e1003, f3, x3, g3⟩ := Pr.node (k := 4) (i := 0) (t := (pk c st).text) (t2 := (pk c st).text) (ks := []) (ks2 := []) (by omega) hx l (x2.mono (e' := 5 + 1) (Nat.le_refl _) (by omega) (Nat.le_refl _)) (by decide) (fun _ => ⟨rfl, rfl⟩)
   rw [e1003, f3, oBs, oBs]
   dsimp only
   obtain ⟨v4, s4, u4, t4, e1004, f4, x4, g4⟩ := x3.part l (hsM 1) hg.g
   rw [e1004, f4, oBs, oBs]
   dsimp only
   have c1003 : s3.code = 0 := by
    have h3 := e1003; rw [nodeS_ok (st := stp (stp st)) l.1 (by show st.nodes.length ≤ _; omega)] at h3; cases h3; exact l.1
   obtain ⟨r6, s6, q6, t6, e1006, f6, x6, g6⟩ := Pr.node (k := 24) (i := 0) (t := E0) (t2 := E0) (ks := [v3, v4]) (ks2 := [u3, u4]) (by omega) hx l (x4.mono (e' := 1 + 1) (p' := 1) (Nat.le_refl _) (by omega) (by omega)) (by decide) (fun h => ⟨rfl, by rw [(g4 h).1, (g3 c1003).1]⟩)
   rw [e1006, f6]
   exact (x6.mono (w' := w + 3) (e' := 1) (by omega) (by omega) (by omega)).out g6
  ·have hk' : ((pk c st).k == 1 && eqNext c st) = false := by
    cases h1 : eqNext c st with
    | false => simp
    | true =>
     have : (pk c st).k ≠ 1 := fun z => hk ⟨z, h1⟩
     simp [this]
   rw [if_neg hk, if_neg (by rw [hk']; simp)]
   obtain ⟨v2, s2, u2, t2, e2, f2, x2, g2⟩ := (Pr.start (w := w) l).part l hs hg.g
   rw [e2, f2, oBs, oBs]
   dsimp only
   obtain ⟨r6, s6, q6, t6, e1006, f6, x6, g6⟩ := Pr.node (k := 23) (i := 0) (t := E0) (t2 := E0) (ks := [v2]) (ks2 := [u2]) (by omega) hx l (x2.mono (e' := 1 + 1) (p' := 1) (Nat.le_refl _) (by omega) (by omega)) (by decide) (fun h => ⟨rfl, by rw [(g2 h).1]⟩)
   rw [e1006, f6]
   exact (x6.mono (w' := w + 3) (e' := 1) (by omega) (by omega) (by omega)).out g6
theorem OutL.pr {pre : List Int} {o1 o2 : Option (List Int × PSt)} (x : OutL c w st0 pre o1 o2) : ∃ l s l2 s2, o1 = some (l, s) ∧ o2 = some (l2, s2) ∧ Pr c w 1 1 st0 s s2 ∧ (s.code = 0 → l = pre ++ l2 ∧ l2.length ≤ s.at') ∧ (s.code ≠ 0 → l.length ≤ w ∧ l2.length ≤ w) := by
 rcases x with ⟨l, s, a, b, q1, q2, q3, q4, q5, q6⟩ | ⟨l, s, l2, s2, a, b, d, d1, d2⟩
 ·exact ⟨_, s, l, s, a, b, .inl ⟨rfl, q1, q2, by omega, q4, q5⟩, fun _ => ⟨rfl, q6⟩, fun h => absurd q1 h⟩
 ·exact ⟨l, s, l2, s2, a, b, .inr d, fun h => absurd h d.1, fun _ => ⟨d1, d2⟩⟩
theorem pair_table {fld1 fld2 : PI} {m1 m2 : Nat} (hx : Cx c) (hw : 9000 ≤ w) (hw2 : w ≤ 90000) (h1 : 3010 ≤ m1) (h2 : 3010 ≤ m2) (hf : Pa c w n 1 fld1 fld2) (l : LvS c n st) (hi : isP c st ⟨#[123]⟩ = true) : Out c (w + 1) 2 st (tableS c fld1 m1 (stp st)) (tableP c fld2 m2 st) := by
 have sz := l.sz hx
 obtain ⟨_, hl⟩ := isP_live hi
 have l1 := l.stp hx hl
 have LP := (list_pair (c := c) (w := w) (th := 0) (cl := ⟨#[125]⟩) (item1 := fld1) (item2 := fld2) (pre := []) hx hw (by simp [ByteArray.toList_eq]) rfl (by omega) l1 hf.live hf.d1 h1 h2).pr
 obtain ⟨l1', s1, l2', s2, e1, e2, x, g1, g2⟩ := LP
 have eA : tableS c fld1 m1 (stp st) = ((gl c 0 ⟨#[125]⟩ fld1 m1 [] (stp st)).bind fun l => (wantP c ⟨#[125]⟩ l.2).map fun q => (l.1, q)).bind fun l => nodeS 7 E0 0 l.1 l.2 := by
  unfold tableS; rw [tabLoop_gl, bindA]; simp only [mapB, bindA, oBs]
 have eB : tableP c fld2 m2 st = ((takesP c ⟨#[125]⟩ (stp st)).bind fun r => if r.1 = true then some ([], r.2) else gi c ⟨#[125]⟩ fld2 m2 [] r.2).bind fun l => nodeP 7 E0 0 l.1 l.2 := by
  unfold tableP; rw [wantP_ok hi (by omega), oBs, bindA]; simp only [tableLoop_gi]
 rw [eA, eB, e1, e2, oBs, oBs]
 dsimp only
 have x' : Pr c w (2 + 1) 1 st s1 s2 := by
  rcases x with ⟨a1, a2, a3, a4, a5, a6⟩ | d
  ·have q1 : (stp st).at' = st.at' + 1 := rfl
   have q2 : (stp st).nodes = st.nodes := rfl
   rw [q1] at a4 a6; rw [q2] at a6
   exact .inl ⟨a1, a2, a3, by omega, a5, by omega⟩
  ·exact .inr d
 obtain ⟨r6, s6, q6, t6, e1006, f6, x6, g6⟩ := Pr.node (k := 7) (i := 0) (t := E0) (t2 := E0) (ks := l1') (ks2 := l2') (by omega) hx l x' (by decide) (fun h => ⟨rfl, by rw [(g1 h).1]; rfl⟩)
 rw [e1006, f6]
 exact x6.out g6
theorem pair_fn {b1 b2 : PI} {m1 m2 : Nat} (hx : Cx c) (hw : 9000 ≤ w) (hw2 : w ≤ 90000) (h1 : 3010 ≤ m1) (h2 : 3010 ≤ m2) (hb : Pa c (w + 1) n 1 b1 b2) (hg : ∀ st : PSt, st.code ≠ 0 → st.nest = n → st.nodes.length ≤ w + 2 → ∃ v s', b2 st = some (v, s') ∧ s'.code = st.code ∧ s'.place = st.place ∧ s'.nest = n ∧ s'.at' ≤ st.at' ∧ s'.nodes.length ≤ st.nodes.length + 1) (l : LvS c n st) :
  Out c (w + 5) 2 st (fnS c b1 m1 st) (fnP c b2 m2 st) := by
 have sz := l.sz hx
 have hbM : ∀ k, 1 ≤ k → Pa c (w + k) n 1 b1 b2 := fun k hk => ⟨fun st l => (hb.live st l).mono (by omega), hb.d1⟩
 have eA : fnS c b1 m1 st = (wantP c ⟨#[40]⟩ st).bind fun s => ((gl c 0 ⟨#[41]⟩ (parItem c) m1 [] s).bind fun l => (wantP c ⟨#[41]⟩ l.2).map fun q => (l.1, q)).bind fun l => (b1 l.2).bind fun b => if l.1.length > 1000000 then none else nodeS 6 E0 0 (l.1 ++ [b.1]) b.2 := by
  unfold fnS; congr 1; funext s; rw [parLoop_gl, bindA]; simp only [mapB, bindA, oBs]
 have eB : fnP c b2 m2 st = (wantP c ⟨#[40]⟩ st).bind fun s => ((takesP c ⟨#[41]⟩ s).bind fun r => if r.1 = true then some ([], r.2) else gi c ⟨#[41]⟩ (fnItem c) m2 [] r.2).bind fun l => (b2 l.2).bind fun b => nodeP 6 E0 0 (l.1 ++ [b.1]) b.2 := by
  unfold fnP; congr 1; funext s; rw [bindA]; simp only [fnLoop_gi]
 rw [eA, eB]
 obtain ⟨s1, t1, e1, f1, x1⟩ := (Pr.start (w := w) l).want hx hw l ⟨#[40]⟩
 obtain rfl : s1 = t1 := by rw [e1] at f1; exact Option.some.inj f1
 rw [e1, oBs, oBs]
 -- the names
 have LP : ∃ l1 s2 l2 t2, ((gl c 0 ⟨#[41]⟩ (parItem c) m1 [] s1).bind fun l => (wantP c ⟨#[41]⟩ l.2).map fun q => (l.1, q)) = some (l1, s2) ∧ ((takesP c ⟨#[41]⟩ s1).bind fun r => if r.1 = true then some ([], r.2) else gi c ⟨#[41]⟩ (fnItem c) m2 [] r.2) = some (l2, t2) ∧ Pr c (w + 2) 4 2 st s2 t2 ∧ (s2.code = 0 → l1 = l2) ∧ l1.length ≤ 90010 ∧ l2.length ≤ 90010 := by
  by_cases hc : s1.code = 0
  ·obtain ⟨_, ls⟩ := x1.lvs l hc
   obtain ⟨l1', s2, l2', t2, e2, f2, x2, g1, g2⟩ := (list_pair (c := c) (w := w + 1) (th := 0) (cl := ⟨#[41]⟩) (item1 := parItem c) (item2 := fnItem c) (pre := []) hx (by omega) (by simp [ByteArray.toList_eq]) rfl (by omega) ls (fun st l => pair_par hx hw l) (fun st h => par_dead h) h1 h2).pr
   refine ⟨l1', s2, l2', t2, e2, f2, ?_, fun h => by rw [(g1 h).1]; rfl, ?_, ?_⟩
   ·rcases x2 with ⟨a1, a2, a3, a4, a5, a6⟩ | d
    ·rcases x1 with ⟨b1', b2', b3, b4, b5, b6⟩ | d'
     ·exact .inl ⟨a1, a2, by rw [a3]; exact b3, by omega, a5, by omega⟩
     ·exact absurd hc d'.1
    ·exact .inr (by rw [ls.2.1] at d; rw [l.2.1]; exact d.mono (by omega))
   ·by_cases h : s2.code = 0
    ·rw [(g1 h).1]; have := (g1 h).2
     have : s2.at' ≤ c.toks.length := by
      rcases x2 with ⟨a1, a2, a3, a4, a5, a6⟩ | d
      ·exact a5
      ·exact absurd h d.1
     have := hx.1; simp; omega
    ·have := (g2 h).1; omega
   ·by_cases h : s2.code = 0
    ·have := (g1 h).2
     have : s2.at' ≤ c.toks.length := by
      rcases x2 with ⟨a1, a2, a3, a4, a5, a6⟩ | d
      ·exact a5
      ·exact absurd h d.1
     have := hx.1; omega
    ·have := (g2 h).2; omega
  ·rcases x1 with ⟨_, a2, _⟩ | d
   ·exact absurd a2 hc
   ·obtain ⟨m1, rfl⟩ : ∃ q, m1 = q + 1 := ⟨m1 - 1, by omega⟩
    obtain ⟨m2, rfl⟩ : ∃ q, m2 = q + 1 := ⟨m2 - 1, by omega⟩
    have dp := d.put 22 E0 0 []
    have eF : fnItem c s1 = some ((s1.nodes.length : Int), putN 22 E0 0 [] s1) := by
     unfold fnItem; rw [nameN_d d.d2, oBs]; exact nodeP_ok (Nat.le_trans d.2.2.2.2.2.2.2 (by omega))
    refine ⟨[], s1, [(s1.nodes.length : Int)], putN 22 E0 0 [] s1, ?_, ?_, .inr (dp.mono (by omega)), fun h => absurd h hc, by simp, by simp⟩
    ·rw [gl_dead hc, oBs]; dsimp only; rw [wantP_d hc]; rfl
    ·rw [takesP_d d.d2, oBs]; dsimp only; rw [if_neg (by simp), gi, eF, oBs]; dsimp only
     rw [takesP_d dp.d2, oBs]; dsimp only; rw [if_neg (by simp), wantP_d dp.d2]; rfl
 obtain ⟨l1', s2, l2', t2, e2, f2, x2, g2, n1', n2'⟩ := LP
 rw [e2, f2, oBs, oBs]
 dsimp only
 obtain ⟨v3, s3, u3, t3, e1003, f3, x3, g3⟩ := x2.part l (hbM 2 (by omega)) hg
 rw [e1003, f3, oBs, oBs]
 dsimp only
 rw [if_neg (by omega)]
 have c2 : s3.code = 0 → s2.code = 0 := fun h => by
  apply Decidable.byContradiction
  intro h2
  obtain ⟨v, hv⟩ := hb.d1 s2 h2
  rw [hv] at e1003; cases e1003; exact h2 h
 obtain ⟨r6, s6, q6, t6, e1006, f6, x6, g6⟩ := Pr.node (k := 6) (i := 0) (t := E0) (t2 := E0) (ks := l1' ++ [v3]) (ks2 := l2' ++ [u3]) (by omega) hx l (x3.mono (e' := 2 + 1) (p' := 1) (Nat.le_refl _) (by omega) (by omega)) (by decide) (fun h => ⟨rfl, by rw [(g3 h).1, g2 (c2 h)]⟩)
 rw [e1006, f6]
 exact (x6.mono (w' := w + 5) (by omega) (Nat.le_refl _) (Nat.le_refl _)).out g6
theorem pair_primary {ex whole f1 f2 t1 t2 : PI} (hx : Cx c) (hw : 9000 ≤ w) (hw2 : w ≤ 90000) (hs : Pa c w n 2 ex whole) (hg : Wd c n whole) (hf : ∀ st, LvS c n st → Out c w 2 st (f1 st) (f2 st)) (ht : ∀ st, LvS c n st → isP c st ⟨#[123]⟩ = true → Out c w 2 st (t1 (stp st)) (t2 st)) (l : LvS c n st) :
  Out c (w + 1) 2 st (primaryS c ex f1 t1 st) (primaryP c whole f2 t2 st) := by
 have sz := l.sz hx
 have leaf : ∀ (k i : Int) (t : ByteArray), k ≠ 8 → st.at' < c.toks.length → Out c (w + 1) 2 st (nodeS k t i [] (stp st)) (nodeP k t i [] (stp st)) := fun k i t h8 hl => by
  rw [nodeS_ok (st := stp st) l.1 (by show st.nodes.length ≤ _; omega), nodeP_ok (by show st.nodes.length ≤ _; omega)]
  exact .inl ⟨_, _, rfl, rfl, LvP.leaf l hl h8⟩
 unfold primaryS primaryP
 by_cases k3 : (pk c st).k = 3
 ·obtain ⟨_, hl⟩ := pk_live (c := c) (st := st) (by omega)
  rw [if_pos k3, if_pos k3, adv_ok (by omega), oBs, oBs]
  exact leaf _ _ _ (by decide) hl
 rw [if_neg k3, if_neg k3]
 by_cases k4 : (pk c st).k = 4
 ·obtain ⟨_, hl⟩ := pk_live (c := c) (st := st) (by omega)
  rw [if_pos k4, if_pos k4, adv_ok (by omega), oBs, oBs]
  exact leaf _ _ _ (by decide) hl
 rw [if_neg k4, if_neg k4]
 by_cases k1 : (pk c st).k = 1
 ·obtain ⟨_, hl⟩ := pk_live (c := c) (st := st) (by omega)
  have eN : nameN c st = some ((pk c st).text, stp st) := by unfold nameN; rw [if_neg (by simp [k1]), adv_ok (by omega)]; rfl
  rw [if_pos k1, if_pos k1, eN, adv_ok (by omega), oBs, oBs]
  exact leaf _ _ _ (by decide) hl
 rw [if_neg k1, if_neg k1]
 cases i1 : isP c st ⟨#[110, 105, 108]⟩ with
 | true =>
  obtain ⟨_, hl⟩ := isP_live i1
  rw [if_pos rfl, adv_ok (by omega), takesP_ok i1 (by omega), oBs, oBs]
  dsimp only
  rw [if_pos rfl]; exact leaf _ _ _ (by decide) hl
 | false =>
 rw [if_neg (by simp), takesP_no i1, oBs]
 dsimp only
 cases i2 : isP c st ⟨#[116, 114, 117, 101]⟩ with
 | true =>
  obtain ⟨_, hl⟩ := isP_live i2
  rw [if_pos rfl, if_neg (c := false = true) (by simp), adv_ok (by omega), takesP_ok i2 (by omega), oBs, oBs]
  dsimp only
  rw [if_pos rfl]; exact leaf _ _ _ (by decide) hl
 | false =>
 rw [if_neg (by simp), if_neg (c := false = true) (by simp), takesP_no i2, oBs]
 dsimp only
 cases i3 : isP c st ⟨#[102, 97, 108, 115, 101]⟩ with
 | true =>
  obtain ⟨_, hl⟩ := isP_live i3
  rw [if_pos rfl, if_neg (c := false = true) (by simp), adv_ok (by omega), takesP_ok i3 (by omega), oBs, oBs]
  dsimp only
  rw [if_pos rfl]; exact leaf _ _ _ (by decide) hl
 | false =>
 rw [if_neg (by simp), if_neg (c := false = true) (by simp), takesP_no i3, oBs]
 dsimp only
 cases i4 : isP c st ⟨#[102, 110]⟩ with
 | true =>
  obtain ⟨_, hl⟩ := isP_live i4
  have no : isP c st ⟨#[40]⟩ = false := isP_ne i4 (by simp [ByteArray.toList_eq])
  rw [if_pos rfl, if_neg (c := false = true) (by simp), adv_ok (by omega), oBs, takesP_no no, oBs]
  dsimp only
  rw [if_neg (by simp), takesP_ok i4 (by omega), oBs]
  dsimp only
  rw [if_pos rfl]
  exact ((hf _ (l.stp hx hl)).shift).mono (by omega)
 | false =>
 rw [if_neg (by simp), if_neg (c := false = true) (by simp)]
 cases i5 : isP c st ⟨#[123]⟩ with
 | true =>
  obtain ⟨_, hl⟩ := isP_live i5
  have no : isP c st ⟨#[40]⟩ = false := isP_ne i5 (by simp [ByteArray.toList_eq])
  rw [if_pos rfl, adv_ok (by omega), oBs, takesP_no no, oBs]
  dsimp only
  rw [if_neg (by simp), takesP_no i4, oBs]
  dsimp only
  rw [if_neg (by simp), i5, if_pos rfl]
  exact (ht st l i5).mono (by omega)
 | false =>
 rw [if_neg (by simp)]
 cases i6 : isP c st ⟨#[40]⟩ with
 | true =>
  obtain ⟨_, hl⟩ := isP_live i6
  have x1 := ((Pr.start (w := w) l).step l hl l.1).2
  rw [if_pos rfl, adv_ok (by omega), takesP_ok i6 (by omega), oBs, oBs]
  dsimp only
  rw [if_pos rfl]
  obtain ⟨v2, s2, u2, t2', e2, f2', x2, g2⟩ := x1.part l hs hg.g
  rw [e2, f2', oBs, oBs]
  dsimp only
  obtain ⟨s3, t3, e1003, f3, x3⟩ := x2.want hx (by omega) l ⟨#[41]⟩
  rw [e1003, f3, oBs]
  show Out c (w + 1) 2 st (some (v2, s3)) (some (u2, t3))
  refine (x3.mono (e' := 2) (p' := 1) (Nat.le_refl _) (by omega) (by omega)).out (fun h => ?_)
  have c2 : s2.code = 0 := by
   apply Decidable.byContradiction
   intro h2
   rw [wantP_d h2] at e1003; cases e1003; exact h2 h
  have r3 : s3.nodes = s2.nodes := by
   unfold wantP at e1003
   cases hi : isP c s2 ⟨#[41]⟩ with
   | true =>
    have ls2 := (x2.lvs l c2).2.sz hx
    rw [takesP_ok hi (by omega)] at e1003; cases e1003; rfl
   | false => rw [takesP_no hi] at e1003; simp at e1003; rw [← e1003, failP_nodes]
  obtain ⟨a, b, d⟩ := g2 c2
  exact ⟨a, b, by rw [r3]; exact d.1, fun m hm => d.2 m (by rw [← r3]; exact hm)⟩
 | false =>
  rw [if_neg (by simp), takesP_no i6, oBs]
  dsimp only
  rw [if_neg (by simp), takesP_no i4, oBs]
  dsimp only
  rw [if_neg (by simp), i5, if_neg (by simp)]
  exact .inr ⟨_, _, _, _, rfl, rfl, by rw [l.2.1]; exact dd_fail hx l 2 (by decide) (by omega)⟩
end
section
variable {c : PC} {w w' e p : Nat} {n : Int} {st st0 s s2 : PSt}
theorem Pr.clo (x : Pr c w e p (opn st0) s s2) : Pr c w e p st0 (clo s) (clo s2) := by
 rcases x with ⟨a1, a2, a3, a4, a5, a6⟩ | d
 ·exact .inl ⟨by rw [a1], a2, by show s.nest + -1 = st0.nest; rw [a3]; show st0.nest + 1 + -1 = _; omega, a4, a5, a6⟩
 ·exact .inr (DdP.clo d)
theorem blk_pair {stm1 stm2 : PI} (hx : Cx c) (hw : 9000 ≤ w) (hs : ∀ st, LvS c n st → Out c w 1 st (stm1 st) (stm2 st)) (l0 : LvS c n st0) :
  ∀ (k : Nat) (ks : List Int) (s : PSt) (m1 m2 : Nat), c.toks.length - s.at' ≤ k → k + 1 < m1 → k + 1 < m2 → s.code = 0 → s.nest = st0.nest → st0.at' + p ≤ s.at' → s.at' ≤ c.toks.length → s.nodes.length + 3 * st0.at' + e ≤ st0.nodes.length + 3 * s.at' → ks.length ≤ s.at' →
  ∃ l s' l2 s2', blkLoop c stm1 m1 ks s = some (l, s') ∧ blockLoop c stm2 m2 ks s = some (l2, s2') ∧ Pr c w e p st0 s' s2' ∧ (s'.code = 0 → l2 = l) := by
 intro k
 induction k with
 | zero =>
  intro ks s m1 m2 hk h1 h2 a1 a2 a3 a4 a5 a6
  obtain ⟨m1, rfl⟩ : ∃ q, m1 = q + 1 + 1 := ⟨m1 - 2, by omega⟩
  obtain ⟨m2, rfl⟩ : ∃ q, m2 = q + 1 + 1 := ⟨m2 - 2, by omega⟩
  have hc := hx.1
  have ends : AtEnd c s := ⟨a1, by omega⟩
  have ls : LvS c n s := ⟨a1, by rw [a2]; exact l0.2.1, a4, by have := l0.2.2.2; omega⟩
  rw [blkLoop, blockLoop, if_pos ⟨a1, isP_e ends _⟩, if_pos ⟨a1, isP_e ends _⟩]
  rcases hs s ls with ⟨v, q, e1, e2, q1, q2, q3, q4, q5⟩ | ⟨v, q, v2, q2, e1, e2, d⟩
  ·omega
  ·rw [e1, e2, oBs, oBs]
   dsimp only
   rw [if_neg (by omega), blkLoop, if_neg (fun z => d.1 z.1), blockLoop, if_neg (fun z => d.d2 z.1)]
   exact ⟨_, _, _, _, rfl, rfl, .inr (by rw [ls.2.1] at d; rw [l0.2.1]; exact d), fun h => absurd h d.1⟩
 | succ k ih =>
  intro ks s m1 m2 hk h1 h2 a1 a2 a3 a4 a5 a6
  obtain ⟨m1, rfl⟩ : ∃ q, m1 = q + 1 + 1 := ⟨m1 - 2, by omega⟩
  obtain ⟨m2, rfl⟩ : ∃ q, m2 = q + 1 + 1 := ⟨m2 - 2, by omega⟩
  have hc := hx.1
  have ls : LvS c n s := ⟨a1, by rw [a2]; exact l0.2.1, a4, by have := l0.2.2.2; omega⟩
  rw [blkLoop, blockLoop]
  by_cases hi : isP c s ⟨#[125]⟩ = false
  ·rw [if_pos ⟨a1, hi⟩, if_pos ⟨a1, hi⟩]
   rcases hs s ls with ⟨v, q, e1, e2, q1, q2, q3, q4, q5, q6⟩ | ⟨v, q, v2, q2, e1, e2, d⟩
   ·rw [e1, e2, oBs, oBs]
    dsimp only
    rw [if_neg (by omega)]
    exact ih (ks ++ [v]) q (m1 + 1) (m2 + 1) (by omega) (by omega) (by omega) q1 (by rw [q2]; exact a2) (by omega) q4 (by omega) (by simp; omega)
   ·rw [e1, e2, oBs, oBs]
    dsimp only
    rw [if_neg (by omega), blkLoop, if_neg (fun z => d.1 z.1), blockLoop, if_neg (fun z => d.d2 z.1)]
    exact ⟨_, _, _, _, rfl, rfl, .inr (by rw [ls.2.1] at d; rw [l0.2.1]; exact d), fun h => absurd h d.1⟩
  ·rw [if_neg (fun z => hi z.2), if_neg (fun z => hi z.2)]
   exact ⟨_, _, _, _, rfl, rfl, .inl ⟨rfl, a1, a2, a3, a4, a5⟩, fun _ => rfl⟩
theorem pair_block {stm1 stm2 : PI} {m1 m2 : Nat} (hx : Cx c) (hw : 9000 ≤ w) (hw2 : w ≤ 90000) (h0 : 0 ≤ n) (h1 : n ≤ 30) (hm1 : 3010 ≤ m1) (hm2 : 3010 ≤ m2) (hs : n < 30 → ∀ st, LvS c (n + 1) st → Out c w 1 st (stm1 st) (stm2 st)) (l : LvS c n st) :
  Out c (w + 1) 1 st (blockS c stm1 m1 st) (blockP c stm2 m2 st) := by
 have sz := l.sz hx
 unfold blockS blockP
 rw [openS_at hx l h0 h1, openP_at hx l h0 h1]
 -- a fault before all
 have bad : ∀ k : Int, k ≠ 0 → ∀ o : PSt, wantP c ⟨#[123]⟩ o = some (opn (failP c st k)) → Out c (w + 1) 1 st (some (-1, failP c st k)) ((wantP c ⟨#[123]⟩ o).bind fun s2 => (blockLoop c stm2 m2 [] s2).bind fun l => (wantP c ⟨#[125]⟩ l.2).bind fun s3 => (nestTo (-1) s3).bind fun s4 => nodeP 21 E0 0 l.1 s4) := fun k hk o ho => by
  obtain ⟨m2, rfl⟩ : ∃ q, m2 = q + 1 := ⟨m2 - 1, by omega⟩
  have dF := failP_code (c := c) (st := st) k hk
  have dO : (opn (failP c st k)).code ≠ 0 := dF
  have nn : (opn (failP c st k)).nest = n + 1 := by show (failP c st k).nest + 1 = n + 1; rw [failP_nest, l.2.1]
  have dd := dd_fail (c := c) (w := w) hx l k hk hw
  rw [ho, oBs, blockLoop, if_neg (fun z => dO z.1), oBs]
  dsimp only
  rw [wantP_d dO, oBs, clo_ok (by rw [nn]; omega) (by rw [nn]; omega), oBs, clo_opn, nodeP_ok (by rw [failP_nodes]; omega)]
  exact .inr ⟨_, _, _, _, rfl, rfl, by rw [l.2.1]; exact dd.put 21 E0 0 []⟩
 by_cases ha : st.at' ≥ c.toks.length
 ·rw [if_pos ha, if_pos ha, oBs, oBs]
  have ends : AtEnd c (opn st) := ⟨l.1, ha⟩
  exact bad 2 (by decide) (opn st) (by rw [wantP_no (isP_e ends _), failP_opn])
 rw [if_neg ha, if_neg ha]
 by_cases hn : n = 30
 ·rw [if_pos hn, if_pos hn, oBs, oBs]
  have d3 : (opn (failP c st 3)).code ≠ 0 := failP_code (c := c) (st := st) 3 (by decide)
  exact bad 3 (by decide) (opn (failP c st 3)) (wantP_d d3 _)
 rw [if_neg hn, if_neg hn, oBs, oBs]
 dsimp only [cond_true]
 have lo := l.opn
 obtain ⟨s1, t1, e1, f1, x1⟩ := (Pr.start (w := w) lo).want hx hw lo ⟨#[123]⟩
 obtain rfl : s1 = t1 := by rw [e1] at f1; exact Option.some.inj f1
 rw [e1, oBs, oBs]
 have LP : ∃ l1 s2 l2 t2, blkLoop c stm1 m1 [] s1 = some (l1, s2) ∧ blockLoop c stm2 m2 [] s1 = some (l2, t2) ∧ Pr c w 3 1 (opn st) s2 t2 ∧ (s2.code = 0 → l2 = l1) := by
  rcases x1 with ⟨a1, a2, a3, a4, a5, a6⟩ | d
  ·exact blk_pair (e := 3) (p := 1) hx hw (hs (by omega)) lo (c.toks.length - s1.at') [] s1 m1 m2 (Nat.le_refl _) (by have := hx.1; omega) (by have := hx.1; omega) a2 a3 (by omega) a5 (by omega) (by simp)
  ·obtain ⟨m1, rfl⟩ : ∃ q, m1 = q + 1 := ⟨m1 - 1, by omega⟩
   obtain ⟨m2, rfl⟩ : ∃ q, m2 = q + 1 := ⟨m2 - 1, by omega⟩
   exact ⟨[], s1, [], s1, by rw [blkLoop, if_neg (fun z => d.1 z.1)], by rw [blockLoop, if_neg (fun z => d.1 z.1)], .inr d, fun _ => rfl⟩
 obtain ⟨l1, s2, l2, t2, e2, f2, x2, g2⟩ := LP
 rw [e2, f2, oBs, oBs]
 dsimp only
 obtain ⟨s3, t3, e1003, f3, x3⟩ := x2.want hx hw lo ⟨#[125]⟩
 rw [e1003, f3, oBs, oBs]
 have n3 : s3.nest = n + 1 ∧ t3.nest = n + 1 := by
  rcases x3 with ⟨a1, a2, a3, _⟩ | d
  ·rw [a1, a3]; exact ⟨lo.2.1, lo.2.1⟩
  ·rw [d.2.1, d.2.2.2.2.2.1]; exact ⟨lo.2.1, lo.2.1⟩
 rw [clo_ok (by omega) (by omega), clo_ok (by omega) (by omega), oBs, oBs]
 have x4 := x3.clo
 have c2 : (clo s3).code = 0 → s2.code = 0 := fun h => by
  apply Decidable.byContradiction
  intro h2
  rw [wantP_d h2] at e1003; cases e1003; exact h2 h
 obtain ⟨r6, s6, q6, t6, e1006, f6, x6, g6⟩ := Pr.node (k := 21) (i := 0) (t := E0) (t2 := E0) (ks := l1) (ks2 := l2) (by omega) hx l (x4.mono (e' := 1 + 1) (p' := 1) (Nat.le_refl _) (by omega) (by omega)) (by decide) (fun h => ⟨rfl, g2 (c2 h)⟩)
 rw [e1006, f6]
 exact x6.out g6
theorem Pr.cut (hx : Cx c) (l0 : LvS c n st0) (x : Pr c w e p st0 s s) (h : s.code = 0) {v : Int} (hv : 0 ≤ v ∧ v < s.nodes.length) : ∃ s', cutP v s = some s' ∧ Pr c w e p st0 s' s' ∧ s'.code = 0 := by
 unfold cutP
 rw [if_pos (by omega)]
 refine ⟨_, rfl, ?_, h⟩
 rcases x with ⟨a1, a2, a3, a4, a5, a6⟩ | d
 ·exact .inl ⟨rfl, a2, a3, a4, a5, by show (s.nodes.take v.toNat).length + 3 * st0.at' + e ≤ _; rw [List.length_take]; show min _ _ + _ + _ ≤ st0.nodes.length + 3 * s.at'; omega⟩
 ·exact absurd h d.1
theorem pair_assign {ex whole : PI} (hx : Cx c) (hw : 9000 ≤ w) (hw2 : w ≤ 90000) (hs : Pa c w n 2 ex whole) (hg : Wd c n whole) (l : LvS c n st) : Out c (w + 3) 1 st (assignS c ex st) (begunP c whole st) := by
 have hsM : ∀ k, Pa c (w + k) n 2 ex whole := fun k => ⟨fun st l => (hs.live st l).mono (by omega), hs.d1⟩
 unfold assignS begunP
 obtain ⟨v, s, v2, s2, e1, f1, x1, g1⟩ := (Pr.start (w := w) l).part l hs hg.g
 rw [e1, f1, oBs, oBs]
 dsimp only
 by_cases hc : s.code = 0
 ·obtain ⟨rfl, ls⟩ := x1.lvs l hc
  obtain ⟨rfl, v0, vl, ix⟩ := g1 hc
  have sz := ls.sz hx
  rw [if_pos hc, if_neg (by simp [hc])]
  have hlt : v2.toNat < s2.nodes.length := by omega
  have fail : Out c (w + 3) 1 st (some (-1, failP c s2 2)) (some (0, failP c s2 2)) := .inr ⟨_, _, _, _, rfl, rfl, by rw [l.2.1]; exact dd_fail hx ls 2 (by decide) (by omega)⟩
  rw [List.getElem?_eq_getElem hlt]
  have hix := ix s2.nodes[v2.toNat] (List.getElem?_eq_getElem hlt)
  generalize s2.nodes[v2.toNat] = nd at hix
  dsimp only
  rw [if_neg (c := v2 < 0) (by omega), if_neg (c := v2 < 0) (by omega)]
  -- the rest of a putting statement
  have rest : ∀ (k : Int) (t : ByteArray) (pre : List Int), k ≠ 8 → isP c s2 ⟨#[61]⟩ = true → Out c (w + 3) 1 st ((adv 1 s2).bind fun s => (cutP v2 s).bind fun s => (ex s).bind fun v => (wantP c ⟨#[59]⟩ v.2).bind fun s => nodeS k t 0 (pre ++ [v.1]) s)
    ((cutP v2 (stp s2)).bind fun s => (whole s).bind fun x => (wantP c ⟨#[59]⟩ x.2).bind fun s => nodeP k t 0 (pre ++ [x.1]) s) := fun k t pre h8 hi => by
   obtain ⟨_, hl⟩ := isP_live hi
   have x2 := (x1.step l hl hc).2
   obtain ⟨s3, e1003, x3, c1003⟩ := x2.cut hx l (v := v2) hc ⟨v0, vl⟩
   rw [adv_ok (by omega), oBs, e1003, oBs, oBs]
   obtain ⟨v4, s4, u4, t4, e1004, f4, x4, g4⟩ := x3.part l (hsM 1) hg.g
   rw [e1004, f4, oBs, oBs]
   dsimp only
   obtain ⟨s5, t5, e1005, f5, x5⟩ := x4.want hx (by omega) l ⟨#[59]⟩
   rw [e1005, f5, oBs, oBs]
   have c1004 : s5.code = 0 → s4.code = 0 := fun h => by
    apply Decidable.byContradiction
    intro h2
    rw [wantP_d h2] at e1005; cases e1005; exact h2 h
   obtain ⟨r6, s6, q6, t6, e1006, f6, x6, g6⟩ := Pr.node (k := k) (i := 0) (t := t) (t2 := t) (ks := pre ++ [v4]) (ks2 := pre ++ [u4]) (by omega) hx l (x5.mono (e' := 1 + 1) (p' := 1) (Nat.le_refl _) (by omega) (by omega)) h8 (fun h => ⟨rfl, by rw [(g4 (c1004 h)).1]⟩)
   rw [e1006, f6]
   exact (x6.mono (w' := w + 3) (e' := 1) (by omega) (by omega) (by omega)).out g6
  by_cases k9 : nd.k = 9
  ·have n5 : nd.k ≠ 5 := by omega
   have n8 : nd.k ≠ 8 := by omega
   rw [if_pos (c := nd.k = 9) k9]
   cases i1 : isP c s2 ⟨#[59]⟩ with
   | true =>
    obtain ⟨_, hl⟩ := isP_live i1
    rw [if_pos ⟨rfl, k9⟩, adv_ok (by omega), oBs, takesP_ok i1 (by omega), oBs]
    dsimp only
    rw [if_pos rfl]
    have x2 := (x1.step l hl hc).2
    obtain ⟨r6, s6, q6, t6, e1006, f6, x6, g6⟩ := Pr.node (k := 20) (i := 0) (t := E0) (t2 := E0) (ks := [v2]) (ks2 := [v2]) (by omega) hx l (x2.mono (e' := 1 + 1) (p' := 1) (Nat.le_refl _) (by omega) (by omega)) (by decide) (fun h => ⟨rfl, rfl⟩)
    rw [e1006, f6]
    exact (x6.mono (w' := w + 3) (e' := 1) (by omega) (by omega) (by omega)).out g6
   | false =>
    rw [if_neg (fun z => by cases z.1), if_neg (fun z => n5 z.2), if_neg (fun z => n8 z.2), takesP_no i1, oBs]
    dsimp only
    rw [if_neg (by simp), if_neg n5, oBs]
    dsimp only
    rw [if_neg (by simp), if_neg n8, oBs]
    dsimp only
    rw [if_neg (by simp)]
    exact fail
  ·rw [if_neg (fun z => k9 z.2), if_neg (c := nd.k = 9) k9, oBs]
   dsimp only
   rw [if_neg (c := false = true) (by simp)]
   by_cases k5 : nd.k = 5
   ·have n8 : nd.k ≠ 8 := by omega
    rw [if_pos (c := nd.k = 5) k5]
    cases i1 : isP c s2 ⟨#[61]⟩ with
    | true =>
     obtain ⟨_, hl⟩ := isP_live i1
     rw [if_pos ⟨rfl, k5⟩, takesP_ok i1 (by omega), oBs]
     dsimp only
     rw [if_pos rfl]
     exact rest 15 nd.t [] (by decide) i1
    | false =>
     rw [if_neg (fun z => by cases z.1), if_neg (fun z => by cases z.1), takesP_no i1, oBs]
     dsimp only
     rw [if_neg (by simp), if_neg n8, oBs]
     dsimp only
     rw [if_neg (by simp)]
     exact fail
   ·rw [if_neg (fun z => k5 z.2), if_neg (c := nd.k = 5) k5, oBs]
    dsimp only
    rw [if_neg (c := false = true) (by simp)]
    by_cases k8 : nd.k = 8
    ·obtain ⟨a, b, hab⟩ := hix k8
     rw [if_pos (c := nd.k = 8) k8]
     cases i1 : isP c s2 ⟨#[61]⟩ with
     | true =>
      obtain ⟨_, hl⟩ := isP_live i1
      rw [if_pos ⟨rfl, k8⟩, takesP_ok i1 (by omega), oBs]
      dsimp only
      rw [if_pos rfl, hab]
      exact rest 16 E0 [a, b] (by decide) i1
     | false =>
      rw [if_neg (fun z => by cases z.1), takesP_no i1, oBs]
      dsimp only
      rw [if_neg (by simp)]
      exact fail
    ·rw [if_neg (fun z => k8 z.2), if_neg (c := nd.k = 8) k8, oBs]
     dsimp only
     rw [if_neg (c := false = true) (by simp)]
     exact fail
 ·rcases x1 with ⟨_, a2, _⟩ | d
  ·exact absurd a2 hc
  ·rw [if_neg hc, if_pos d.d2]
   exact .inr ⟨_, _, _, _, rfl, rfl, d.mono (by omega)⟩
def Bd (c : PC) (n : Int) (m : PI) : Prop := ∀ st : PSt, st.code ≠ 0 → st.nest = n → st.nodes.length ≤ 100000 → ∃ v, m st = some (v, putN 21 E0 0 [] st)
theorem Bd.g {m : PI} (h : Bd c n m) (hw : w ≤ 100000) : ∀ st : PSt, st.code ≠ 0 → st.nest = n → st.nodes.length ≤ w → ∃ v s', m st = some (v, s') ∧ s'.code = st.code ∧ s'.place = st.place ∧ s'.nest = n ∧ s'.at' ≤ st.at' ∧ s'.nodes.length ≤ st.nodes.length + 1 :=
 fun st a b d => let ⟨v, e⟩ := h st a b (by omega); ⟨v, putN 21 E0 0 [] st, e, rfl, rfl, b, Nat.le_refl _, by show (st.nodes ++ [_]).length ≤ _; simp⟩
theorem pair_stmt {ex whole b1 b2 a1 a2 : PI} (hx : Cx c) (hw : 9000 ≤ w) (hw2 : w ≤ 90000) (hs : Pa c w n 2 ex whole) (hg : Wd c n whole) (hb : Pa c w n 1 b1 b2) (hbd : Bd c n b2) (ha : ∀ st, LvS c n st → Out c w 1 st (a1 st) (a2 st)) (l : LvS c n st) :
  Out c (w + 5) 1 st (stmtS c ex b1 a1 st) (stmtP c whole b2 a2 st) := by
 have sz := l.sz hx
 have hsM : ∀ k, Pa c (w + k) n 2 ex whole := fun k => ⟨fun st l => (hs.live st l).mono (by omega), hs.d1⟩
 have hbM : ∀ k, Pa c (w + k) n 1 b1 b2 := fun k => ⟨fun st l => (hb.live st l).mono (by omega), hb.d1⟩
 have wd : ∀ {s s' : PSt} {t : ByteArray}, wantP c t s = some s' → s'.code = 0 → s.code = 0 := fun {s s' t} e h => by
  apply Decidable.byContradiction
  intro h2
  rw [wantP_d h2] at e; cases e; exact h2 h
 have bd1 : ∀ {s s' : PSt} {v : Int}, b1 s = some (v, s') → s'.code = 0 → s.code = 0 := fun {s s' v} e h => by
  apply Decidable.byContradiction
  intro h2
  obtain ⟨u, hu⟩ := hb.d1 s h2
  rw [hu] at e; cases e; exact h2 h
 have ed1 : ∀ {s s' : PSt} {v : Int}, ex s = some (v, s') → s'.code = 0 → s.code = 0 := fun {s s' v} e h => by
  apply Decidable.byContradiction
  intro h2
  obtain ⟨u, hu⟩ := hs.d1 s h2
  rw [hu] at e; cases e; exact h2 h
 unfold stmtS stmtP
 cases i1 : isP c st ⟨#[108, 111, 99, 97, 108]⟩ with
 | true =>
  obtain ⟨_, hl⟩ := isP_live i1
  have x1 := ((Pr.start (w := w) l).step l hl l.1).2
  rw [if_pos rfl, adv_ok (by omega), oBs, takesP_ok i1 (by omega), oBs]
  dsimp only
  rw [if_pos rfl]
  obtain ⟨t2, s2, u2, q2, e2, f2, x2, g2⟩ := x1.name hx hw l
  have tu : t2 = u2 ∧ s2 = q2 := by rw [e2] at f2; cases f2; exact ⟨rfl, rfl⟩
  obtain ⟨rfl, rfl⟩ := tu
  rw [e2, oBs, oBs]
  dsimp only
  obtain ⟨s3, t3, e1003, f3, x3⟩ := x2.want hx hw l ⟨#[61]⟩
  have tu : s3 = t3 := by rw [e1003] at f3; exact Option.some.inj f3
  subst tu
  rw [e1003, oBs, oBs]
  obtain ⟨v4, s4, u4, t4, e1004, f4, x4, g4⟩ := x3.part l hs hg.g
  rw [e1004, f4, oBs, oBs]
  dsimp only
  obtain ⟨s5, t5, e1005, f5, x5⟩ := x4.want hx (by omega) l ⟨#[59]⟩
  rw [e1005, f5, oBs, oBs]
  obtain ⟨r6, s6, q6, t6, e1006, f6, x6, g6⟩ := Pr.node (k := 14) (i := 0) (t := t2) (t2 := t2) (ks := [v4]) (ks2 := [u4]) (by omega) hx l (x5.mono (e' := 1 + 1) (p' := 1) (Nat.le_refl _) (by omega) (by omega)) (by decide) (fun h => ⟨rfl, by rw [(g4 (wd e1005 h)).1]⟩)
  rw [e1006, f6]
  exact (x6.mono (w' := w + 5) (e' := 1) (by omega) (by omega) (by omega)).out g6
 | false =>
 rw [if_neg (by simp), takesP_no i1, oBs]
 dsimp only
 cases i2 : isP c st ⟨#[105, 102]⟩ with
 | true =>
  obtain ⟨_, hl⟩ := isP_live i2
  have no1 : isP c st ⟨#[114, 101, 116, 117, 114, 110]⟩ = false := isP_ne i2 (by simp [ByteArray.toList_eq])
  have no2 : isP c st ⟨#[119, 104, 105, 108, 101]⟩ = false := isP_ne i2 (by simp [ByteArray.toList_eq])
  have x1 := ((Pr.start (w := w) l).step l hl l.1).2
  rw [if_pos rfl, if_neg (c := false = true) (by simp), adv_ok (by omega), oBs, takesP_no no1, oBs]
  dsimp only
  rw [if_neg (by simp), takesP_no no2, oBs]
  dsimp only
  rw [if_neg (by simp), takesP_ok i2 (by omega), oBs]
  dsimp only
  rw [if_pos rfl]
  obtain ⟨v2, s2, u2, t2, e2, f2, x2, g2⟩ := x1.part l hs hg.g
  rw [e2, f2, oBs, oBs]
  dsimp only
  obtain ⟨v3, s3, u3, t3, e1003, f3, x3, g3⟩ := x2.part l (hbM 1) (hbd.g (by omega))
  rw [e1003, f3, oBs, oBs]
  dsimp only
  have hi := x3.is ⟨#[101, 108, 115, 101]⟩
  cases i3 : isP c s3 ⟨#[101, 108, 115, 101]⟩ with
  | true =>
   rw [i3] at hi
   obtain ⟨hc3, hl3⟩ := isP_live i3
   have q := x3.lvs l hc3
   obtain ⟨rfl, ls3⟩ := q
   have sz3 := ls3.sz hx
   have x4 := (x3.step l hl3 hc3).2
   rw [if_pos rfl, adv_ok (by omega), oBs, takesP_ok hi (by omega), oBs]
   dsimp only
   rw [if_pos rfl]
   obtain ⟨v5, s5, u5, t5, e1005, f5, x5, g5⟩ := x4.part l (hbM 2) (hbd.g (by omega))
   rw [e1005, f5, oBs, oBs]
   dsimp only
   obtain ⟨r6, s6, q6, t6, e1006, f6, x6, g6⟩ := Pr.node (k := 17) (i := 0) (t := E0) (t2 := E0) (ks := [v2, v3, v5]) (ks2 := [u2, u3, u5]) (by omega) hx l (x5.mono (e' := 1 + 1) (p' := 1) (Nat.le_refl _) (by omega) (by omega)) (by decide) (fun h => ⟨rfl, by rw [(g5 h).1, (g3 hc3).1, (g2 (bd1 e1003 hc3)).1]⟩)
   rw [e1006, f6]
   exact (x6.mono (w' := w + 5) (e' := 1) (by omega) (by omega) (by omega)).out g6
  | false =>
   rw [i3] at hi
   rw [if_neg (by simp), takesP_no hi, oBs]
   dsimp only
   rw [if_neg (by simp)]
   obtain ⟨r6, s6, q6, t6, e1006, f6, x6, g6⟩ := Pr.node (k := 17) (i := 0) (t := E0) (t2 := E0) (ks := [v2, v3]) (ks2 := [u2, u3]) (by omega) hx l (x3.mono (e' := 1 + 1) (p' := 1) (Nat.le_refl _) (by omega) (by omega)) (by decide) (fun h => ⟨rfl, by rw [(g3 h).1, (g2 (bd1 e1003 h)).1]⟩)
   rw [e1006, f6]
   exact (x6.mono (w' := w + 5) (e' := 1) (by omega) (by omega) (by omega)).out g6
 | false =>
 rw [if_neg (by simp), if_neg (c := false = true) (by simp)]
 cases i3 : isP c st ⟨#[119, 104, 105, 108, 101]⟩ with
 | true =>
  obtain ⟨_, hl⟩ := isP_live i3
  have no1 : isP c st ⟨#[114, 101, 116, 117, 114, 110]⟩ = false := isP_ne i3 (by simp [ByteArray.toList_eq])
  have x1 := ((Pr.start (w := w) l).step l hl l.1).2
  rw [if_pos rfl, adv_ok (by omega), oBs, takesP_no no1, oBs]
  dsimp only
  rw [if_neg (by simp), takesP_ok i3 (by omega), oBs]
  dsimp only
  rw [if_pos rfl]
  obtain ⟨v2, s2, u2, t2, e2, f2, x2, g2⟩ := x1.part l hs hg.g
  rw [e2, f2, oBs, oBs]
  dsimp only
  obtain ⟨v3, s3, u3, t3, e1003, f3, x3, g3⟩ := x2.part l (hbM 1) (hbd.g (by omega))
  rw [e1003, f3, oBs, oBs]
  dsimp only
  obtain ⟨r6, s6, q6, t6, e1006, f6, x6, g6⟩ := Pr.node (k := 18) (i := 0) (t := E0) (t2 := E0) (ks := [v2, v3]) (ks2 := [u2, u3]) (by omega) hx l (x3.mono (e' := 1 + 1) (p' := 1) (Nat.le_refl _) (by omega) (by omega)) (by decide) (fun h => ⟨rfl, by rw [(g3 h).1, (g2 (bd1 e1003 h)).1]⟩)
  rw [e1006, f6]
  exact (x6.mono (w' := w + 5) (e' := 1) (by omega) (by omega) (by omega)).out g6
 | false =>
 rw [if_neg (by simp)]
 cases i4 : isP c st ⟨#[114, 101, 116, 117, 114, 110]⟩ with
 | true =>
  obtain ⟨_, hl⟩ := isP_live i4
  have x1 := ((Pr.start (w := w) l).step l hl l.1).2
  rw [if_pos rfl, adv_ok (by omega), oBs, takesP_ok i4 (by omega), oBs]
  dsimp only
  rw [if_pos rfl]
  obtain ⟨v2, s2, u2, t2, e2, f2, x2, g2⟩ := x1.part l hs hg.g
  rw [e2, f2, oBs, oBs]
  dsimp only
  obtain ⟨s5, t5, e1005, f5, x5⟩ := x2.want hx (by omega) l ⟨#[59]⟩
  rw [e1005, f5, oBs, oBs]
  obtain ⟨r6, s6, q6, t6, e1006, f6, x6, g6⟩ := Pr.node (k := 19) (i := 0) (t := E0) (t2 := E0) (ks := [v2]) (ks2 := [u2]) (by omega) hx l (x5.mono (e' := 1 + 1) (p' := 1) (Nat.le_refl _) (by omega) (by omega)) (by decide) (fun h => ⟨rfl, by rw [(g2 (wd e1005 h)).1]⟩)
  rw [e1006, f6]
  exact (x6.mono (w' := w + 5) (e' := 1) (by omega) (by omega) (by omega)).out g6
 | false =>
  rw [if_neg (by simp), takesP_no i4, oBs]
  dsimp only
  rw [if_neg (by simp), takesP_no i3, oBs]
  dsimp only
  rw [if_neg (by simp), takesP_no i2, oBs]
  dsimp only
  rw [if_neg (by simp)]
  exact (ha st l).mono (by omega)
end
end Go.Proofs.YtajpnemfppaafaaGreat
