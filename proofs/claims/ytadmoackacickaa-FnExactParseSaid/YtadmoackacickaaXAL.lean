import Derived.Test.YtadmoackacickaaXAK
import Derived.Test.YtadmoackacickaaXAD
import Derived.KernelRfl
import Derived.Test.YtadmoackacickaaProg
import Derived.Test.YtadmoackacickaaXAH
import Derived.Test.YtadmoackacickaaXAJ
import Derived.Test.YtadmoackacickaaXAG
import Derived.Test.YtadmoackacickaaXAF
/- The two parsers are alike: steps of a pair of walks; primaries, functions, tables, fields. -/
set_option linter.unusedSimpArgs false
namespace Go.Proofs.Ytadmoackacickaa
open Go Go.AH

/-- A pair of states: alike, or with the same fault. -/
def Pr (c : PC) (w e p : Nat) (st0 s s2 : PSt) : Prop :=
  (s2 = s ∧ s.code = 0 ∧ s.nest = st0.nest ∧ st0.at' + p ≤ s.at' ∧ s.at' ≤ c.toks.length ∧ s.nodes.length + 3 * st0.at' + e ≤ st0.nodes.length + 3 * s.at') ∨ DdP w st0.nest s s2
/-- Two parts that do alike, and nothing behind a fault. -/
structure Pa (c : PC) (w : Nat) (n : Int) (e : Nat) (m1 m2 : PI) : Prop where
  live : ∀ st, LvS c n st → Out c w e st (m1 st) (m2 st)
  d1 : ∀ st : PSt, st.code ≠ 0 → ∃ v, m1 st = some (v, st)
section
variable {c : PC} {w w' e p : Nat} {n : Int} {st st0 s s2 : PSt}
theorem Pr.mono {e' p' : Nat} (x : Pr c w e p st0 s s2) (h : w ≤ w') (he : e' ≤ e) (hp : p' ≤ p) : Pr c w' e' p' st0 s s2 := by
  rcases x with ⟨a1, a2, a3, a4, a5, a6⟩ | d
  · exact .inl ⟨a1, a2, a3, by omega, a5, by omega⟩
  · exact .inr (d.mono h)
theorem Pr.start (l : LvS c n st) : Pr c w 0 0 st st st := .inl ⟨rfl, l.1, rfl, by omega, l.2.2.1, by omega⟩
theorem Pr.lvs (l0 : LvS c n st0) (x : Pr c w e p st0 s s2) (h : s.code = 0) : s2 = s ∧ LvS c n s := by
  rcases x with ⟨a1, a2, a3, a4, a5, a6⟩ | d
  · exact ⟨a1, a2, by rw [a3]; exact l0.2.1, a5, by have := l0.2.2.2; omega⟩
  · exact absurd h d.1
theorem Pr.is (x : Pr c w e p st0 s s2) (t : ByteArray) : isP c s2 t = isP c s t := by
  rcases x with ⟨a1, _⟩ | d
  · rw [a1]
  · rw [isP_d d.1, isP_d d.d2]
theorem Pr.step (l0 : LvS c n st0) (x : Pr c w e p st0 s s2) (hl : s.at' < c.toks.length) (h : s.code = 0) : s2 = s ∧ Pr c w (e + 3) (p + 1) st0 (stp s) (stp s) := by
  rcases x with ⟨a1, a2, a3, a4, a5, a6⟩ | d
  · exact ⟨a1, .inl ⟨rfl, a2, a3, by show _ ≤ s.at' + 1; omega, by show s.at' + 1 ≤ _; omega, by show s.nodes.length + 3 * st0.at' + (e + 3) ≤ st0.nodes.length + 3 * (s.at' + 1); omega⟩⟩
  · exact absurd h d.1
theorem Pr.want (hx : Cx c) (hw : 9000 ≤ w) (l0 : LvS c n st0) (x : Pr c w e p st0 s s2) (t : ByteArray) : ∃ s' s2', wantP c t s = some s' ∧ wantP c t s2 = some s2' ∧ Pr c w (e + 3) (p + 1) st0 s' s2' := by
  by_cases h : s.code = 0
  · obtain ⟨rfl, ls⟩ := x.lvs l0 h
    have sz := ls.sz hx
    cases hi : isP c s2 t with
    | true =>
      obtain ⟨_, hl⟩ := isP_live hi
      exact ⟨_, _, wantP_ok hi (by omega), wantP_ok hi (by omega), (x.step l0 hl h).2⟩
    | false => exact ⟨_, _, wantP_no hi, wantP_no hi, .inr (by rw [l0.2.1]; exact dd_fail hx ls 2 (by decide) hw)⟩
  · rcases x with ⟨a1, a2, _⟩ | d
    · exact absurd a2 h
    · exact ⟨_, _, wantP_d d.1 t, wantP_d d.d2 t, .inr d⟩
theorem Pr.name (hx : Cx c) (hw : 9000 ≤ w) (l0 : LvS c n st0) (x : Pr c w e p st0 s s2) : ∃ t s' t2 s2', nameN c s = some (t, s') ∧ nameN c s2 = some (t2, s2') ∧ Pr c w (e + 3) (p + 1) st0 s' s2' ∧ (s'.code = 0 → t2 = t) := by
  by_cases h : s.code = 0
  · obtain ⟨rfl, ls⟩ := x.lvs l0 h
    have sz := ls.sz hx
    unfold nameN
    by_cases hk : (pk c s2).k ≠ 1
    · rw [if_pos hk]
      exact ⟨_, _, _, _, rfl, rfl, .inr (by rw [l0.2.1]; exact dd_fail hx ls 2 (by decide) hw), fun _ => rfl⟩
    · obtain ⟨_, hl⟩ := pk_live (c := c) (st := s2) (by omega)
      rw [if_neg hk, adv_ok (by omega)]
      exact ⟨_, _, _, _, rfl, rfl, (x.step l0 hl h).2, fun _ => rfl⟩
  · rcases x with ⟨a1, a2, _⟩ | d
    · exact absurd a2 h
    · exact ⟨_, _, _, _, nameN_d d.1, nameN_d d.d2, .inr d, fun h => absurd h d.1⟩
theorem Pr.node (hw2 : w ≤ 900000) (hx : Cx c) (l0 : LvS c n st0) (x : Pr c w (e + 1) p st0 s s2) {k i : Int} {t t2 : ByteArray} {ks ks2 : List Int} (h8 : k ≠ 8) (ht : s.code = 0 → t2 = t ∧ ks2 = ks) :
    ∃ r s' r2 s2', nodeS k t i ks s = some (r, s') ∧ nodeP k t2 i ks2 s2 = some (r2, s2') ∧ Pr c (w + 1) e p st0 s' s2' ∧ (s'.code = 0 → r2 = r ∧ 0 ≤ r ∧ r < s'.nodes.length ∧ Ix r s') := by
  by_cases h : s.code = 0
  · obtain ⟨rfl, ls⟩ := x.lvs l0 h
    obtain ⟨rfl, rfl⟩ := ht h
    have sz := ls.sz hx
    have hlen : (putN k t2 i ks2 s2).nodes.length = s2.nodes.length + 1 := by show (s2.nodes ++ [_]).length = _; simp
    refine ⟨_, _, _, _, nodeS_ok h (by omega), nodeP_ok (by omega), ?_, fun _ => ⟨rfl, by omega, by rw [hlen]; omega, ix_put (fun z => absurd z h8)⟩⟩
    rcases x with ⟨a1, a2, a3, a4, a5, a6⟩ | d
    · exact .inl ⟨rfl, a2, a3, a4, a5, by rw [hlen]; show s2.nodes.length + 1 + 3 * st0.at' + e ≤ st0.nodes.length + 3 * s2.at'; omega⟩
    · exact absurd h d.1
  · rcases x with ⟨a1, a2, _⟩ | d
    · exact absurd a2 h
    · exact ⟨_, _, _, _, nodeS_d d.1 _ _ _ _, nodeP_ok (Nat.le_trans d.2.2.2.2.2.2.2 (by omega)), .inr (d.put k t2 i ks2), fun h => absurd h d.1⟩
/-- A part. -/
theorem Pr.part {m1 m2 : PI} {f : Nat} (l0 : LvS c n st0) (a : Pa c w n f m1 m2) (g : ∀ st : PSt, st.code ≠ 0 → st.nest = n → st.nodes.length ≤ w → ∃ v s', m2 st = some (v, s') ∧ s'.code = st.code ∧ s'.place = st.place ∧ s'.nest = n ∧ s'.at' ≤ st.at' ∧ s'.nodes.length ≤ st.nodes.length + 1) (x : Pr c w e p st0 s s2) :
    ∃ v s' v2 s2', m1 s = some (v, s') ∧ m2 s2 = some (v2, s2') ∧ Pr c (w + 1) (e + f) (p + 1) st0 s' s2' ∧ (s'.code = 0 → v2 = v ∧ 0 ≤ v ∧ v < s'.nodes.length ∧ Ix v s') := by
  by_cases h : s.code = 0
  · obtain ⟨rfl, ls⟩ := x.lvs l0 h
    rcases a.live s2 ls with ⟨v, q, e1, e2, q1, q2, q3, q4, q5, q6, q7⟩ | ⟨v, q, v2, q2, e1, e2, d⟩
    · refine ⟨v, q, v, q, e1, e2, ?_, fun _ => ⟨rfl, q6, q7⟩⟩
      rcases x with ⟨a1, a2, a3, a4, a5, a6⟩ | d
      · exact .inl ⟨rfl, q1, by rw [q2]; exact a3, by omega, q4, by omega⟩
      · exact absurd h d.1
    · exact ⟨v, q, v2, q2, e1, e2, .inr (by rw [ls.2.1] at d; rw [l0.2.1]; exact d.mono (by omega)), fun h => absurd h d.1⟩
  · rcases x with ⟨a1, a2, _⟩ | d
    · exact absurd a2 h
    · obtain ⟨b1, b2, b3, b4, b5, b6, b7, b8⟩ := d
      obtain ⟨v, e1⟩ := a.d1 s h
      obtain ⟨v2, q2, e2, f1, f2, f3, f4, f5⟩ := g s2 (by rw [b4]; exact b1) (by rw [b6]; exact l0.2.1) b8
      exact ⟨v, s, v2, q2, e1, e2, .inr ⟨b1, b2, by omega, by rw [f1]; exact b4, by rw [f2]; exact b5, by rw [f3]; exact l0.2.1.symm, by omega, by omega⟩, fun h => absurd h b1⟩
/-- The end of a walk. -/
theorem Pr.out {v v2 : Int} (x : Pr c w e 1 st0 s s2) (hv : s.code = 0 → v2 = v ∧ 0 ≤ v ∧ v < s.nodes.length ∧ Ix v s) : Out c w e st0 (some (v, s)) (some (v2, s2)) := by
  rcases x with ⟨a1, a2, a3, a4, a5, a6⟩ | d
  · obtain ⟨rfl, h1, h2⟩ := hv a2
    subst a1
    exact .inl ⟨_, _, rfl, rfl, a2, a3, by omega, a5, a6, h1, h2⟩
  · exact .inr ⟨_, _, _, _, rfl, rfl, d⟩
theorem Out.shift {o1 o2 : Option (Int × PSt)} (x : Out c w 2 (stp st) o1 o2) : Out c w 2 st o1 o2 := by
  rcases x with ⟨v, s, a, b, q1, q2, q3, q4, q5, q6⟩ | x
  · have e1 : (stp st).at' = st.at' + 1 := rfl
    have e2 : (stp st).nodes = st.nodes := rfl
    rw [e1] at q3 q5; rw [e2] at q5
    exact .inl ⟨v, s, a, b, q1, q2, by omega, q4, by omega, q6⟩
  · exact .inr x
/-- Expressions: what they do behind a fault. -/
def Wd (c : PC) (n : Int) (m : PI) : Prop := ∀ st : PSt, st.code ≠ 0 → st.nest = n → m st = some (0, st)
theorem Wd.g {m : PI} (h : Wd c n m) : ∀ st : PSt, st.code ≠ 0 → st.nest = n → st.nodes.length ≤ w → ∃ v s', m st = some (v, s') ∧ s'.code = st.code ∧ s'.place = st.place ∧ s'.nest = n ∧ s'.at' ≤ st.at' ∧ s'.nodes.length ≤ st.nodes.length + 1 :=
  fun st a b _ => ⟨0, st, h st a b, rfl, rfl, b, Nat.le_refl _, by omega⟩
theorem pair_field {ex whole : PI} (hx : Cx c) (hw : 9000 ≤ w) (hw2 : w ≤ 90000) (hs : Pa c w n 2 ex whole) (hg : Wd c n whole) (l : LvS c n st) : Out c (w + 3) 1 st (fieldS c ex st) (fieldP c whole st) := by
  have sz := l.sz hx
  have hsM : ∀ k, Pa c (w + k) n 2 ex whole := fun k => ⟨fun st l => (hs.live st l).mono (by omega), hs.d1⟩
  unfold fieldS fieldP
  cases i1 : isP c st ⟨#[91]⟩ with
  | true =>
    obtain ⟨_, hl⟩ := isP_live i1
    have x1 := ((Pr.start (w := w) l).step l hl l.1).2
    rw [if_pos rfl, adv_ok (by omega), takesP_ok i1 (by omega), Option.bind_some, Option.bind_some]
    dsimp only
    rw [if_pos rfl]
    obtain ⟨v2, s2, u2, t2, e2, f2, x2, g2⟩ := x1.part l hs hg.g
    rw [e2, f2, Option.bind_some, Option.bind_some]
    dsimp only
    obtain ⟨s3, t3, e3, f3, x3⟩ := x2.want hx (by omega) l ⟨#[93]⟩
    rw [e3, f3, Option.bind_some, Option.bind_some]
    obtain ⟨s4, t4, e4, f4, x4⟩ := x3.want hx (by omega) l ⟨#[61]⟩
    rw [e4, f4, Option.bind_some, Option.bind_some]
    obtain ⟨v5, s5, u5, t5, e5, f5, x5, g5⟩ := x4.part l (hsM 1) hg.g
    rw [e5, f5, Option.bind_some, Option.bind_some]
    dsimp only
    have c2 : s5.code = 0 → s2.code = 0 := fun h => by
      apply Decidable.byContradiction
      intro h2
      have r3 : s3 = s2 := by rw [wantP_d h2] at e3; exact (Option.some.inj e3).symm
      subst r3
      have r4 : s4 = s3 := by rw [wantP_d h2] at e4; exact (Option.some.inj e4).symm
      subst r4
      obtain ⟨v, hv⟩ := hs.d1 s4 h2
      rw [hv] at e5; cases e5; exact h2 h
    obtain ⟨r6, s6, q6, t6, e6, f6, x6, g6⟩ := Pr.node (k := 24) (i := 0) (t := E0) (t2 := E0) (ks := [v2, v5]) (ks2 := [u2, u5]) (by omega) hx l (x5.mono (e' := 1 + 1) (p' := 1) (Nat.le_refl _) (by omega) (by omega)) (by decide) (fun h => ⟨rfl, by rw [(g5 h).1, (g2 (c2 h)).1]⟩)
    rw [e6, f6]
    exact (x6.mono (w' := w + 3) (e' := 1) (by omega) (by omega) (by omega)).out g6
  | false =>
    rw [if_neg (by simp), if_neg (c := (pk c st).k = 1 ∧ st.at' > 1000000) (fun z => by omega), takesP_no i1, Option.bind_some]
    dsimp only
    rw [if_neg (c := false = true) (by simp), if_neg (c := st.at' > 1000000) (by omega)]
    by_cases hk : (pk c st).k = 1 ∧ eqNext c st = true
    · obtain ⟨_, hl⟩ := pk_live (c := c) (st := st) (by omega)
      have hl2 : st.at' + 1 < c.toks.length := by
        have h2 := hk.2
        unfold eqNext at h2
        apply Decidable.byContradiction
        intro h0
        rw [List.getElem?_eq_none (by omega)] at h2; cases h2
      have x1 := ((Pr.start (w := w) l).step l hl l.1).2
      have x2 := (x1.step l hl2 l.1).2
      have eN : nameN c st = some ((pk c st).text, stp st) := by unfold nameN; rw [if_neg (by simp [hk.1]), adv_ok (by omega)]; rfl
      have eA : adv 2 st = some (stp (stp st)) := by unfold adv; rw [if_pos (by omega)]; rfl
      rw [if_pos hk, eN, Option.bind_some, adv_ok (by show st.at' + 1 ≤ _; omega), Option.bind_some, if_pos (by rw [hk.1, hk.2]; rfl), eA, Option.bind_some]
      dsimp only
      obtain ⟨v3, s3, u3, t3, e3, f3, x3, g3⟩ := Pr.node (k := 4) (i := 0) (t := (pk c st).text) (t2 := (pk c st).text) (ks := []) (ks2 := []) (by omega) hx l (x2.mono (e' := 5 + 1) (Nat.le_refl _) (by omega) (Nat.le_refl _)) (by decide) (fun _ => ⟨rfl, rfl⟩)
      rw [e3, f3, Option.bind_some, Option.bind_some]
      dsimp only
      obtain ⟨v4, s4, u4, t4, e4, f4, x4, g4⟩ := x3.part l (hsM 1) hg.g
      rw [e4, f4, Option.bind_some, Option.bind_some]
      dsimp only
      have c3 : s3.code = 0 := by
        have h3 := e3; rw [nodeS_ok (st := stp (stp st)) l.1 (by show st.nodes.length ≤ _; omega)] at h3; cases h3; exact l.1
      obtain ⟨r6, s6, q6, t6, e6, f6, x6, g6⟩ := Pr.node (k := 24) (i := 0) (t := E0) (t2 := E0) (ks := [v3, v4]) (ks2 := [u3, u4]) (by omega) hx l (x4.mono (e' := 1 + 1) (p' := 1) (Nat.le_refl _) (by omega) (by omega)) (by decide) (fun h => ⟨rfl, by rw [(g4 h).1, (g3 c3).1]⟩)
      rw [e6, f6]
      exact (x6.mono (w' := w + 3) (e' := 1) (by omega) (by omega) (by omega)).out g6
    · have hk' : ((pk c st).k == 1 && eqNext c st) = false := by
        cases h1 : eqNext c st with
        | false => simp
        | true =>
          have : (pk c st).k ≠ 1 := fun z => hk ⟨z, h1⟩
          simp [this]
      rw [if_neg hk, if_neg (by rw [hk']; simp)]
      obtain ⟨v2, s2, u2, t2, e2, f2, x2, g2⟩ := (Pr.start (w := w) l).part l hs hg.g
      rw [e2, f2, Option.bind_some, Option.bind_some]
      dsimp only
      obtain ⟨r6, s6, q6, t6, e6, f6, x6, g6⟩ := Pr.node (k := 23) (i := 0) (t := E0) (t2 := E0) (ks := [v2]) (ks2 := [u2]) (by omega) hx l (x2.mono (e' := 1 + 1) (p' := 1) (Nat.le_refl _) (by omega) (by omega)) (by decide) (fun h => ⟨rfl, by rw [(g2 h).1]⟩)
      rw [e6, f6]
      exact (x6.mono (w' := w + 3) (e' := 1) (by omega) (by omega) (by omega)).out g6
/-- What two lists tell, as a pair. -/
theorem OutL.pr {pre : List Int} {o1 o2 : Option (List Int × PSt)} (x : OutL c w st0 pre o1 o2) : ∃ l s l2 s2, o1 = some (l, s) ∧ o2 = some (l2, s2) ∧ Pr c w 1 1 st0 s s2 ∧ (s.code = 0 → l = pre ++ l2 ∧ l2.length ≤ s.at') ∧ (s.code ≠ 0 → l.length ≤ w ∧ l2.length ≤ w) := by
  rcases x with ⟨l, s, a, b, q1, q2, q3, q4, q5, q6⟩ | ⟨l, s, l2, s2, a, b, d, d1, d2⟩
  · exact ⟨_, s, l, s, a, b, .inl ⟨rfl, q1, q2, by omega, q4, q5⟩, fun _ => ⟨rfl, q6⟩, fun h => absurd q1 h⟩
  · exact ⟨l, s, l2, s2, a, b, .inr d, fun h => absurd h d.1, fun _ => ⟨d1, d2⟩⟩
theorem pair_table {fld1 fld2 : PI} {m1 m2 : Nat} (hx : Cx c) (hw : 9000 ≤ w) (hw2 : w ≤ 90000) (h1 : 3010 ≤ m1) (h2 : 3010 ≤ m2) (hf : Pa c w n 1 fld1 fld2) (l : LvS c n st) (hi : isP c st ⟨#[123]⟩ = true) : Out c (w + 1) 2 st (tableS c fld1 m1 (stp st)) (tableP c fld2 m2 st) := by
  have sz := l.sz hx
  obtain ⟨_, hl⟩ := isP_live hi
  have l1 := l.stp hx hl
  have LP := (list_pair (c := c) (w := w) (th := 0) (cl := ⟨#[125]⟩) (item1 := fld1) (item2 := fld2) (pre := []) hx hw (by simp [ByteArray.toList_eq]) rfl (by omega) l1 hf.live hf.d1 h1 h2).pr
  obtain ⟨l1', s1, l2', s2, e1, e2, x, g1, g2⟩ := LP
  have eA : tableS c fld1 m1 (stp st) = ((gl c 0 ⟨#[125]⟩ fld1 m1 [] (stp st)).bind fun l => (wantP c ⟨#[125]⟩ l.2).map fun q => (l.1, q)).bind fun l => nodeS 7 E0 0 l.1 l.2 := by
    unfold tableS; rw [tabLoop_gl, bindA]; simp only [mapB, bindA, Option.bind_some]
  have eB : tableP c fld2 m2 st = ((takesP c ⟨#[125]⟩ (stp st)).bind fun r => if r.1 = true then some ([], r.2) else gi c ⟨#[125]⟩ fld2 m2 [] r.2).bind fun l => nodeP 7 E0 0 l.1 l.2 := by
    unfold tableP; rw [wantP_ok hi (by omega), Option.bind_some, bindA]; simp only [tableLoop_gi]
  rw [eA, eB, e1, e2, Option.bind_some, Option.bind_some]
  dsimp only
  have x' : Pr c w (2 + 1) 1 st s1 s2 := by
    rcases x with ⟨a1, a2, a3, a4, a5, a6⟩ | d
    · have q1 : (stp st).at' = st.at' + 1 := rfl
      have q2 : (stp st).nodes = st.nodes := rfl
      rw [q1] at a4 a6; rw [q2] at a6
      exact .inl ⟨a1, a2, a3, by omega, a5, by omega⟩
    · exact .inr d
  obtain ⟨r6, s6, q6, t6, e6, f6, x6, g6⟩ := Pr.node (k := 7) (i := 0) (t := E0) (t2 := E0) (ks := l1') (ks2 := l2') (by omega) hx l x' (by decide) (fun h => ⟨rfl, by rw [(g1 h).1]; rfl⟩)
  rw [e6, f6]
  exact x6.out g6
theorem pair_fn {b1 b2 : PI} {m1 m2 : Nat} (hx : Cx c) (hw : 9000 ≤ w) (hw2 : w ≤ 90000) (h1 : 3010 ≤ m1) (h2 : 3010 ≤ m2) (hb : Pa c (w + 1) n 1 b1 b2) (hg : ∀ st : PSt, st.code ≠ 0 → st.nest = n → st.nodes.length ≤ w + 2 → ∃ v s', b2 st = some (v, s') ∧ s'.code = st.code ∧ s'.place = st.place ∧ s'.nest = n ∧ s'.at' ≤ st.at' ∧ s'.nodes.length ≤ st.nodes.length + 1) (l : LvS c n st) :
    Out c (w + 5) 2 st (fnS c b1 m1 st) (fnP c b2 m2 st) := by
  have sz := l.sz hx
  have hbM : ∀ k, 1 ≤ k → Pa c (w + k) n 1 b1 b2 := fun k hk => ⟨fun st l => (hb.live st l).mono (by omega), hb.d1⟩
  have eA : fnS c b1 m1 st = (wantP c ⟨#[40]⟩ st).bind fun s => ((gl c 0 ⟨#[41]⟩ (parItem c) m1 [] s).bind fun l => (wantP c ⟨#[41]⟩ l.2).map fun q => (l.1, q)).bind fun l => (b1 l.2).bind fun b => if l.1.length > 1000000 then none else nodeS 6 E0 0 (l.1 ++ [b.1]) b.2 := by
    unfold fnS; congr 1; funext s; rw [parLoop_gl, bindA]; simp only [mapB, bindA, Option.bind_some]
  have eB : fnP c b2 m2 st = (wantP c ⟨#[40]⟩ st).bind fun s => ((takesP c ⟨#[41]⟩ s).bind fun r => if r.1 = true then some ([], r.2) else gi c ⟨#[41]⟩ (fnItem c) m2 [] r.2).bind fun l => (b2 l.2).bind fun b => nodeP 6 E0 0 (l.1 ++ [b.1]) b.2 := by
    unfold fnP; congr 1; funext s; rw [bindA]; simp only [fnLoop_gi]
  rw [eA, eB]
  obtain ⟨s1, t1, e1, f1, x1⟩ := (Pr.start (w := w) l).want hx hw l ⟨#[40]⟩
  obtain rfl : s1 = t1 := by rw [e1] at f1; exact Option.some.inj f1
  rw [e1, Option.bind_some, Option.bind_some]
  -- the names
  have LP : ∃ l1 s2 l2 t2, ((gl c 0 ⟨#[41]⟩ (parItem c) m1 [] s1).bind fun l => (wantP c ⟨#[41]⟩ l.2).map fun q => (l.1, q)) = some (l1, s2) ∧ ((takesP c ⟨#[41]⟩ s1).bind fun r => if r.1 = true then some ([], r.2) else gi c ⟨#[41]⟩ (fnItem c) m2 [] r.2) = some (l2, t2) ∧ Pr c (w + 2) 4 2 st s2 t2 ∧ (s2.code = 0 → l1 = l2) ∧ l1.length ≤ 90010 ∧ l2.length ≤ 90010 := by
    by_cases hc : s1.code = 0
    · obtain ⟨_, ls⟩ := x1.lvs l hc
      obtain ⟨l1', s2, l2', t2, e2, f2, x2, g1, g2⟩ := (list_pair (c := c) (w := w + 1) (th := 0) (cl := ⟨#[41]⟩) (item1 := parItem c) (item2 := fnItem c) (pre := []) hx (by omega) (by simp [ByteArray.toList_eq]) rfl (by omega) ls (fun st l => pair_par hx hw l) (fun st h => par_dead h) h1 h2).pr
      refine ⟨l1', s2, l2', t2, e2, f2, ?_, fun h => by rw [(g1 h).1]; rfl, ?_, ?_⟩
      · rcases x2 with ⟨a1, a2, a3, a4, a5, a6⟩ | d
        · rcases x1 with ⟨b1', b2', b3, b4, b5, b6⟩ | d'
          · exact .inl ⟨a1, a2, by rw [a3]; exact b3, by omega, a5, by omega⟩
          · exact absurd hc d'.1
        · exact .inr (by rw [ls.2.1] at d; rw [l.2.1]; exact d.mono (by omega))
      · by_cases h : s2.code = 0
        · rw [(g1 h).1]; have := (g1 h).2
          have : s2.at' ≤ c.toks.length := by
            rcases x2 with ⟨a1, a2, a3, a4, a5, a6⟩ | d
            · exact a5
            · exact absurd h d.1
          have := hx.1; simp; omega
        · have := (g2 h).1; omega
      · by_cases h : s2.code = 0
        · have := (g1 h).2
          have : s2.at' ≤ c.toks.length := by
            rcases x2 with ⟨a1, a2, a3, a4, a5, a6⟩ | d
            · exact a5
            · exact absurd h d.1
          have := hx.1; omega
        · have := (g2 h).2; omega
    · rcases x1 with ⟨_, a2, _⟩ | d
      · exact absurd a2 hc
      · obtain ⟨m1, rfl⟩ : ∃ q, m1 = q + 1 := ⟨m1 - 1, by omega⟩
        obtain ⟨m2, rfl⟩ : ∃ q, m2 = q + 1 := ⟨m2 - 1, by omega⟩
        have dp := d.put 22 E0 0 []
        have eF : fnItem c s1 = some ((s1.nodes.length : Int), putN 22 E0 0 [] s1) := by
          unfold fnItem; rw [nameN_d d.d2, Option.bind_some]; exact nodeP_ok (Nat.le_trans d.2.2.2.2.2.2.2 (by omega))
        refine ⟨[], s1, [(s1.nodes.length : Int)], putN 22 E0 0 [] s1, ?_, ?_, .inr (dp.mono (by omega)), fun h => absurd h hc, by simp, by simp⟩
        · rw [gl_dead hc, Option.bind_some]; dsimp only; rw [wantP_d hc]; rfl
        · rw [takesP_d d.d2, Option.bind_some]; dsimp only; rw [if_neg (by simp), gi, eF, Option.bind_some]; dsimp only
          rw [takesP_d dp.d2, Option.bind_some]; dsimp only; rw [if_neg (by simp), wantP_d dp.d2]; rfl
  obtain ⟨l1', s2, l2', t2, e2, f2, x2, g2, n1', n2'⟩ := LP
  rw [e2, f2, Option.bind_some, Option.bind_some]
  dsimp only
  obtain ⟨v3, s3, u3, t3, e3, f3, x3, g3⟩ := x2.part l (hbM 2 (by omega)) hg
  rw [e3, f3, Option.bind_some, Option.bind_some]
  dsimp only
  rw [if_neg (by omega)]
  have c2 : s3.code = 0 → s2.code = 0 := fun h => by
    apply Decidable.byContradiction
    intro h2
    obtain ⟨v, hv⟩ := hb.d1 s2 h2
    rw [hv] at e3; cases e3; exact h2 h
  obtain ⟨r6, s6, q6, t6, e6, f6, x6, g6⟩ := Pr.node (k := 6) (i := 0) (t := E0) (t2 := E0) (ks := l1' ++ [v3]) (ks2 := l2' ++ [u3]) (by omega) hx l (x3.mono (e' := 2 + 1) (p' := 1) (Nat.le_refl _) (by omega) (by omega)) (by decide) (fun h => ⟨rfl, by rw [(g3 h).1, g2 (c2 h)]⟩)
  rw [e6, f6]
  exact (x6.mono (w' := w + 5) (by omega) (Nat.le_refl _) (Nat.le_refl _)).out g6
theorem pair_primary {ex whole f1 f2 t1 t2 : PI} (hx : Cx c) (hw : 9000 ≤ w) (hw2 : w ≤ 90000) (hs : Pa c w n 2 ex whole) (hg : Wd c n whole) (hf : ∀ st, LvS c n st → Out c w 2 st (f1 st) (f2 st)) (ht : ∀ st, LvS c n st → isP c st ⟨#[123]⟩ = true → Out c w 2 st (t1 (stp st)) (t2 st)) (l : LvS c n st) :
    Out c (w + 1) 2 st (primaryS c ex f1 t1 st) (primaryP c whole f2 t2 st) := by
  have sz := l.sz hx
  have leaf : ∀ (k i : Int) (t : ByteArray), k ≠ 8 → st.at' < c.toks.length → Out c (w + 1) 2 st (nodeS k t i [] (stp st)) (nodeP k t i [] (stp st)) := fun k i t h8 hl => by
    rw [nodeS_ok (st := stp st) l.1 (by show st.nodes.length ≤ _; omega), nodeP_ok (by show st.nodes.length ≤ _; omega)]
    exact .inl ⟨_, _, rfl, rfl, LvP.leaf l hl h8⟩
  unfold primaryS primaryP
  by_cases k3 : (pk c st).k = 3
  · obtain ⟨_, hl⟩ := pk_live (c := c) (st := st) (by omega)
    rw [if_pos k3, if_pos k3, adv_ok (by omega), Option.bind_some, Option.bind_some]
    exact leaf _ _ _ (by decide) hl
  rw [if_neg k3, if_neg k3]
  by_cases k4 : (pk c st).k = 4
  · obtain ⟨_, hl⟩ := pk_live (c := c) (st := st) (by omega)
    rw [if_pos k4, if_pos k4, adv_ok (by omega), Option.bind_some, Option.bind_some]
    exact leaf _ _ _ (by decide) hl
  rw [if_neg k4, if_neg k4]
  by_cases k1 : (pk c st).k = 1
  · obtain ⟨_, hl⟩ := pk_live (c := c) (st := st) (by omega)
    have eN : nameN c st = some ((pk c st).text, stp st) := by unfold nameN; rw [if_neg (by simp [k1]), adv_ok (by omega)]; rfl
    rw [if_pos k1, if_pos k1, eN, adv_ok (by omega), Option.bind_some, Option.bind_some]
    exact leaf _ _ _ (by decide) hl
  rw [if_neg k1, if_neg k1]
  cases i1 : isP c st ⟨#[110, 105, 108]⟩ with
  | true =>
    obtain ⟨_, hl⟩ := isP_live i1
    rw [if_pos rfl, adv_ok (by omega), takesP_ok i1 (by omega), Option.bind_some, Option.bind_some]
    dsimp only
    rw [if_pos rfl]; exact leaf _ _ _ (by decide) hl
  | false =>
  rw [if_neg (by simp), takesP_no i1, Option.bind_some]
  dsimp only
  cases i2 : isP c st ⟨#[116, 114, 117, 101]⟩ with
  | true =>
    obtain ⟨_, hl⟩ := isP_live i2
    rw [if_pos rfl, if_neg (c := false = true) (by simp), adv_ok (by omega), takesP_ok i2 (by omega), Option.bind_some, Option.bind_some]
    dsimp only
    rw [if_pos rfl]; exact leaf _ _ _ (by decide) hl
  | false =>
  rw [if_neg (by simp), if_neg (c := false = true) (by simp), takesP_no i2, Option.bind_some]
  dsimp only
  cases i3 : isP c st ⟨#[102, 97, 108, 115, 101]⟩ with
  | true =>
    obtain ⟨_, hl⟩ := isP_live i3
    rw [if_pos rfl, if_neg (c := false = true) (by simp), adv_ok (by omega), takesP_ok i3 (by omega), Option.bind_some, Option.bind_some]
    dsimp only
    rw [if_pos rfl]; exact leaf _ _ _ (by decide) hl
  | false =>
  rw [if_neg (by simp), if_neg (c := false = true) (by simp), takesP_no i3, Option.bind_some]
  dsimp only
  cases i4 : isP c st ⟨#[102, 110]⟩ with
  | true =>
    obtain ⟨_, hl⟩ := isP_live i4
    have no : isP c st ⟨#[40]⟩ = false := isP_ne i4 (by simp [ByteArray.toList_eq])
    rw [if_pos rfl, if_neg (c := false = true) (by simp), adv_ok (by omega), Option.bind_some, takesP_no no, Option.bind_some]
    dsimp only
    rw [if_neg (by simp), takesP_ok i4 (by omega), Option.bind_some]
    dsimp only
    rw [if_pos rfl]
    exact ((hf _ (l.stp hx hl)).shift).mono (by omega)
  | false =>
  rw [if_neg (by simp), if_neg (c := false = true) (by simp)]
  cases i5 : isP c st ⟨#[123]⟩ with
  | true =>
    obtain ⟨_, hl⟩ := isP_live i5
    have no : isP c st ⟨#[40]⟩ = false := isP_ne i5 (by simp [ByteArray.toList_eq])
    rw [if_pos rfl, adv_ok (by omega), Option.bind_some, takesP_no no, Option.bind_some]
    dsimp only
    rw [if_neg (by simp), takesP_no i4, Option.bind_some]
    dsimp only
    rw [if_neg (by simp), i5, if_pos rfl]
    exact (ht st l i5).mono (by omega)
  | false =>
  rw [if_neg (by simp)]
  cases i6 : isP c st ⟨#[40]⟩ with
  | true =>
    obtain ⟨_, hl⟩ := isP_live i6
    have x1 := ((Pr.start (w := w) l).step l hl l.1).2
    rw [if_pos rfl, adv_ok (by omega), takesP_ok i6 (by omega), Option.bind_some, Option.bind_some]
    dsimp only
    rw [if_pos rfl]
    obtain ⟨v2, s2, u2, t2', e2, f2', x2, g2⟩ := x1.part l hs hg.g
    rw [e2, f2', Option.bind_some, Option.bind_some]
    dsimp only
    obtain ⟨s3, t3, e3, f3, x3⟩ := x2.want hx (by omega) l ⟨#[41]⟩
    rw [e3, f3, Option.bind_some]
    show Out c (w + 1) 2 st (some (v2, s3)) (some (u2, t3))
    refine (x3.mono (e' := 2) (p' := 1) (Nat.le_refl _) (by omega) (by omega)).out (fun h => ?_)
    have c2 : s2.code = 0 := by
      apply Decidable.byContradiction
      intro h2
      rw [wantP_d h2] at e3; cases e3; exact h2 h
    have r3 : s3.nodes = s2.nodes := by
      unfold wantP at e3
      cases hi : isP c s2 ⟨#[41]⟩ with
      | true =>
        have ls2 := (x2.lvs l c2).2.sz hx
        rw [takesP_ok hi (by omega)] at e3; cases e3; rfl
      | false => rw [takesP_no hi] at e3; simp at e3; rw [← e3, failP_nodes]
    obtain ⟨a, b, d⟩ := g2 c2
    exact ⟨a, b, by rw [r3]; exact d.1, fun m hm => d.2 m (by rw [← r3]; exact hm)⟩
  | false =>
    rw [if_neg (by simp), takesP_no i6, Option.bind_some]
    dsimp only
    rw [if_neg (by simp), takesP_no i4, Option.bind_some]
    dsimp only
    rw [if_neg (by simp), i5, if_neg (by simp)]
    exact .inr ⟨_, _, _, _, rfl, rfl, by rw [l.2.1]; exact dd_fail hx l 2 (by decide) (by omega)⟩
end
end Go.Proofs.Ytadmoackacickaa
/- The two parsers are alike: blocks, statements. -/
set_option linter.unusedSimpArgs false
namespace Go.Proofs.Ytadmoackacickaa
open Go Go.AH

section
variable {c : PC} {w w' e p : Nat} {n : Int} {st st0 s s2 : PSt}
theorem Pr.clo (x : Pr c w e p (opn st0) s s2) : Pr c w e p st0 (clo s) (clo s2) := by
  rcases x with ⟨a1, a2, a3, a4, a5, a6⟩ | d
  · exact .inl ⟨by rw [a1], a2, by show s.nest + -1 = st0.nest; rw [a3]; show st0.nest + 1 + -1 = _; omega, a4, a5, a6⟩
  · exact .inr (DdP.clo d)
theorem blk_pair {stm1 stm2 : PI} (hx : Cx c) (hw : 9000 ≤ w) (hs : ∀ st, LvS c n st → Out c w 1 st (stm1 st) (stm2 st)) (l0 : LvS c n st0) :
    ∀ (k : Nat) (ks : List Int) (s : PSt) (m1 m2 : Nat), c.toks.length - s.at' ≤ k → k + 1 < m1 → k + 1 < m2 → s.code = 0 → s.nest = st0.nest → st0.at' + p ≤ s.at' → s.at' ≤ c.toks.length → s.nodes.length + 3 * st0.at' + e ≤ st0.nodes.length + 3 * s.at' → ks.length ≤ s.at' →
    ∃ l s' l2 s2', blkLoop c stm1 m1 ks s = some (l, s') ∧ blockLoop c stm2 m2 ks s = some (l2, s2') ∧ Pr c w e p st0 s' s2' ∧ (s'.code = 0 → l2 = l) := by
  intro k
  induction k with
  | zero =>
    intro ks s m1 m2 hk h1 h2 a1 a2 a3 a4 a5 a6
    obtain ⟨m1, rfl⟩ : ∃ q, m1 = q + 1 + 1 := ⟨m1 - 2, by omega⟩
    obtain ⟨m2, rfl⟩ : ∃ q, m2 = q + 1 + 1 := ⟨m2 - 2, by omega⟩
    have hc := hx.1
    have ends : AtEnd c s := ⟨a1, by omega⟩
    have ls : LvS c n s := ⟨a1, by rw [a2]; exact l0.2.1, a4, by have := l0.2.2.2; omega⟩
    rw [blkLoop, blockLoop, if_pos ⟨a1, isP_e ends _⟩, if_pos ⟨a1, isP_e ends _⟩]
    rcases hs s ls with ⟨v, q, e1, e2, q1, q2, q3, q4, q5⟩ | ⟨v, q, v2, q2, e1, e2, d⟩
    · omega
    · rw [e1, e2, Option.bind_some, Option.bind_some]
      dsimp only
      rw [if_neg (by omega), blkLoop, if_neg (fun z => d.1 z.1), blockLoop, if_neg (fun z => d.d2 z.1)]
      exact ⟨_, _, _, _, rfl, rfl, .inr (by rw [ls.2.1] at d; rw [l0.2.1]; exact d), fun h => absurd h d.1⟩
  | succ k ih =>
    intro ks s m1 m2 hk h1 h2 a1 a2 a3 a4 a5 a6
    obtain ⟨m1, rfl⟩ : ∃ q, m1 = q + 1 + 1 := ⟨m1 - 2, by omega⟩
    obtain ⟨m2, rfl⟩ : ∃ q, m2 = q + 1 + 1 := ⟨m2 - 2, by omega⟩
    have hc := hx.1
    have ls : LvS c n s := ⟨a1, by rw [a2]; exact l0.2.1, a4, by have := l0.2.2.2; omega⟩
    rw [blkLoop, blockLoop]
    by_cases hi : isP c s ⟨#[125]⟩ = false
    · rw [if_pos ⟨a1, hi⟩, if_pos ⟨a1, hi⟩]
      rcases hs s ls with ⟨v, q, e1, e2, q1, q2, q3, q4, q5, q6⟩ | ⟨v, q, v2, q2, e1, e2, d⟩
      · rw [e1, e2, Option.bind_some, Option.bind_some]
        dsimp only
        rw [if_neg (by omega)]
        exact ih (ks ++ [v]) q (m1 + 1) (m2 + 1) (by omega) (by omega) (by omega) q1 (by rw [q2]; exact a2) (by omega) q4 (by omega) (by simp; omega)
      · rw [e1, e2, Option.bind_some, Option.bind_some]
        dsimp only
        rw [if_neg (by omega), blkLoop, if_neg (fun z => d.1 z.1), blockLoop, if_neg (fun z => d.d2 z.1)]
        exact ⟨_, _, _, _, rfl, rfl, .inr (by rw [ls.2.1] at d; rw [l0.2.1]; exact d), fun h => absurd h d.1⟩
    · rw [if_neg (fun z => hi z.2), if_neg (fun z => hi z.2)]
      exact ⟨_, _, _, _, rfl, rfl, .inl ⟨rfl, a1, a2, a3, a4, a5⟩, fun _ => rfl⟩
theorem pair_block {stm1 stm2 : PI} {m1 m2 : Nat} (hx : Cx c) (hw : 9000 ≤ w) (hw2 : w ≤ 90000) (h0 : 0 ≤ n) (h1 : n ≤ 30) (hm1 : 3010 ≤ m1) (hm2 : 3010 ≤ m2) (hs : n < 30 → ∀ st, LvS c (n + 1) st → Out c w 1 st (stm1 st) (stm2 st)) (l : LvS c n st) :
    Out c (w + 1) 1 st (blockS c stm1 m1 st) (blockP c stm2 m2 st) := by
  have sz := l.sz hx
  unfold blockS blockP
  rw [openS_at hx l h0 h1, openP_at hx l h0 h1]
  -- a fault before all
  have bad : ∀ k : Int, k ≠ 0 → ∀ o : PSt, wantP c ⟨#[123]⟩ o = some (opn (failP c st k)) → Out c (w + 1) 1 st (some (-1, failP c st k)) ((wantP c ⟨#[123]⟩ o).bind fun s2 => (blockLoop c stm2 m2 [] s2).bind fun l => (wantP c ⟨#[125]⟩ l.2).bind fun s3 => (nestTo (-1) s3).bind fun s4 => nodeP 21 E0 0 l.1 s4) := fun k hk o ho => by
    obtain ⟨m2, rfl⟩ : ∃ q, m2 = q + 1 := ⟨m2 - 1, by omega⟩
    have dF := failP_code (c := c) (st := st) k hk
    have dO : (opn (failP c st k)).code ≠ 0 := dF
    have nn : (opn (failP c st k)).nest = n + 1 := by show (failP c st k).nest + 1 = n + 1; rw [failP_nest, l.2.1]
    have dd := dd_fail (c := c) (w := w) hx l k hk hw
    rw [ho, Option.bind_some, blockLoop, if_neg (fun z => dO z.1), Option.bind_some]
    dsimp only
    rw [wantP_d dO, Option.bind_some, clo_ok (by rw [nn]; omega) (by rw [nn]; omega), Option.bind_some, clo_opn, nodeP_ok (by rw [failP_nodes]; omega)]
    exact .inr ⟨_, _, _, _, rfl, rfl, by rw [l.2.1]; exact dd.put 21 E0 0 []⟩
  by_cases ha : st.at' ≥ c.toks.length
  · rw [if_pos ha, if_pos ha, Option.bind_some, Option.bind_some]
    have ends : AtEnd c (opn st) := ⟨l.1, ha⟩
    exact bad 2 (by decide) (opn st) (by rw [wantP_no (isP_e ends _), failP_opn])
  rw [if_neg ha, if_neg ha]
  by_cases hn : n = 30
  · rw [if_pos hn, if_pos hn, Option.bind_some, Option.bind_some]
    have d3 : (opn (failP c st 3)).code ≠ 0 := failP_code (c := c) (st := st) 3 (by decide)
    exact bad 3 (by decide) (opn (failP c st 3)) (wantP_d d3 _)
  rw [if_neg hn, if_neg hn, Option.bind_some, Option.bind_some]
  dsimp only [cond_true]
  have lo := l.opn
  obtain ⟨s1, t1, e1, f1, x1⟩ := (Pr.start (w := w) lo).want hx hw lo ⟨#[123]⟩
  obtain rfl : s1 = t1 := by rw [e1] at f1; exact Option.some.inj f1
  rw [e1, Option.bind_some, Option.bind_some]
  have LP : ∃ l1 s2 l2 t2, blkLoop c stm1 m1 [] s1 = some (l1, s2) ∧ blockLoop c stm2 m2 [] s1 = some (l2, t2) ∧ Pr c w 3 1 (opn st) s2 t2 ∧ (s2.code = 0 → l2 = l1) := by
    rcases x1 with ⟨a1, a2, a3, a4, a5, a6⟩ | d
    · exact blk_pair (e := 3) (p := 1) hx hw (hs (by omega)) lo (c.toks.length - s1.at') [] s1 m1 m2 (Nat.le_refl _) (by have := hx.1; omega) (by have := hx.1; omega) a2 a3 (by omega) a5 (by omega) (by simp)
    · obtain ⟨m1, rfl⟩ : ∃ q, m1 = q + 1 := ⟨m1 - 1, by omega⟩
      obtain ⟨m2, rfl⟩ : ∃ q, m2 = q + 1 := ⟨m2 - 1, by omega⟩
      exact ⟨[], s1, [], s1, by rw [blkLoop, if_neg (fun z => d.1 z.1)], by rw [blockLoop, if_neg (fun z => d.1 z.1)], .inr d, fun _ => rfl⟩
  obtain ⟨l1, s2, l2, t2, e2, f2, x2, g2⟩ := LP
  rw [e2, f2, Option.bind_some, Option.bind_some]
  dsimp only
  obtain ⟨s3, t3, e3, f3, x3⟩ := x2.want hx hw lo ⟨#[125]⟩
  rw [e3, f3, Option.bind_some, Option.bind_some]
  have n3 : s3.nest = n + 1 ∧ t3.nest = n + 1 := by
    rcases x3 with ⟨a1, a2, a3, _⟩ | d
    · rw [a1, a3]; exact ⟨lo.2.1, lo.2.1⟩
    · rw [d.2.1, d.2.2.2.2.2.1]; exact ⟨lo.2.1, lo.2.1⟩
  rw [clo_ok (by omega) (by omega), clo_ok (by omega) (by omega), Option.bind_some, Option.bind_some]
  have x4 := x3.clo
  have c2 : (clo s3).code = 0 → s2.code = 0 := fun h => by
    apply Decidable.byContradiction
    intro h2
    rw [wantP_d h2] at e3; cases e3; exact h2 h
  obtain ⟨r6, s6, q6, t6, e6, f6, x6, g6⟩ := Pr.node (k := 21) (i := 0) (t := E0) (t2 := E0) (ks := l1) (ks2 := l2) (by omega) hx l (x4.mono (e' := 1 + 1) (p' := 1) (Nat.le_refl _) (by omega) (by omega)) (by decide) (fun h => ⟨rfl, g2 (c2 h)⟩)
  rw [e6, f6]
  exact x6.out g6
/-- Behind a cut. -/
theorem Pr.cut (hx : Cx c) (l0 : LvS c n st0) (x : Pr c w e p st0 s s) (h : s.code = 0) {v : Int} (hv : 0 ≤ v ∧ v < s.nodes.length) : ∃ s', cutP v s = some s' ∧ Pr c w e p st0 s' s' ∧ s'.code = 0 := by
  unfold cutP
  rw [if_pos (by omega)]
  refine ⟨_, rfl, ?_, h⟩
  rcases x with ⟨a1, a2, a3, a4, a5, a6⟩ | d
  · exact .inl ⟨rfl, a2, a3, a4, a5, by show (s.nodes.take v.toNat).length + 3 * st0.at' + e ≤ _; rw [List.length_take]; show min _ _ + _ + _ ≤ st0.nodes.length + 3 * s.at'; omega⟩
  · exact absurd h d.1
theorem pair_assign {ex whole : PI} (hx : Cx c) (hw : 9000 ≤ w) (hw2 : w ≤ 90000) (hs : Pa c w n 2 ex whole) (hg : Wd c n whole) (l : LvS c n st) : Out c (w + 3) 1 st (assignS c ex st) (begunP c whole st) := by
  have hsM : ∀ k, Pa c (w + k) n 2 ex whole := fun k => ⟨fun st l => (hs.live st l).mono (by omega), hs.d1⟩
  unfold assignS begunP
  obtain ⟨v, s, v2, s2, e1, f1, x1, g1⟩ := (Pr.start (w := w) l).part l hs hg.g
  rw [e1, f1, Option.bind_some, Option.bind_some]
  dsimp only
  by_cases hc : s.code = 0
  · obtain ⟨rfl, ls⟩ := x1.lvs l hc
    obtain ⟨rfl, v0, vl, ix⟩ := g1 hc
    have sz := ls.sz hx
    rw [if_pos hc, if_neg (by simp [hc])]
    have hlt : v2.toNat < s2.nodes.length := by omega
    have fail : Out c (w + 3) 1 st (some (-1, failP c s2 2)) (some (0, failP c s2 2)) := .inr ⟨_, _, _, _, rfl, rfl, by rw [l.2.1]; exact dd_fail hx ls 2 (by decide) (by omega)⟩
    rw [List.getElem?_eq_getElem hlt]
    have hix := ix s2.nodes[v2.toNat] (List.getElem?_eq_getElem hlt)
    generalize s2.nodes[v2.toNat] = nd at hix
    dsimp only
    rw [if_neg (c := v2 < 0) (by omega), if_neg (c := v2 < 0) (by omega)]
    -- the rest of a putting statement
    have rest : ∀ (k : Int) (t : ByteArray) (pre : List Int), k ≠ 8 → isP c s2 ⟨#[61]⟩ = true → Out c (w + 3) 1 st ((adv 1 s2).bind fun s => (cutP v2 s).bind fun s => (ex s).bind fun v => (wantP c ⟨#[59]⟩ v.2).bind fun s => nodeS k t 0 (pre ++ [v.1]) s)
        ((cutP v2 (stp s2)).bind fun s => (whole s).bind fun x => (wantP c ⟨#[59]⟩ x.2).bind fun s => nodeP k t 0 (pre ++ [x.1]) s) := fun k t pre h8 hi => by
      obtain ⟨_, hl⟩ := isP_live hi
      have x2 := (x1.step l hl hc).2
      obtain ⟨s3, e3, x3, c3⟩ := x2.cut hx l (v := v2) hc ⟨v0, vl⟩
      rw [adv_ok (by omega), Option.bind_some, e3, Option.bind_some, Option.bind_some]
      obtain ⟨v4, s4, u4, t4, e4, f4, x4, g4⟩ := x3.part l (hsM 1) hg.g
      rw [e4, f4, Option.bind_some, Option.bind_some]
      dsimp only
      obtain ⟨s5, t5, e5, f5, x5⟩ := x4.want hx (by omega) l ⟨#[59]⟩
      rw [e5, f5, Option.bind_some, Option.bind_some]
      have c4 : s5.code = 0 → s4.code = 0 := fun h => by
        apply Decidable.byContradiction
        intro h2
        rw [wantP_d h2] at e5; cases e5; exact h2 h
      obtain ⟨r6, s6, q6, t6, e6, f6, x6, g6⟩ := Pr.node (k := k) (i := 0) (t := t) (t2 := t) (ks := pre ++ [v4]) (ks2 := pre ++ [u4]) (by omega) hx l (x5.mono (e' := 1 + 1) (p' := 1) (Nat.le_refl _) (by omega) (by omega)) h8 (fun h => ⟨rfl, by rw [(g4 (c4 h)).1]⟩)
      rw [e6, f6]
      exact (x6.mono (w' := w + 3) (e' := 1) (by omega) (by omega) (by omega)).out g6
    by_cases k9 : nd.k = 9
    · have n5 : nd.k ≠ 5 := by omega
      have n8 : nd.k ≠ 8 := by omega
      rw [if_pos (c := nd.k = 9) k9]
      cases i1 : isP c s2 ⟨#[59]⟩ with
      | true =>
        obtain ⟨_, hl⟩ := isP_live i1
        rw [if_pos ⟨rfl, k9⟩, adv_ok (by omega), Option.bind_some, takesP_ok i1 (by omega), Option.bind_some]
        dsimp only
        rw [if_pos rfl]
        have x2 := (x1.step l hl hc).2
        obtain ⟨r6, s6, q6, t6, e6, f6, x6, g6⟩ := Pr.node (k := 20) (i := 0) (t := E0) (t2 := E0) (ks := [v2]) (ks2 := [v2]) (by omega) hx l (x2.mono (e' := 1 + 1) (p' := 1) (Nat.le_refl _) (by omega) (by omega)) (by decide) (fun h => ⟨rfl, rfl⟩)
        rw [e6, f6]
        exact (x6.mono (w' := w + 3) (e' := 1) (by omega) (by omega) (by omega)).out g6
      | false =>
        rw [if_neg (fun z => by cases z.1), if_neg (fun z => n5 z.2), if_neg (fun z => n8 z.2), takesP_no i1, Option.bind_some]
        dsimp only
        rw [if_neg (by simp), if_neg n5, Option.bind_some]
        dsimp only
        rw [if_neg (by simp), if_neg n8, Option.bind_some]
        dsimp only
        rw [if_neg (by simp)]
        exact fail
    · rw [if_neg (fun z => k9 z.2), if_neg (c := nd.k = 9) k9, Option.bind_some]
      dsimp only
      rw [if_neg (c := false = true) (by simp)]
      by_cases k5 : nd.k = 5
      · have n8 : nd.k ≠ 8 := by omega
        rw [if_pos (c := nd.k = 5) k5]
        cases i1 : isP c s2 ⟨#[61]⟩ with
        | true =>
          obtain ⟨_, hl⟩ := isP_live i1
          rw [if_pos ⟨rfl, k5⟩, takesP_ok i1 (by omega), Option.bind_some]
          dsimp only
          rw [if_pos rfl]
          exact rest 15 nd.t [] (by decide) i1
        | false =>
          rw [if_neg (fun z => by cases z.1), if_neg (fun z => by cases z.1), takesP_no i1, Option.bind_some]
          dsimp only
          rw [if_neg (by simp), if_neg n8, Option.bind_some]
          dsimp only
          rw [if_neg (by simp)]
          exact fail
      · rw [if_neg (fun z => k5 z.2), if_neg (c := nd.k = 5) k5, Option.bind_some]
        dsimp only
        rw [if_neg (c := false = true) (by simp)]
        by_cases k8 : nd.k = 8
        · obtain ⟨a, b, hab⟩ := hix k8
          rw [if_pos (c := nd.k = 8) k8]
          cases i1 : isP c s2 ⟨#[61]⟩ with
          | true =>
            obtain ⟨_, hl⟩ := isP_live i1
            rw [if_pos ⟨rfl, k8⟩, takesP_ok i1 (by omega), Option.bind_some]
            dsimp only
            rw [if_pos rfl, hab]
            exact rest 16 E0 [a, b] (by decide) i1
          | false =>
            rw [if_neg (fun z => by cases z.1), takesP_no i1, Option.bind_some]
            dsimp only
            rw [if_neg (by simp)]
            exact fail
        · rw [if_neg (fun z => k8 z.2), if_neg (c := nd.k = 8) k8, Option.bind_some]
          dsimp only
          rw [if_neg (c := false = true) (by simp)]
          exact fail
  · rcases x1 with ⟨_, a2, _⟩ | d
    · exact absurd a2 hc
    · rw [if_neg hc, if_pos d.d2]
      exact .inr ⟨_, _, _, _, rfl, rfl, d.mono (by omega)⟩
/-- Blocks: what they do behind a fault. -/
def Bd (c : PC) (n : Int) (m : PI) : Prop := ∀ st : PSt, st.code ≠ 0 → st.nest = n → st.nodes.length ≤ 100000 → ∃ v, m st = some (v, putN 21 E0 0 [] st)
theorem Bd.g {m : PI} (h : Bd c n m) (hw : w ≤ 100000) : ∀ st : PSt, st.code ≠ 0 → st.nest = n → st.nodes.length ≤ w → ∃ v s', m st = some (v, s') ∧ s'.code = st.code ∧ s'.place = st.place ∧ s'.nest = n ∧ s'.at' ≤ st.at' ∧ s'.nodes.length ≤ st.nodes.length + 1 :=
  fun st a b d => let ⟨v, e⟩ := h st a b (by omega); ⟨v, putN 21 E0 0 [] st, e, rfl, rfl, b, Nat.le_refl _, by show (st.nodes ++ [_]).length ≤ _; simp⟩
theorem pair_stmt {ex whole b1 b2 a1 a2 : PI} (hx : Cx c) (hw : 9000 ≤ w) (hw2 : w ≤ 90000) (hs : Pa c w n 2 ex whole) (hg : Wd c n whole) (hb : Pa c w n 1 b1 b2) (hbd : Bd c n b2) (ha : ∀ st, LvS c n st → Out c w 1 st (a1 st) (a2 st)) (l : LvS c n st) :
    Out c (w + 5) 1 st (stmtS c ex b1 a1 st) (stmtP c whole b2 a2 st) := by
  have sz := l.sz hx
  have hsM : ∀ k, Pa c (w + k) n 2 ex whole := fun k => ⟨fun st l => (hs.live st l).mono (by omega), hs.d1⟩
  have hbM : ∀ k, Pa c (w + k) n 1 b1 b2 := fun k => ⟨fun st l => (hb.live st l).mono (by omega), hb.d1⟩
  have wd : ∀ {s s' : PSt} {t : ByteArray}, wantP c t s = some s' → s'.code = 0 → s.code = 0 := fun {s s' t} e h => by
    apply Decidable.byContradiction
    intro h2
    rw [wantP_d h2] at e; cases e; exact h2 h
  have bd1 : ∀ {s s' : PSt} {v : Int}, b1 s = some (v, s') → s'.code = 0 → s.code = 0 := fun {s s' v} e h => by
    apply Decidable.byContradiction
    intro h2
    obtain ⟨u, hu⟩ := hb.d1 s h2
    rw [hu] at e; cases e; exact h2 h
  have ed1 : ∀ {s s' : PSt} {v : Int}, ex s = some (v, s') → s'.code = 0 → s.code = 0 := fun {s s' v} e h => by
    apply Decidable.byContradiction
    intro h2
    obtain ⟨u, hu⟩ := hs.d1 s h2
    rw [hu] at e; cases e; exact h2 h
  unfold stmtS stmtP
  cases i1 : isP c st ⟨#[108, 111, 99, 97, 108]⟩ with
  | true =>
    obtain ⟨_, hl⟩ := isP_live i1
    have x1 := ((Pr.start (w := w) l).step l hl l.1).2
    rw [if_pos rfl, adv_ok (by omega), Option.bind_some, takesP_ok i1 (by omega), Option.bind_some]
    dsimp only
    rw [if_pos rfl]
    obtain ⟨t2, s2, u2, q2, e2, f2, x2, g2⟩ := x1.name hx hw l
    have tu : t2 = u2 ∧ s2 = q2 := by rw [e2] at f2; cases f2; exact ⟨rfl, rfl⟩
    obtain ⟨rfl, rfl⟩ := tu
    rw [e2, Option.bind_some, Option.bind_some]
    dsimp only
    obtain ⟨s3, t3, e3, f3, x3⟩ := x2.want hx hw l ⟨#[61]⟩
    have tu : s3 = t3 := by rw [e3] at f3; exact Option.some.inj f3
    subst tu
    rw [e3, Option.bind_some, Option.bind_some]
    obtain ⟨v4, s4, u4, t4, e4, f4, x4, g4⟩ := x3.part l hs hg.g
    rw [e4, f4, Option.bind_some, Option.bind_some]
    dsimp only
    obtain ⟨s5, t5, e5, f5, x5⟩ := x4.want hx (by omega) l ⟨#[59]⟩
    rw [e5, f5, Option.bind_some, Option.bind_some]
    obtain ⟨r6, s6, q6, t6, e6, f6, x6, g6⟩ := Pr.node (k := 14) (i := 0) (t := t2) (t2 := t2) (ks := [v4]) (ks2 := [u4]) (by omega) hx l (x5.mono (e' := 1 + 1) (p' := 1) (Nat.le_refl _) (by omega) (by omega)) (by decide) (fun h => ⟨rfl, by rw [(g4 (wd e5 h)).1]⟩)
    rw [e6, f6]
    exact (x6.mono (w' := w + 5) (e' := 1) (by omega) (by omega) (by omega)).out g6
  | false =>
  rw [if_neg (by simp), takesP_no i1, Option.bind_some]
  dsimp only
  cases i2 : isP c st ⟨#[105, 102]⟩ with
  | true =>
    obtain ⟨_, hl⟩ := isP_live i2
    have no1 : isP c st ⟨#[114, 101, 116, 117, 114, 110]⟩ = false := isP_ne i2 (by simp [ByteArray.toList_eq])
    have no2 : isP c st ⟨#[119, 104, 105, 108, 101]⟩ = false := isP_ne i2 (by simp [ByteArray.toList_eq])
    have x1 := ((Pr.start (w := w) l).step l hl l.1).2
    rw [if_pos rfl, if_neg (c := false = true) (by simp), adv_ok (by omega), Option.bind_some, takesP_no no1, Option.bind_some]
    dsimp only
    rw [if_neg (by simp), takesP_no no2, Option.bind_some]
    dsimp only
    rw [if_neg (by simp), takesP_ok i2 (by omega), Option.bind_some]
    dsimp only
    rw [if_pos rfl]
    obtain ⟨v2, s2, u2, t2, e2, f2, x2, g2⟩ := x1.part l hs hg.g
    rw [e2, f2, Option.bind_some, Option.bind_some]
    dsimp only
    obtain ⟨v3, s3, u3, t3, e3, f3, x3, g3⟩ := x2.part l (hbM 1) (hbd.g (by omega))
    rw [e3, f3, Option.bind_some, Option.bind_some]
    dsimp only
    have hi := x3.is ⟨#[101, 108, 115, 101]⟩
    cases i3 : isP c s3 ⟨#[101, 108, 115, 101]⟩ with
    | true =>
      rw [i3] at hi
      obtain ⟨hc3, hl3⟩ := isP_live i3
      have q := x3.lvs l hc3
      obtain ⟨rfl, ls3⟩ := q
      have sz3 := ls3.sz hx
      have x4 := (x3.step l hl3 hc3).2
      rw [if_pos rfl, adv_ok (by omega), Option.bind_some, takesP_ok hi (by omega), Option.bind_some]
      dsimp only
      rw [if_pos rfl]
      obtain ⟨v5, s5, u5, t5, e5, f5, x5, g5⟩ := x4.part l (hbM 2) (hbd.g (by omega))
      rw [e5, f5, Option.bind_some, Option.bind_some]
      dsimp only
      obtain ⟨r6, s6, q6, t6, e6, f6, x6, g6⟩ := Pr.node (k := 17) (i := 0) (t := E0) (t2 := E0) (ks := [v2, v3, v5]) (ks2 := [u2, u3, u5]) (by omega) hx l (x5.mono (e' := 1 + 1) (p' := 1) (Nat.le_refl _) (by omega) (by omega)) (by decide) (fun h => ⟨rfl, by rw [(g5 h).1, (g3 hc3).1, (g2 (bd1 e3 hc3)).1]⟩)
      rw [e6, f6]
      exact (x6.mono (w' := w + 5) (e' := 1) (by omega) (by omega) (by omega)).out g6
    | false =>
      rw [i3] at hi
      rw [if_neg (by simp), takesP_no hi, Option.bind_some]
      dsimp only
      rw [if_neg (by simp)]
      obtain ⟨r6, s6, q6, t6, e6, f6, x6, g6⟩ := Pr.node (k := 17) (i := 0) (t := E0) (t2 := E0) (ks := [v2, v3]) (ks2 := [u2, u3]) (by omega) hx l (x3.mono (e' := 1 + 1) (p' := 1) (Nat.le_refl _) (by omega) (by omega)) (by decide) (fun h => ⟨rfl, by rw [(g3 h).1, (g2 (bd1 e3 h)).1]⟩)
      rw [e6, f6]
      exact (x6.mono (w' := w + 5) (e' := 1) (by omega) (by omega) (by omega)).out g6
  | false =>
  rw [if_neg (by simp), if_neg (c := false = true) (by simp)]
  cases i3 : isP c st ⟨#[119, 104, 105, 108, 101]⟩ with
  | true =>
    obtain ⟨_, hl⟩ := isP_live i3
    have no1 : isP c st ⟨#[114, 101, 116, 117, 114, 110]⟩ = false := isP_ne i3 (by simp [ByteArray.toList_eq])
    have x1 := ((Pr.start (w := w) l).step l hl l.1).2
    rw [if_pos rfl, adv_ok (by omega), Option.bind_some, takesP_no no1, Option.bind_some]
    dsimp only
    rw [if_neg (by simp), takesP_ok i3 (by omega), Option.bind_some]
    dsimp only
    rw [if_pos rfl]
    obtain ⟨v2, s2, u2, t2, e2, f2, x2, g2⟩ := x1.part l hs hg.g
    rw [e2, f2, Option.bind_some, Option.bind_some]
    dsimp only
    obtain ⟨v3, s3, u3, t3, e3, f3, x3, g3⟩ := x2.part l (hbM 1) (hbd.g (by omega))
    rw [e3, f3, Option.bind_some, Option.bind_some]
    dsimp only
    obtain ⟨r6, s6, q6, t6, e6, f6, x6, g6⟩ := Pr.node (k := 18) (i := 0) (t := E0) (t2 := E0) (ks := [v2, v3]) (ks2 := [u2, u3]) (by omega) hx l (x3.mono (e' := 1 + 1) (p' := 1) (Nat.le_refl _) (by omega) (by omega)) (by decide) (fun h => ⟨rfl, by rw [(g3 h).1, (g2 (bd1 e3 h)).1]⟩)
    rw [e6, f6]
    exact (x6.mono (w' := w + 5) (e' := 1) (by omega) (by omega) (by omega)).out g6
  | false =>
  rw [if_neg (by simp)]
  cases i4 : isP c st ⟨#[114, 101, 116, 117, 114, 110]⟩ with
  | true =>
    obtain ⟨_, hl⟩ := isP_live i4
    have x1 := ((Pr.start (w := w) l).step l hl l.1).2
    rw [if_pos rfl, adv_ok (by omega), Option.bind_some, takesP_ok i4 (by omega), Option.bind_some]
    dsimp only
    rw [if_pos rfl]
    obtain ⟨v2, s2, u2, t2, e2, f2, x2, g2⟩ := x1.part l hs hg.g
    rw [e2, f2, Option.bind_some, Option.bind_some]
    dsimp only
    obtain ⟨s5, t5, e5, f5, x5⟩ := x2.want hx (by omega) l ⟨#[59]⟩
    rw [e5, f5, Option.bind_some, Option.bind_some]
    obtain ⟨r6, s6, q6, t6, e6, f6, x6, g6⟩ := Pr.node (k := 19) (i := 0) (t := E0) (t2 := E0) (ks := [v2]) (ks2 := [u2]) (by omega) hx l (x5.mono (e' := 1 + 1) (p' := 1) (Nat.le_refl _) (by omega) (by omega)) (by decide) (fun h => ⟨rfl, by rw [(g2 (wd e5 h)).1]⟩)
    rw [e6, f6]
    exact (x6.mono (w' := w + 5) (e' := 1) (by omega) (by omega) (by omega)).out g6
  | false =>
    rw [if_neg (by simp), takesP_no i4, Option.bind_some]
    dsimp only
    rw [if_neg (by simp), takesP_no i3, Option.bind_some]
    dsimp only
    rw [if_neg (by simp), takesP_no i2, Option.bind_some]
    dsimp only
    rw [if_neg (by simp)]
    exact (ha st l).mono (by omega)
end
end Go.Proofs.Ytadmoackacickaa
/- The two parsers are alike: all of them. -/
set_option linter.unusedSimpArgs false
namespace Go.Proofs.Ytadmoackacickaa
open Go Go.AH

/-- All that is read at a depth. -/
structure HN (c : PC) (n : Int) (w F : Nat) : Prop where
  lev : ∀ D D', F ≤ D → F ≤ D' → D' ≤ 2000000 → ∀ st, LvS c n st → Out c w 2 st (sp c D 1761 st) (un (parse c D' 158) st)
  trn : ∀ D D', F ≤ D → F ≤ D' → D' ≤ 2000000 → ∀ st, LvS c n st → Out c w 2 st (sp c D 197 st) (un (parse c D' 241) st)
  stm : ∀ D D', F ≤ D → F ≤ D' → D' ≤ 2000000 → ∀ st, LvS c n st → Out c w 1 st (sp c D 82 st) (un (parse c D' 63) st)
section
variable {c : PC}
theorem sp_dead_137 {D : Nat} (h : 31 ≤ D) {st : PSt} (d : st.code ≠ 0) : ∃ v, sp c D 137 st = some (v, st) := by
  obtain ⟨D, rfl⟩ : ∃ d, D = d + 1 := ⟨D - 1, by omega⟩
  exact ⟨-1, by rw [sp_137 (by omega)]; unfold exprS; rw [openS_d d]; rfl⟩
theorem sp_dead_138 {D : Nat} (h : 31 ≤ D) {st : PSt} (d : st.code ≠ 0) : ∃ v, sp c D 138 st = some (v, st) := by
  obtain ⟨D, rfl⟩ : ∃ d, D = d + 1 := ⟨D - 1, by omega⟩
  exact ⟨-1, by rw [sp_138 (by omega)]; unfold blockS; rw [openS_d d]; rfl⟩
theorem sp_dead_239 {D : Nat} (h : 40 ≤ D) {st : PSt} (d : st.code ≠ 0) : ∃ v, sp c D 239 st = some (v, st) := by
  obtain ⟨D, rfl⟩ : ∃ d, D = d + 1 := ⟨D - 1, by omega⟩
  obtain ⟨v, hv⟩ := sp_dead_137 (c := c) (D := D) (by omega) d
  exact ⟨-1, by rw [sp_239 (by omega)]; unfold fieldS; rw [isP_d d, if_neg (by simp), if_neg (fun z => by rw [pk_dead d] at z; exact absurd z.1 (by decide)), if_neg (fun z => by rw [pk_dead d] at z; exact absurd z.1 (by decide)), hv, Option.bind_some, nodeS_d d]⟩
theorem hn_step {n : Int} {w F : Nat} (hx : Cx c) (hw : 9000 ≤ w) (hw2 : w ≤ 80000) (h0 : 0 ≤ n) (h1 : n ≤ 30) (hF : 3200 ≤ F) (H : n < 30 → HN c (n + 1) w F) : HN c n (w + 15) (F + 40) := by
  have E : ∀ k D D', F + 1 ≤ D → F + 1 ≤ D' → D' ≤ 2000000 → Pa c (w + k) n 2 (sp c D 137) (un (parse c D' 110)) := fun k D D' a b e => by
    refine ⟨fun st l => ?_, fun st d => sp_dead_137 (by omega) d⟩
    obtain ⟨D, rfl⟩ : ∃ d, D = d + 1 := ⟨D - 1, by omega⟩
    obtain ⟨D', rfl⟩ : ∃ d, D' = d + 1 := ⟨D' - 1, by omega⟩
    rw [sp_137 (by omega), un_eq (parse_110 c (by omega) _), un_ret]
    exact (pair_expr hx hw h0 h1 (parse_gone D' (by omega) (by omega)).1 (fun hn st l => (H hn).lev D D' (by omega) (by omega) (by omega) st l) l).mono (by omega)
  have EW : ∀ D', 100 ≤ D' → D' ≤ 2000000 → Wd c n (un (parse c D' 110)) := fun D' b e st d hn => by
    rw [whole_gone (by omega) e (.inl d) (by omega) (by omega), failP_d d]
  have B : ∀ k D D', F + 1 ≤ D → F + 1 ≤ D' → D' ≤ 2000000 → Pa c (w + 1 + k) n 1 (sp c D 138) (un (parse c D' 111)) := fun k D D' a b e => by
    refine ⟨fun st l => ?_, fun st d => sp_dead_138 (by omega) d⟩
    obtain ⟨D, rfl⟩ : ∃ d, D = d + 1 := ⟨D - 1, by omega⟩
    obtain ⟨D', rfl⟩ : ∃ d, D' = d + 1 := ⟨D' - 1, by omega⟩
    rw [sp_138 (by omega), un_eq (parse_111 c (by omega) _), un_ret]
    exact (pair_block hx hw (by omega) h0 h1 (by omega) (by omega) (fun hn st l => (H hn).stm D D' (by omega) (by omega) (by omega) st l) l).mono (by omega)
  have BW : ∀ D', 100 ≤ D' → D' ≤ 2000000 → Bd c n (un (parse c D' 111)) := fun D' b e st d hn hl => block_dead (by omega) e d (by omega) (by omega) hl
  have Fi : ∀ D D', F + 2 ≤ D → F + 2 ≤ D' → D' ≤ 2000000 → Pa c (w + 3) n 1 (sp c D 239) (un (parse c D' 247)) := fun D D' a b e => by
    refine ⟨fun st l => ?_, fun st d => sp_dead_239 (by omega) d⟩
    obtain ⟨D, rfl⟩ : ∃ d, D = d + 1 := ⟨D - 1, by omega⟩
    obtain ⟨D', rfl⟩ : ∃ d, D' = d + 1 := ⟨D' - 1, by omega⟩
    rw [sp_239 (by omega), un_eq (parse_247 c (by omega) _), un_ret]
    exact pair_field hx hw (by omega) (E 0 D D' (by omega) (by omega) (by omega)) (EW D' (by omega) (by omega)) l
  have T : ∀ D D', F + 3 ≤ D → F + 3 ≤ D' → D' ≤ 2000000 → ∀ st, LvS c n st → isP c st ⟨#[123]⟩ = true → Out c (w + 5) 2 st (sp c D 234 (stp st)) (un (parse c D' 246) st) := fun D D' a b e st l hi => by
    obtain ⟨D, rfl⟩ : ∃ d, D = d + 1 := ⟨D - 1, by omega⟩
    obtain ⟨D', rfl⟩ : ∃ d, D' = d + 1 := ⟨D' - 1, by omega⟩
    rw [sp_234 (by omega), un_eq (parse_246 c (by omega) _), un_ret]
    exact (pair_table (w := w + 3) hx (by omega) (by omega) (by omega) (by omega) (Fi D D' (by omega) (by omega) (by omega)) l hi).mono (by omega)
  have Fn : ∀ D D', F + 3 ≤ D → F + 3 ≤ D' → D' ≤ 2000000 → ∀ st, LvS c n st → Out c (w + 5) 2 st (sp c D 233 st) (un (parse c D' 245) st) := fun D D' a b e st l => by
    obtain ⟨D, rfl⟩ : ∃ d, D = d + 1 := ⟨D - 1, by omega⟩
    obtain ⟨D', rfl⟩ : ∃ d, D' = d + 1 := ⟨D' - 1, by omega⟩
    rw [sp_233 (by omega), un_eq (parse_245 c (by omega) _), un_ret]
    exact pair_fn hx hw (by omega) (by omega) (by omega) (B 0 D D' (by omega) (by omega) (by omega)) ((BW D' (by omega) (by omega)).g (by omega)) l
  have Pm : ∀ D D', F + 4 ≤ D → F + 4 ≤ D' → D' ≤ 2000000 → ∀ st, LvS c n st → Out c (w + 6) 2 st (sp c D 222 st) (un (parse c D' 243) st) := fun D D' a b e st l => by
    obtain ⟨D, rfl⟩ : ∃ d, D = d + 1 := ⟨D - 1, by omega⟩
    obtain ⟨D', rfl⟩ : ∃ d, D' = d + 1 := ⟨D' - 1, by omega⟩
    rw [sp_222 (by omega), un_eq (parse_243 c (by omega) _), un_ret]
    exact pair_primary (w := w + 5) hx (by omega) (by omega) (E 5 D D' (by omega) (by omega) (by omega)) (EW D' (by omega) (by omega)) (Fn D D' (by omega) (by omega) (by omega)) (T D D' (by omega) (by omega) (by omega)) l
  have Sf : ∀ D D', F + 6 ≤ D → F + 6 ≤ D' → D' ≤ 2000000 → ∀ st, LvS c n st → Out c (w + 8) 2 st (sp c D 204 st) (un (parse c D' 242) st) := fun D D' a b e st l => by
    obtain ⟨D, rfl⟩ : ∃ d, D = d + 1 := ⟨D - 1, by omega⟩
    obtain ⟨D', rfl⟩ : ∃ d, D' = d + 1 + 1 := ⟨D' - 2, by omega⟩
    rw [sp_204 (by omega), un_eq (parse_242 c (by omega) _), un_ret]
    have e244 : parse c (D' + 1) 244 = argsP c (un (parse c D' 110)) D' := by funext q; exact parse_244 c (by omega) q
    rw [e244]
    exact (pair_suffix (w := w + 6) hx (by omega) (by omega) (by omega) (by omega) (by omega) (Pm D (D' + 1) (by omega) (by omega) (by omega)) (E 6 D (D' + 1) (by omega) (by omega) (by omega)).live (E 6 D D' (by omega) (by omega) (by omega)).live (fun st d => sp_dead_137 (by omega) d) l).mono (by omega)
  have Tn : ∀ D D', F + 7 ≤ D → F + 7 ≤ D' → D' ≤ 2000000 → ∀ st, LvS c n st → Out c (w + 9) 2 st (sp c D 197 st) (un (parse c D' 241) st) := fun D D' a b e st l => by
    obtain ⟨D, rfl⟩ : ∃ d, D = d + 1 := ⟨D - 1, by omega⟩
    obtain ⟨D', rfl⟩ : ∃ d, D' = d + 1 := ⟨D' - 1, by omega⟩
    rw [sp_197 (by omega), un_eq (parse_241 c (by omega) _), un_ret]
    exact pair_turn (w := w + 8) hx (by omega) (by omega) h0 h1 (parse_gone D' (by omega) (by omega)).2.2.2.2.2.2.1 (fun hn st l => ((H hn).trn D D' (by omega) (by omega) (by omega) st l).mono (by omega)) (Sf D D' (by omega) (by omega) (by omega)) l
  have L6 : ∀ D D', F + 10 ≤ D → F + 10 ≤ D' → D' ≤ 2000000 → ∀ st, LvS c n st → Out c (w + 10) 2 st (sp c D 1766 st) (un (parse c D' 238) st) := fun D D' a b e st l => by
    obtain ⟨D, rfl⟩ : ∃ d, D = d + 1 + 1 := ⟨D - 2, by omega⟩
    obtain ⟨D', rfl⟩ : ∃ d, D' = d + 1 + 1 := ⟨D' - 2, by omega⟩
    rw [sp_1766 (by omega), un_eq (parse_238 c (by omega) _), un_eq (parse_2312 c (by omega) _), un_ret]
    refine pair_row (w := w + 9) hx (by omega) (by decide) op6 (by omega) (by omega) (fun q lq => ?_) l
    rw [sp_1767 (by omega)]
    exact Tn D D' (by omega) (by omega) (by omega) q lq
  have L5 : ∀ D D', F + 13 ≤ D → F + 13 ≤ D' → D' ≤ 2000000 → ∀ st, LvS c n st → Out c (w + 11) 2 st (sp c D 1765 st) (un (parse c D' 232) st) := fun D D' a b e st l => by
    obtain ⟨D, rfl⟩ : ∃ d, D = d + 1 := ⟨D - 1, by omega⟩
    obtain ⟨D', rfl⟩ : ∃ d, D' = d + 1 + 1 := ⟨D' - 2, by omega⟩
    rw [sp_1765 (by omega), un_eq (parse_232 c (by omega) _), un_eq (parse_2311 c (by omega) _), un_ret]
    exact pair_row (w := w + 10) hx (by omega) (by decide) op5 (by omega) (by omega) (L6 D D' (by omega) (by omega) (by omega)) l
  have L4 : ∀ D D', F + 16 ≤ D → F + 16 ≤ D' → D' ≤ 2000000 → ∀ st, LvS c n st → Out c (w + 12) 2 st (sp c D 1764 st) (un (parse c D' 220) st) := fun D D' a b e st l => by
    obtain ⟨D, rfl⟩ : ∃ d, D = d + 1 := ⟨D - 1, by omega⟩
    obtain ⟨D', rfl⟩ : ∃ d, D' = d + 1 + 1 := ⟨D' - 2, by omega⟩
    rw [sp_1764 (by omega), un_eq (parse_220 c (by omega) _), un_eq (parse_2310 c (by omega) _), un_ret]
    exact pair_row (w := w + 11) hx (by omega) (by decide) op4 (by omega) (by omega) (L5 D D' (by omega) (by omega) (by omega)) l
  have L3 : ∀ D D', F + 18 ≤ D → F + 18 ≤ D' → D' ≤ 2000000 → ∀ st, LvS c n st → Out c (w + 13) 2 st (sp c D 1763 st) (un (parse c D' 203) st) := fun D D' a b e st l => by
    obtain ⟨D, rfl⟩ : ∃ d, D = d + 1 := ⟨D - 1, by omega⟩
    obtain ⟨D', rfl⟩ : ∃ d, D' = d + 1 := ⟨D' - 1, by omega⟩
    rw [sp_1763 (by omega), un_eq (parse_203 c (by omega) _), un_ret]
    exact pair_cmp (w := w + 12) hx (by omega) op3 (by omega) (L4 D D' (by omega) (by omega) (by omega)) l
  have L2 : ∀ D D', F + 20 ≤ D → F + 20 ≤ D' → D' ≤ 2000000 → ∀ st, LvS c n st → Out c (w + 14) 2 st (sp c D 1762 st) (un (parse c D' 188) st) := fun D D' a b e st l => by
    obtain ⟨D, rfl⟩ : ∃ d, D = d + 1 := ⟨D - 1, by omega⟩
    obtain ⟨D', rfl⟩ : ∃ d, D' = d + 1 := ⟨D' - 1, by omega⟩
    rw [sp_1762 (by omega), un_eq (parse_188 c (by omega) _), un_ret]
    exact pair_bin (w := w + 13) hx (by omega) (by decide) (by decide) (by decide) kind2 (by omega) (by omega) (L3 D D' (by omega) (by omega) (by omega)) l
  have L1 : ∀ D D', F + 22 ≤ D → F + 22 ≤ D' → D' ≤ 2000000 → ∀ st, LvS c n st → Out c (w + 15) 2 st (sp c D 1761 st) (un (parse c D' 158) st) := fun D D' a b e st l => by
    obtain ⟨D, rfl⟩ : ∃ d, D = d + 1 := ⟨D - 1, by omega⟩
    obtain ⟨D', rfl⟩ : ∃ d, D' = d + 1 := ⟨D' - 1, by omega⟩
    rw [sp_1761 (by omega), un_eq (parse_158 c (by omega) _), un_ret]
    exact pair_bin (w := w + 14) hx (by omega) (by decide) (by decide) (by decide) kind1 (by omega) (by omega) (L2 D D' (by omega) (by omega) (by omega)) l
  have As : ∀ D D', F + 3 ≤ D → F + 3 ≤ D' → D' ≤ 2000000 → ∀ st, LvS c n st → Out c (w + 3) 1 st (sp c D 139 st) (un (parse c D' 112) st) := fun D D' a b e st l => by
    obtain ⟨D, rfl⟩ : ∃ d, D = d + 1 := ⟨D - 1, by omega⟩
    obtain ⟨D', rfl⟩ : ∃ d, D' = d + 1 := ⟨D' - 1, by omega⟩
    rw [sp_139 (by omega), un_eq (parse_112 c (by omega) _), un_ret]
    exact pair_assign hx hw (by omega) (E 0 D D' (by omega) (by omega) (by omega)) (EW D' (by omega) (by omega)) l
  refine ⟨fun D D' a b e st l => L1 D D' (by omega) (by omega) e st l, fun D D' a b e st l => (Tn D D' (by omega) (by omega) e st l).mono (by omega), fun D D' a b e st l => ?_⟩
  obtain ⟨D, rfl⟩ : ∃ d, D = d + 1 := ⟨D - 1, by omega⟩
  obtain ⟨D', rfl⟩ : ∃ d, D' = d + 1 := ⟨D' - 1, by omega⟩
  rw [sp_82 (by omega), un_eq (parse_63 c (by omega) _), un_ret]
  exact (pair_stmt (w := w + 3) hx (by omega) (by omega) (E 3 D D' (by omega) (by omega) (by omega)) (EW D' (by omega) (by omega)) (B 2 D D' (by omega) (by omega) (by omega)) (BW D' (by omega) (by omega)) (As D D' (by omega) (by omega) (by omega)) l).mono (by omega)
theorem hn_all (hx : Cx c) : ∀ b : Nat, b ≤ 30 → HN c (30 - b) (9015 + 15 * b) (3240 + 40 * b) := by
  intro b
  induction b with
  | zero => intro _; exact hn_step (w := 9000) (F := 3200) hx (by omega) (by omega) (by omega) (by omega) (by omega) (fun h => by omega)
  | succ b ih =>
    intro hb
    have := ih (by omega)
    have e : (30 : Int) - ((b + 1 : Nat) : Int) + 1 = 30 - (b : Int) := by omega
    exact hn_step (w := 9015 + 15 * b) (F := 3240 + 40 * b) hx (by omega) (by omega) (by omega) (by omega) (by omega) (fun _ => by rw [e]; exact this)
/-- All statements of a text. -/
theorem top_pair {stm1 stm2 : PI} {w : Nat} (hx : Cx c) (hw : 9000 ≤ w) (hw2 : w ≤ 100000) (hs : ∀ st, LvS c 0 st → Out c w 1 st (stm1 st) (stm2 st)) :
    ∀ (k : Nat) (ks : List Int) (s : PSt) (m1 m2 : Nat), c.toks.length - s.at' ≤ k → k < m1 → k < m2 → LvS c 0 s → ks.length ≤ s.at' →
    ∃ r, ((topS c stm1 m1 ks s).bind fun l => finS l.1 l.2) = some r ∧ ((topLoop c stm2 m2 ks s).bind fun l => finP l.1 l.2) = some r ∧ r.1.length ≤ 9001 := by
  intro k
  induction k with
  | zero =>
    intro ks s m1 m2 hk h1 h2 ls hks
    obtain ⟨m1, rfl⟩ : ∃ q, m1 = q + 1 := ⟨m1 - 1, by omega⟩
    obtain ⟨m2, rfl⟩ : ∃ q, m2 = q + 1 := ⟨m2 - 1, by omega⟩
    have sz := ls.sz hx
    rw [topS, if_neg (fun z => by omega), topLoop, if_neg (fun z => by omega), Option.bind_some, Option.bind_some]
    dsimp only [finS, finP]
    rw [nodeS_ok ls.1 (by omega), if_neg (by simp [ls.1]), nodeP_ok (by omega), Option.bind_some]
    dsimp only
    rw [if_neg (by show ¬ s.code ≠ 0; simp [ls.1])]
    exact ⟨_, rfl, rfl, by show (s.nodes ++ [_]).length ≤ 9001; simp; omega⟩
  | succ k ih =>
    intro ks s m1 m2 hk h1 h2 ls hks
    obtain ⟨m1, rfl⟩ : ∃ q, m1 = q + 1 := ⟨m1 - 1, by omega⟩
    obtain ⟨m2, rfl⟩ : ∃ q, m2 = q + 1 := ⟨m2 - 1, by omega⟩
    have sz := ls.sz hx
    rw [topS, topLoop]
    by_cases hl : s.at' < c.toks.length
    · rw [if_pos ⟨ls.1, hl⟩, if_pos ⟨hl, ls.1⟩]
      rcases hs s ls with ⟨v, q, e1, e2, p⟩ | ⟨v, q, v2, q2, e1, e2, d⟩
      · rw [e1, e2, Option.bind_some, Option.bind_some]
        dsimp only
        rw [if_neg (by omega)]
        have lq := p.lvs ls
        exact ih (ks ++ [v]) q m1 m2 (by have := p.2.2.1; omega) (by omega) (by omega) lq (by have := p.2.2.1; simp; omega)
      · rw [e1, e2, Option.bind_some, Option.bind_some]
        dsimp only
        rw [if_neg (by omega)]
        obtain ⟨m1, rfl⟩ : ∃ q, m1 = q + 1 := ⟨m1 - 1, by omega⟩
        obtain ⟨m2, rfl⟩ : ∃ q, m2 = q + 1 := ⟨m2 - 1, by omega⟩
        rw [topS, if_neg (fun z => d.1 z.1), topLoop, if_neg (fun z => d.d2 z.2), Option.bind_some, Option.bind_some]
        dsimp only [finS, finP]
        rw [nodeS_d d.1, Option.bind_some, if_pos d.d2]
        dsimp only
        rw [if_pos d.1, d.2.2.2.1, d.2.2.2.2.1]
        exact ⟨_, rfl, rfl, by simp⟩
    · rw [if_neg (fun z => hl z.2), if_neg (fun z => hl z.1), Option.bind_some, Option.bind_some]
      dsimp only [finS, finP]
      rw [nodeS_ok ls.1 (by omega), if_neg (by simp [ls.1]), nodeP_ok (by omega), Option.bind_some]
      dsimp only
      rw [if_neg (by show ¬ s.code ≠ 0; simp [ls.1])]
      exact ⟨_, rfl, rfl, by show (s.nodes ++ [_]).length ≤ 9001; simp; omega⟩
end
theorem gtok_k {t : Tok} (g : GTok t) : t.k ≠ 0 := by
  cases g with
  | word => show (2 : Int) ≠ 0; decide
  | name => show (1 : Int) ≠ 0; decide
  | num => show (3 : Int) ≠ 0; decide
  | text => show (4 : Int) ≠ 0; decide
  | mark => show (5 : Int) ≠ 0; decide
theorem lex_len (s : ByteArray) : ∀ (f i : Nat) (acc : List Tok), i ≤ s.size → acc.length ≤ i → (lexGo s f i acc).1.length ≤ s.size := by
  intro f
  induction f with
  | zero => intro i acc a b; show acc.length ≤ _; omega
  | succ f ih =>
    intro i acc a b
    unfold lexGo
    by_cases h1 : s.size ≤ i
    · rw [if_pos h1]; show acc.length ≤ _; omega
    rw [if_neg h1]
    by_cases h2 : bt s i = 9 ∨ bt s i = 10 ∨ bt s i = 32
    · rw [if_pos h2]; exact ih _ _ (by omega) (by omega)
    rw [if_neg h2]
    by_cases h3 : bt s i = 45 ∧ i + 1 < s.size ∧ bt s (i + 1) = 45
    · rw [if_pos h3]
      have := endOf_bd (p := fun b => b != 10) (s := s) _ i rfl (by omega)
      exact ih _ _ (by omega) (by omega)
    rw [if_neg h3]
    by_cases h4 : (tokR s i).2.1 ≠ 0
    · rw [if_pos h4]; exact Nat.zero_le _
    rw [if_neg h4]
    have bd := tokR_bd (s := s) (i := i) (by omega) (by omega)
    exact ih _ _ (by omega) (by simp; omega)
theorem lexR_len (s : ByteArray) : (lexR s).1.length ≤ 3000 := by
  unfold lexR
  by_cases h : s.size > 3000
  · rw [if_pos h]; exact Nat.zero_le _
  · rw [if_neg h]; have := lex_len s (s.size + 1) 0 [] (by omega) (by simp); omega
/-- The two parsers tell the same. -/
theorem parse_same (s : ByteArray) {D D' : Nat} (h1 : 4500 ≤ D) (h2 : 4500 ≤ D') (h3 : D' ≤ 2000000) : ∃ r, sparseR D s = some r ∧ parseR D' s = some r ∧ r.1.length ≤ 9001 := by
  unfold sparseR parseR
  by_cases hc : (lexR s).2.1 ≠ 0
  · rw [if_pos hc, if_pos hc]; exact ⟨_, rfl, rfl, Nat.zero_le _⟩
  · rw [if_neg hc, if_neg hc]
    have hx : Cx ⟨0, .slice none 0 0, (lexR s).1, s.size⟩ := ⟨lexR_len s, fun t ht => gtok_k ((lexR_inv s).1 t ht)⟩
    have H := hn_all hx 30 (by omega)
    have e : (30 : Int) - ((30 : Nat) : Int) = 0 := by omega
    rw [e] at H
    unfold sparseC parseC
    exact top_pair hx (by omega) (by omega) (H.stm D D' (by omega) (by omega) h3) (lexR s).1.length [] st0 D D' (by show (lexR s).1.length - 0 ≤ _; omega) (by have := hx.1; show (lexR s).1.length < _; have h : (lexR s).1.length ≤ 3000 := hx.1; omega) (by have h : (lexR s).1.length ≤ 3000 := hx.1; omega) ⟨rfl, rfl, Nat.zero_le _, Nat.zero_le _⟩ (Nat.zero_le _)
end Go.Proofs.Ytadmoackacickaa
set_option linter.unusedVariables false
namespace Go.Proofs.Ytadmoackacickaa
open Go Go.AH
/-! 36 loop.example/g00101/spec.DrawLex -/
/-! 69 loop.example/g00101/spec.l1New -/
/-! 70 loop.example/g00101/spec.l10Some -/
/-! 71 loop.example/g00101/spec.l1Once -/
/-! 72 loop.example/g00101/spec.l10Broken -/
/-! 113 loop.example/g00101/spec.l10Deep -/
/-! 114 loop.example/g00101/spec.l10Program -/
/-! 115 loop.example/g00101/spec.l1Size -/
/-! 116 loop.example/g00101/spec.l1Below -/
/-! 117 loop.example/g00101/spec.l1Pick -/
/-! 159 loop.example/g00101/spec.l10Line -/
/-! 160 loop.example/g00101/spec.l10Lambda -/
end Go.Proofs.Ytadmoackacickaa
/- Draws: frames; bytes that are drawn; picks. -/
set_option linter.unusedSimpArgs false
namespace Go.Proofs.Ytadmoackacickaa
open Go Go.AH

end Go.Proofs.Ytadmoackacickaa
/- Draws: what a text may name; steps. -/
set_option linter.unusedSimpArgs false
namespace Go.Proofs.Ytadmoackacickaa
open Go Go.AH

section
variable {P : Option (Value × AHeap) → Prop} {q e n m B : Nat} {h0 h : AHeap} {o : Option (Value × AHeap)}
end
section
variable {P : Option (Value × AHeap) → Prop} {q e n : Nat} {h0 h : AHeap}
end
end Go.Proofs.Ytadmoackacickaa
/- Draws: expressions. -/
set_option linter.unusedSimpArgs false
namespace Go.Proofs.Ytadmoackacickaa
open Go Go.AH

section
variable {q e k u n D : Nat} {h0 h : AHeap} {y : Int}

end
end Go.Proofs.Ytadmoackacickaa
/- Draws: tables; all depths. -/
set_option linter.unusedSimpArgs false
namespace Go.Proofs.Ytadmoackacickaa
open Go Go.AH

section
variable {q e k u n D : Nat} {h0 h : AHeap} {y : Int}

end
end Go.Proofs.Ytadmoackacickaa
/- Draws: lines and blocks. -/
set_option linter.unusedSimpArgs false
namespace Go.Proofs.Ytadmoackacickaa
open Go Go.AH

section
variable {q e k v n m D N : Nat} {h0 h : AHeap} {y : Int}
end
end Go.Proofs.Ytadmoackacickaa
/- Draws: a line. -/
set_option linter.unusedSimpArgs false
namespace Go.Proofs.Ytadmoackacickaa
open Go Go.AH

section
variable {q e k v n m D N : Nat} {h0 h : AHeap} {y : Int}
end
end Go.Proofs.Ytadmoackacickaa
/- Draws: whole texts. -/
set_option linter.unusedSimpArgs false
namespace Go.Proofs.Ytadmoackacickaa
open Go Go.AH

section
variable {q e D N B : Nat} {h0 h : AHeap}
end
end Go.Proofs.Ytadmoackacickaa
/- FnLexAgain in the small evaluator. -/
set_option linter.unusedSimpArgs false
namespace Go.Proofs.Ytadmoackacickaa
open Go Go.AH

theorem words_sz : ∀ w, w ∈ wordsL → w.size ≤ 160 := by decide
theorem GTok.sz {t : Tok} (g : GTok t) : t.text.size ≤ 160 := by
  cases g with
  | word a w h1 h2 h3 =>
    unfold isWd at h3
    rw [List.any_eq_true] at h3
    obtain ⟨w', hw, he⟩ := h3
    simp only [beq_iff_eq, ByteArray.toList_eq] at he
    have : w = w' := ByteArray.ext (Array.toList_inj.1 he)
    show w.size ≤ 160
    rw [this]; exact words_sz w' hw
  | name a w h1 h2 h3 h4 => show w.size ≤ 160; omega
  | num a w h1 h2 h3 h4 => show w.size ≤ 160; omega
  | text a w h1 h2 => exact h2
  | mark a w h1 => have := mark_sz w h1; show w.size ≤ 160; omega
section
variable {P : Option (Value × AHeap) → Prop} {D N : Nat}
end
end Go.Proofs.Ytadmoackacickaa
/- The reference's parser: nodes' texts and lists stay small. -/
set_option linter.unusedSimpArgs false
namespace Go.Proofs.Ytadmoackacickaa
open Go Go.AH

def SmK (n : Kn) : Prop := n.t.size ≤ 1048576 ∧ n.ks.length ≤ 1048576
def Iv (st : PSt) : Prop := ∀ n ∈ st.nodes, SmK n
def Wn {α : Type} (Q : α → Prop) (o : Option α) : Prop := ∀ r, o = some r → Q r
theorem wB {α β : Type} {Q : α → Prop} {R : β → Prop} {o : Option α} {K : α → Option β} (x : Wn Q o) (k : ∀ r, Q r → Wn R (K r)) : Wn R (o.bind K) := fun r e => by
  rw [Option.bind_eq_some_iff] at e
  obtain ⟨a, ha, hb⟩ := e
  exact k a (x a ha) r hb
theorem wI {α : Type} {R : α → Prop} {p : Prop} [Decidable p] {a b : Option α} (x : p → Wn R a) (y : ¬ p → Wn R b) : Wn R (if p then a else b) := by
  by_cases h : p
  · rw [if_pos h]; exact x h
  · rw [if_neg h]; exact y h
theorem wF {α : Type} {R : α → Prop} {p : Bool} {a b : Option α} (x : Wn R a) (y : Wn R b) : Wn R (bif p then a else b) := by
  cases p
  · exact y
  · exact x
theorem wS {α : Type} {R : α → Prop} {a : α} (x : R a) : Wn R (some a) := fun r e => by cases e; exact x
theorem wN {α : Type} {R : α → Prop} : Wn R (none : Option α) := fun r e => by cases e
def I2 {α : Type} (r : α × PSt) : Prop := Iv r.2
theorem iv_st {st st' : PSt} (h : Iv st) (e : st'.nodes = st.nodes) : Iv st' := fun n hn => h n (e ▸ hn)
section
variable {c : PC} {st : PSt} (h : Iv st)
include h
theorem wAdv (n : Nat) : Wn Iv (adv n st) := wI (fun _ => wS (iv_st h rfl)) fun _ => wN
theorem wNest (n : Int) : Wn Iv (nestTo n st) := wI (fun _ => wS (iv_st h rfl)) fun _ => wN
theorem ivFail (k : Int) : Iv (failP c st k) := by
  unfold failP; split
  · exact iv_st h rfl
  · exact h
theorem wWant (t : ByteArray) : Wn Iv (wantP c t st) := by
  intro s e
  unfold wantP takesP at e
  rw [Option.map_eq_some_iff] at e
  obtain ⟨⟨b, s1⟩, e1, e2⟩ := e
  by_cases hi : isP c st t = true
  · rw [if_pos hi, Option.map_eq_some_iff] at e1
    obtain ⟨s3, e3, e4⟩ := e1
    cases e4
    rw [if_pos rfl] at e2; cases e2
    exact wAdv h 1 _ e3
  · rw [if_neg hi] at e1; cases e1
    rw [if_neg (by simp)] at e2; cases e2
    exact ivFail h 2
theorem wOpen : Wn I2 (openS c st) := by
  unfold openS
  refine wI (fun _ => wS h) fun _ => wI (fun _ => wS (ivFail h 2)) fun _ => wI (fun _ => wS (ivFail h 3)) fun _ r e => ?_
  rw [Option.map_eq_some_iff] at e
  obtain ⟨s, e, rfl⟩ := e
  exact wNest h 1 s e
theorem wNodeP {k i : Int} {t : ByteArray} {ks : List Int} (ht : t.size ≤ 1048576) (hk : ks.length ≤ 1048576) : Wn I2 (nodeP k t i ks st) :=
  wI (fun _ => wS fun n hn => by
    rcases List.mem_append.1 hn with hn | hn
    · exact h n hn
    · have : n = ⟨k, t, i, ks⟩ := by simpa using hn
      rw [this]; exact ⟨ht, hk⟩) fun _ => wN
theorem wNode {k i : Int} {t : ByteArray} {ks : List Int} (ht : t.size ≤ 1048576) (hk : ks.length ≤ 1048576) : Wn I2 (nodeS k t i ks st) :=
  wI (fun _ => wS h) fun _ => wNodeP h ht hk
theorem wCut (e : Int) : Wn Iv (cutP e st) := wI (fun _ => wS fun n hn => h n (List.mem_of_mem_take hn)) fun _ => wN
end
def PIv (m : PI) : Prop := ∀ st, Iv st → Wn I2 (m st)
def Tk (c : PC) : Prop := ∀ t ∈ c.toks, t.text.size ≤ 1048576
/-- A name and the state behind it. -/
def IN (r : ByteArray × PSt) : Prop := Iv r.2 ∧ r.1.size ≤ 1048576
/-- A list and the state behind it. -/
def ILp (r : List Int × PSt) : Prop := Iv r.2 ∧ r.1.length ≤ 1000002
section
variable {c : PC} (T : Tk c)
include T
theorem pk_size (st : PSt) : (pk c st).text.size ≤ 1048576 := by
  unfold pk
  split
  · exact Nat.zero_le _
  · cases e : c.toks[st.at']? with
    | none => exact Nat.zero_le _
    | some t => exact T t (List.mem_of_getElem? e)
theorem wName {st : PSt} (h : Iv st) : Wn IN (nameN c st) := by
  unfold nameN
  refine wI (fun _ => wS ⟨ivFail h 2, Nat.zero_le _⟩) fun _ r e => ?_
  rw [Option.map_eq_some_iff] at e
  obtain ⟨s, e, rfl⟩ := e
  exact ⟨wAdv h 1 s e, pk_size T st⟩
omit T
theorem vExpr {lv : PI} (h1 : PIv lv) : PIv (exprS c lv) := fun st h =>
  wB (wOpen h) fun r hr => wF (wB (h1 _ hr) fun a ha => wB (wNest ha _) fun s hs => wS hs) (wS hr)
theorem vLev {L : Int} {sub : PI} (h1 : PIv sub) : ∀ (n : Nat) (a : Int), PIv (levLoop c L sub n a)
  | 0, _ => fun st h => wN
  | n + 1, a => fun st h => by
    rw [levLoop]
    exact wI (fun _ => wI (fun _ => wS h) fun _ => wB (wAdv h 1) fun s1 hs => wB (h1 _ hs) fun b hb => wB (wNode hb (Nat.zero_le _) (by show 2 ≤ _; decide)) fun x hx => wI (fun _ => wS hx) fun _ => vLev h1 n _ _ hx) fun _ => wS h
theorem vLevel {L : Int} {sub : PI} {n : Nat} (h1 : PIv sub) : PIv (levelS c L sub n) := fun st h => wB (h1 _ h) fun a ha => vLev h1 n _ _ ha
theorem vTurnT {t : Int} {self : PI} (h1 : PIv self) : PIv (turnT c t self) := fun st h =>
  wB (wOpen h) fun r hr => wF (wB (wAdv hr 1) fun s hs => wB (h1 _ hs) fun e he => wB (wNest he _) fun s hs => wNode hs (Nat.zero_le _) (by show 1 ≤ _; decide)) (wS hr)
theorem vTurn {self suf : PI} (h1 : PIv self) (h2 : PIv suf) : PIv (turnS c self suf) := fun st h =>
  wI (fun _ => vTurnT h1 _ h) fun _ => wI (fun _ => vTurnT h1 _ h) fun _ => wI (fun _ => vTurnT h1 _ h) fun _ => h2 _ h
theorem vCall {ex : PI} (h1 : PIv ex) : ∀ (n : Nat) (ks : List Int) (st : PSt), Iv st → ks.length ≤ 1000001 → Wn ILp (callLoop c ex n ks st)
  | 0, _, _ => fun h _ => wN
  | n + 1, ks, st => fun h hk => by
    rw [callLoop]
    exact wI (fun _ => wB (Q := Iv) (wI (fun _ => wWant h _) fun _ => wS h) fun s hs => wB (h1 _ hs) fun e he => wI (fun _ => wN) fun hl => vCall h1 n _ _ he (by simp; omega)) fun _ => wS ⟨h, by show ks.length ≤ _; omega⟩
include T
theorem vSuf {ex : PI} {N : Nat} (h1 : PIv ex) : ∀ (n : Nat) (a : Int), PIv (sufLoop c ex N n a)
  | 0, _ => fun st h => wN
  | n + 1, a => fun st h => by
    rw [sufLoop]
    exact wI (fun _ => wI (fun _ => wB (wAdv h 1) fun s hs => wB (vCall h1 N [a] s hs (by show 1 ≤ _; decide)) fun l hl => wB (wWant hl.1 _) fun s hs => wB (wNode hs (Nat.zero_le _) (by have := hl.2; omega)) fun x hx => vSuf h1 n _ _ hx)
      fun _ => wI (fun _ => wB (wAdv h 1) fun s hs => wB (h1 _ hs) fun k hk => wB (wWant hk _) fun s hs => wB (wNode hs (Nat.zero_le _) (by show 2 ≤ _; decide)) fun x hx => vSuf h1 n _ _ hx)
      fun _ => wI (fun _ => wB (wAdv h 1) fun s hs => wB (wName T hs) fun m hm => wB (wNode hm.1 hm.2 (Nat.zero_le _)) fun k hk => wB (wNode hk (Nat.zero_le _) (by show 2 ≤ _; decide)) fun x hx => vSuf h1 n _ _ hx)
      fun _ => wS h) fun _ => wS h
theorem vSuffix {prim ex : PI} {n : Nat} (h1 : PIv prim) (h2 : PIv ex) : PIv (suffixS c prim ex n) := fun st h => wB (h1 _ h) fun a ha => vSuf T h2 n _ _ ha
theorem vPar : ∀ (n : Nat) (ks : List Int) (st : PSt), Iv st → ks.length ≤ 1000001 → Wn ILp (parLoop c n ks st)
  | 0, _, _ => fun h _ => wN
  | n + 1, ks, st => fun h hk => by
    rw [parLoop]
    exact wI (fun _ => wB (Q := Iv) (wI (fun _ => wWant h _) fun _ => wS h) fun s hs => wB (wName T hs) fun m hm => wB (wNode hm.1 hm.2 (Nat.zero_le _)) fun e he => wI (fun _ => wN) fun hl => vPar n _ _ he (by simp; omega)) fun _ => wS ⟨h, by show ks.length ≤ _; omega⟩
theorem vFn {block : PI} {n : Nat} (h1 : PIv block) : PIv (fnS c block n) := fun st h =>
  wB (wWant h _) fun s hs => wB (vPar T n [] s hs (Nat.zero_le _)) fun l hl => wB (wWant hl.1 _) fun s hs => wB (h1 _ hs) fun b hb => wI (fun _ => wN) fun hle => wNode hb (Nat.zero_le _) (by simp; omega)
omit T
theorem vTab {field : PI} (h1 : PIv field) : ∀ (n : Nat) (ks : List Int) (st : PSt), Iv st → ks.length ≤ 1000001 → Wn ILp (tabLoop c field n ks st)
  | 0, _, _ => fun h _ => wN
  | n + 1, ks, st => fun h hk => by
    rw [tabLoop]
    exact wI (fun _ => wB (Q := Iv) (wI (fun _ => wWant h _) fun _ => wS h) fun s hs => wB (h1 _ hs) fun e he => wI (fun _ => wN) fun hl => vTab h1 n _ _ he (by simp; omega)) fun _ => wS ⟨h, by show ks.length ≤ _; omega⟩
theorem vTable {field : PI} {n : Nat} (h1 : PIv field) : PIv (tableS c field n) := fun st h =>
  wB (vTab h1 n [] st h (Nat.zero_le _)) fun l hl => wB (wWant hl.1 _) fun s hs => wNode hs (Nat.zero_le _) (by have := hl.2; omega)
include T
theorem vField {ex : PI} (h1 : PIv ex) : PIv (fieldS c ex) := fun st h =>
  wI (fun _ => wB (wAdv h 1) fun s hs => wB (h1 _ hs) fun k hk => wB (wWant hk _) fun s hs => wB (wWant hs _) fun s hs => wB (h1 _ hs) fun e he => wNode he (Nat.zero_le _) (by show 2 ≤ _; decide))
  fun _ => wI (fun _ => wN) fun _ => wI (fun _ => wB (wName T h) fun m hm => wB (wAdv hm.1 1) fun s hs => wB (wNode hs hm.2 (Nat.zero_le _)) fun k hk => wB (h1 _ hk) fun e he => wNode he (Nat.zero_le _) (by show 2 ≤ _; decide))
  fun _ => wB (h1 _ h) fun e he => wNode he (Nat.zero_le _) (by show 1 ≤ _; decide)
theorem vPrimary {ex fn table : PI} (h1 : PIv ex) (h2 : PIv fn) (h3 : PIv table) : PIv (primaryS c ex fn table) := fun st h =>
  wI (fun _ => wB (wAdv h 1) fun s hs => wNode hs (Nat.zero_le _) (Nat.zero_le _))
  fun _ => wI (fun _ => wB (wAdv h 1) fun s hs => wNode hs (pk_size T st) (Nat.zero_le _))
  fun _ => wI (fun _ => wB (wName T h) fun m hm => wNode hm.1 hm.2 (Nat.zero_le _))
  fun _ => wI (fun _ => wB (wAdv h 1) fun s hs => wNode hs (Nat.zero_le _) (Nat.zero_le _))
  fun _ => wI (fun _ => wB (wAdv h 1) fun s hs => wNode hs (Nat.zero_le _) (Nat.zero_le _))
  fun _ => wI (fun _ => wB (wAdv h 1) fun s hs => wNode hs (Nat.zero_le _) (Nat.zero_le _))
  fun _ => wI (fun _ => wB (wAdv h 1) fun s hs => h2 _ hs)
  fun _ => wI (fun _ => wB (wAdv h 1) fun s hs => h3 _ hs)
  fun _ => wI (fun _ => wB (wAdv h 1) fun s hs => wB (h1 _ hs) fun e he => wB (wWant he _) fun s hs => wS hs)
  fun _ => wS (ivFail h 2)
omit T
theorem vBlk {stmt : PI} (h1 : PIv stmt) : ∀ (n : Nat) (ks : List Int) (st : PSt), Iv st → ks.length ≤ 1000001 → Wn ILp (blkLoop c stmt n ks st)
  | 0, _, _ => fun h _ => wN
  | n + 1, ks, st => fun h hk => by
    rw [blkLoop]
    exact wI (fun _ => wB (h1 _ h) fun e he => wI (fun _ => wN) fun hl => vBlk h1 n _ _ he (by simp; omega)) fun _ => wS ⟨h, by show ks.length ≤ _; omega⟩
theorem vBlock {stmt : PI} {n : Nat} (h1 : PIv stmt) : PIv (blockS c stmt n) := fun st h =>
  wB (wOpen h) fun r hr => wF (wB (wWant hr _) fun s hs => wB (vBlk h1 n [] s hs (Nat.zero_le _)) fun l hl => wB (wWant hl.1 _) fun s hs => wB (wNest hs _) fun s hs => wNode hs (Nat.zero_le _) (by have := hl.2; omega)) (wS hr)
theorem vAssign {ex : PI} (h1 : PIv ex) : PIv (assignS c ex) := fun st h =>
  wB (h1 _ h) fun e he => wI (fun _ => by
    cases hn : e.2.nodes[e.1.toNat]? with
    | none => exact wN
    | some n =>
      have sm : SmK n := he n (List.mem_of_getElem? hn)
      refine wI (fun _ => wN) fun _ => wI (fun _ => wB (wAdv he 1) fun s hs => wNode hs (Nat.zero_le _) (by show 1 ≤ _; decide))
        fun _ => wI (fun _ => wB (wAdv he 1) fun s hs => wB (wCut hs _) fun s hs => wB (h1 _ hs) fun v hv => wB (wWant hv _) fun s hs => wNode hs sm.1 (by show 1 ≤ _; decide))
        fun _ => wI (fun _ => ?_) fun _ => wS (ivFail he 2)
      split
      · exact wB (wAdv he 1) fun s hs => wB (wCut hs _) fun s hs => wB (h1 _ hs) fun v hv => wB (wWant hv _) fun s hs => wNode hs (Nat.zero_le _) (by show 3 ≤ _; decide)
      · exact wN) fun _ => wS he
include T
theorem vStmt {ex block asg : PI} (h1 : PIv ex) (h2 : PIv block) (h3 : PIv asg) : PIv (stmtS c ex block asg) := fun st h =>
  wI (fun _ => wB (wAdv h 1) fun s hs => wB (wName T hs) fun m hm => wB (wWant hm.1 _) fun s hs => wB (h1 _ hs) fun e he => wB (wWant he _) fun s hs => wNode hs hm.2 (by show 1 ≤ _; decide))
  fun _ => wI (fun _ => wB (wAdv h 1) fun s hs => wB (h1 _ hs) fun e he => wB (h2 _ he) fun b hb => wI (fun _ => wB (wAdv hb 1) fun s hs => wB (h2 _ hs) fun d hd => wNode hd (Nat.zero_le _) (by show 3 ≤ _; decide)) fun _ => wNode hb (Nat.zero_le _) (by show 2 ≤ _; decide))
  fun _ => wI (fun _ => wB (wAdv h 1) fun s hs => wB (h1 _ hs) fun e he => wB (h2 _ he) fun b hb => wNode hb (Nat.zero_le _) (by show 2 ≤ _; decide))
  fun _ => wI (fun _ => wB (wAdv h 1) fun s hs => wB (h1 _ hs) fun e he => wB (wWant he _) fun s hs => wNode hs (Nat.zero_le _) (by show 1 ≤ _; decide))
  fun _ => h3 _ h
theorem vAll : ∀ (D k : Nat), PIv (sp c D k)
  | 0, k => fun st h => by rw [sp]; exact wN
  | D + 1, k => fun st h => by
    have ih := vAll D
    rw [sp]
    exact wI (fun _ => wN) fun _ => wI (fun _ => vExpr (ih _) _ h) fun _ => wI (fun _ => ih _ _ h) fun _ => wI (fun _ => vTurn (ih _) (ih _) _ h)
      fun _ => wI (fun _ => vSuffix T (ih _) (ih _) _ h) fun _ => wI (fun _ => vPrimary T (ih _) (ih _) (ih _) _ h) fun _ => wI (fun _ => vFn T (ih _) _ h)
      fun _ => wI (fun _ => vTable (ih _) _ h) fun _ => wI (fun _ => vField T (ih _) _ h) fun _ => wI (fun _ => vBlock (ih _) _ h) fun _ => wI (fun _ => vAssign (ih _) _ h)
      fun _ => wI (fun _ => vStmt T (ih _) (ih _) (ih _) _ h) fun _ => wI (fun _ => vLevel (ih _) _ h) fun _ => wN
omit T
theorem vTop {stmt : PI} (h1 : PIv stmt) : ∀ (n : Nat) (ks : List Int) (st : PSt), Iv st → ks.length ≤ 1000001 → Wn ILp (topS c stmt n ks st)
  | 0, _, _ => fun h _ => wN
  | n + 1, ks, st => fun h hk => by
    rw [topS]
    exact wI (fun _ => wB (h1 _ h) fun e he => wI (fun _ => wN) fun hl => vTop h1 n _ _ he (by simp; omega)) fun _ => wS ⟨h, by show ks.length ≤ _; omega⟩
end
/-- What both parsers tell. -/
def ParR (s : ByteArray) (D D' : Nat) (r : PRes) : Prop := sparseR D s = some r ∧ parseR D' s = some r ∧ r.1.length ≤ 9001 ∧ ∀ n ∈ r.1, SmK n
theorem parse_both (s : ByteArray) {D D' : Nat} (h1 : 4500 ≤ D) (h2 : 4500 ≤ D') (h3 : D' ≤ 2000000) : ∃ r, ParR s D D' r := by
  obtain ⟨r, e1, e2, e3⟩ := parse_same s h1 h2 h3
  refine ⟨r, e1, e2, e3, ?_⟩
  have T : Tk ⟨0, .slice none 0 0, (lexR s).1, s.size⟩ := fun t ht => Nat.le_trans ((lexR_inv s).1 t ht).sz (by decide)
  have W : Wn (fun r : PRes => ∀ n ∈ r.1, SmK n) (sparseR D s) := by
    unfold sparseR sparseC
    refine wI (fun _ => wS fun n hn => by cases hn) fun _ => wB (vTop (vAll T D 82) D [] st0 (fun n hn => by cases hn) (Nat.zero_le _)) fun l hl => ?_
    exact wB (wNode hl.1 (Nat.zero_le _) (by have := hl.2; omega)) fun x hx => wI (fun _ => wS fun n hn => by cases hn) fun _ => wS hx
  exact W r e1
end Go.Proofs.Ytadmoackacickaa
/- Fold: the reference's walk, kids and nodes. -/
set_option linter.unusedSimpArgs false
namespace Go.Proofs.Ytadmoackacickaa
open Go Go.AH

section
variable {b p p2 p8 rn0 : Nat} {nv : Value} {top : Int} {T : List Kn} {n : Kn} {kv : Value} {rts0 : List Nat} {h0 h : AHeap} {v : Value} {cur : List Kn} {id rt : Nat} {ix : List Int} {rts : List Nat} {rn : Nat}
end
end Go.Proofs.Ytadmoackacickaa
/- The reference's Fold. -/
set_option linter.unusedSimpArgs false
namespace Go.Proofs.Ytadmoackacickaa
open Go Go.AH

section
variable {b p : Nat} {nv : Value} {top : Int} {T : List Kn}
end
theorem tv_cells {v : Value} (hv : isCell v = true) (n : Int) : aCells (trVal v n) = some [v, .int .i64 n] := by
  show (if (isCell v && (isCell (.int .i64 n) && true)) = true then some [v, .int .i64 n] else none) = _
  rw [hv]; rfl
end Go.Proofs.Ytadmoackacickaa
/- Fold: the program's tree of pointers; what it reckons of a node. -/
set_option linter.unusedSimpArgs false
namespace Go.Proofs.Ytadmoackacickaa
open Go Go.AH

section
variable {S : Nat → Prop}
end
end Go.Proofs.Ytadmoackacickaa
/- Fold: the program's reckoning of a node. -/
set_option linter.unusedSimpArgs false
namespace Go.Proofs.Ytadmoackacickaa
open Go Go.AH

/-- All cells of a row are written. -/
theorem stAll {b : Nat} {h : AHeap} {r rt m : Nat} {e : TypeId} {cs vs : List Value} {v : Value} (o : OwnR h r rt e cs) (hb : b ≤ rt) (hv : aCells v = some vs) (hl : vs.length = m) (hc : cs.length = m) :
    ∃ h', aSt h (ptr r 0) v m = some h' ∧ Ext b h h' ∧ Ks e rt h h' ∧ OwnR h' r rt e vs ∧ h'.size = h.size := by
  obtain ⟨ep, ha⟩ := o
  have hsp : splice cs 0 vs = vs := by unfold splice; simp [show cs.length ≤ vs.length by omega]
  refine ⟨h.put r ⟨rt, ep, false, e, cs⟩ vs, ?_, Ext.put (Nat.le_trans hb (at?_obj ha).2.2.1) hb _, fun k o hk hf => ?_, ⟨_, at?_put_same ha _⟩, rfl⟩
  · have : 0 + m ≤ cs.length := by omega
    simp [aSt, ptr, ha, hv, hl, hsp, show m ≤ cs.length by omega]
  · refine at?_put_other hk (fun e' => ?_) _ (fun x => hf.elim (fun f => f x.1) fun f => f x.2)
    subst e'; rw [ha] at hk; cases hk
    exact hf.elim (fun f => f rfl) fun f => f rfl
section
variable {S : Nat → Prop} {T : List Kn} {h : AHeap} {x i : Nat} {n : Kn}
end
end Go.Proofs.Ytadmoackacickaa
/- Fold: the program's tree of pointers is made. -/
set_option linter.unusedSimpArgs false
namespace Go.Proofs.Ytadmoackacickaa
open Go Go.AH

section
variable {e : TypeId} {h g : AHeap} {sl : Value} {cs : List Value} {rk p b : Nat}
end
section
variable {b p2 : Nat} {nv : Value} {top : Int} {T : List Kn}
end
end Go.Proofs.Ytadmoackacickaa
/- Fold: the program's nodes, one behind the other; its Fold. -/
set_option linter.unusedSimpArgs false
namespace Go.Proofs.Ytadmoackacickaa
open Go Go.AH

section
variable {b p : Nat} {T : List Kn} {t0 : Value}
variable {p4 rn0 : Nat} {n : Kn} {rts0 : List Nat} {h0 h : AHeap} {v : Value} {cur : List Kn} {kv : Value} {rt : Nat} {ix : List Int} {rts : List Nat} {rn : Nat}
end
end Go.Proofs.Ytadmoackacickaa
/- The program's Fold. -/
set_option linter.unusedSimpArgs false
namespace Go.Proofs.Ytadmoackacickaa
open Go Go.AH

end Go.Proofs.Ytadmoackacickaa
/- impl's SizesOf. -/
set_option linter.unusedSimpArgs false
namespace Go.Proofs.Ytadmoackacickaa
open Go Go.AH

end Go.Proofs.Ytadmoackacickaa
/- Marks on ints and on trees. -/
set_option linter.unusedSimpArgs false
namespace Go.Proofs.Ytadmoackacickaa
open Go Go.AH

/-- Each is one more than the one ahead. -/
def Mk (k : Int) (ys : List Int) : Prop := ∀ i, i < ys.length → ys[i]? = some (k + i)
theorem mark_ints {C : ACall} {N b r rt L : Nat} {k0 : Int} (hb : b ≤ rt) (hL : L ≤ 100000000) (h0 : 0 ≤ k0) (h1 : k0 ≤ 4000000000000000000) : ∀ (k j m : Nat) (ys : List Int) (h : AHeap), L - j = k → j ≤ L → k < m → ys.length = L → OwnR h r rt 3 (ints ys) → (∀ i, i < j → ys[i]? = some (k0 + i)) →
    ∃ h' ys', s34_0 hk0 C N m (slc r 0 L) (k0 + j) (j : Int) h = some (.int .i64 (k0 + L), h') ∧ Ext b h h' ∧ Kr rt h h' ∧ OwnR h' r rt 3 (ints ys') ∧ ys'.length = L ∧ Mk k0 ys' ∧ h'.size = h.size := by
  intro k
  induction k with
  | zero =>
    intro j m ys h hk hj hm hy o hlo
    obtain ⟨m, rfl⟩ : ∃ q, m = q + 1 := ⟨m - 1, by omega⟩
    have : ¬ ((j : Int) < (L : Int)) := by omega
    have hlen : aLen (slc r 0 L) = some (.int .i64 (L : Int)) := rfl
    refine ⟨h, ys, ?_, Ext.refl _ _, Kr.refl _ _, o, hy, fun i hi => hlo i (by omega), rfl⟩
    rw [s34_0_eq, hlen, Option.bind_some]
    simp only [asI, if_true, Option.bind_some, decide_eq_false this, cond_false]
    rw [show j = L by omega]
  | succ k ih =>
    intro j m ys h hk hj hm hy o hlo
    obtain ⟨m, rfl⟩ : ∃ q, m = q + 1 := ⟨m - 1, by omega⟩
    have hlt : j < L := by omega
    have hI : ((j : Int) < (L : Int)) := by omega
    have hlen : aLen (slc r 0 L) = some (.int .i64 (L : Int)) := rfl
    have hix : aIdx (slc r 0 L) (.int .i64 (j : Int)) 1 = some (ptr r j) := by simp [aIdx, slc, hlt]
    obtain ⟨h2, t2, x2, k2, o2, s2⟩ := stR o hb (j := j) (by omega) (k0 + j)
    have wj : IntKind.i64.wrap ((j : Int) + 1) = ((j + 1 : Nat) : Int) := by rw [wr (by omega) (by omega)]; omega
    have wk : IntKind.i64.wrap (k0 + (j : Int) + 1) = k0 + ((j + 1 : Nat) : Int) := by rw [wr (by omega) (by omega)]; omega
    obtain ⟨h3, ys', c3, x3, k3, o3, l3, m3, s3⟩ := ih (j + 1) m (ys.set j (k0 + j)) h2 (by omega) (by omega) (by omega) (by simp [hy]) o2 (fun i hi => by
      by_cases he : i = j
      · subst he; rw [List.getElem?_set_self (by omega)]
      · rw [List.getElem?_set_ne (by omega)]; exact hlo i (by omega))
    refine ⟨h3, ys', ?_, x2.trans x3, k2.trans k3, o3, l3, m3, by omega⟩
    rw [s34_0_eq, hlen, Option.bind_some]
    simp only [asI, if_true, Option.bind_some, decide_eq_true hI, cond_true, hix, t2, wj, wk, c3]
theorem l34 {d b r rt : Nat} (hd : 1048577 < d) {ys : List Int} {k0 : Int} {h : AHeap} (hb : b ≤ rt) (hL : ys.length ≤ 1048576) (h0 : 0 ≤ k0) (h1 : k0 ≤ 4000000000000000000) (o : OwnR h r rt 3 (ints ys)) :
    ∃ h' ys', call Try.prog Ms (d + 1) 34 [slc r 0 ys.length, .int .i64 k0] h = some (.int .i64 (k0 + ys.length), h') ∧ Ext b h h' ∧ Kr rt h h' ∧ OwnR h' r rt 3 (ints ys') ∧ ys'.length = ys.length ∧ Mk k0 ys' ∧ h'.size = h.size := by
  obtain ⟨h', ys', c, x⟩ := mark_ints (C := call Try.prog Ms d) (N := d) hb (by omega) h0 h1 ys.length 0 d ys h (by omega) (by omega) (by omega) rfl o (fun i hi => by omega)
  refine ⟨h', ys', ?_, x⟩
  rw [c34, e34]
  have c' : s34_0 hk0 (call Try.prog Ms d) d d (slc r 0 ys.length) (k0 + 0) 0 h = _ := c
  rw [Int.add_zero] at c'
  exact c'
theorem held_ints {C : ACall} {N c : Nat} {v : Value} {ys : List Int} {k0 : Int} (hL : ys.length ≤ 1048576) (h0 : 0 ≤ k0) (h1 : k0 ≤ 4000000000000000000) {h : AHeap} (x : ISl c h v ys) (hm : Mk k0 ys) : ∀ (k j m : Nat), ys.length - j = k → j ≤ ys.length → k < m →
    s35_0 hk0 C N m v (k0 + j) (j : Int) h = some (.int .i64 (k0 + ys.length), h) := by
  intro k
  induction k with
  | zero =>
    intro j m hk hj hm'
    obtain ⟨m, rfl⟩ : ∃ q, m = q + 1 := ⟨m - 1, by omega⟩
    have : ¬ ((j : Int) < (ys.length : Int)) := by omega
    rw [s35_0_eq, x.len, Option.bind_some]
    simp only [asI, if_true, Option.bind_some, decide_eq_false this, cond_false]
    rw [show j = ys.length by omega]
  | succ k ih =>
    intro j m hk hj hm'
    obtain ⟨m, rfl⟩ : ∃ q, m = q + 1 := ⟨m - 1, by omega⟩
    have hlt : j < ys.length := by omega
    have hI : ((j : Int) < (ys.length : Int)) := by omega
    obtain ⟨p, e1, e2⟩ := x.at hlt
    have hv : ys[j] = k0 + j := by
      have := hm j hlt
      rw [List.getElem?_eq_getElem hlt] at this
      simpa using this
    have wj : IntKind.i64.wrap ((j : Int) + 1) = ((j + 1 : Nat) : Int) := by rw [wr (by omega) (by omega)]; omega
    have wk : IntKind.i64.wrap (k0 + (j : Int) + 1) = k0 + ((j + 1 : Nat) : Int) := by rw [wr (by omega) (by omega)]; omega
    rw [s35_0_eq, x.len, Option.bind_some]
    simp only [asI, if_true, Option.bind_some, decide_eq_true hI, cond_true, e1, e2, hv, wj, wk]
    rw [bne_self_eq_false, cond_false]
    exact ih (j + 1) m (by omega) (by omega) (by omega)
theorem l35 {d c : Nat} (hd : 1048577 < d) {v : Value} {ys : List Int} {k0 : Int} {h : AHeap} (hL : ys.length ≤ 1048576) (h0 : 0 ≤ k0) (h1 : k0 ≤ 4000000000000000000) (x : ISl c h v ys) (hm : Mk k0 ys) :
    call Try.prog Ms (d + 1) 35 [v, .int .i64 k0] h = some (.int .i64 (k0 + ys.length), h) := by
  have c := held_ints (C := call Try.prog Ms d) (N := d) hL h0 h1 x hm ys.length 0 d (by omega) (by omega) (by omega)
  rw [c35, e35]
  have c' : s35_0 hk0 (call Try.prog Ms d) d d v (k0 + 0) 0 h = _ := c
  rw [Int.add_zero] at c'
  exact c'
end Go.Proofs.Ytadmoackacickaa
/- FnExactSizesOf, as the small evaluator runs it. -/
set_option linter.unusedSimpArgs false
namespace Go.Proofs.Ytadmoackacickaa
open Go Go.AH

end Go.Proofs.Ytadmoackacickaa
/- Fold: marks on nodes, and that they hold. -/
set_option linter.unusedSimpArgs false
namespace Go.Proofs.Ytadmoackacickaa
open Go Go.AH

def kL (ns : List Kn) (i : Nat) : Nat := ((ns[i]?.map fun n => n.ks.length)).getD 0
/-- The mark that a node begins with. -/
def fM (ns : List Kn) : Nat → Int
  | 0 => 1
  | i + 1 => fM ns i + 3 + (kL ns i : Int)
theorem kL_get {ns : List Kn} {i : Nat} {n : Kn} (h : ns[i]? = some n) : kL ns i = n.ks.length := by unfold kL; rw [h]; rfl
theorem fM_le {ns : List Kn} (hk : ∀ n ∈ ns, n.ks.length ≤ 1048576) : ∀ i : Nat, 1 ≤ fM ns i ∧ fM ns i ≤ 1 + (i : Int) * 2000000
  | 0 => ⟨by show (1:Int) ≤ 1; decide, by show (1:Int) ≤ 1 + 0 * 2000000; decide⟩
  | i + 1 => by
    have := fM_le hk i
    have h2 : kL ns i ≤ 1048576 := by
      cases e : ns[i]? with
      | none => unfold kL; rw [e]; exact Nat.zero_le _
      | some n => rw [kL_get e]; exact hk n (List.mem_of_getElem? e)
    rw [fM]; omega
/-- A node that is marked. -/
def MkN (h : AHeap) (cells : List Value) (i : Nat) (f : Int) (L : Nat) (rt : Nat) : Prop := ∃ kv ys, cells[i * 4]? = some (.int .i64 f) ∧ cells[i * 4 + 1]? = some (.string (markT (f + 1))) ∧ cells[i * 4 + 2]? = some (.int .i64 (f + 2)) ∧ cells[i * 4 + 3]? = some kv ∧ KZ h kv ys rt ∧ ys.length = L ∧ Mk (f + 3) ys
theorem MkN.keep {h g : AHeap} {cells : List Value} {i L rt : Nat} {f : Int} (x : MkN h cells i f L rt) (k : ∀ j o, h.at? j = some o → o.elem = 3 → o.root = rt → g.at? j = some o) : MkN g cells i f L rt := by
  obtain ⟨kv, ys, a, b, c, d, e, f⟩ := x
  exact ⟨kv, ys, a, b, c, d, e.keep k, f⟩
/-- Nodes, the first j of them marked. -/
def MS (h : AHeap) (r rn : Nat) (ns : List Kn) (rts : List Nat) (j : Nat) (cells : List Value) : Prop :=
  OwnR h r rn 73 cells ∧ ns.length * 4 ≤ cells.length ∧ (∀ i n, ns[i]? = some n → i < j → MkN h cells i (fM ns i) n.ks.length (rts.getD i 0)) ∧
    (∀ i n, ns[i]? = some n → j ≤ i → ∃ kv, cells[i * 4 + 3]? = some kv ∧ KZ h kv n.ks (rts.getD i 0))
theorem l34n {d : Nat} (hd : 0 < d) (k0 : Int) (h : AHeap) : call Try.prog Ms (d + 1) 34 [.slice none 0 0, .int .i64 k0] h = some (.int .i64 k0, h) := by
  obtain ⟨d, rfl⟩ : ∃ q, d = q + 1 := ⟨d - 1, by omega⟩
  rw [c34, e34, s34_0_eq]
  exact eb rfl (eb rfl (ecf rfl rfl))
theorem markF {d b r rn : Nat} (hd : 1048577 < d) {ns : List Kn} {rts : List Nat} (hl : ns.length ≤ 10000) (hk : ∀ n ∈ ns, n.ks.length ≤ 1048576) (hrl : rts.length = ns.length) (hnd : rts.Nodup) (hrb : ∀ q ∈ rts, b ≤ q) (hrn : b ≤ rn) :
    ∀ (k j m : Nat) (cells : List Value) (h : AHeap), ns.length - j = k → j ≤ ns.length → k < m → b ≤ h.size → MS h r rn ns rts j cells →
      ∃ g cells', s68_0 hk0 (call Try.prog Ms (d + 1)) (d + 1) m (slc r 0 ns.length) (fM ns j) (j : Int) h = some (.int .i64 (fM ns ns.length), g) ∧ Ext b h g ∧ MS g r rn ns rts ns.length cells' ∧ ∀ j o, h.at? j = some o → o.elem ≠ 73 → o.elem ≠ 3 → g.at? j = some o := by
  intro k
  induction k with
  | zero =>
    intro j m cells h hk' hj hm hb o
    obtain ⟨m, rfl⟩ : ∃ q, m = q + 1 := ⟨m - 1, by omega⟩
    have hjl : j = ns.length := by omega
    subst hjl
    refine ⟨h, cells, ?_, Ext.refl _ _, o, fun _ _ a _ _ => a⟩
    rw [s68_0_eq]
    exact eb rfl (eb rfl (ecf (decide_eq_false (by omega)) rfl))
  | succ k ih =>
    intro j m cells h hk' hj hm hb o
    obtain ⟨m, rfl⟩ : ∃ q, m = q + 1 := ⟨m - 1, by omega⟩
    have hlt : j < ns.length := by omega
    have hn : ns[j]? = some ns[j] := by simp [hlt]
    have hkj := hk ns[j] (List.getElem_mem hlt)
    have fb := fM_le hk j
    have hix : aIdx (slc r 0 ns.length) (.int .i64 (j : Int)) 4 = some (ptr r (j * 4)) := by simp [aIdx, slc, hlt]
    have wj : IntKind.i64.wrap ((j : Int) + 1) = ((j + 1 : Nat) : Int) := by rw [wr (by omega) (by omega)]; omega
    generalize hf : fM ns j = f at fb ⊢
    have w1 : IntKind.i64.wrap (f + 1) = f + 1 := wr (by omega) (by omega)
    have w2 : IntKind.i64.wrap (f + 1 + 1) = f + 2 := by rw [wr (by omega) (by omega)]; omega
    have w3 : IntKind.i64.wrap (f + 2 + 1) = f + 3 := by rw [wr (by omega) (by omega)]; omega
    obtain ⟨o1, o2, o3, o4⟩ := o
    obtain ⟨kv, g1, g2⟩ := o4 j _ hn (Nat.le_refl _)
    obtain ⟨h2, t2, x2, k2, q2, s2⟩ := stOwn o1 hrn (j := j * 4) (v := .int .i64 f) (by omega) rfl
    obtain ⟨h3, t3, x3⟩ := l55 (d := d) (by omega) (x := f + 1) (Int.lt_of_le_of_lt (b := 100000000000) (by omega) (by decide)) h2
    obtain ⟨h4, t4, x4, k4, q4, s4⟩ := stOwn (q2.ext x3) hrn (j := j * 4 + 1) (v := .string (markT (f + 1))) (by simp; omega) rfl
    obtain ⟨h5, t5, x5, k5, q5, s5⟩ := stOwn q4 hrn (j := j * 4 + 2) (v := .int .i64 (f + 2)) (by simp; omega) rfl
    have s3 := x3.size
    have X5 : Ext b h h5 := ((x2.trans (x3.mono (by omega))).trans x4).trans x5
    have kz5 : ∀ {kv ks rt}, KZ h kv ks rt → KZ h5 kv ks rt := fun z => (((z.keep (g := h2) fun j o a he _ => k2 j o a (.inl (by rw [he]; decide))).keep (g := h3) fun j o a _ _ => x3.at? (at?_obj a).2.1 a).keep (g := h4) fun j o a he _ => k4 j o a (.inl (by rw [he]; decide))).keep fun j o a he _ => k5 j o a (.inl (by rw [he]; decide))
    generalize hc5 : ((cells.set (j * 4) (.int .i64 f)).set (j * 4 + 1) (.string (markT (f + 1)))).set (j * 4 + 2) (.int .i64 (f + 2)) = cells5 at q5
    have l5 : cells5.length = cells.length := by rw [← hc5]; simp
    have c0 : cells5[j * 4]? = some (.int .i64 f) := by rw [← hc5]; simp [List.getElem?_set] <;> omega
    have c1 : cells5[j * 4 + 1]? = some (.string (markT (f + 1))) := by rw [← hc5]; simp [List.getElem?_set] <;> omega
    have c2 : cells5[j * 4 + 2]? = some (.int .i64 (f + 2)) := by rw [← hc5]; simp [List.getElem?_set] <;> omega
    have c3 : cells5[j * 4 + 3]? = some kv := by rw [← hc5]; simp [List.getElem?_set, g1]
    have far : ∀ q, (q < j * 4 ∨ j * 4 + 3 ≤ q) → cells5[q]? = cells[q]? := fun q hq => by
      rw [← hc5, List.getElem?_set_ne (by omega), List.getElem?_set_ne (by omega), List.getElem?_set_ne (by omega)]
    have hrtj : rts.getD j 0 ∈ rts := getD_mem (by omega)
    -- the kids
    obtain ⟨h6, ys, t6, x6, k6, z6, l6, m6⟩ : ∃ h6 ys, call Try.prog Ms (d + 1) 34 [kv, .int .i64 (f + 3)] h5 = some (.int .i64 (f + 3 + (ns[j].ks.length : Int)), h6) ∧ Ext b h5 h6 ∧ (∀ q o, h5.at? q = some o → (o.elem ≠ 3 ∨ o.root ≠ rts.getD j 0) → h6.at? q = some o) ∧ KZ h6 kv ys (rts.getD j 0) ∧ ys.length = ns[j].ks.length ∧ Mk (f + 3) ys := by
      rcases kz5 g2 with ⟨e1, e2⟩ | ⟨id, e1, e2⟩
      · refine ⟨h5, [], ?_, Ext.refl _ _, fun _ _ a _ => a, .inl ⟨e1, rfl⟩, by rw [e2], fun i hi => absurd hi (Nat.not_lt_zero _)⟩
        rw [e1, e2, l34n (by omega)]; simp
      · obtain ⟨h6, ys, a, b1, c, d1, e, f1, _⟩ := l34 (d := d) hd (k0 := f + 3) (hrb _ hrtj) (by omega) (by omega) (by omega) e2
        refine ⟨h6, ys, by rw [e1]; exact a, b1, c, .inr ⟨id, by rw [e1, e], d1⟩, e, f1⟩
    have nz : ∀ i, i < ns.length → i ≠ j → rts.getD i 0 ≠ rts.getD j 0 := fun i hi hij e => by
      have hi' : i < rts.length := by omega
      have hj' : j < rts.length := by omega
      have ei : rts.getD i 0 = rts[i] := by simp [hi']
      have ej : rts.getD j 0 = rts[j] := by simp [hj']
      rw [ei, ej] at e
      have pw := List.pairwise_iff_getElem.1 hnd
      rcases Nat.lt_or_gt_of_ne hij with h | h
      · exact pw i j hi' hj' h e
      · exact pw j i hj' hi' h e.symm
    have ms : MS h6 r rn ns rts (j + 1) cells5 := by
      refine ⟨let ⟨ep, a⟩ := q5; ⟨ep, k6 r _ a (.inl (show (73 : TypeId) ≠ 3 by decide))⟩, by omega, fun i n hi hij => ?_, fun i n hi hij => ?_⟩
      · have hil : i < ns.length := (List.getElem?_eq_some_iff.1 hi).1
        by_cases hj' : i = j
        · subst hj'
          rw [hn] at hi
          cases hi
          rw [hf]
          exact ⟨kv, ys, c0, c1, c2, c3, z6, l6, m6⟩
        · obtain ⟨kv', ys', a0, a1, a2, a3, a4, a5⟩ := o3 i n hi (by omega)
          refine ⟨kv', ys', ?_, ?_, ?_, ?_, (kz5 a4).keep fun q o a he hr => k6 q o a (.inr (by rw [hr]; exact nz i hil hj')), a5⟩ <;> rw [far _ (by omega)] <;> assumption
      · have hil : i < ns.length := (List.getElem?_eq_some_iff.1 hi).1
        obtain ⟨kv', a0, a1⟩ := o4 i n hi (by omega)
        exact ⟨kv', by rw [far _ (by omega)]; exact a0, (kz5 a1).keep fun q o a he hr => k6 q o a (.inr (by rw [hr]; exact nz i hil (by omega)))⟩
    have hfn : fM ns (j + 1) = f + 3 + (ns[j].ks.length : Int) := by rw [fM, kL_get hn, hf]
    have s6 := x6.size
    obtain ⟨g, cells', t7, x7, m7, u7⟩ := ih (j + 1) m cells5 h6 (by omega) (by omega) (by omega) (by omega) ms
    refine ⟨g, cells', ?_, (X5.trans x6).trans x7, m7, fun q o a e1 e2 => u7 q o (k6 q o (k5 q o (k4 q o (x3.at? (by have := (at?_obj a).2.1; omega) (k2 q o a (.inl e1))) (.inl e1)) (.inl e1)) (.inl e2)) e1 e2⟩
    rw [hfn] at t7
    rw [s68_0_eq]
    refine eb rfl (eb rfl (ect (decide_eq_true (by omega)) (eb hix (eb rfl (eb t2 ?_)))))
    rw [w1]
    refine eb t3 (eb rfl (eb hix (eb rfl (eb t4 (eb hix (eb rfl ?_))))))
    rw [w2]
    refine eb t5 (eb hix (eb rfl (eb (q5.row.ld1 c3) ?_)))
    rw [w3]
    refine eb t6 (eb rfl ?_)
    rw [wj]; exact t7
/-- Marks that hold. -/
def Hd (h : AHeap) (v : Value) (ns : List Kn) : Prop := (v = .slice none 0 0 ∧ ns = []) ∨ ∃ r rn rts cells, v = slc r 0 ns.length ∧ MS h r rn ns rts ns.length cells
theorem Hd.ext {h g : AHeap} {v : Value} {ns : List Kn} (x : Hd h v ns) (e : Ext h.size h g) : Hd g v ns := by
  rcases x with x | ⟨r, rn, rts, cells, h1, h2, h3, h4, h5⟩
  · exact .inl x
  · exact .inr ⟨r, rn, rts, cells, h1, h2.ext e, h3, fun i n hi hj => (h4 i n hi hj).keep fun j o a _ _ => e.at? (at?_obj a).2.1 a, fun i n hi hj => absurd (List.getElem?_eq_some_iff.1 hi).1 (by omega)⟩
theorem l33F {d b p : Nat} (hd : 1048577 < d) {v : Value} {ns : List Kn} {rts : List Nat} {rn : Nat} {tp : Int} {h : AHeap} (x : NS b p h v ns rts rn) (hb : b ≤ h.size) (hl : ns.length ≤ 10000) (hk : ∀ n ∈ ns, n.ks.length ≤ 1048576) :
    ∃ g, call Try.prog Ms (d + 3) 33 [trVal v tp, .int .i64 1] h = some (.int .i64 (fM ns ns.length), g) ∧ Ext b h g ∧ Hd g v ns ∧ ∀ j o, h.at? j = some o → o.elem ≠ 73 → o.elem ≠ 3 → g.at? j = some o := by
  have e1 := Ext.new (Nat.le_refl h.size) 35 [v, .int .i64 tp]
  have r1 := RowE.new h 35 [v, .int .i64 tp]
  have x1 := x.ext e1
  have s1 : (h.new 35 [v, .int .i64 tp]).size = h.size + 1 := rfl
  rw [c33, e33, tv_cells x.cell tp, Option.bind_some]
  simp only [aNew]
  suffices S : ∃ g, call Try.prog Ms (d + 2) 68 [v, .int .i64 1] (h.new 35 [v, .int .i64 tp]) = some (.int .i64 (fM ns ns.length), g) ∧ Ext b (h.new 35 [v, .int .i64 tp]) g ∧ Hd g v ns ∧ ∀ j o, (h.new 35 [v, .int .i64 tp]).at? j = some o → o.elem ≠ 73 → o.elem ≠ 3 → g.at? j = some o by
    obtain ⟨g, c, e, hh, u⟩ := S
    exact ⟨g, eb rfl (eb (ld2 r1.row).1 (eb c (eb rfl rfl))), (e1.mono hb).trans e, hh, fun j o a => u j o (e1.at? (at?_obj a).2.1 a)⟩
  generalize h.new 35 [v, .int .i64 tp] = h1 at e1 r1 x1 s1 ⊢
  rw [c68, e68]
  rcases x1 with ⟨rfl, rfl, _⟩ | ⟨h1', h2, h3, h4, h5, r, cells, rfl, o, h8, h9⟩
  · refine ⟨h1, ?_, Ext.refl _ _, .inl ⟨rfl, rfl⟩, fun _ _ a _ _ => a⟩
    rw [s68_0_eq]
    exact eb rfl (eb rfl (ecf rfl rfl))
  · have ms : MS h1 r rn ns rts 0 cells := ⟨o, h8, fun i n _ hi => absurd hi (Nat.not_lt_zero _), fun i n hi _ => let ⟨kv, a, z⟩ := h9 i n hi; ⟨kv, (drop4 a).2.2.2, z⟩⟩
    obtain ⟨g, cells', c, e, m, u⟩ := markF (d := d) hd hl hk h3 h4 (fun q hq => (h5 q hq).1) h1' ns.length 0 (d + 1) cells h1 (by omega) (by omega) (by omega) (by omega) ms
    exact ⟨g, c, e, .inr ⟨r, rn, rts, cells', rfl, m⟩, u⟩
theorem l79 {d : Nat} (hd : 1048577 < d) {v : Value} {ns : List Kn} (hl : ns.length ≤ 10000) (hk : ∀ n ∈ ns, n.ks.length ≤ 1048576) : ∀ (k j m : Nat) (h : AHeap), ns.length - j = k → j ≤ ns.length → k < m → Hd h v ns →
    ∃ g, s79_0 hk0 (call Try.prog Ms (d + 1)) (d + 1) m v (fM ns j) (j : Int) h = some (.int .i64 (fM ns ns.length), g) ∧ Ext h.size h g := by
  intro k
  induction k with
  | zero =>
    intro j m h hk' hj hm x
    obtain ⟨m, rfl⟩ : ∃ q, m = q + 1 := ⟨m - 1, by omega⟩
    have hjl : j = ns.length := by omega
    subst hjl
    refine ⟨h, ?_, Ext.refl _ _⟩
    rw [s79_0_eq]
    have hlen : aLen v = some (.int .i64 (ns.length : Int)) := by
      rcases x with ⟨rfl, rfl⟩ | ⟨r, rn, rts, cells, rfl, _⟩ <;> rfl
    exact eb hlen (eb rfl (ecf (decide_eq_false (by omega)) rfl))
  | succ k ih =>
    intro j m h hk' hj hm x
    obtain ⟨m, rfl⟩ : ∃ q, m = q + 1 := ⟨m - 1, by omega⟩
    have hlt : j < ns.length := by omega
    have hn : ns[j]? = some ns[j] := by simp [hlt]
    have fb := fM_le hk j
    have hkj := hk ns[j] (List.getElem_mem hlt)
    rcases x with ⟨rfl, rfl⟩ | ⟨r, rn, rts, cells, rfl, ms⟩
    · simp at hlt
    have hx : Hd h (slc r 0 ns.length) ns := .inr ⟨r, rn, rts, cells, rfl, ms⟩
    obtain ⟨kv, ys, a0, a1, a2, a3, a4, a5, a6⟩ := ms.2.2.1 j _ hn hlt
    have hfn : fM ns (j + 1) = fM ns j + 3 + (ns[j].ks.length : Int) := by rw [fM, kL_get hn]
    generalize fM ns j = f at fb a0 a1 a2 a6 hfn ⊢
    have w1 : IntKind.i64.wrap (f + 1) = f + 1 := wr (by omega) (by omega)
    have w2 : IntKind.i64.wrap (f + 1 + 1) = f + 2 := by rw [wr (by omega) (by omega)]; omega
    have w3 : IntKind.i64.wrap (f + 2 + 1) = f + 3 := by rw [wr (by omega) (by omega)]; omega
    have wj : IntKind.i64.wrap ((j : Int) + 1) = ((j + 1 : Nat) : Int) := by rw [wr (by omega) (by omega)]; omega
    have hix : aIdx (slc r 0 ns.length) (.int .i64 (j : Int)) 4 = some (ptr r (j * 4)) := by simp [aIdx, slc, hlt]
    obtain ⟨h2, c2, x2⟩ := l55 (d := d) (by omega) (x := f + 1) (Int.lt_of_le_of_lt (b := 100000000000) (by omega) (by decide)) h
    have row := ms.1.row
    have row2 := (ms.1.ext x2).row
    have z2 : ISl h2.size h2 kv ys := (a4.keep fun j o a _ _ => x2.at? (at?_obj a).2.1 a).isl
    have c3 := l35 (d := d) hd (k0 := f + 3) (by omega) (by omega) (by omega) z2 a6
    obtain ⟨g, c4, x4⟩ := ih (j + 1) m h2 (by omega) (by omega) (by omega) (hx.ext x2)
    rw [hfn] at c4
    rw [a5] at c3
    refine ⟨g, ?_, Ext.tr x2 x4⟩
    rw [s79_0_eq]
    refine eb rfl (eb rfl (ect (decide_eq_true (by omega)) (eb hix (eb rfl (eb (row.ld1 a0) (eb rfl (ecf (bne_self_eq_false _) (eb hix (eb rfl (eb (row.ld1 a1) (eb rfl ?_)))))))))))
    rw [w1]
    refine eb c2 (eb rfl (eb (ag2s (row2.ld1 a1)) (ect (vbeq_str _) (ecf (by simp) (eb hix (eb rfl (eb (row2.ld1 a2) (eb rfl ?_))))))))
    rw [w2]
    refine ecf (bne_self_eq_false _) (eb hix (eb rfl (eb (row2.ld1 a3) ?_)))
    rw [w3]
    refine eb c3 (eb rfl (ecf (decide_eq_false (by omega)) ?_))
    rw [wj]; exact c4
theorem l44 {d : Nat} (hd : 1048577 < d) {v : Value} {ns : List Kn} {tp : Int} {h : AHeap} (hv : isCell v = true) (hl : ns.length ≤ 10000) (hk : ∀ n ∈ ns, n.ks.length ≤ 1048576) (x : Hd h v ns) :
    ∃ g, call Try.prog Ms (d + 3) 44 [trVal v tp, .int .i64 1] h = some (.int .i64 (fM ns ns.length), g) ∧ Ext h.size h g := by
  have e1 := Ext.new (Nat.le_refl h.size) 35 [v, .int .i64 tp]
  have r1 := RowE.new h 35 [v, .int .i64 tp]
  have fb := fM_le hk ns.length
  obtain ⟨g, c, e⟩ := l79 hd hl hk ns.length 0 (d + 1) _ (by omega) (by omega) (by omega) (x.ext e1)
  refine ⟨g, ?_, Ext.tr e1 e⟩
  rw [c44, e44, tv_cells hv tp, Option.bind_some]
  simp only [aNew]
  have c' : call Try.prog Ms (d + 2) 79 [v, .int .i64 1] (h.new 35 [v, .int .i64 tp]) = some (.int .i64 (fM ns ns.length), g) := by rw [c79, e79]; exact c
  exact eb rfl (eb (ld2 r1.row).1 (eb c' (eb rfl (ecf (decide_eq_false (by omega)) rfl))))
end Go.Proofs.Ytadmoackacickaa
