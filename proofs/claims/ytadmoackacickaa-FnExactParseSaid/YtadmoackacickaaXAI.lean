import Derived.Test.YtadmoackacickaaXAH
/- The reference's parser: its small steps. -/
set_option linter.unusedSimpArgs false
namespace Go.Proofs.Ytadmoackacickaa
open Go Go.AH

variable {c : PC} {h : AHeap} {st st' : PSt} {rn : Option Nat} {D : Nat}
theorem nN {P : Option (Value × AHeap) → Prop} {h : AHeap} {e : TypeId} {cells : List Value} {k : Value → AHeap → Option (Value × AHeap)} (hk : P (k (ptr h.size 0) (h.new e cells))) : P (aNew h e cells k) := hk
theorem Qp.same {o : Option (Value × AHeap)} {v : Value} (x : QH c h st rn) (e : ∃ g, o = some (v, g) ∧ Ext h.size h g) : Qp c h rn o v st :=
  let ⟨g, a, b⟩ := e; ⟨g, rn, a, x.ext b, QK.ext b, PRN.refl rn h⟩
theorem tok_vbeq (t : Tok) : vbeq t.val t.val = true := by
  show (vbeq1 (.int .i64 t.k) (.int .i64 t.k) && (vbeq1 (.int .i64 t.at') (.int .i64 t.at') && (vbeq1 (.string t.text) (.string t.text) && (vbeq1 (.int .i64 t.i) (.int .i64 t.i) && true)))) = true
  rw [show vbeq1 (.string t.text) (.string t.text) = true from vbeq_str t.text]; simp [vbeq1]
theorem TokH.vb {h : AHeap} {v : Value} {ts : List Tok} (x : TokH h v ts) : vbeq v v = true := by
  rcases x with ⟨rfl, rfl⟩ | ⟨i, rfl, _⟩ <;> simp [vbeq, vbeq1, slc]
theorem TokH.fld {h : AHeap} {v : Value} {ts : List Tok} (x : TokH h v ts) {j : Nat} (hj : j < ts.length) :
    ∃ i o, aIdx v (.int .i64 (j : Int)) 4 = some (ptr i o) ∧ aLdN h (ptr i o) 4 = some ts[j].val ∧ aLd1 h (ptr i (o + 0)) = some (.int .i64 ts[j].k) ∧ aLd1 h (ptr i (o + 1)) = some (.int .i64 ts[j].at') ∧ aLd1 h (ptr i (o + 2)) = some (.string ts[j].text) ∧ aLd1 h (ptr i (o + 3)) = some (.int .i64 ts[j].i) := by
  have hg : ∀ k, k < 4 → (flat ts)[j * 4 + k]? = ts[j].cells[k]? := fun k hk => by
    rw [← flat_at ts j hj, List.getElem?_take_of_lt hk, List.getElem?_drop]
  rcases x with ⟨_, rfl⟩ | ⟨i, rfl, e⟩
  · simp at hj
  · have r := e.row
    exact ⟨i, j * 4, by simp [aIdx, slc, hj], by rw [r.ldN (by rw [flat_len]; omega), flat_at ts j hj]; rfl, r.ld1 (by rw [hg 0 (by omega)]; rfl), r.ld1 (by rw [hg 1 (by omega)]; rfl), r.ld1 (by rw [hg 2 (by omega)]; rfl), r.ld1 (by rw [hg 3 (by omega)]; rfl)⟩
theorem pk_dead (hc : st.code ≠ 0) : (pk c st).k = 0 := by unfold pk; rw [if_pos hc]
theorem pk_end (hc : st.code = 0) (he : c.toks.length ≤ st.at') : pk c st = ⟨0, c.en, ⟨#[]⟩, 0⟩ := by unfold pk; rw [if_neg (by simp [hc]), List.getElem?_eq_none he]; rfl
theorem pk_at (hc : st.code = 0) (hl : st.at' < c.toks.length) : pk c st = c.toks[st.at'] := by unfold pk; rw [if_neg (by simp [hc]), List.getElem?_eq_getElem hl]; rfl
theorem isP_zero {t : ByteArray} (hk : (pk c st).k = 0) : isP c st t = false := by unfold isP; rw [if_neg (by omega), if_neg (by omega)]
theorem q174 {code : Int} (hD : 1 ≤ D) (x : QH c h st rn) : Qp c h rn (call Try.prog Ms D 174 [ptr c.p 0, .int .i64 code] h) (.int .i64 (-1)) (failP c st code) := by
  obtain ⟨D, rfl⟩ : ∃ d, D = d + 1 := ⟨D - 1, by omega⟩
  obtain ⟨nv, nd, f0, f1, f2, f3, f4, f5, f6⟩ := x.ld
  rw [c174, e174]
  unfold failP
  by_cases hc : st.code = 0
  · rw [if_pos hc]
    have w0 : QS c rn h st rn h := ⟨x, QK.refl rn h, PRN.refl rn h⟩
    obtain ⟨g1, a1, w1, _⟩ := w0.st (i := 3) (st' := { st with code := code }) (v := .int .i64 code) (by omega) rfl rfl (fun _ => rfl)
    obtain ⟨_, _, _, _, _, _, _, _, m6⟩ := w1.ph.ld
    obtain ⟨g2, a2, w2, _⟩ := w1.st (i := 4) (st' := { st with code := code, place := c.en }) (v := .int .i64 c.en) (by omega) rfl rfl (fun _ => rfl)
    obtain ⟨_, _, n0, n1, _⟩ := w2.ph.ld
    obtain ⟨_, _, tk, _⟩ := w2.ph
    refine pb (P := fun o => Qp c h rn o _ _) rfl (pb (P := fun o => Qp c h rn o _ _) rfl (pb (P := fun o => Qp c h rn o _ _) f3 (pb (P := fun o => Qp c h rn o _ _) rfl (pct (P := fun o => Qp c h rn o _ _) (by simp [hc]) ?_))))
    show Qp c h rn ((some (ptr c.p 0)).bind _) _ _
    by_cases hl : st.at' < c.toks.length
    · obtain ⟨i, o, b1, _, _, b2, _⟩ := tk.fld hl
      obtain ⟨g3, a3, w3, _⟩ := w2.st (i := 4) (st' := { st with code := code, place := c.toks[st.at'].at' }) (v := .int .i64 c.toks[st.at'].at') (by omega) rfl rfl (fun _ => rfl)
      rw [pk_at hc hl]
      exact ⟨g3, rn, eb rfl (eb rfl (eb a1 (eb rfl (eb rfl (eb m6 (eb rfl (eb rfl (eb rfl (eb a2 (eb rfl (eb rfl (eb n1 (eb rfl (eb rfl (eb rfl (eb n0 (eb tk.len (eb rfl (ect (decide_eq_true (by show (st.at' : Int) < _; omega)) (eb rfl (eb rfl (eb n0 (eb rfl (eb rfl (eb n1 (eb rfl (eb b1 (eb rfl (eb b2 (eb rfl (eb rfl (eb rfl (eb a3 rfl))))))))))))))))))))))))))))))))), w3⟩
    · rw [pk_end hc (by omega)]
      exact ⟨g2, rn, eb rfl (eb rfl (eb a1 (eb rfl (eb rfl (eb m6 (eb rfl (eb rfl (eb rfl (eb a2 (eb rfl (eb rfl (eb n1 (eb rfl (eb rfl (eb rfl (eb n0 (eb tk.len (eb rfl (ecf (decide_eq_false (by show ¬ (st.at' : Int) < _; omega)) rfl))))))))))))))))))), w2⟩
  · rw [if_neg hc]
    exact Qp.same x ⟨h, eb rfl (eb rfl (eb f3 (eb rfl (ecf (by simp [hc]) rfl)))), Ext.refl _ _⟩
theorem q134 {t : ByteArray} (hD : 1 ≤ D) (x : QH c h st rn) : Qp c h rn (call Try.prog Ms D 134 [ptr c.p 0, .string t] h) (.bool (isP c st t)) st := by
  obtain ⟨D, rfl⟩ : ∃ d, D = d + 1 := ⟨D - 1, by omega⟩
  refine Qp.same x ?_
  obtain ⟨nv, nd, f0, f1, f2, f3, f4, f5, f6⟩ := x.ld
  obtain ⟨_, _, tk, _⟩ := x
  rw [c134, e134]
  have gone : (pk c st).k = 0 → ∃ g, s134_0 hk0 (call Try.prog Ms D) D (ptr c.p 0) t true h = some (.bool (isP c st t), g) ∧ Ext h.size h g := fun hz => by
    rw [isP_zero hz, s134_0_j, s134_0_eq]
    exact ⟨h, ect rfl rfl, Ext.refl _ _⟩
  by_cases hc : st.code = 0
  · by_cases hl : st.at' < c.toks.length
    · obtain ⟨i, o, b1, b2, _⟩ := tk.fld hl
      obtain ⟨g, a1, e1, r1, _⟩ := tokRow h c.toks[st.at']
      have en := Ext.new (Nat.le_refl h.size) 53 [.int .i64 0, .int .i64 0, .string ⟨#[]⟩, .int .i64 0]
      have k0 : aLd1 (h.new 53 [.int .i64 0, .int .i64 0, .string ⟨#[]⟩, .int .i64 0]) (ptr c.p 0) = some c.tv := ldX1 f0 en
      have k1 : aLd1 (h.new 53 [.int .i64 0, .int .i64 0, .string ⟨#[]⟩, .int .i64 0]) (ptr c.p 1) = some (.int .i64 st.at') := ldX1 f1 en
      have k2 : aLdN (h.new 53 [.int .i64 0, .int .i64 0, .string ⟨#[]⟩, .int .i64 0]) (ptr i o) 4 = some c.toks[st.at'].val := ldX b2 en
      have m0 : aLd1 g (ptr h.size 0) = some (.int .i64 c.toks[st.at'].k) := r1.row.ld1 rfl
      have m2 : aLd1 g (ptr h.size 2) = some (.string c.toks[st.at'].text) := r1.row.ld1 rfl
      unfold isP
      rw [pk_at hc hl]
      refine ⟨g, ?_, e1⟩
      refine eb rfl (eb rfl (eb f3 (eb rfl (ecf (by simp [hc]) (eb rfl (eb rfl (eb f1 (eb rfl (eb rfl (eb rfl (eb f0 (eb tk.len (eb rfl ?_)))))))))))))
      rw [decide_eq_false (by omega), s134_0_j, s134_0_eq]
      refine ecf rfl ?_
      rw [s134_1_j, s134_1_eq]
      refine eb rfl (eb rfl (eb f0 (eb rfl (eb rfl (eb f1 (eb rfl (eb b1 (eb b2 ?_))))))))
      show ((aLd1 (h.new 53 [.int .i64 0, .int .i64 0, .string ⟨#[]⟩, .int .i64 0]) (ptr c.p 0)).bind fun v25 => some (vbeq v25 c.tv)).bind _ = _
      refine eb (v := true) (by rw [k0, Option.bind_some, tk.vb]) (ect rfl (eb (v := true) (by show (aLd1 _ (ptr c.p 1)).bind _ = _; rw [k1]; show some (vbeq (.int .i64 (st.at' : Int)) (.int .i64 (st.at' : Int))) = _; simp [vbeq, vbeq1]) (ect rfl (eb (v := true) (by rw [k2, Option.bind_some, tok_vbeq]) (ect rfl (eb a1 (eb rfl (eb m0 (eb rfl ?_)))))))))
      by_cases h2 : c.toks[st.at'].k = 2
      · rw [if_neg (by omega), if_pos h2]
        exact ect (by simp [h2]) (eb rfl (eb m2 (eb rfl rfl)))
      · refine ecf (by simpa using h2) (eb rfl (eb m0 (eb rfl ?_)))
        by_cases h5 : c.toks[st.at'].k = 5
        · rw [if_pos h5]; exact ect (by simp [h5]) (eb rfl (eb m2 (eb rfl rfl)))
        · rw [if_neg h5, if_neg h2]; exact ecf (by simpa using h5) rfl
    · obtain ⟨g, a, b⟩ := gone (by rw [pk_end hc (by omega)])
      refine ⟨g, ?_, b⟩
      refine eb rfl (eb rfl (eb f3 (eb rfl (ecf (by simp [hc]) (eb rfl (eb rfl (eb f1 (eb rfl (eb rfl (eb rfl (eb f0 (eb tk.len (eb rfl ?_)))))))))))))
      rw [decide_eq_true (by omega)]; exact a
  · obtain ⟨g, a, b⟩ := gone (pk_dead hc)
    exact ⟨g, eb rfl (eb rfl (eb f3 (eb rfl (ect (by simpa using hc) a)))), b⟩
theorem q173 (hD : 1 ≤ D) (x : QH c h st rn) : Qp c h rn (call Try.prog Ms D 173 [ptr c.p 0] h) (.int .i64 (pk c st).k) st := by
  obtain ⟨D, rfl⟩ : ∃ d, D = d + 1 := ⟨D - 1, by omega⟩
  refine Qp.same x ⟨h, ?_, Ext.refl _ _⟩
  obtain ⟨nv, nd, f0, f1, f2, f3, f4, f5, f6⟩ := x.ld
  obtain ⟨_, _, tk, _⟩ := x
  rw [c173, e173]
  have gone : (pk c st).k = 0 → s173_0 hk0 (call Try.prog Ms D) D (ptr c.p 0) true h = some (.int .i64 (pk c st).k, h) := fun hz => by
    rw [hz, s173_0_j, s173_0_eq]
    exact ect rfl rfl
  by_cases hc : st.code = 0
  · by_cases hl : st.at' < c.toks.length
    · obtain ⟨i, o, b1, _, b2, _⟩ := tk.fld hl
      rw [pk_at hc hl]
      refine eb rfl (eb rfl (eb f3 (eb rfl (ecf (by simp [hc]) (eb rfl (eb rfl (eb f1 (eb rfl (eb rfl (eb rfl (eb f0 (eb tk.len (eb rfl ?_)))))))))))))
      rw [decide_eq_false (by omega), s173_0_j, s173_0_eq]
      refine ecf rfl ?_
      rw [s173_1_j, s173_1_eq]
      exact eb rfl (eb rfl (eb f0 (eb rfl (eb rfl (eb f1 (eb rfl (eb b1 (eb rfl (eb b2 (eb rfl rfl))))))))))
    · refine eb rfl (eb rfl (eb f3 (eb rfl (ecf (by simp [hc]) (eb rfl (eb rfl (eb f1 (eb rfl (eb rfl (eb rfl (eb f0 (eb tk.len (eb rfl ?_)))))))))))))
      rw [decide_eq_true (by omega)]; exact gone (by rw [pk_end hc (by omega)])
  · exact eb rfl (eb rfl (eb f3 (eb rfl (ect (by simpa using hc) (gone (pk_dead hc))))))
theorem q136 {t : ByteArray} (hD : 2 ≤ D) (x : QH c h st rn) (hp : wantP c t st = some st') : Qp c h rn (call Try.prog Ms D 136 [ptr c.p 0, .string t] h) unit st' := by
  obtain ⟨D, rfl⟩ : ∃ d, D = d + 1 := ⟨D - 1, by omega⟩
  have w : QS c rn h st rn h := ⟨x, QK.refl rn h, PRN.refl rn h⟩
  rw [c136, e136]
  unfold wantP takesP at hp
  refine calB (P := fun o => Qp c h rn o _ _) w (q134 (by omega) x) fun g r1 w1 k1 n1 => ?_
  by_cases hi : isP c st t = true
  · rw [if_pos hi] at hp
    rw [hi]
    cases ha : adv 1 st with
    | none => rw [ha] at hp; cases hp
    | some s2 =>
      rw [ha] at hp; cases hp
      refine pcf (P := fun o => Qp c h rn o _ _) rfl ?_
      exact incS (P := fun o => Qp c h rn o _ _) w1 ha fun g2 w2 _ => ⟨g2, r1, rfl, w2⟩
  · rw [if_neg hi] at hp
    cases hp
    have : isP c st t = false := by simpa using hi
    rw [this]
    refine pct (P := fun o => Qp c h rn o _ _) rfl ?_
    exact calS (P := fun o => Qp c h rn o _ _) w1 (q174 (code := 2) (by omega) w1.ph) fun g2 r2 w2 _ _ => ⟨g2, r2, rfl, w2⟩
theorem q135 {t : ByteArray} (hD : 2 ≤ D) (x : QH c h st rn) (hp : nameN c st = some (t, st')) : Qp c h rn (call Try.prog Ms D 135 [ptr c.p 0] h) (.string t) st' := by
  obtain ⟨D, rfl⟩ : ∃ d, D = d + 1 := ⟨D - 1, by omega⟩
  have w : QS c rn h st rn h := ⟨x, QK.refl rn h, PRN.refl rn h⟩
  rw [c135, e135]
  unfold nameN at hp
  refine calS (P := fun o => Qp c h rn o _ _) w (q173 (by omega) x) fun g r1 w1 k1 n1 => ?_
  by_cases hi : (pk c st).k ≠ 1
  · rw [if_pos hi] at hp
    cases hp
    refine pct (P := fun o => Qp c h rn o _ _) (by simpa using hi) ?_
    exact calS (P := fun o => Qp c h rn o _ _) w1 (q174 (code := 2) (by omega) w1.ph) fun g2 r2 w2 _ _ => ⟨g2, r2, rfl, w2⟩
  · rw [if_neg hi] at hp
    have hi' : (pk c st).k = 1 := by omega
    have hc : st.code = 0 := by
      apply Decidable.byContradiction
      intro h0; rw [pk_dead h0] at hi'; cases hi'
    have hl : st.at' < c.toks.length := by
      apply Decidable.byContradiction
      intro h0; rw [pk_end hc (by omega)] at hi'; cases hi'
    unfold adv at hp
    by_cases hb : st.at' + 1 ≤ 1000000
    · rw [if_pos hb] at hp
      obtain ⟨rfl, rfl⟩ : (pk c st).text = t ∧ { st with at' := st.at' + 1 } = st' := by
        have := Option.some.inj hp
        exact ⟨congrArg (·.1) this, congrArg (·.2) this⟩
      refine pcf (P := fun o => Qp c h rn o _ _) (by simp [hi']) ?_
      refine incS (P := fun o => Qp c h rn o _ _) (st' := { st with at' := st.at' + 1 }) w1 (by unfold adv; rw [if_pos hb]) fun g2 w2 _ => ?_
      obtain ⟨nv, nd, f0, f1, _⟩ := w2.ph.ld
      have tk : TokH g2 c.tv c.toks := let ⟨_, _, a, _⟩ := w2.ph; a
      obtain ⟨i, o, b1, _, _, _, b2, _⟩ := tk.fld hl
      have w8 : IntKind.i64.wrap (((st.at' + 1 : Nat) : Int) - 1) = (st.at' : Int) := by rw [wr (by omega) (by omega)]; omega
      refine ⟨g2, r1, eb rfl (eb rfl (eb f0 (eb rfl (eb rfl (eb f1 (eb rfl ?_)))))), w2⟩
      show (aIdx c.tv (.int .i64 (IntKind.i64.wrap (((st.at' + 1 : Nat) : Int) - 1))) 4).bind _ = _
      rw [w8, pk_at hc hl]
      exact eb b1 (eb rfl (eb b2 (eb rfl rfl)))
    · rw [if_neg hb] at hp; cases hp
def openS (c : PC) (st : PSt) : Option (Bool × PSt) :=
  if st.code ≠ 0 then some (false, st) else if st.at' ≥ c.toks.length then some (false, failP c st 2) else if st.nest ≥ 30 then some (false, failP c st 3) else (nestTo 1 st).map (true, ·)
theorem q175 {b : Bool} (hD : 2 ≤ D) (x : QH c h st rn) (hp : openS c st = some (b, st')) : Qp c h rn (call Try.prog Ms D 175 [ptr c.p 0] h) (.bool b) st' := by
  obtain ⟨D, rfl⟩ : ∃ d, D = d + 1 := ⟨D - 1, by omega⟩
  have w : QS c rn h st rn h := ⟨x, QK.refl rn h, PRN.refl rn h⟩
  obtain ⟨nv, nd, f0, f1, f2, f3, f4, f5, f6⟩ := x.ld
  have tk : TokH h c.tv c.toks := let ⟨_, _, a, _⟩ := x; a
  rw [c175, e175]
  unfold openS at hp
  by_cases hc : st.code ≠ 0
  · rw [if_pos hc] at hp; cases hp
    exact Qp.same x ⟨h, eb rfl (eb rfl (eb f3 (eb rfl (ect (by simpa using hc) rfl)))), Ext.refl _ _⟩
  rw [if_neg hc] at hp
  refine pb (P := fun o => Qp c h rn o _ _) rfl (pb (P := fun o => Qp c h rn o _ _) rfl (pb (P := fun o => Qp c h rn o _ _) f3 (pb (P := fun o => Qp c h rn o _ _) rfl (pcf (P := fun o => Qp c h rn o _ _) (by simpa using hc) ?_))))
  refine pb (P := fun o => Qp c h rn o _ _) rfl (pb (P := fun o => Qp c h rn o _ _) rfl (pb (P := fun o => Qp c h rn o _ _) f1 (pb (P := fun o => Qp c h rn o _ _) rfl (pb (P := fun o => Qp c h rn o _ _) rfl (pb (P := fun o => Qp c h rn o _ _) rfl (pb (P := fun o => Qp c h rn o _ _) f0 (pb (P := fun o => Qp c h rn o _ _) tk.len (pb (P := fun o => Qp c h rn o _ _) rfl ?_))))))))
  by_cases ha : st.at' ≥ c.toks.length
  · rw [if_pos ha] at hp; cases hp
    refine pct (P := fun o => Qp c h rn o _ _) (decide_eq_true (by omega)) ?_
    exact calS (P := fun o => Qp c h rn o _ _) w (q174 (code := 2) (by omega) x) fun g2 r2 w2 _ _ => ⟨g2, r2, rfl, w2⟩
  rw [if_neg ha] at hp
  refine pcf (P := fun o => Qp c h rn o _ _) (decide_eq_false (by omega)) ?_
  refine pb (P := fun o => Qp c h rn o _ _) rfl (pb (P := fun o => Qp c h rn o _ _) rfl (pb (P := fun o => Qp c h rn o _ _) f5 (pb (P := fun o => Qp c h rn o _ _) rfl ?_)))
  by_cases hn : st.nest ≥ 30
  · rw [if_pos hn] at hp; cases hp
    refine pct (P := fun o => Qp c h rn o _ _) (decide_eq_true hn) ?_
    exact calS (P := fun o => Qp c h rn o _ _) w (q174 (code := 3) (by omega) x) fun g2 r2 w2 _ _ => ⟨g2, r2, rfl, w2⟩
  rw [if_neg hn] at hp
  unfold nestTo at hp
  by_cases hl : -1000 ≤ st.nest + 1 ∧ st.nest + 1 ≤ 1000
  · rw [if_pos hl] at hp; cases hp
    have w1 : IntKind.i64.wrap (st.nest + 1) = st.nest + 1 := wr (by omega) (by omega)
    obtain ⟨g, a, b, d⟩ := w.st (i := 5) (st' := { st with nest := st.nest + 1 }) (v := .int .i64 (st.nest + 1)) (by omega) rfl rfl (fun _ => rfl)
    refine ⟨g, rn, ecf (decide_eq_false hn) (eb rfl (eb rfl (eb f5 (eb rfl (eb rfl (eb rfl ?_)))))), b⟩
    rw [w1]
    exact eb a rfl
  · rw [if_neg hl] at hp; cases hp
def nodeS (k : Int) (t : ByteArray) (i : Int) (ks : List Int) (st : PSt) : Option (Int × PSt) := if st.code ≠ 0 then some (-1, st) else nodeP k t i ks st
theorem q83 {k i r : Int} {t : ByteArray} {ks : List Int} {kv : Value} (hD : 1 ≤ D) (x : QH c h st rn) (hk : KidH h kv ks) (hp : nodeS k t i ks st = some (r, st')) :
    Qp c h rn (call Try.prog Ms D 83 [ptr c.p 0, .agg (List.toArray (knCells ⟨k, t, i, ks⟩ kv))] h) (.int .i64 r) st' := by
  obtain ⟨D, rfl⟩ : ∃ d, D = d + 1 := ⟨D - 1, by omega⟩
  have e1 := Ext.new (Nat.le_refl h.size) 73 (knCells ⟨k, t, i, ks⟩ kv)
  have x1 := x.ext e1
  have w1 : QS c rn h st rn (h.new 73 (knCells ⟨k, t, i, ks⟩ kv)) := ⟨x1, QK.ext e1, PRN.refl rn h⟩
  have r1 := RowE.new h 73 (knCells ⟨k, t, i, ks⟩ kv)
  have kc := kn_cells (kv := kv) hk.cell ⟨k, t, i, ks⟩
  have k1 := hk.ext e1
  rw [c83, e83]
  refine pb (P := fun o => Qp c h rn o _ _) (v := knCells ⟨k, t, i, ks⟩ kv) kc ?_
  refine nN (P := fun o => Qp c h rn o _ _) ?_
  have L : aLdN (h.new 73 (knCells ⟨k, t, i, ks⟩ kv)) (ptr h.size 0) 4 = some (.agg (List.toArray (knCells ⟨k, t, i, ks⟩ kv))) := by
    rw [r1.row.ldN (by show 0 + 4 ≤ 4; omega)]; rfl
  generalize h.new 73 (knCells ⟨k, t, i, ks⟩ kv) = h1 at e1 x1 w1 r1 k1 L ⊢
  obtain ⟨nv, nd, f0, f1, f2, f3, f4, f5, f6⟩ := x1.ld
  unfold nodeS at hp
  by_cases hc : st.code ≠ 0
  · rw [if_pos hc] at hp; cases hp
    exact ⟨h1, rn, eb rfl (eb rfl (eb f3 (eb rfl (ect (by simpa using hc) rfl)))), w1⟩
  rw [if_neg hc] at hp
  unfold nodeP at hp
  by_cases hl : st.nodes.length ≤ 1000000
  · rw [if_pos hl] at hp; cases hp
    obtain ⟨nv0, o, tk, nd⟩ := x1
    have f2' : aLd1 h1 (ptr c.p 2) = some nv0 := o.row.ld1 rfl
    obtain ⟨nv', h2, rn', ap, nd2, pk2, n2, fr2, len2⟩ := nodesApp (n := ⟨k, t, i, ks⟩) nd k1 hl
    have en := Ext.new (Nat.le_refl h1.size) 73 (knCells ⟨k, t, i, ks⟩ kv)
    have f2n : aLd1 (h1.new 73 (knCells ⟨k, t, i, ks⟩ kv)) (ptr c.p 2) = some nv0 := ldX1 f2' en
    have qk2 : QK rn h1 h2 := ⟨pk2.1, fun j ob a b d => by
      by_cases h81 : ob.elem = 81
      · exact fr2 j ob a (by rw [h81]; decide)
      · exact pk2.2.1 j ob a h81 d, pk2.2.2⟩
    have o2 : OwnR h2 c.p c.p 114 (qcells c nv0 st) := let ⟨ep, a⟩ := o; ⟨ep, fr2 _ _ a (by show (114 : TypeId) ≠ 73; decide)⟩
    obtain ⟨h3, t3, o3, s3, f3', tp3⟩ := stQ o2 (i := 2) (by show 2 < 7; omega) (v := nv') (aCells_one nd2.cell)
    have nd3 := nd2.keepq f3'
    have qk3 : QK rn' h2 h3 := ⟨by omega, fun j ob a b _ => f3' j ob a b, fun r _ => tp3 r⟩
    have b2 : aLd1 h3 (ptr c.p 2) = some nv' := o3.row.ld1 rfl
    have w : IntKind.i64.wrap ((st.nodes.length : Int) + 1 - 1) = (st.nodes.length : Int) := by rw [wr (by omega) (by omega)]; omega
    have hz : aFill [.int .i64 0, .string ⟨#[]⟩, .int .i64 0, .slice none 0 0] [(0, 4, (.agg (List.toArray (knCells ⟨k, t, i, ks⟩ kv))))] = some (knCells ⟨k, t, i, ks⟩ kv) := by
      have this2 : aCells (.agg #[.int .i64 k, .string t, .int .i64 i, kv]) = some [.int .i64 k, .string t, .int .i64 i, kv] := kc
      simp [aFill, this2, splice, knCells]
    have vb : vbeq nv0 nv0 = true := by rcases nd with ⟨rfl, _⟩ | ⟨i, rt, cs, rfl, _⟩ <;> simp [vbeq, vbeq1, slc]
    refine ⟨h3, rn', ?_, w1.next ⟨⟨nv', o3, (tk.qk qk2).qk qk3, nd3⟩, qk2.trans n2 qk3, n2⟩⟩
    refine eb rfl (eb rfl (eb f3 (eb rfl (ecf (by simpa using hc) (eb rfl (eb rfl (eb f2' (eb L (eb hz ?_)))))))))
    show ((aLd1 (h1.new 73 (knCells ⟨k, t, i, ks⟩ kv)) (ptr c.p 2)).bind fun v15 => some (vbeq v15 nv0)).bind _ = _
    refine eb (v := true) (by rw [f2n, Option.bind_some, vb]) (ect rfl (eb ap (eb rfl (eb rfl (eb t3 (eb rfl (eb rfl (eb b2 (eb len2 (eb rfl ?_))))))))))
    rw [w]
  · rw [if_neg hl] at hp; cases hp
end Go.Proofs.Ytadmoackacickaa
/- impl's parser, once more: no two nodes have their kids in one row. -/
set_option linter.unusedSimpArgs false
namespace Go.Proofs.Ytadmoackacickaa
open Go Go.AH

/-- The nodes' row; the rows of their kids. -/
abbrev GR := Option (Nat × List Nat)
def gRoot (g : GR) : Option Nat := g.map (·.1)
def gKids : GR → List Nat
  | none => []
  | some p => p.2
def KidG (h : AHeap) (kv : Value) (ks : List Int) (rt : Nat) : Prop := (kv = .slice none 0 0 ∧ ks = []) ∨ ∃ i, kv = slc i 0 ks.length ∧ OwnR h i rt 3 (ints ks)
def NodesG (h : AHeap) (nv : Value) (ns : List Kn) (g : GR) : Prop :=
  (nv = .slice none 0 0 ∧ ns = [] ∧ g = none) ∨
  ∃ i root cells rts, nv = slc i 0 ns.length ∧ g = some (root, rts) ∧ OwnR h i root 73 cells ∧ ns.length * 4 ≤ cells.length ∧ rts.length = ns.length ∧ rts.Nodup ∧ (∀ q ∈ rts, q < h.size) ∧
    ∀ (j : Nat) (n : Kn), ns[j]? = some n → ∃ kv, (cells.drop (j * 4)).take 4 = knCells n kv ∧ KidG h kv n.ks (rts.getD j 0)
theorem KidG.old {h : AHeap} {kv : Value} {ks : List Int} {rt : Nat} (x : KidG h kv ks rt) : KidH h kv ks := by
  rcases x with x | ⟨i, a, b⟩
  · exact .inl x
  · exact .inr ⟨i, rt, a, b⟩
theorem KidG.keep {h h' : AHeap} {kv : Value} {ks : List Int} {rt : Nat} (x : KidG h kv ks rt) (k : ∀ j o, h.at? j = some o → o.elem = 3 → h'.at? j = some o) : KidG h' kv ks rt := by
  rcases x with x | ⟨i, a, ep, b⟩
  · exact .inl x
  · exact .inr ⟨i, a, ep, k i _ b rfl⟩
theorem NodesG.old {h : AHeap} {nv : Value} {ns : List Kn} {g : GR} (x : NodesG h nv ns g) : NodesH h nv ns (gRoot g) := by
  rcases x with ⟨a, b, rfl⟩ | ⟨i, root, cells, rts, a, rfl, b, d, _, _, _, e⟩
  · exact .inl ⟨a, b, rfl⟩
  · exact .inr ⟨i, root, cells, a, rfl, b, d, fun j n hn => let ⟨kv, y, z⟩ := e j n hn; ⟨kv, y, z.old⟩⟩
theorem NodesG.keep {h h' : AHeap} {nv : Value} {ns : List Kn} {g : GR} (x : NodesG h nv ns g) (hs : h.size ≤ h'.size) (k : ∀ j o, h.at? j = some o → o.elem = 73 ∨ o.elem = 3 → h'.at? j = some o) : NodesG h' nv ns g := by
  rcases x with x | ⟨i, root, cells, rts, a, b, ⟨ep, c⟩, d, e1, e2, e3, e⟩
  · exact .inl x
  · exact .inr ⟨i, root, cells, rts, a, b, ⟨ep, k i _ c (.inl rfl)⟩, d, e1, e2, fun q hq => Nat.lt_of_lt_of_le (e3 q hq) hs, fun j n hn => let ⟨kv, y, z⟩ := e j n hn; ⟨kv, y, z.keep fun j o a b => k j o a (.inr b)⟩⟩
theorem NodesG.lt {h : AHeap} {nv : Value} {ns : List Kn} {g : GR} (x : NodesG h nv ns g) : ∀ q ∈ gKids g, q < h.size := by
  rcases x with ⟨_, _, rfl⟩ | ⟨i, root, cells, rts, _, rfl, _, _, _, _, e, _⟩
  · intro q hq; cases hq
  · exact e
def GH (c : PC) (h : AHeap) (st : PSt) (g : GR) : Prop := ∃ nv, OwnR h c.p c.p 81 (pcells c nv st) ∧ TokH h c.tv c.toks ∧ NodesG h nv st.nodes g
theorem GH.old {c : PC} {h : AHeap} {st : PSt} {g : GR} (x : GH c h st g) : PH c h st (gRoot g) := let ⟨nv, a, b, d⟩ := x; ⟨nv, a, b, d.old⟩
theorem GH.ext {c : PC} {h h' : AHeap} {st : PSt} {g : GR} (x : GH c h st g) (e : Ext h.size h h') : GH c h' st g :=
  let ⟨nv, a, b, d⟩ := x; ⟨nv, a.ext e, b.pk (PK.ext e (rn := none)), d.keep e.size fun j o a _ => e.at? (at?_obj a).2.1 a⟩
def GN (g g' : GR) (h : AHeap) : Prop := PRN (gRoot g) (gRoot g') h ∧ ∀ q ∈ gKids g', q ∈ gKids g ∨ h.size ≤ q
def GF (g : GR) (h : AHeap) (g' : GR) (h' : AHeap) : Prop := PK (gRoot g) h h' ∧ GN g g' h
theorem GF.refl (g : GR) (h : AHeap) : GF g h g h := ⟨PK.refl _ h, PRN.refl _ h, fun q a => .inl a⟩
theorem GF.trans {g g1 g2 : GR} {h h1 h2 : AHeap} (x : GF g h g1 h1) (y : GF g1 h1 g2 h2) : GF g h g2 h2 :=
  ⟨x.1.trans x.2.1 y.1, PRN.trans x.1.1 x.2.1 y.2.1, fun q hq => by
    rcases y.2.2 q hq with a | a
    · exact x.2.2 q a
    · exact .inr (Nat.le_trans x.1.1 a)⟩
theorem GF.ext {g : GR} {h h' : AHeap} (e : Ext h.size h h') : GF g h g h' := ⟨PK.ext e, PRN.refl _ h, fun q a => .inl a⟩
theorem GF.pk {g : GR} {h h' : AHeap} (e : PK (gRoot g) h h') : GF g h g h' := ⟨e, PRN.refl _ h, fun q a => .inl a⟩
/-- A walk's state. -/
structure GS (c : PC) (g0 : GR) (h0 : AHeap) (st : PSt) (g : GR) (h : AHeap) : Prop where
  ph : GH c h st g
  fr : GF g0 h0 g h
def Gp (c : PC) (h : AHeap) (g : GR) (v : Value) (st' : PSt) (o : Option (Value × AHeap)) : Prop := ∃ h' g', o = some (v, h') ∧ GS c g h st' g' h'
theorem GS.new {c : PC} {h : AHeap} {st : PSt} {g : GR} (x : GH c h st g) : GS c g h st g h := ⟨x, GF.refl g h⟩
theorem GS.next {c : PC} {g0 g g' : GR} {h0 h h' : AHeap} {st st' : PSt} (w : GS c g0 h0 st g h) (x : GS c g h st' g' h') : GS c g0 h0 st' g' h' := ⟨x.ph, w.fr.trans x.fr⟩
theorem GS.ext {c : PC} {g0 g : GR} {h0 h h' : AHeap} {st : PSt} (w : GS c g0 h0 st g h) (e : Ext h.size h h') : GS c g0 h0 st g h' := ⟨w.ph.ext e, w.fr.trans (GF.ext e)⟩
theorem GS.st {c : PC} {g0 g : GR} {h0 h : AHeap} {st st' : PSt} (w : GS c g0 h0 st g h) {i : Nat} (hi : i < 7) {v : Value} (hv : aCells v = some [v]) (hn : st'.nodes = st.nodes) (hc : ∀ nv, (pcells c nv st).set i v = pcells c nv st') :
    ∃ h', aSt h (ptr c.p i) v 1 = some h' ∧ GS c g0 h0 st' g h' ∧ GF g h g h' := by
  obtain ⟨nv, a, b, d⟩ := w.ph
  obtain ⟨h', t, o', s, k, tp⟩ := stP a (i := i) hi hv
  rw [hc] at o'
  have pk : PK (gRoot g) h h' := ⟨by omega, fun j o hj h81 _ => k j o hj h81, fun r _ => tp r⟩
  exact ⟨h', t, ⟨⟨nv, o', b.pk pk, by rw [hn]; exact d.keep (by omega) fun j o hj he => k j o hj (by rcases he with he | he <;> rw [he] <;> decide)⟩, w.fr.trans (GF.pk pk)⟩, GF.pk pk⟩
/-- A list under way that no node has. -/
def PLG (h : AHeap) (v : Value) (xs : List Int) (rt : Nat) (g : GR) : Prop := PLI h v xs rt ∧ rt ∉ gKids g
theorem PLG.next {h h' : AHeap} {v : Value} {xs : List Int} {rt : Nat} {g g' : GR} (x : PLG h v xs rt g) (f : GF g h g' h') : PLG h' v xs rt g' :=
  ⟨x.1.pk f.1, fun hq => by
    rcases f.2.2 rt hq with a | a
    · exact x.2 a
    · have := x.1.lt; omega⟩
section
variable {P : Option (Value × AHeap) → Prop} {c : PC} {g0 g : GR} {h0 h : AHeap} {st st' : PSt}
theorem incG {K : AHeap → Option (Value × AHeap)} (w : GS c g0 h0 st g h) (ha : adv 1 st = some st') (hk : ∀ h', GS c g0 h0 st' g h' → GF g h g h' → P (K h')) :
    P ((aNil (ptr c.p 0)).bind fun v3 => (aOff v3 1).bind fun v4 => (aLd1 h v4).bind fun v5 => (asI .i64 v5).bind fun n6 => (aNil (ptr c.p 0)).bind fun v7 => (aOff v7 1).bind fun v8 => (aSt h v8 (.int .i64 (IntKind.i64.wrap (n6 + 1))) 1).bind fun h9 => K h9) := by
  unfold adv at ha
  by_cases hl : st.at' + 1 ≤ 1000000
  · rw [if_pos hl] at ha; cases ha
    obtain ⟨nv, _, _, f1, _⟩ := w.ph.old.ld
    have w1 : IntKind.i64.wrap ((st.at' : Int) + 1) = ((st.at' + 1 : Nat) : Int) := by rw [wr (by omega) (by omega)]; omega
    obtain ⟨h', a, b, d⟩ := w.st (i := 1) (st' := { st with at' := st.at' + 1 }) (v := .int .i64 ((st.at' + 1 : Nat) : Int)) (by omega) rfl rfl (fun _ => rfl)
    refine pb rfl (pb rfl (pb f1 (pb rfl (pb rfl (pb rfl ?_)))))
    rw [w1]
    exact pb a (hk h' b d)
  · rw [if_neg hl] at ha; cases ha
theorem incG2 {K : AHeap → Option (Value × AHeap)} (w : GS c g0 h0 st g h) (ha : adv 2 st = some st') (hk : ∀ h', GS c g0 h0 st' g h' → GF g h g h' → P (K h')) :
    P ((aNil (ptr c.p 0)).bind fun v3 => (aOff v3 1).bind fun v4 => (aLd1 h v4).bind fun v5 => (asI .i64 v5).bind fun n6 => (aNil (ptr c.p 0)).bind fun v7 => (aOff v7 1).bind fun v8 => (aSt h v8 (.int .i64 (IntKind.i64.wrap (n6 + 2))) 1).bind fun h9 => K h9) := by
  unfold adv at ha
  by_cases hl : st.at' + 2 ≤ 1000000
  · rw [if_pos hl] at ha; cases ha
    obtain ⟨nv, _, _, f1, _⟩ := w.ph.old.ld
    have w1 : IntKind.i64.wrap ((st.at' : Int) + 2) = ((st.at' + 2 : Nat) : Int) := by rw [wr (by omega) (by omega)]; omega
    obtain ⟨h', a, b, d⟩ := w.st (i := 1) (st' := { st with at' := st.at' + 2 }) (v := .int .i64 ((st.at' + 2 : Nat) : Int)) (by omega) rfl rfl (fun _ => rfl)
    refine pb rfl (pb rfl (pb f1 (pb rfl (pb rfl (pb rfl ?_)))))
    rw [w1]
    exact pb a (hk h' b d)
  · rw [if_neg hl] at ha; cases ha
theorem decG {K : AHeap → Option (Value × AHeap)} (w : GS c g0 h0 st g h) (ha : nestTo (-1) st = some st') (hk : ∀ h', GS c g0 h0 st' g h' → GF g h g h' → P (K h')) :
    P ((aNil (ptr c.p 0)).bind fun v3 => (aOff v3 3).bind fun v4 => (aLd1 h v4).bind fun v5 => (asI .i64 v5).bind fun n6 => (aNil (ptr c.p 0)).bind fun v7 => (aOff v7 3).bind fun v8 => (aSt h v8 (.int .i64 (IntKind.i64.wrap (n6 - 1))) 1).bind fun h9 => K h9) := by
  unfold nestTo at ha
  by_cases hl : -1000 ≤ st.nest + (-1) ∧ st.nest + (-1) ≤ 1000
  · rw [if_pos hl] at ha; cases ha
    obtain ⟨nv, _, _, _, _, f3, _⟩ := w.ph.old.ld
    have w1 : IntKind.i64.wrap (st.nest - 1) = st.nest + (-1) := by rw [wr (by omega) (by omega)]; omega
    obtain ⟨h', a, b, d⟩ := w.st (i := 3) (st' := { st with nest := st.nest + (-1) }) (v := .int .i64 (st.nest + (-1))) (by omega) rfl rfl (fun _ => rfl)
    refine pb rfl (pb rfl (pb f3 (pb rfl (pb rfl (pb rfl ?_)))))
    rw [w1]
    exact pb a (hk h' b d)
  · rw [if_neg hl] at ha; cases ha
theorem codG {K : Int → Option (Value × AHeap)} (w : GS c g0 h0 st g h) (hk : P (K st.code)) : P ((aNil (ptr c.p 0)).bind fun v3 => (aOff v3 5).bind fun v4 => (aLd1 h v4).bind fun v5 => (asI .i64 v5).bind fun n6 => K n6) := by
  obtain ⟨nv, _, _, _, _, _, _, f5, _⟩ := w.ph.old.ld
  exact pb rfl (pb rfl (pb f5 (pb rfl hk)))
theorem gS {o : Option (Value × AHeap)} {K : Value × AHeap → Int → Option (Value × AHeap)} {a : Int} (w : GS c g0 h0 st g h) (x : Gp c h g (.int .i64 a) st' o) (hk : ∀ h' g', GS c g0 h0 st' g' h' → GF g h g' h' → P (K (.int .i64 a, h') a)) :
    P (o.bind fun r => (asI .i64 r.1).bind fun n => K r n) := by
  obtain ⟨h', g', rfl, y⟩ := x
  exact hk h' g' (w.next y) y.fr
theorem gU {o : Option (Value × AHeap)} {K : Value × AHeap → Option (Value × AHeap)} {v : Value} (w : GS c g0 h0 st g h) (x : Gp c h g v st' o) (hk : ∀ h' g', GS c g0 h0 st' g' h' → GF g h g' h' → P (K (v, h'))) : P (o.bind fun r => K r) := by
  obtain ⟨h', g', rfl, y⟩ := x
  exact hk h' g' (w.next y) y.fr
theorem gT {o : Option (Value × AHeap)} {K : Value × AHeap → ByteArray → Option (Value × AHeap)} {a : ByteArray} (w : GS c g0 h0 st g h) (x : Gp c h g (.string a) st' o) (hk : ∀ h' g', GS c g0 h0 st' g' h' → GF g h g' h' → P (K (.string a, h') a)) :
    P (o.bind fun r => (asS r.1).bind fun n => K r n) := by
  obtain ⟨h', g', rfl, y⟩ := x
  exact hk h' g' (w.next y) y.fr
theorem gB {o : Option (Value × AHeap)} {K : Value × AHeap → Bool → Option (Value × AHeap)} {a : Bool} (w : GS c g0 h0 st g h) (x : Gp c h g (.bool a) st' o) (hk : ∀ h' g', GS c g0 h0 st' g' h' → GF g h g' h' → P (K (.bool a, h') a)) :
    P (o.bind fun r => (asB r.1).bind fun n => K r n) := by
  obtain ⟨h', g', rfl, y⟩ := x
  exact hk h' g' (w.next y) y.fr
theorem rowG {cells : List Value} {n : Nat} {K : Value → AHeap → Option (Value × AHeap)} (xs : List Int) (w : GS c g0 h0 st g h) (hc : cells = ints xs) (hn : n = xs.length)
    (hk : ∀ h' v rt, GS c g0 h0 st g h' → PLG h' v xs rt g → GF g h g h' → h.size ≤ rt → P (K v h')) : P (aNewS h 3 cells n K) := by
  subst hc; subst hn
  have e := Ext.new (Nat.le_refl h.size) 3 (ints xs)
  obtain ⟨nv, _, _, d⟩ := w.ph
  exact hk _ _ h.size (w.ext e) ⟨PLI.new h xs, fun hq => by have := d.lt _ hq; omega⟩ (GF.ext e) (Nat.le_refl _)
theorem pushG {v : Value} {xs : List Int} {rt : Nat} {y : Int} {K : Value × AHeap → Option (Value × AHeap)} (w : GS c g0 h0 st g h) (l : PLG h v xs rt g) (hrt : h0.size ≤ rt) (hl : xs.length ≤ 9000000)
    (hk : ∀ h' v', GS c g0 h0 st g h' → PLG h' v' (xs ++ [y]) rt g → P (K (v', h'))) : P (aNewS h 3 [.int .i64 y] 1 fun p g => (aApp g 3 1 8 v p).bind fun r => K r) := by
  obtain ⟨v', h', a, b, k⟩ := l.1.push hl y
  show P ((aApp (h.new 3 [.int .i64 y]) 3 1 8 v (slc h.size 0 1)).bind fun r => K r)
  refine pb a (hk h' v' ⟨?_, ⟨?_, w.fr.2⟩⟩ ⟨b, l.2⟩)
  · obtain ⟨nv, ⟨ep, a⟩, b, d⟩ := w.ph
    refine ⟨nv, ⟨ep, k.2.1 _ _ a⟩, ?_, d.keep k.1 fun j o y _ => k.2.1 j o y⟩
    rcases b with b | ⟨i, z, o, e1, e2, e3⟩
    · exact .inl b
    · exact .inr ⟨i, z, o, k.2.1 _ _ e1, e2, e3⟩
  · refine ⟨Nat.le_trans w.fr.1.1 k.1, fun j o a b d => k.2.1 j o (w.fr.1.2.1 j o a b d), fun r hr => ?_⟩
    rw [k.2.2 r (Nat.lt_of_lt_of_le hr w.fr.1.1) (by omega)]
    exact w.fr.1.2.2 r hr
end
/-- A node is put behind the others. -/
theorem nodesAppG {h : AHeap} {nv kv : Value} {ns : List Kn} {g : GR} {n : Kn} {rt : Nat} (x : NodesG h nv ns g) (k : KidG h kv n.ks rt) (hn : rt ∉ gKids g) (hlt : rt ≤ h.size) (hl : ns.length ≤ 1000000) :
    ∃ nv' h' g', aApp (h.new 73 (knCells n kv)) 73 4 56 nv (slc h.size 0 1) = some (nv', h') ∧ NodesG h' nv' (ns ++ [n]) g' ∧ PK (gRoot g) h h' ∧ PRN (gRoot g) (gRoot g') h ∧ (∀ q ∈ gKids g', q ∈ gKids g ∨ q = rt) ∧ (∀ j o, h.at? j = some o → o.elem ≠ 73 → h'.at? j = some o) ∧ aLen nv' = some (.int .i64 ((ns.length : Int) + 1)) := by
  have e := Ext.new (Nat.le_refl h.size) 73 (knCells n kv)
  have w := (Own.new (b := 0) (Nat.zero_le h.size) 73 (knCells n kv)).row
  have hS : (h.new 73 (knCells n kv)).size = h.size + 1 := rfl
  have hsrc : aSrc (h.new 73 (knCells n kv)) 4 (slc h.size 0 1) = some (1, knCells n kv) := w.src (n := 1) (esz := 4) (by show 0 + 1 * 4 ≤ 4; omega)
  have keep1 : ∀ j o, h.at? j = some o → (h.new 73 (knCells n kv)).at? j = some o := fun j o a => e.at? (at?_obj a).2.1 a
  have x1 := x.keep (h' := h.new 73 (knCells n kv)) (by omega) fun j o a _ => keep1 j o a
  have k1 := k.keep (h' := h.new 73 (knCells n kv)) fun j o a _ => keep1 j o a
  have pk1 : PK (gRoot g) h (h.new 73 (knCells n kv)) := PK.ext e
  generalize h.new 73 (knCells n kv) = h1 at e w hS hsrc x1 k1 pk1 keep1 ⊢
  rcases x1 with ⟨rfl, rfl, rfl⟩ | ⟨i, root, cells, rts, rfl, rfl, ⟨ep, ha⟩, hlen, hr1, hr2, hr3, hx⟩
  · have e2 := Ext.new (Nat.le_refl h1.size) 73 (knCells n kv)
    have kp2 : ∀ j o, h1.at? j = some o → (h1.new 73 (knCells n kv)).at? j = some o := fun j o a => e2.at? (at?_obj a).2.1 a
    refine ⟨slc h1.size 0 1, h1.new 73 (knCells n kv), some (h1.size, [rt]), ?_, .inr ⟨h1.size, h1.size, knCells n kv, [rt], rfl, rfl, OwnR.new _ _ _, by show 1 * 4 ≤ 4; omega, rfl, by simp, fun q hq => ?_, fun j m hm => ?_⟩, pk1.trans (.inl rfl) (PK.ext e2), .inr ⟨h1.size, rfl, by omega⟩, fun q hq => .inr (by simpa [gKids] using hq), fun j o a b => kp2 j o (keep1 j o a), rfl⟩
    · simp [aApp, aAppG, hsrc, most]
    · have : q = rt := by simpa using hq
      show q < h1.size + 1; omega
    · cases j with
      | zero =>
        have : m = n := by simpa using hm.symm
        subst this
        exact ⟨kv, rfl, k1.keep fun j o a _ => kp2 j o a⟩
      | succ j => simp at hm
  · have hap : aApp h1 73 4 56 (slc i 0 ns.length) (slc h.size 0 1) = some (slc h1.size 0 (ns.length + 1), h1.app ⟨root, ep, false, 73, cells⟩ (ns.length * 4) (cells.take (ns.length * 4) ++ knCells n kv)) := by
      have m1 : ns.length + 1 ≤ most := by show ns.length + 1 ≤ 140737488355328; omega
      have m2 : (ns.length + 1) * 56 ≤ most := by show (ns.length + 1) * 56 ≤ 140737488355328; omega
      have hsrc' : aSrc h1 4 (.slice (some ⟨h.size, 0, none⟩) 1 1) = some (1, knCells n kv) := hsrc
      simp [aApp, aAppG, slc, ha, hsrc', hlen, m1, m2]
    have old : ∀ j o, h1.at? j = some o → (o.elem ≠ 73 ∨ o.root ≠ root) → (h1.app ⟨root, ep, false, 73, cells⟩ (ns.length * 4) (cells.take (ns.length * 4) ++ knCells n kv)).at? j = some o :=
      fun j o a b => at?_app_old a _ (fun hh => b.elim (fun z => absurd hh.1 z) (fun z => absurd hh.2 z))
    have kid : ∀ (v : Value) (ks : List Int) (q : Nat), KidG h1 v ks q → KidG (h1.app ⟨root, ep, false, 73, cells⟩ (ns.length * 4) (cells.take (ns.length * 4) ++ knCells n kv)) v ks q := fun v ks q z =>
      z.keep fun j o a b => old j o a (.inl (by rw [b]; decide))
    have hn' : rt ∉ rts := hn
    refine ⟨_, _, some (root, rts ++ [rt]), hap, .inr ⟨h1.size, root, _, rts ++ [rt], by simp, rfl, ⟨_, at?_app_same ha _ _⟩, ?_, by simp [hr1], ?_, fun q hq => ?_, fun j m hm => ?_⟩, pk1.trans (.inl rfl) ⟨by show h1.size ≤ h1.size + 1; omega, fun j o a b c => old j o a (by
      by_cases h73 : o.elem = 73
      · exact .inr (fun hr => c h73 (by rw [hr]; rfl))
      · exact .inl h73), fun r _ => by simp [AHeap.app]⟩, .inl rfl, fun q hq => ?_, fun j o a b => old j o (keep1 j o a) (.inl b), by show some (Value.int .i64 ((ns.length + 1 : Nat) : Int)) = _; rw [Int.natCast_add]; rfl⟩
    · rw [List.length_append, List.length_append, List.length_take]
      show (ns.length + 1) * 4 ≤ min (ns.length * 4) cells.length + 4
      omega
    · rw [List.nodup_append]
      refine ⟨hr2, by simp, fun a ha b hb => ?_⟩
      have : b = rt := by simpa using hb
      rw [this]; exact fun e => hn' (e ▸ ha)
    · rcases List.mem_append.1 hq with hq | hq
      · have := hr3 q hq; show q < h1.size + 1; omega
      · have : q = rt := by simpa using hq
        show q < h1.size + 1; omega
    · by_cases hj : j < ns.length
      · rw [List.getElem?_append_left hj] at hm
        obtain ⟨kv', y, z⟩ := hx j m hm
        refine ⟨kv', by rw [take_at (by omega) (by omega)]; exact y, ?_⟩
        rw [List.getD_eq_getElem?_getD, List.getElem?_append_left (by omega), ← List.getD_eq_getElem?_getD]
        exact kid _ _ _ z
      · have hjl : j < (ns ++ [n]).length := (List.getElem?_eq_some_iff.1 hm).1
        have hje : j = ns.length := by simp at hjl; omega
        subst hje
        rw [List.getElem?_append_right (by omega)] at hm
        simp at hm
        subst hm
        refine ⟨kv, take_new (by omega) rfl, ?_⟩
        have : (rts ++ [rt]).getD ns.length 0 = rt := by
          rw [List.getD_eq_getElem?_getD, List.getElem?_append_right (by omega), hr1]; simp
        rw [this]
        exact kid _ _ _ k1
    · have hq' : q ∈ rts ++ [rt] := hq
      rcases List.mem_append.1 hq' with hq' | hq'
      · exact .inl hq'
      · exact .inr (by simpa using hq')
end Go.Proofs.Ytadmoackacickaa
/- impl's parser, once more: its small steps. -/
set_option linter.unusedSimpArgs false
namespace Go.Proofs.Ytadmoackacickaa
open Go Go.AH

section
variable {c : PC} {h : AHeap} {st st' : PSt} {g : GR} {D : Nat}
theorem Gp.same {o : Option (Value × AHeap)} {v : Value} (x : GH c h st g) (e : ∃ h', o = some (v, h') ∧ Ext h.size h h') : Gp c h g v st o :=
  let ⟨h', a, b⟩ := e; ⟨h', g, a, (GS.new x).ext b⟩
theorem Gp.fin {c : PC} {h h' : AHeap} {g g' : GR} {v : Value} {st' : PSt} (w : GS c g h st' g' h') : Gp c h g v st' (some (v, h')) := ⟨h', g', rfl, w⟩
theorem g155 (hD : 1 ≤ D) (x : GH c h st g) : ∃ h', call Try.prog Ms D 155 [ptr c.p 0] h = some ((pk c st).val, h') ∧ Ext h.size h h' := by
  obtain ⟨D, rfl⟩ : ∃ d, D = d + 1 := ⟨D - 1, by omega⟩
  exact l155 (d := D) x.old
theorem g154 (hD : 2 ≤ D) (x : GH c h st g) (t : ByteArray) : Gp c h g (.bool (isP c st t)) st (call Try.prog Ms D 154 [ptr c.p 0, .string t] h) := by
  obtain ⟨D, rfl⟩ : ∃ d, D = d + 2 := ⟨D - 2, by omega⟩
  exact Gp.same x (l154 (d := D) x.old t)
theorem g156 (hD : 2 ≤ D) (x : GH c h st g) (code : Int) : Gp c h g unit (failP c st code) (call Try.prog Ms D 156 [ptr c.p 0, .int .i64 code] h) := by
  obtain ⟨D, rfl⟩ : ∃ d, D = d + 1 := ⟨D - 1, by omega⟩
  have w := GS.new x
  rw [c156, e156]
  refine codG w ?_
  unfold failP
  by_cases hc : st.code = 0
  · rw [if_pos hc]
    obtain ⟨h1, c1, e1⟩ := g155 (D := D) (by omega) x
    have w1 := w.ext e1
    obtain ⟨h2, a2, w2, _⟩ := w1.st (i := 6) (st' := { st with place := (pk c st).at' }) (v := .int .i64 (pk c st).at') (by omega) rfl rfl (fun _ => rfl)
    obtain ⟨h3, a3, w3, _⟩ := w2.st (i := 5) (st' := { st with place := (pk c st).at', code := code }) (v := .int .i64 code) (by omega) rfl rfl (fun _ => rfl)
    refine pct (by simp [hc]) (pb c1 (pb rfl (pb rfl (pb rfl (pb rfl (pb a2 (pb rfl (pb rfl (pb a3 ?_)))))))))
    exact Gp.fin w3
  · rw [if_neg hc]
    exact pcf (by simpa using hc) (Gp.fin w)
theorem g107 {t : ByteArray} {b : Bool} (hD : 3 ≤ D) (x : GH c h st g) (hp : takesP c t st = some (b, st')) : Gp c h g (.bool b) st' (call Try.prog Ms D 107 [ptr c.p 0, .string t] h) := by
  obtain ⟨D, rfl⟩ : ∃ d, D = d + 1 := ⟨D - 1, by omega⟩
  rw [c107, e107]
  unfold takesP at hp
  refine gB (GS.new x) (g154 (by omega) x t) fun h1 g1 w1 f1 => ?_
  by_cases hi : isP c st t = true
  · rw [if_pos hi] at hp
    rw [hi]
    cases ha : adv 1 st with
    | none => rw [ha] at hp; cases hp
    | some s2 =>
      rw [ha] at hp; cases hp
      exact pcf rfl (incG w1 ha fun h2 w2 _ => Gp.fin w2)
  · rw [if_neg hi] at hp
    cases hp
    have : isP c st t = false := by simpa using hi
    rw [this]
    exact pct rfl (Gp.fin w1)
theorem g109 {t : ByteArray} (hD : 4 ≤ D) (x : GH c h st g) (hp : wantP c t st = some st') : Gp c h g unit st' (call Try.prog Ms D 109 [ptr c.p 0, .string t] h) := by
  obtain ⟨D, rfl⟩ : ∃ d, D = d + 1 := ⟨D - 1, by omega⟩
  rw [c109, e109]
  unfold wantP at hp
  rw [Option.map_eq_some_iff] at hp
  obtain ⟨⟨b, s1⟩, e1, hp⟩ := hp
  refine gB (GS.new x) (g107 (by omega) x e1) fun h1 g1 w1 f1 => ?_
  cases b with
  | true => rw [if_pos rfl] at hp; cases hp; exact pcf rfl (Gp.fin w1)
  | false =>
    rw [if_neg (by simp)] at hp; cases hp
    exact pct rfl (gU w1 (g156 (by omega) w1.ph 2) fun h2 g2 w2 _ => Gp.fin w2)
/-- The next token, in a row of one's own. -/
theorem tokG {P : Option (Value × AHeap) → Prop} {K : Value → AHeap → Option (Value × AHeap)} {g0 : GR} {h0 : AHeap} (w : GS c g0 h0 st g h) (hD : 1 ≤ D) (hk : ∀ h' q, GS c g0 h0 st g h' → RowE h' q 53 (pk c st).cells → GF g h g h' → P (K (ptr q 0) h')) :
    P ((call Try.prog Ms D 155 [ptr c.p 0] h).bind fun r1 => aNew r1.2 53 [.int .i64 0, .int .i64 0, .string ⟨#[]⟩, .int .i64 0] fun p2 h3 => (aSt h3 p2 r1.1 4).bind fun h4 => K p2 h4) := by
  obtain ⟨h1, c1, e1⟩ := g155 hD w.ph
  obtain ⟨h2, t2, e2, r2, _⟩ := tokRow h1 (pk c st)
  refine pb c1 (nN (pb t2 ?_))
  have E := Ext.tr e1 e2
  exact hk h2 h1.size (w.ext E) r2 (GF.ext E)
theorem RowE.gf {h h' : AHeap} {i : Nat} {e : TypeId} {cs : List Value} {g g' : GR} (x : RowE h i e cs) (k : GF g h g' h') (h1 : e ≠ 81) (h2 : e ≠ 73) : RowE h' i e cs := x.pk k.1 h1 h2
theorem g108 {t : ByteArray} (hD : 4 ≤ D) (x : GH c h st g) (hp : nameN c st = some (t, st')) : Gp c h g (.string t) st' (call Try.prog Ms D 108 [ptr c.p 0] h) := by
  obtain ⟨D, rfl⟩ : ∃ d, D = d + 1 := ⟨D - 1, by omega⟩
  rw [c108, e108]
  unfold nameN at hp
  refine tokG (GS.new x) (by omega) fun h1 q w1 r1 _ => ?_
  obtain ⟨b0, _, b2, _⟩ := ld_at r1.row
  refine pb rfl (pb b0 (pb rfl ?_))
  by_cases hi : (pk c st).k ≠ 1
  · rw [if_pos hi] at hp; cases hp
    exact pct (by simpa using hi) (gU w1 (g156 (by omega) w1.ph 2) fun h2 g2 w2 _ => Gp.fin w2)
  · rw [if_neg hi] at hp
    cases ha : adv 1 st with
    | none => rw [ha] at hp; cases hp
    | some s2 =>
      rw [ha] at hp; cases hp
      refine pcf (by simpa using hi) (incG w1 ha fun h2 w2 f2 => ?_)
      obtain ⟨_, _, d2, _⟩ := ld_at (r1.gf f2 (by decide) (by decide)).row
      exact pb rfl (pb d2 (pb rfl (Gp.fin w2)))
theorem g157 (hD : 4 ≤ D) (x : GH c h st g) (hp : openP c st = some st') : Gp c h g unit st' (call Try.prog Ms D 157 [ptr c.p 0] h) := by
  obtain ⟨D, rfl⟩ : ∃ d, D = d + 1 := ⟨D - 1, by omega⟩
  have w := GS.new x
  obtain ⟨h1, c1, e1⟩ := g155 (D := D) (by omega) x
  have w1 := w.ext e1
  rw [c157, e157]
  unfold openP at hp
  have fin : ∀ (s : PSt) (h' : AHeap) (g' : GR), nestTo 1 s = some st' → GS c g h s g' h' → Gp c h g unit st' (s157_1 hk0 (call Try.prog Ms D) D (ptr c.p 0) h') := fun s h' g' hn w => by
    rw [s157_1_j, s157_1_eq]
    unfold nestTo at hn
    by_cases hl : -1000 ≤ s.nest + 1 ∧ s.nest + 1 ≤ 1000
    · rw [if_pos hl] at hn; cases hn
      obtain ⟨_, _, _, _, _, f3, _⟩ := w.ph.old.ld
      have wn : IntKind.i64.wrap (s.nest + 1) = s.nest + 1 := wr (by omega) (by omega)
      obtain ⟨h2, a2, w2, _⟩ := w.st (i := 3) (st' := { s with nest := s.nest + 1 }) (v := .int .i64 (s.nest + 1)) (by omega) rfl rfl (fun _ => rfl)
      refine pb rfl (pb rfl (pb f3 (pb rfl (pb rfl (pb rfl ?_)))))
      rw [wn]
      exact pb a2 (Gp.fin w2)
    · rw [if_neg hl] at hn; cases hn
  refine pb c1 (pb rfl (pb rfl ?_))
  by_cases hk : (pk c st).k ≠ 0
  · obtain ⟨_, _, _, _, _, f3, _⟩ := w1.ph.old.ld
    refine pct (by simpa using hk) (pb rfl (pb rfl (pb f3 (pb rfl ?_))))
    rw [s157_0_j, s157_0_eq]
    by_cases hn : st.nest = 30
    · rw [if_pos ⟨hk, hn⟩] at hp
      exact pct (by simp [hn]) (gU w1 (g156 (by omega) w1.ph 3) fun h2 g2 w2 _ => fin _ _ _ hp w2)
    · rw [if_neg (fun z => hn z.2)] at hp
      exact pcf (by simpa using hn) (fin _ _ _ hp w1)
  · rw [if_neg (fun z => hk z.1)] at hp
    refine pcf (by simpa using hk) ?_
    rw [s157_0_j, s157_0_eq]
    exact pcf rfl (fin _ _ _ hp w1)
/-- A node is put: with kids in a row rt. -/
theorem g64 {k i r : Int} {t : ByteArray} {ks : List Int} {kv : Value} {rt : Nat} {g0 : GR} {h0 : AHeap} (hD : 1 ≤ D) (w : GS c g0 h0 st g h) (hk : KidG h kv ks rt) (hn : rt ∉ gKids g) (hlt : rt ≤ h.size) (hr : h0.size ≤ rt) (hp : nodeP k t i ks st = some (r, st')) :
    ∃ h' g', call Try.prog Ms D 64 [ptr c.p 0, .int .i64 k, .string t, .int .i64 i, kv] h = some (.int .i64 r, h') ∧ GS c g0 h0 st' g' h' ∧ PK (gRoot g) h h' ∧ PRN (gRoot g) (gRoot g') h ∧ (∀ q ∈ gKids g', q ∈ gKids g ∨ q = rt) := by
  obtain ⟨D, rfl⟩ : ∃ d, D = d + 1 := ⟨D - 1, by omega⟩
  unfold nodeP at hp
  by_cases hl : st.nodes.length ≤ 1000000
  · rw [if_pos hl] at hp; cases hp
    obtain ⟨⟨nv, o, tk, nd⟩, fr⟩ := w
    have a4 : aLd1 h (ptr c.p 4) = some nv := o.row.ld1 rfl
    obtain ⟨nv', h2, g', ap, nd2, pk2, n2, kk2, f2, len2⟩ := nodesAppG (n := ⟨k, t, i, ks⟩) nd hk hn hlt hl
    have o2 : OwnR h2 c.p c.p 81 (pcells c nv st) := let ⟨ep, a⟩ := o; ⟨ep, f2 _ _ a (by show (81 : TypeId) ≠ 73; decide)⟩
    have cell2 := nd2.old.cell
    obtain ⟨h3, t3, o3, s3, f3, tp3⟩ := stP o2 (i := 4) (by show 4 < 7; omega) (v := nv') (aCells_one cell2)
    have nd3 := nd2.keep (h' := h3) (by omega) fun j o a b => f3 j o a (by rcases b with b | b <;> rw [b] <;> decide)
    have pk3 : PK (gRoot g') h2 h3 := ⟨by omega, fun j ob a b _ => f3 j ob a b, fun r _ => tp3 r⟩
    have b4 : aLd1 h3 (ptr c.p 4) = some nv' := o3.row.ld1 rfl
    have PK3 := pk2.trans n2 pk3
    have GN3 : GN g0 g' h0 := ⟨PRN.trans fr.1.1 fr.2.1 n2, fun q hq => by
      rcases kk2 q hq with a | a
      · exact fr.2.2 q a
      · exact .inr (by omega)⟩
    refine ⟨h3, g', ?_, ⟨⟨nv', o3, (tk.pk pk2).pk pk3, nd3⟩, fr.1.trans fr.2.1 PK3, GN3⟩, PK3, n2, kk2⟩
    have wl : IntKind.i64.wrap ((st.nodes.length : Int) + 1 - 1) = (st.nodes.length : Int) := by rw [wr (by omega) (by omega)]; omega
    have hz : aFill [.int .i64 0, .string ⟨#[]⟩, .int .i64 0, .slice none 0 0] [(0, 4, (.agg (List.toArray (knCells ⟨k, t, i, ks⟩ kv))))] = some (knCells ⟨k, t, i, ks⟩ kv) := by
      have this2 : aCells (.agg #[.int .i64 k, .string t, .int .i64 i, kv]) = some [.int .i64 k, .string t, .int .i64 i, kv] := kn_cells (kv := kv) hk.old.cell ⟨k, t, i, ks⟩
      simp [aFill, this2, splice, knCells]
    rw [c64, e64]
    refine eb rfl (eb rfl (eb a4 (eb (fillK hk.old.cell k t i ks) (eb hz ?_))))
    show ((aApp (h.new 73 (knCells ⟨k, t, i, ks⟩ kv)) 73 4 56 nv (slc h.size 0 1)).bind _) = _
    refine eb ap (eb rfl (eb rfl (eb t3 (eb rfl (eb rfl (eb b4 (eb len2 (eb rfl ?_))))))))
    show some (Value.int .i64 (IntKind.i64.wrap ((st.nodes.length : Int) + 1 - 1)), h3) = _
    rw [wl]
  · rw [if_neg hl] at hp; cases hp
end
section
variable {P : Option (Value × AHeap) → Prop} {c : PC} {g0 g : GR} {h0 h : AHeap} {st st' : PSt} {D : Nat} {k i r : Int} {t : ByteArray} {ks : List Int} {v : Value} {rt : Nat} {K : Value × AHeap → Int → Option (Value × AHeap)}
theorem nodG (w : GS c g0 h0 st g h) (hD : 1 ≤ D) (l : PLG h v ks rt g) (hr : h0.size ≤ rt) (e : nodeP k t i ks st = some (r, st')) (hk : ∀ h' g', GS c g0 h0 st' g' h' → P (K (.int .i64 r, h') r)) :
    P ((call Try.prog Ms D 64 [ptr c.p 0, .int .i64 k, .string t, .int .i64 i, v] h).bind fun r => (asI .i64 r.1).bind fun n => K r n) := by
  have hlt := l.1.lt
  have kg : KidG h v ks rt := let ⟨⟨i, a, b⟩, _⟩ := l.1; .inr ⟨i, a, b⟩
  obtain ⟨h', g', c1, w1, _⟩ := g64 hD w kg l.2 (by omega) hr e
  exact pb c1 (pb rfl (hk h' g' w1))
theorem nodN (w : GS c g0 h0 st g h) (hD : 1 ≤ D) (e : nodeP k t i [] st = some (r, st')) (hk : ∀ h' g', GS c g0 h0 st' g' h' → GF g h g' h' → P (K (.int .i64 r, h') r)) :
    P ((call Try.prog Ms D 64 [ptr c.p 0, .int .i64 k, .string t, .int .i64 i, .slice none 0 0] h).bind fun r => (asI .i64 r.1).bind fun n => K r n) := by
  obtain ⟨nv, _, _, d⟩ := w.ph
  obtain ⟨h', g', c1, w1, pk, pr, kk⟩ := g64 (rt := h.size) hD w (.inl ⟨rfl, rfl⟩) (fun hq => by have := d.lt _ hq; omega) (Nat.le_refl _) w.fr.1.1 e
  exact pb c1 (pb rfl (hk h' g' w1 ⟨pk, pr, fun q hq => (kk q hq).imp id (fun z => by omega)⟩))
end
end Go.Proofs.Ytadmoackacickaa
/- impl's parser, once more: expressions. -/
set_option linter.unusedSimpArgs false
namespace Go.Proofs.Ytadmoackacickaa
open Go Go.AH

def Simg (c : PC) (D f : Nat) (m : PI) : Prop := ∀ (h : AHeap) (st : PSt) (g : GR) (a : Int) (st' : PSt), GH c h st g → m st = some (a, st') → Gp c h g (.int .i64 a) st' (call Try.prog Ms D f [ptr c.p 0] h)
/-- A fresh list and the state behind it. -/
def Gl (c : PC) (h : AHeap) (g : GR) (l : List Int) (st' : PSt) (o : Option (Value × AHeap)) : Prop := ∃ v h' g' rt, o = some (v, h') ∧ GS c g h st' g' h' ∧ PLG h' v l rt g' ∧ h.size ≤ rt
def SimgL (c : PC) (D f : Nat) (m : PM) : Prop := ∀ (h : AHeap) (st : PSt) (g : GR) (l : List Int) (st' : PSt), GH c h st g → m st = some (l, st') → Gl c h g l st' (call Try.prog Ms D f [ptr c.p 0] h)
theorem Gl.of {c : PC} {g0 g g' : GR} {h0 h h' : AHeap} {st' : PSt} {l : List Int} {v : Value} {rt : Nat} (w : GS c g0 h0 st' g' h') (p : PLG h' v l rt g') (hr : h0.size ≤ rt) : Gl c h0 g0 l st' (some (v, h')) := ⟨v, h', g', rt, rfl, w, p, hr⟩
section
variable {c : PC} {D : Nat}
theorem i110 {sub : PI} (hD : 4 ≤ D) (hs : Simg c D 158 sub) : Simg c (D + 1) 110 (wholeP c sub) := by
  intro h st g a st' x hp
  rw [c110, e110]
  unfold wholeP at hp
  obtain ⟨s1, e1, hp⟩ := bnd hp
  obtain ⟨⟨a2, s2⟩, e2, hp⟩ := bnd hp
  rw [Option.map_eq_some_iff] at hp
  obtain ⟨s3, e3, hp⟩ := hp
  cases hp
  refine gU (GS.new x) (g157 hD x e1) fun h1 g1 w1 _ => ?_
  refine gS w1 (hs _ _ _ _ _ w1.ph e2) fun h2 g2 w2 _ => ?_
  exact decG w2 e3 fun h3 w3 _ => Gp.fin w3
theorem bin158 {sub : PI} {N : Nat} (hD : 4 ≤ D) (hs : Simg c D 188 sub) {h0 : AHeap} {g0 : GR} : ∀ (n m : Nat) (a : Int) (h : AHeap) (st : PSt) (g : GR) (q : Int) (st' : PSt), n ≤ m → GS c g0 h0 st g h → binLoop c ⟨#[111, 114]⟩ 13 sub n a st = some (q, st') →
    Gp c h0 g0 (.int .i64 q) st' (s158_0 hk0 (call Try.prog Ms D) N m (ptr c.p 0) a h) := by
  intro n
  induction n with
  | zero => intro m a h st g q st' hm w hp; cases hp
  | succ n ih =>
    intro m a h st g q st' hm w hp
    obtain ⟨m, rfl⟩ : ∃ q, m = q + 1 := ⟨m - 1, by omega⟩
    rw [s158_0_eq]
    rw [binLoop] at hp
    obtain ⟨⟨b, s1⟩, e1, hp⟩ := bnd hp
    refine gB w (g107 (by omega) w.ph e1) fun h1 g1 w1 _ => ?_
    cases b with
    | true =>
      rw [if_pos rfl] at hp
      obtain ⟨⟨a2, s2⟩, e2, hp⟩ := bnd hp
      obtain ⟨⟨a3, s3⟩, e3, hp⟩ := bnd hp
      refine pct rfl (gS w1 (hs _ _ _ _ _ w1.ph e2) fun h2 g2 w2 _ => ?_)
      refine rowG [a, a2] w2 rfl rfl fun h3 v3 rt w3 l3 _ hr => ?_
      exact nodG w3 (by omega) l3 (Nat.le_trans w2.fr.1.1 hr) e3 fun h4 g4 w4 => ih m a3 h4 s3 g4 q st' (by omega) w4 hp
    | false =>
      rw [if_neg (by simp)] at hp; cases hp
      exact pcf rfl (Gp.fin w1)
theorem i158 {sub : PI} (hD : 4 ≤ D) (hs : Simg c D 188 sub) : Simg c (D + 1) 158 (binP c ⟨#[111, 114]⟩ 13 sub D) := by
  intro h st g a st' x hp
  rw [c158, e158]
  unfold binP at hp
  obtain ⟨⟨a1, s1⟩, e1, hp⟩ := bnd hp
  refine gS (GS.new x) (hs _ _ _ _ _ x e1) fun h1 g1 w1 _ => ?_
  exact bin158 hD hs D D a1 h1 s1 g1 a st' (Nat.le_refl _) w1 hp
theorem bin188 {sub : PI} {N : Nat} (hD : 4 ≤ D) (hs : Simg c D 203 sub) {h0 : AHeap} {g0 : GR} : ∀ (n m : Nat) (a : Int) (h : AHeap) (st : PSt) (g : GR) (q : Int) (st' : PSt), n ≤ m → GS c g0 h0 st g h → binLoop c ⟨#[97, 110, 100]⟩ 12 sub n a st = some (q, st') →
    Gp c h0 g0 (.int .i64 q) st' (s188_0 hk0 (call Try.prog Ms D) N m (ptr c.p 0) a h) := by
  intro n
  induction n with
  | zero => intro m a h st g q st' hm w hp; cases hp
  | succ n ih =>
    intro m a h st g q st' hm w hp
    obtain ⟨m, rfl⟩ : ∃ q, m = q + 1 := ⟨m - 1, by omega⟩
    rw [s188_0_eq]
    rw [binLoop] at hp
    obtain ⟨⟨b, s1⟩, e1, hp⟩ := bnd hp
    refine gB w (g107 (by omega) w.ph e1) fun h1 g1 w1 _ => ?_
    cases b with
    | true =>
      rw [if_pos rfl] at hp
      obtain ⟨⟨a2, s2⟩, e2, hp⟩ := bnd hp
      obtain ⟨⟨a3, s3⟩, e3, hp⟩ := bnd hp
      refine pct rfl (gS w1 (hs _ _ _ _ _ w1.ph e2) fun h2 g2 w2 _ => ?_)
      refine rowG [a, a2] w2 rfl rfl fun h3 v3 rt w3 l3 _ hr => ?_
      exact nodG w3 (by omega) l3 (Nat.le_trans w2.fr.1.1 hr) e3 fun h4 g4 w4 => ih m a3 h4 s3 g4 q st' (by omega) w4 hp
    | false =>
      rw [if_neg (by simp)] at hp; cases hp
      exact pcf rfl (Gp.fin w1)
theorem i188 {sub : PI} (hD : 4 ≤ D) (hs : Simg c D 203 sub) : Simg c (D + 1) 188 (binP c ⟨#[97, 110, 100]⟩ 12 sub D) := by
  intro h st g a st' x hp
  rw [c188, e188]
  unfold binP at hp
  obtain ⟨⟨a1, s1⟩, e1, hp⟩ := bnd hp
  refine gS (GS.new x) (hs _ _ _ _ _ x e1) fun h1 g1 w1 _ => ?_
  exact bin188 hD hs D D a1 h1 s1 g1 a st' (Nat.le_refl _) w1 hp
theorem g221 {q : Nat} {texts : List ByteArray} {h : AHeap} {st : PSt} {g : GR} (hD : 21 ≤ D) (hl : texts.length ≤ 10) (x : GH c h st g) (tr : RowE h q 9 (texts.map Value.string)) :
    Gp c h g (.int .i64 (opOfP c texts st)) st (call Try.prog Ms D 221 [ptr c.p 0, slc q 0 texts.length] h) := by
  obtain ⟨D, rfl⟩ : ∃ d, D = d + 21 := ⟨D - 21, by omega⟩
  exact Gp.same x (l221 (d := D) hl x.old tr)
/-- A row of texts is made. -/
theorem litG {P : Option (Value × AHeap) → Prop} {g0 g : GR} {h0 h : AHeap} {st : PSt} {cells : List Value} {n : Nat} {K : Value → AHeap → Option (Value × AHeap)} (xs : List ByteArray) (w : GS c g0 h0 st g h) (hc : cells = xs.map Value.string) (hn : n = xs.length)
    (hk : ∀ h' q, GS c g0 h0 st g h' → RowE h' q 9 (xs.map Value.string) → GF g h g h' → P (K (slc q 0 xs.length) h')) : P (aNewS h 9 cells n K) := by
  subst hc; subst hn
  have e := Ext.new (Nat.le_refl h.size) 9 (xs.map Value.string)
  exact hk _ _ (w.ext e) (RowE.new h 9 _) (GF.ext e)
theorem row_g {f q N : Nat} {texts : List ByteArray} {sub : PI} (hD : 21 ≤ D) (hl : texts.length ≤ 10) (hs : Simg c D f sub) {h0 : AHeap} {g0 : GR} : ∀ (n m : Nat) (a : Int) (h : AHeap) (st : PSt) (g : GR) (r : Int) (st' : PSt), n ≤ m → GS c g0 h0 st g h → RowE h q 9 (texts.map Value.string) → rowLoop c texts sub n a st = some (r, st') →
    Gp c h0 g0 (.int .i64 r) st' (s231_0 hk0 (call Try.prog Ms D) N m (ptr c.p 0) (clos f c.p) (slc q 0 texts.length) a h) := by
  intro n
  induction n with
  | zero => intro m a h st g r st' hm w tr hp; cases hp
  | succ n ih =>
    intro m a h st g r st' hm w tr hp
    obtain ⟨m, rfl⟩ : ∃ q, m = q + 1 := ⟨m - 1, by omega⟩
    rw [s231_0_eq]
    rw [rowLoop] at hp
    refine gS w (g221 hD hl w.ph tr) fun h1 g1 w1 f1 => ?_
    have tr1 := tr.gf f1 (by decide) (by decide)
    by_cases ho : opOfP c texts st = 0
    · rw [if_pos ho] at hp; cases hp
      exact pct (by simp [ho]) (Gp.fin w1)
    · rw [if_neg ho] at hp
      obtain ⟨s2, e2, hp⟩ := bnd hp
      obtain ⟨⟨a3, s3⟩, e3, hp⟩ := bnd hp
      obtain ⟨⟨a4, s4⟩, e4, hp⟩ := bnd hp
      refine pcf (by simpa using ho) (incG w1 e2 fun h2 w2 f2 => ?_)
      rw [callC]
      refine gS w2 (hs _ _ _ _ _ w2.ph e3) fun h3 g3 w3 f3 => ?_
      refine rowG [a, a3] w3 rfl rfl fun h5 v5 rt w5 l5 f5 hr => ?_
      have l5' := l5.1.lt
      have kg : KidG h5 v5 [a, a3] rt := let ⟨⟨i, a, b⟩, _⟩ := l5.1; .inr ⟨i, a, b⟩
      have tr5 := ((tr1.gf f2 (by decide) (by decide)).gf f3 (by decide) (by decide)).gf f5 (by decide) (by decide)
      obtain ⟨h6, g6, c6, w6, pk6, _⟩ := g64 (D := D) (by omega) w5 kg l5.2 (by omega) (Nat.le_trans w3.fr.1.1 hr) e4
      refine pb c6 (pb rfl ?_)
      exact ih m a4 h6 s4 g6 r st' (by omega) w6 (tr5.pk pk6 (by decide) (by decide)) hp
theorem i231 {f q : Nat} {texts : List ByteArray} {sub : PI} (hD : 21 ≤ D) (hl : texts.length ≤ 10) (hs : Simg c D f sub) {h : AHeap} {st : PSt} {g : GR} {a : Int} {st' : PSt} (x : GH c h st g) (tr : RowE h q 9 (texts.map Value.string)) (hp : rowP c texts sub D st = some (a, st')) :
    Gp c h g (.int .i64 a) st' (call Try.prog Ms (D + 1) 231 [ptr c.p 0, clos f c.p, slc q 0 texts.length] h) := by
  rw [c231, e231, callC]
  unfold rowP at hp
  obtain ⟨⟨a1, s1⟩, e1, hp⟩ := bnd hp
  refine gS (GS.new x) (hs _ _ _ _ _ x e1) fun h1 g1 w1 f1 => ?_
  exact row_g hD hl hs D D a1 h1 s1 g1 a st' (Nat.le_refl _) w1 (tr.gf f1 (by decide) (by decide)) hp
theorem i220 {sub : PI} (hD : 21 ≤ D) (hs : Simg c D 232 sub) : Simg c (D + 2) 220 (rowP c [(⟨#[46, 46]⟩ : ByteArray)] sub D) := by
  intro h st g a st' x hp
  rw [c220, e220]
  refine pb rfl (litG [(⟨#[46, 46]⟩ : ByteArray)] (GS.new x) rfl rfl fun h1 q w1 r1 _ => ?_)
  exact gS w1 (i231 hD (by decide) hs w1.ph r1 hp) fun h2 g2 w2 _ => Gp.fin w2
theorem i232 {sub : PI} (hD : 21 ≤ D) (hs : Simg c D 238 sub) : Simg c (D + 2) 232 (rowP c [(⟨#[43]⟩ : ByteArray), (⟨#[45]⟩ : ByteArray)] sub D) := by
  intro h st g a st' x hp
  rw [c232, e232]
  refine pb rfl (litG [(⟨#[43]⟩ : ByteArray), (⟨#[45]⟩ : ByteArray)] (GS.new x) rfl rfl fun h1 q w1 r1 _ => ?_)
  exact gS w1 (i231 hD (by decide) hs w1.ph r1 hp) fun h2 g2 w2 _ => Gp.fin w2
theorem i238 {sub : PI} (hD : 21 ≤ D) (hs : Simg c D 241 sub) : Simg c (D + 2) 238 (rowP c [(⟨#[42]⟩ : ByteArray), (⟨#[47]⟩ : ByteArray), (⟨#[37]⟩ : ByteArray)] sub D) := by
  intro h st g a st' x hp
  rw [c238, e238]
  refine pb rfl (litG [(⟨#[42]⟩ : ByteArray), (⟨#[47]⟩ : ByteArray), (⟨#[37]⟩ : ByteArray)] (GS.new x) rfl rfl fun h1 q w1 r1 _ => ?_)
  exact gS w1 (i231 hD (by decide) hs w1.ph r1 hp) fun h2 g2 w2 _ => Gp.fin w2
theorem i203 {sub : PI} (hD : 21 ≤ D) (hs : Simg c D 220 sub) : Simg c (D + 1) 203 (compareP c sub) := by
  intro h st g a st' x hp
  rw [c203, e203]
  unfold compareP at hp
  obtain ⟨⟨a1, s1⟩, e1, hp⟩ := bnd hp
  refine gS (GS.new x) (hs _ _ _ _ _ x e1) fun h1 g1 w1 f1 => ?_
  refine litG cmpTexts w1 rfl rfl fun h2 q w2 r2 _ => ?_
  refine gS w2 (g221 hD (by decide) w2.ph r2) fun h3 g3 w3 _ => ?_
  dsimp only at hp
  by_cases ho : opOfP c cmpTexts s1 = 0
  · rw [if_pos ho] at hp; cases hp
    exact pct (by simp [ho]) (Gp.fin w3)
  · rw [if_neg ho] at hp
    obtain ⟨s2, e2, hp⟩ := bnd hp
    obtain ⟨⟨a3, s3⟩, e3, hp⟩ := bnd hp
    refine pcf (by simpa using ho) (incG w3 e2 fun h4 w4 _ => ?_)
    refine gS w4 (hs _ _ _ _ _ w4.ph e3) fun h5 g5 w5 _ => ?_
    refine rowG [a1, a3] w5 rfl rfl fun h6 v6 rt w6 l6 _ hr => ?_
    exact nodG w6 (by omega) l6 (Nat.le_trans w5.fr.1.1 hr) hp fun h7 g7 w7 => Gp.fin w7
theorem turn_g {t : Int} {self : PI} (hD : 4 ≤ D) (hs : Simg c D 241 self) {h0 h : AHeap} {g0 g : GR} {st st' : PSt} {a : Int} (w : GS c g0 h0 st g h) (hp : turnP c t self st = some (a, st')) :
    Gp c h0 g0 (.int .i64 a) st' (s241_0 hk0 (call Try.prog Ms D) D (ptr c.p 0) t h) := by
  rw [s241_0_j, s241_0_eq]
  unfold turnP at hp
  obtain ⟨s1, e1, hp⟩ := bnd hp
  obtain ⟨s2, e2, hp⟩ := bnd hp
  obtain ⟨⟨a3, s3⟩, e3, hp⟩ := bnd hp
  obtain ⟨s4, e4, hp⟩ := bnd hp
  refine gU w (g157 hD w.ph e1) fun h1 g1 w1 _ => ?_
  refine incG w1 e2 fun h2 w2 _ => ?_
  refine gS w2 (hs _ _ _ _ _ w2.ph e3) fun h3 g3 w3 _ => ?_
  refine decG w3 e4 fun h4 w4 _ => ?_
  refine rowG [a3] w4 rfl rfl fun h5 v5 rt w5 l5 _ hr => ?_
  exact nodG w5 (by omega) l5 (Nat.le_trans w4.fr.1.1 hr) hp fun h6 g6 w6 => Gp.fin w6
theorem i241 {self beh : PI} (hD : 4 ≤ D) (hs : Simg c D 241 self) (hb : Simg c D 242 beh) : Simg c (D + 1) 241 (unaryP c self beh) := by
  intro h st g a st' x hp
  rw [c241, e241]
  unfold unaryP at hp
  refine gB (GS.new x) (g154 (by omega) x _) fun h1 g1 w1 _ => ?_
  by_cases i1 : isP c st ⟨#[45]⟩ = true
  · rw [if_pos i1] at hp; exact pct i1 (turn_g hD hs w1 hp)
  rw [if_neg i1] at hp
  refine pcf (by simpa using i1) (gB w1 (g154 (by omega) w1.ph _) fun h2 g2 w2 _ => ?_)
  by_cases i2 : isP c st ⟨#[110, 111, 116]⟩ = true
  · rw [if_pos i2] at hp; exact pct i2 (turn_g hD hs w2 hp)
  rw [if_neg i2] at hp
  refine pcf (by simpa using i2) (gB w2 (g154 (by omega) w2.ph _) fun h3 g3 w3 _ => ?_)
  by_cases i3 : isP c st ⟨#[35]⟩ = true
  · rw [if_pos i3] at hp; exact pct i3 (turn_g hD hs w3 hp)
  rw [if_neg i3] at hp
  exact pcf (by simpa using i3) (gS w3 (hb _ _ _ _ _ w3.ph hp) fun h4 g4 w4 _ => Gp.fin w4)
theorem args_g {whole : PI} {N : Nat} (hD : 4 ≤ D) (hs : Simg c D 110 whole) {h0 : AHeap} {g0 : GR} {rt : Nat} (hrt : h0.size ≤ rt) : ∀ (n m : Nat) (out : List Int) (v : Value) (h : AHeap) (st : PSt) (g : GR) (l : List Int) (st' : PSt), n ≤ m → out.length + n ≤ 2000000 → GS c g0 h0 st g h → PLG h v out rt g → argsLoop c whole n out st = some (l, st') →
    Gl c h0 g0 l st' (s244_0 hk0 (call Try.prog Ms D) N m (ptr c.p 0) v h) := by
  intro n
  induction n with
  | zero => intro m out v h st g l st' hm hl w li hp; cases hp
  | succ n ih =>
    intro m out v h st g l st' hm hl w li hp
    obtain ⟨m, rfl⟩ : ∃ q, m = q + 1 := ⟨m - 1, by omega⟩
    rw [s244_0_eq]
    rw [argsLoop] at hp
    obtain ⟨⟨a1, s1⟩, e1, hp⟩ := bnd hp
    obtain ⟨⟨b, s2⟩, e2, hp⟩ := bnd hp
    refine gS w (hs _ _ _ _ _ w.ph e1) fun h1 g1 w1 f1 => ?_
    refine pushG w1 (li.next f1) hrt (by omega) fun h2 v2 w2 l2 => ?_
    refine gB w2 (g107 (by omega) w2.ph e2) fun h3 g3 w3 f3 => ?_
    have l3 := l2.next f3
    cases b with
    | true =>
      rw [if_pos rfl] at hp
      exact pcf rfl (ih m (out ++ [a1]) v2 h3 s2 g3 l st' (by omega) (by simp; omega) w3 l3 hp)
    | false =>
      rw [if_neg (by simp), Option.map_eq_some_iff] at hp
      obtain ⟨s4, e4, hp⟩ := hp
      cases hp
      exact pct rfl (gU w3 (g109 hD w3.ph e4) fun h4 g4 w4 f4 => Gl.of (h := h4) (g := g4) w4 (l3.next f4) hrt)
theorem i244 {whole : PI} (hD : 4 ≤ D) (hD2 : D ≤ 2000000) (hs : Simg c D 110 whole) : SimgL c (D + 1) 244 (argsP c whole D) := by
  intro h st g l st' x hp
  rw [c244, e244]
  unfold argsP at hp
  obtain ⟨s1, e1, hp⟩ := bnd hp
  obtain ⟨⟨b, s2⟩, e2, hp⟩ := bnd hp
  refine gU (GS.new x) (g109 hD x e1) fun h1 g1 w1 _ => ?_
  refine rowG [] w1 rfl rfl fun h2 v2 rt w2 l2 _ hr => ?_
  refine gB w2 (g107 (by omega) w2.ph e2) fun h3 g3 w3 f3 => ?_
  have hr' := Nat.le_trans w1.fr.1.1 hr
  cases b with
  | true =>
    rw [if_pos rfl] at hp; cases hp
    exact pct rfl (Gl.of (h := h3) (g := g3) w3 (l2.next f3) hr')
  | false =>
    rw [if_neg (by simp)] at hp
    exact pcf rfl (args_g hD hs hr' D D [] v2 h3 s2 g3 l st' (Nat.le_refl _) (by simpa using hD2) w3 (l2.next f3) hp)
theorem behind_g {whole : PI} {args : PM} {N : Nat} (hD : 4 ≤ D) (hs : Simg c D 110 whole) (ha : SimgL c D 244 args) {h0 : AHeap} {g0 : GR} : ∀ (n m : Nat) (e : Int) (h : AHeap) (st : PSt) (g : GR) (q : Int) (st' : PSt), n ≤ m → GS c g0 h0 st g h → behindLoop c whole args n e st = some (q, st') →
    Gp c h0 g0 (.int .i64 q) st' (s242_0 hk0 (call Try.prog Ms D) N m (ptr c.p 0) e h) := by
  intro n
  induction n with
  | zero => intro m e h st g q st' hm w hp; cases hp
  | succ n ih =>
    intro m e h st g q st' hm w hp
    obtain ⟨m, rfl⟩ : ∃ q, m = q + 1 := ⟨m - 1, by omega⟩
    rw [s242_0_eq]
    rw [behindLoop] at hp
    obtain ⟨⟨b, s1⟩, e1, hp⟩ := bnd hp
    refine gB w (g107 (by omega) w.ph e1) fun h1 g1 w1 _ => ?_
    cases b with
    | true =>
      rw [if_pos rfl] at hp
      obtain ⟨⟨a2, s2⟩, e2, hp⟩ := bnd hp
      obtain ⟨s3, e3, hp⟩ := bnd hp
      obtain ⟨⟨a4, s4⟩, e4, hp⟩ := bnd hp
      refine pct rfl (gS w1 (hs _ _ _ _ _ w1.ph e2) fun h2 g2 w2 _ => ?_)
      refine gU w2 (g109 hD w2.ph e3) fun h3 g3 w3 _ => ?_
      refine rowG [e, a2] w3 rfl rfl fun h4 v4 rt w4 l4 _ hr => ?_
      exact nodG w4 (by omega) l4 (Nat.le_trans w3.fr.1.1 hr) e4 fun h5 g5 w5 => ih m a4 h5 s4 g5 q st' (by omega) w5 hp
    | false =>
      rw [if_neg (by simp)] at hp
      obtain ⟨⟨b2, s2⟩, e2, hp⟩ := bnd hp
      refine pcf rfl (gB w1 (g107 (by omega) w1.ph e2) fun h2 g2 w2 _ => ?_)
      cases b2 with
      | true =>
        rw [if_pos rfl] at hp
        obtain ⟨⟨t3, s3⟩, e3, hp⟩ := bnd hp
        obtain ⟨⟨a4, s4⟩, e4, hp⟩ := bnd hp
        obtain ⟨⟨a5, s5⟩, e5, hp⟩ := bnd hp
        refine pct rfl (gT w2 (g108 hD w2.ph e3) fun h3 g3 w3 _ => ?_)
        refine nodN w3 (by omega) e4 fun h4 g4 w4 _ => ?_
        refine rowG [e, a4] w4 rfl rfl fun h5 v5 rt w5 l5 _ hr => ?_
        exact nodG w5 (by omega) l5 (Nat.le_trans w4.fr.1.1 hr) e5 fun h6 g6 w6 => ih m a5 h6 s5 g6 q st' (by omega) w6 hp
      | false =>
        rw [if_neg (by simp)] at hp
        refine pcf rfl (gB w2 (g154 (by omega) w2.ph _) fun h3 g3 w3 _ => ?_)
        dsimp only at hp
        by_cases hi : isP c s2 ⟨#[40]⟩ = true
        · rw [if_pos hi] at hp
          obtain ⟨⟨l4, s4⟩, e4, hp⟩ := bnd hp
          dsimp only at hp
          by_cases hb : l4.length > 1000000
          · rw [if_pos hb] at hp; cases hp
          rw [if_neg hb] at hp
          obtain ⟨⟨a5, s5⟩, e5, hp⟩ := bnd hp
          refine pct hi (rowG [e] w3 rfl rfl fun h4 v4 rt w4 l4' _ hr => ?_)
          obtain ⟨v5, h5, g5, rt5, c5, w5, l5, hr5⟩ := ha _ _ _ _ _ w4.ph e4
          refine pb c5 ?_
          have lk := l4'.next w5.fr
          obtain ⟨v6, h6, c6, l6, k6⟩ := lk.1.app l5.1.src (by simp; omega)
          refine pb c6 ?_
          have w5' := w4.next w5
          have hr' : h0.size ≤ rt := Nat.le_trans w3.fr.1.1 hr
          have w6 : GS c g0 h0 s4 g5 h6 := by
            refine ⟨?_, ⟨⟨Nat.le_trans w5'.fr.1.1 k6.1, fun j o a b d => k6.2.1 j o (w5'.fr.1.2.1 j o a b d), fun r hr2 => ?_⟩, w5'.fr.2⟩⟩
            · obtain ⟨nv, ⟨ep, a⟩, b, d⟩ := w5'.ph
              refine ⟨nv, ⟨ep, k6.2.1 _ _ a⟩, ?_, d.keep k6.1 fun j o y _ => k6.2.1 j o y⟩
              rcases b with b | ⟨i, z, o, e1, e2, e3⟩
              · exact .inl b
              · exact .inr ⟨i, z, o, k6.2.1 _ _ e1, e2, e3⟩
            · rw [k6.2.2 r (Nat.lt_of_lt_of_le hr2 w5'.fr.1.1) (by omega)]
              exact w5'.fr.1.2.2 r hr2
          have l6' : PLG h6 v6 (e :: l4) rt g5 := ⟨l6, lk.2⟩
          exact nodG w6 (by omega) l6' hr' e5 fun h7 g7 w7 => ih m a5 h7 s5 g7 q st' (by omega) w7 hp
        · rw [if_neg hi] at hp; cases hp
          exact pcf (by simpa using hi) (Gp.fin w3)
theorem i242 {prim whole : PI} {args : PM} (hD : 4 ≤ D) (hp' : Simg c D 243 prim) (hs : Simg c D 110 whole) (ha : SimgL c D 244 args) : Simg c (D + 1) 242 (behindP c prim whole args D) := by
  intro h st g a st' x hp
  rw [c242, e242]
  unfold behindP at hp
  obtain ⟨⟨a1, s1⟩, e1, hp⟩ := bnd hp
  refine gS (GS.new x) (hp' _ _ _ _ _ x e1) fun h1 g1 w1 _ => ?_
  exact behind_g hD hs ha D D a1 h1 s1 g1 a st' (Nat.le_refl _) w1 hp
end
end Go.Proofs.Ytadmoackacickaa
/- impl's parser, once more: primaries, functions, tables, fields, blocks. -/
set_option linter.unusedSimpArgs false
namespace Go.Proofs.Ytadmoackacickaa
open Go Go.AH

section
variable {c : PC} {D : Nat}
theorem i243 {whole fn table : PI} (hD : 4 ≤ D) (hw : Simg c D 110 whole) (hf : Simg c D 245 fn) (ht : Simg c D 246 table) : Simg c (D + 1) 243 (primaryP c whole fn table) := by
  intro h st g a st' x hp
  rw [c243, e243]
  unfold primaryP at hp
  refine tokG (GS.new x) (by omega) fun h1 q w1 r1 _ => ?_
  obtain ⟨b0, _, _, _⟩ := ld_at r1.row
  refine pb rfl (pb b0 (pb rfl ?_))
  by_cases k3 : (pk c st).k = 3
  · rw [if_pos k3] at hp
    obtain ⟨s1, e1, hp⟩ := bnd hp
    refine pct (by simp [k3]) (incG w1 e1 fun h2 w2 f2 => ?_)
    obtain ⟨_, _, _, d3⟩ := ld_at (r1.gf f2 (by decide) (by decide)).row
    exact pb rfl (pb d3 (pb rfl (nodN w2 (by omega) hp fun h3 g3 w3 _ => Gp.fin w3)))
  rw [if_neg k3] at hp
  refine pcf (by simpa using k3) ?_
  by_cases k4 : (pk c st).k = 4
  · rw [if_pos k4] at hp
    obtain ⟨s1, e1, hp⟩ := bnd hp
    refine pct (by simp [k4]) (incG w1 e1 fun h2 w2 f2 => ?_)
    obtain ⟨_, _, d2, _⟩ := ld_at (r1.gf f2 (by decide) (by decide)).row
    exact pb rfl (pb d2 (pb rfl (nodN w2 (by omega) hp fun h3 g3 w3 _ => Gp.fin w3)))
  rw [if_neg k4] at hp
  refine pcf (by simpa using k4) ?_
  by_cases k1 : (pk c st).k = 1
  · rw [if_pos k1] at hp
    obtain ⟨s1, e1, hp⟩ := bnd hp
    refine pct (by simp [k1]) (incG w1 e1 fun h2 w2 f2 => ?_)
    obtain ⟨_, _, d2, _⟩ := ld_at (r1.gf f2 (by decide) (by decide)).row
    exact pb rfl (pb d2 (pb rfl (nodN w2 (by omega) hp fun h3 g3 w3 _ => Gp.fin w3)))
  rw [if_neg k1] at hp
  refine pcf (by simpa using k1) ?_
  obtain ⟨⟨b2, s2⟩, e2, hp⟩ := bnd hp
  refine gB w1 (g107 (by omega) w1.ph e2) fun h2 g2 w2 _ => ?_
  cases b2 with
  | true => rw [if_pos rfl] at hp; exact pct rfl (nodN w2 (by omega) hp fun h3 g3 w3 _ => Gp.fin w3)
  | false =>
  rw [if_neg (by simp)] at hp
  refine pcf rfl ?_
  obtain ⟨⟨b3, s3⟩, e3, hp⟩ := bnd hp
  refine gB w2 (g107 (by omega) w2.ph e3) fun h3 g3 w3 _ => ?_
  cases b3 with
  | true => rw [if_pos rfl] at hp; exact pct rfl (nodN w3 (by omega) hp fun h3 g3 w3 _ => Gp.fin w3)
  | false =>
  rw [if_neg (by simp)] at hp
  refine pcf rfl ?_
  obtain ⟨⟨b4, s4⟩, e4, hp⟩ := bnd hp
  refine gB w3 (g107 (by omega) w3.ph e4) fun h4 g4 w4 _ => ?_
  cases b4 with
  | true => rw [if_pos rfl] at hp; exact pct rfl (nodN w4 (by omega) hp fun h3 g3 w3 _ => Gp.fin w3)
  | false =>
  rw [if_neg (by simp)] at hp
  refine pcf rfl ?_
  obtain ⟨⟨b5, s5⟩, e5, hp⟩ := bnd hp
  refine gB w4 (g107 (by omega) w4.ph e5) fun h5 g5 w5 _ => ?_
  cases b5 with
  | true =>
    rw [if_pos rfl] at hp
    obtain ⟨⟨a6, s6⟩, e6, hp⟩ := bnd hp
    rw [Option.map_eq_some_iff] at hp
    obtain ⟨s7, e7, hp⟩ := hp
    cases hp
    exact pct rfl (gS w5 (hw _ _ _ _ _ w5.ph e6) fun h6 g6 w6 _ => gU w6 (g109 hD w6.ph e7) fun h7 g7 w7 _ => Gp.fin w7)
  | false =>
  rw [if_neg (by simp)] at hp
  refine pcf rfl ?_
  obtain ⟨⟨b6, s6⟩, e6, hp⟩ := bnd hp
  refine gB w5 (g107 (by omega) w5.ph e6) fun h6 g6 w6 _ => ?_
  cases b6 with
  | true => rw [if_pos rfl] at hp; exact pct rfl (gS w6 (hf _ _ _ _ _ w6.ph hp) fun h7 g7 w7 _ => Gp.fin w7)
  | false =>
  rw [if_neg (by simp)] at hp
  refine pcf rfl (gB w6 (g154 (by omega) w6.ph _) fun h7 g7 w7 _ => ?_)
  dsimp only at hp
  by_cases hi : isP c s6 ⟨#[123]⟩ = true
  · rw [if_pos hi] at hp
    exact pct hi (gS w7 (ht _ _ _ _ _ w7.ph hp) fun h8 g8 w8 _ => Gp.fin w8)
  · rw [if_neg hi] at hp; cases hp
    exact pcf (by simpa using hi) (gU w7 (g156 (by omega) w7.ph 2) fun h8 g8 w8 _ => Gp.fin w8)
theorem fn_end {block : PI} (hD : 4 ≤ D) (hb : Simg c D 111 block) {h0 h : AHeap} {g0 g : GR} {st st' : PSt} {ks : List Int} {v : Value} {rt : Nat} {a : Int} (w : GS c g0 h0 st g h) (li : PLG h v ks rt g) (hrt : h0.size ≤ rt) (hl : ks.length ≤ 2000000)
    (hp : ((block st).bind fun b => nodeP 6 E0 0 (ks ++ [b.1]) b.2) = some (a, st')) : Gp c h0 g0 (.int .i64 a) st' (s245_1 hk0 (call Try.prog Ms D) D (ptr c.p 0) v h) := by
  rw [s245_1_j, s245_1_eq]
  obtain ⟨⟨b, s1⟩, e1, hp⟩ := bnd hp
  refine gS w (hb _ _ _ _ _ w.ph e1) fun h1 g1 w1 f1 => ?_
  refine pushG w1 (li.next f1) hrt (by omega) fun h2 v2 w2 l2 => ?_
  exact nodG w2 (by omega) l2 hrt hp fun h3 g3 w3 => Gp.fin w3
theorem fn_loopG {block : PI} (hD : 4 ≤ D) (hb : Simg c D 111 block) {h0 : AHeap} {g0 : GR} {rt : Nat} (hrt : h0.size ≤ rt) {a : Int} {st' : PSt} :
    ∀ (n m : Nat) (ks : List Int) (v : Value) (h : AHeap) (st : PSt) (g : GR) (l : List Int) (s : PSt), n ≤ m → ks.length + n ≤ 2000000 → GS c g0 h0 st g h → PLG h v ks rt g → fnLoop c n ks st = some (l, s) →
    ((block s).bind fun b => nodeP 6 E0 0 (l ++ [b.1]) b.2) = some (a, st') →
    Gp c h0 g0 (.int .i64 a) st' (s245_0 hk0 (call Try.prog Ms D) D m (ptr c.p 0) v h) := by
  intro n
  induction n with
  | zero => intro m ks v h st g l s hm hl w li hp; cases hp
  | succ n ih =>
    intro m ks v h st g l s hm hl w li hp hq
    obtain ⟨m, rfl⟩ : ∃ q, m = q + 1 := ⟨m - 1, by omega⟩
    rw [s245_0_eq]
    rw [fnLoop] at hp
    obtain ⟨⟨t1, s1⟩, e1, hp⟩ := bnd hp
    obtain ⟨⟨a2, s2⟩, e2, hp⟩ := bnd hp
    obtain ⟨⟨b3, s3⟩, e3, hp⟩ := bnd hp
    refine gT w (g108 hD w.ph e1) fun h1 g1 w1 f1 => ?_
    refine nodN w1 (by omega) e2 fun h2 g2 w2 f2 => ?_
    refine pushG w2 ((li.next f1).next f2) hrt (by omega) fun h3 v3 w3 l3 => ?_
    refine gB w3 (g107 (by omega) w3.ph e3) fun h4 g4 w4 f4 => ?_
    have l4 := l3.next f4
    cases b3 with
    | true =>
      rw [if_pos rfl] at hp
      exact pcf rfl (ih m (ks ++ [a2]) v3 h4 s3 g4 l s (by omega) (by simp; omega) w4 l4 hp hq)
    | false =>
      rw [if_neg (by simp), Option.map_eq_some_iff] at hp
      obtain ⟨s5, e5, hp⟩ := hp
      cases hp
      refine pct rfl (gU w4 (g109 hD w4.ph e5) fun h5 g5 w5 f5 => ?_)
      exact fn_end hD hb w5 (l4.next f5) hrt (by simp; omega) hq
theorem i245 {block : PI} (hD : 4 ≤ D) (hD2 : D ≤ 2000000) (hb : Simg c D 111 block) : Simg c (D + 1) 245 (fnP c block D) := by
  intro h st g a st' x hp
  rw [c245, e245]
  unfold fnP at hp
  obtain ⟨s1, e1, hp⟩ := bnd hp
  obtain ⟨⟨b, s2⟩, e2, hp⟩ := bnd hp
  obtain ⟨⟨l, s3⟩, e3, hq⟩ := bnd hp
  refine gU (GS.new x) (g109 hD x e1) fun h1 g1 w1 _ => ?_
  refine rowG [] w1 rfl rfl fun h2 v2 rt w2 l2 _ hr => ?_
  refine gB w2 (g107 (by omega) w2.ph e2) fun h3 g3 w3 f3 => ?_
  have hr' := Nat.le_trans w1.fr.1.1 hr
  cases b with
  | true =>
    rw [if_pos rfl] at e3; cases e3
    exact pcf rfl (fn_end hD hb w3 (l2.next f3) hr' (by simp) hq)
  | false =>
    rw [if_neg (by simp)] at e3
    exact pct rfl (fn_loopG hD hb hr' D D [] v2 h3 s2 g3 l s3 (Nat.le_refl _) (by simpa using hD2) w3 (l2.next f3) e3 hq)
theorem table_loopG {field : PI} (hD : 4 ≤ D) (hf : Simg c D 247 field) {N : Nat} {h0 : AHeap} {g0 : GR} {rt : Nat} (hrt : h0.size ≤ rt) {a : Int} {st' : PSt} :
    ∀ (n m : Nat) (ks : List Int) (v : Value) (h : AHeap) (st : PSt) (g : GR) (l : List Int) (s : PSt), n ≤ m → ks.length + n ≤ 2000000 → GS c g0 h0 st g h → PLG h v ks rt g → tableLoop c field n ks st = some (l, s) →
    nodeP 7 E0 0 l s = some (a, st') →
    Gp c h0 g0 (.int .i64 a) st' (s246_0 hk0 (call Try.prog Ms D) N m (ptr c.p 0) v h) := by
  intro n
  induction n with
  | zero => intro m ks v h st g l s hm hl w li hp; cases hp
  | succ n ih =>
    intro m ks v h st g l s hm hl w li hp hq
    obtain ⟨m, rfl⟩ : ∃ q, m = q + 1 := ⟨m - 1, by omega⟩
    rw [s246_0_eq]
    rw [tableLoop] at hp
    obtain ⟨⟨a2, s2⟩, e2, hp⟩ := bnd hp
    obtain ⟨⟨b3, s3⟩, e3, hp⟩ := bnd hp
    refine gS w (hf _ _ _ _ _ w.ph e2) fun h2 g2 w2 f2 => ?_
    refine pushG w2 (li.next f2) hrt (by omega) fun h3 v3 w3 l3 => ?_
    refine gB w3 (g107 (by omega) w3.ph e3) fun h4 g4 w4 f4 => ?_
    have l4 := l3.next f4
    cases b3 with
    | true =>
      rw [if_pos rfl] at hp
      exact pcf rfl (ih m (ks ++ [a2]) v3 h4 s3 g4 l s (by omega) (by simp; omega) w4 l4 hp hq)
    | false =>
      rw [if_neg (by simp), Option.map_eq_some_iff] at hp
      obtain ⟨s5, e5, hp⟩ := hp
      cases hp
      refine pct rfl (gU w4 (g109 hD w4.ph e5) fun h5 g5 w5 f5 => ?_)
      exact nodG w5 (by omega) (l4.next f5) hrt hq fun h6 g6 w6 => Gp.fin w6
theorem i246 {field : PI} (hD : 4 ≤ D) (hD2 : D ≤ 2000000) (hf : Simg c D 247 field) : Simg c (D + 1) 246 (tableP c field D) := by
  intro h st g a st' x hp
  rw [c246, e246]
  unfold tableP at hp
  obtain ⟨s1, e1, hp⟩ := bnd hp
  obtain ⟨⟨b, s2⟩, e2, hp⟩ := bnd hp
  obtain ⟨⟨l, s3⟩, e3, hq⟩ := bnd hp
  refine gU (GS.new x) (g109 hD x e1) fun h1 g1 w1 _ => ?_
  refine rowG [] w1 rfl rfl fun h2 v2 rt w2 l2 _ hr => ?_
  refine gB w2 (g107 (by omega) w2.ph e2) fun h3 g3 w3 f3 => ?_
  have hr' := Nat.le_trans w1.fr.1.1 hr
  cases b with
  | true =>
    rw [if_pos rfl] at e3; cases e3
    exact pcf rfl (nodG w3 (by omega) (l2.next f3) hr' hq fun h6 g6 w6 => Gp.fin w6)
  | false =>
    rw [if_neg (by simp)] at e3
    exact pct rfl (table_loopG hD hf hr' D D [] v2 h3 s2 g3 l s3 (Nat.le_refl _) (by simpa using hD2) w3 (l2.next f3) e3 hq)
theorem field1 {whole : PI} (hD : 4 ≤ D) (hw : Simg c D 110 whole) {h0 h : AHeap} {g0 g : GR} {st st' : PSt} {a : Int} (w : GS c g0 h0 st g h) (hp : ((whole st).bind fun e => nodeP 23 E0 0 [e.1] e.2) = some (a, st')) :
    Gp c h0 g0 (.int .i64 a) st' (s247_1 hk0 (call Try.prog Ms D) D (ptr c.p 0) h) := by
  rw [s247_1_j, s247_1_eq]
  obtain ⟨⟨e, s1⟩, e1, hp⟩ := bnd hp
  refine gS w (hw _ _ _ _ _ w.ph e1) fun h1 g1 w1 _ => ?_
  refine rowG [e] w1 rfl rfl fun h5 v5 rt w5 l5 _ hr => ?_
  exact nodG w5 (by omega) l5 (Nat.le_trans w1.fr.1.1 hr) hp fun h6 g6 w6 => Gp.fin w6
theorem field0 {whole : PI} (hD : 4 ≤ D) (hw : Simg c D 110 whole) {h0 h : AHeap} {g0 g : GR} {st st' : PSt} {a : Int} {q : Nat} {b : Bool} (w : GS c g0 h0 st g h) (r : RowE h q 53 (pk c st).cells)
    (hp : (if b = true then (adv 2 st).bind fun s => (nodeP 4 (pk c st).text 0 [] s).bind fun k => (whole k.2).bind fun e => nodeP 24 E0 0 [k.1, e.1] e.2 else (whole st).bind fun e => nodeP 23 E0 0 [e.1] e.2) = some (a, st')) :
    Gp c h0 g0 (.int .i64 a) st' (s247_0 hk0 (call Try.prog Ms D) D (ptr c.p 0) (ptr q 0) b h) := by
  rw [s247_0_j, s247_0_eq]
  cases b with
  | true =>
    rw [if_pos rfl] at hp
    obtain ⟨s1, e1, hp⟩ := bnd hp
    obtain ⟨⟨a2, s2⟩, e2, hp⟩ := bnd hp
    obtain ⟨⟨a3, s3⟩, e3, hp⟩ := bnd hp
    refine pct rfl (incG2 w e1 fun h1 w1 f1 => ?_)
    obtain ⟨_, _, d2, _⟩ := ld_at (r.gf f1 (by decide) (by decide)).row
    refine pb rfl (pb d2 (pb rfl (nodN w1 (by omega) e2 fun h2 g2 w2 _ => ?_)))
    refine gS w2 (hw _ _ _ _ _ w2.ph e3) fun h3 g3 w3 _ => ?_
    refine rowG [a2, a3] w3 rfl rfl fun h5 v5 rt w5 l5 _ hr => ?_
    exact nodG w5 (by omega) l5 (Nat.le_trans w3.fr.1.1 hr) hp fun h6 g6 w6 => Gp.fin w6
  | false =>
    rw [if_neg (by simp)] at hp
    exact pcf rfl (field1 hD hw w hp)
theorem i247 {whole : PI} (hD : 4 ≤ D) (hw : Simg c D 110 whole) : Simg c (D + 1) 247 (fieldP c whole) := by
  intro h st g a st' x hp
  rw [c247, e247]
  unfold fieldP at hp
  obtain ⟨⟨b, s1⟩, e1, hp⟩ := bnd hp
  refine gB (GS.new x) (g107 (by omega) x e1) fun h1 g1 w1 _ => ?_
  cases b with
  | true =>
    rw [if_pos rfl] at hp
    obtain ⟨⟨a2, s2⟩, e2, hp⟩ := bnd hp
    obtain ⟨s3, e3, hp⟩ := bnd hp
    obtain ⟨s4, e4, hp⟩ := bnd hp
    obtain ⟨⟨a5, s5⟩, e5, hp⟩ := bnd hp
    refine pct rfl (gS w1 (hw _ _ _ _ _ w1.ph e2) fun h2 g2 w2 _ => ?_)
    refine gU w2 (g109 hD w2.ph e3) fun h3 g3 w3 _ => ?_
    refine gU w3 (g109 hD w3.ph e4) fun h4 g4 w4 _ => ?_
    refine gS w4 (hw _ _ _ _ _ w4.ph e5) fun h5 g5 w5 _ => ?_
    refine rowG [a2, a5] w5 rfl rfl fun h6 v6 rt w6 l6 _ hr => ?_
    exact nodG w6 (by omega) l6 (Nat.le_trans w5.fr.1.1 hr) hp fun h7 g7 w7 => Gp.fin w7
  | false =>
    rw [if_neg (by simp)] at hp
    dsimp only at hp
    by_cases hat : s1.at' > 1000000
    · rw [if_pos hat] at hp; cases hp
    rw [if_neg hat] at hp
    refine pcf rfl (tokG w1 (by omega) fun h2 q w2 r2 _ => ?_)
    obtain ⟨b0, _, b2, _⟩ := ld_at r2.row
    obtain ⟨_, _, tk, _⟩ := id w2.ph
    obtain ⟨_, _, a0, a1, _⟩ := w2.ph.old.ld
    refine pb rfl (pb b0 (pb rfl ?_))
    by_cases k1 : (pk c s1).k = 1
    · have w1' : IntKind.i64.wrap ((s1.at' : Int) + 1) = ((s1.at' + 1 : Nat) : Int) := by rw [wr (by omega) (by omega)]; omega
      refine pct (by simp [k1]) (pb rfl (pb rfl (pb a1 (pb rfl (pb rfl (pb rfl (pb a0 (pb tk.len (pb rfl ?_)))))))))
      rw [w1']
      by_cases hlt : s1.at' + 1 < c.toks.length
      · obtain ⟨i, x1, x2, x3⟩ := tk.one hlt
        refine pct (decide_eq_true (by omega)) (pb rfl (pb rfl (pb a0 (pb rfl (pb rfl (pb a1 (pb rfl ?_)))))))
        rw [w1']
        have en : eqNext c s1 = (c.toks[s1.at' + 1].k == 5 && c.toks[s1.at' + 1].text.toList == (⟨#[61]⟩ : ByteArray).toList) := by
          unfold eqNext; rw [List.getElem?_eq_getElem hlt]
        rw [show ((pk c s1).k == 1) = true by simp [k1], Bool.true_and, en] at hp
        refine pb x1 (pb rfl (pb x2 (pb rfl ?_)))
        by_cases k5 : c.toks[s1.at' + 1].k = 5
        · rw [show (c.toks[s1.at' + 1].k == 5) = true by simp [k5], Bool.true_and] at hp
          refine pct (by simp [k5]) (pb rfl (pb rfl (pb a0 (pb rfl (pb rfl (pb a1 (pb rfl ?_)))))))
          rw [w1']
          exact pb x1 (pb rfl (pb x3 (pb rfl (field0 hD hw w2 r2 hp))))
        · rw [show (c.toks[s1.at' + 1].k == 5) = false by simpa using k5, Bool.false_and] at hp
          exact pcf (by simpa using k5) (field0 hD hw w2 r2 hp)
      · refine pcf (decide_eq_false (by omega)) ?_
        have en : eqNext c s1 = false := by unfold eqNext; rw [List.getElem?_eq_none (by omega)]
        rw [en, Bool.and_false] at hp
        exact field0 hD hw w2 r2 hp
    · rw [show ((pk c s1).k == 1) = false by simpa using k1, Bool.false_and] at hp
      exact pcf (by simpa using k1) (field0 hD hw w2 r2 hp)
theorem block_g {stmt : PI} (hD : 4 ≤ D) (hb : Simg c D 63 stmt) {N : Nat} {h0 : AHeap} {g0 : GR} {rt : Nat} (hrt : h0.size ≤ rt) {a : Int} {st' : PSt} :
    ∀ (n m : Nat) (ks : List Int) (v : Value) (h : AHeap) (st : PSt) (g : GR) (l : List Int) (s : PSt), n ≤ m → ks.length + n ≤ 2000000 → GS c g0 h0 st g h → PLG h v ks rt g → blockLoop c stmt n ks st = some (l, s) →
    ((wantP c ⟨#[125]⟩ s).bind fun s3 => (nestTo (-1) s3).bind fun s4 => nodeP 21 E0 0 l s4) = some (a, st') →
    Gp c h0 g0 (.int .i64 a) st' (s111_0 hk0 (call Try.prog Ms D) N m (ptr c.p 0) v h) := by
  intro n
  induction n with
  | zero => intro m ks v h st g l s hm hl w li hp; cases hp
  | succ n ih =>
    intro m ks v h st g l s hm hl w li hp hq
    obtain ⟨m, rfl⟩ : ∃ q, m = q + 1 := ⟨m - 1, by omega⟩
    rw [s111_0_eq]
    rw [blockLoop] at hp
    refine codG w ?_
    by_cases hc : st.code = 0
    · refine pct (by simp [hc]) (gB w (g154 (by omega) w.ph _) fun h1 g1 w1 f1 => ?_)
      by_cases hi : isP c st ⟨#[125]⟩ = false
      · rw [if_pos ⟨hc, hi⟩] at hp
        obtain ⟨⟨a2, s2⟩, e2, hp⟩ := bnd hp
        refine pct (by simp [hi]) ?_
        rw [s111_1_j, s111_1_eq]
        refine gS w1 (hb _ _ _ _ _ w1.ph e2) fun h2 g2 w2 f2 => ?_
        refine pushG w2 ((li.next f1).next f2) hrt (by omega) fun h3 v3 w3 l3 => ?_
        exact ih m (ks ++ [a2]) v3 h3 s2 g2 l s (by omega) (by simp; omega) w3 l3 hp hq
      · rw [if_neg (fun z => hi z.2)] at hp; cases hp
        obtain ⟨s3, e3, hq⟩ := bnd hq
        obtain ⟨s4, e4, hq⟩ := bnd hq
        refine pcf (by simpa using hi) (gU w1 (g109 hD w1.ph e3) fun h2 g2 w2 f2 => ?_)
        refine decG w2 e4 fun h3 w3 f3 => ?_
        exact nodG w3 (by omega) (((li.next f1).next f2).next f3) hrt hq fun h4 g4 w4 => Gp.fin w4
    · rw [if_neg (fun z => hc z.1)] at hp; cases hp
      obtain ⟨s3, e3, hq⟩ := bnd hq
      obtain ⟨s4, e4, hq⟩ := bnd hq
      refine pcf (by simpa using hc) (gU w (g109 hD w.ph e3) fun h2 g2 w2 f2 => ?_)
      refine decG w2 e4 fun h3 w3 f3 => ?_
      exact nodG w3 (by omega) ((li.next f2).next f3) hrt hq fun h4 g4 w4 => Gp.fin w4
theorem i111 {stmt : PI} (hD : 4 ≤ D) (hD2 : D ≤ 2000000) (hb : Simg c D 63 stmt) : Simg c (D + 1) 111 (blockP c stmt D) := by
  intro h st g a st' x hp
  rw [c111, e111]
  unfold blockP at hp
  obtain ⟨s1, e1, hp⟩ := bnd hp
  obtain ⟨s2, e2, hp⟩ := bnd hp
  obtain ⟨⟨l, s3⟩, e3, hp⟩ := bnd hp
  refine gU (GS.new x) (g157 hD x e1) fun h1 g1 w1 _ => ?_
  refine gU w1 (g109 hD w1.ph e2) fun h2 g2 w2 _ => ?_
  refine rowG [] w2 rfl rfl fun h3 v3 rt w3 l3 _ hr => ?_
  exact block_g hD hb (Nat.le_trans w2.fr.1.1 hr) D D [] v3 h3 s2 g2 l s3 (Nat.le_refl _) (by simpa using hD2) w3 l3 e3 hp
theorem i63 {whole block begun : PI} (hD : 4 ≤ D) (hw : Simg c D 110 whole) (hb : Simg c D 111 block) (hg : Simg c D 112 begun) : Simg c (D + 1) 63 (stmtP c whole block begun) := by
  intro h st g a st' x hp
  rw [c63, e63]
  unfold stmtP at hp
  obtain ⟨⟨b1, s1⟩, e1, hp⟩ := bnd hp
  refine gB (GS.new x) (g107 (by omega) x e1) fun h1 g1 w1 _ => ?_
  cases b1 with
  | true =>
    rw [if_pos rfl] at hp
    obtain ⟨⟨t2, s2⟩, e2, hp⟩ := bnd hp
    obtain ⟨s3, e3, hp⟩ := bnd hp
    obtain ⟨⟨a4, s4⟩, e4, hp⟩ := bnd hp
    obtain ⟨s5, e5, hp⟩ := bnd hp
    refine pct rfl (gT w1 (g108 hD w1.ph e2) fun h2 g2 w2 _ => ?_)
    refine gU w2 (g109 hD w2.ph e3) fun h3 g3 w3 _ => ?_
    refine gS w3 (hw _ _ _ _ _ w3.ph e4) fun h4 g4 w4 _ => ?_
    refine gU w4 (g109 hD w4.ph e5) fun h5 g5 w5 _ => ?_
    refine rowG [a4] w5 rfl rfl fun h6 v6 rt w6 l6 _ hr => ?_
    exact nodG w6 (by omega) l6 (Nat.le_trans w5.fr.1.1 hr) hp fun h7 g7 w7 => Gp.fin w7
  | false =>
  rw [if_neg (by simp)] at hp
  refine pcf rfl ?_
  obtain ⟨⟨b2, s2⟩, e2, hp⟩ := bnd hp
  refine gB w1 (g107 (by omega) w1.ph e2) fun h2 g2 w2 _ => ?_
  cases b2 with
  | true =>
    rw [if_pos rfl] at hp
    obtain ⟨⟨a4, s4⟩, e4, hp⟩ := bnd hp
    obtain ⟨s5, e5, hp⟩ := bnd hp
    refine pct rfl (gS w2 (hw _ _ _ _ _ w2.ph e4) fun h4 g4 w4 _ => ?_)
    refine gU w4 (g109 hD w4.ph e5) fun h5 g5 w5 _ => ?_
    refine rowG [a4] w5 rfl rfl fun h6 v6 rt w6 l6 _ hr => ?_
    exact nodG w6 (by omega) l6 (Nat.le_trans w5.fr.1.1 hr) hp fun h7 g7 w7 => Gp.fin w7
  | false =>
  rw [if_neg (by simp)] at hp
  refine pcf rfl ?_
  obtain ⟨⟨b3, s3⟩, e3, hp⟩ := bnd hp
  refine gB w2 (g107 (by omega) w2.ph e3) fun h3 g3 w3 _ => ?_
  cases b3 with
  | true =>
    rw [if_pos rfl] at hp
    obtain ⟨⟨a4, s4⟩, e4, hp⟩ := bnd hp
    obtain ⟨⟨a5, s5⟩, e5, hp⟩ := bnd hp
    refine pct rfl (gS w3 (hw _ _ _ _ _ w3.ph e4) fun h4 g4 w4 _ => ?_)
    refine gS w4 (hb _ _ _ _ _ w4.ph e5) fun h5 g5 w5 _ => ?_
    refine rowG [a4, a5] w5 rfl rfl fun h6 v6 rt w6 l6 _ hr => ?_
    exact nodG w6 (by omega) l6 (Nat.le_trans w5.fr.1.1 hr) hp fun h7 g7 w7 => Gp.fin w7
  | false =>
  rw [if_neg (by simp)] at hp
  refine pcf rfl ?_
  obtain ⟨⟨b4, s4⟩, e4, hp⟩ := bnd hp
  refine gB w3 (g107 (by omega) w3.ph e4) fun h4 g4 w4 _ => ?_
  cases b4 with
  | true =>
    rw [if_pos rfl] at hp
    obtain ⟨⟨a5, s5⟩, e5, hp⟩ := bnd hp
    obtain ⟨⟨a6, s6⟩, e6, hp⟩ := bnd hp
    obtain ⟨⟨b7, s7⟩, e7, hp⟩ := bnd hp
    refine pct rfl (gS w4 (hw _ _ _ _ _ w4.ph e5) fun h5 g5 w5 _ => ?_)
    refine rowG [a5] w5 rfl rfl fun h6 v6 rt w6 l6 _ hr => ?_
    have hr' := Nat.le_trans w5.fr.1.1 hr
    refine gS w6 (hb _ _ _ _ _ w6.ph e6) fun h7 g7 w7 f7 => ?_
    refine pushG w7 (l6.next f7) hr' (by simp) fun h8 v8 w8 l8 => ?_
    refine gB w8 (g107 (by omega) w8.ph e7) fun h9 g9 w9 f9 => ?_
    have l9 := l8.next f9
    cases b7 with
    | true =>
      rw [if_pos rfl] at hp
      obtain ⟨⟨a10, s10⟩, e10, hp⟩ := bnd hp
      refine pct rfl (gS w9 (hb _ _ _ _ _ w9.ph e10) fun h10 g10 w10 f10 => ?_)
      refine pushG w10 (l9.next f10) hr' (by simp) fun h11 v11 w11 l11 => ?_
      exact nodG w11 (by omega) l11 hr' hp fun h12 g12 w12 => Gp.fin w12
    | false =>
      rw [if_neg (by simp)] at hp
      exact pcf rfl (nodG w9 (by omega) l9 hr' hp fun h12 g12 w12 => Gp.fin w12)
  | false =>
  rw [if_neg (by simp)] at hp
  exact pcf rfl (gS w4 (hg _ _ _ _ _ w4.ph hp) fun h5 g5 w5 _ => Gp.fin w5)
end
end Go.Proofs.Ytadmoackacickaa
/- TreeSame. -/
set_option linter.unusedSimpArgs false
namespace Go.Proofs.Ytadmoackacickaa
open Go Go.AH

theorem KidH.len {h : AHeap} {v : Value} {ks : List Int} (x : KidH h v ks) : aLen v = some (.int .i64 (ks.length : Int)) := by
  rcases x with ⟨rfl, rfl⟩ | ⟨i, rt, rfl, _⟩ <;> rfl
theorem KidH.at {h : AHeap} {v : Value} {ks : List Int} (x : KidH h v ks) {j : Nat} (hj : j < ks.length) : ∃ p, aIdx v (.int .i64 (j : Int)) 1 = some p ∧ aLd1 h p = some (.int .i64 ks[j]) := by
  rcases x with ⟨rfl, rfl⟩ | ⟨i, rt, rfl, o⟩
  · simp at hj
  · exact ⟨ptr i j, by simp [aIdx, slc, hj], o.row.ld1 (by simp [ints, hj])⟩
end Go.Proofs.Ytadmoackacickaa
