import Derived.Test.YtnjnggejbpkgoaaGreatXAL
set_option linter.unusedSimpArgs false
set_option linter.unusedVariables false
/- Plain: values, and what they lead to: both alike. -/
namespace Go.Proofs.YtnjnggejbpkgoaaGreat
open Go Go.AH Go.AM
structure Bd (a : Ar) : Prop where
 b0 : 0 ≤ a.to * a.semi ∧ a.to * a.semi ≤ 8000
 b1 : 0 ≤ (a.to + 1) * a.semi ∧ (a.to + 1) * a.semi ≤ 8000
 b2 : 0 ≤ (1 - a.to) * a.semi ∧ (1 - a.to) * a.semi ≤ 8000
 b3 : 0 ≤ (2 - a.to) * a.semi ∧ (2 - a.to) * a.semi ≤ 8000
 hl : (a.ws.length : Int) ≤ 8000
 top : a.top ≤ a.ws.length
 old : a.old ≤ (2 - a.to) * a.semi ∧ (2 - a.to) * a.semi ≤ a.ws.length
theorem Mk.bd {a : Ar} {M : List Int} (K : Mk a M) : Bd a := by
 obtain ⟨c1, c2, c1003, c1005, c4, c1004⟩ := K.num
 have b0 := mulB (t := a.to) (by omega) c1
 have b1 := mulB (t := a.to + 1) (by omega) c1
 have b2 := mulB (t := 1 - a.to) (by omega) c1
 have b3 := mulB (t := 2 - a.to) (by omega) c1
 have hc := K.cy
 unfold cycOk at hc
 have h01 : a.to = 0 ∨ a.to = 1 := by omega
 refine ⟨b0, b1, b2, b3, by omega, ?_, ?_⟩
 ·rcases h01 with h | h <;> rw [h] at c1004 <;> omega
 ·refine ⟨?_, by rcases h01 with h | h <;> rw [h] <;> omega⟩
  by_cases h : a.cyc = true
  ·rw [if_pos h] at hc
   exact (of_decide_eq_true hc).1.2
  ·rw [if_neg h] at hc
   have := of_decide_eq_true hc
   omega
structure Obj (a : Ar) (p : Int) : Prop where
 h1 : 1 ≤ p
 ok : (hd a p).2 = true
 hi : p + (hd a p).1.s + 1 ≤ a.ws.length
 s : 1 ≤ (hd a p).1.s ∧ (hd a p).1.s ≤ 256 ∧ 1 ≤ (hd a p).1.k ∧ (hd a p).1.k ≤ 6
theorem Mk.obj {a : Ar} {M : List Int} (K : Mk a M) {p : Int} (h : live M p) : Obj a p := by
 have B := K.bd
 rcases h with h | h
 ·have x := K.m1 p h
  exact ⟨by have := B.b0; omega, x.2.1, by have := B.top; omega, hok_s (hd_hok x.2.1)⟩
 ·have x := K.m2 p h
  exact ⟨by have := B.b2; omega, x.2.2.1, by have := B.old; omega, hok_s (hd_hok x.2.2.1)⟩
def tg (a : Ar) (n : Int) : Int := if (fw a n).2 then (fw a n).1 else n
theorem m61_tg {a : Ar} (I : ArI a) {n : Int} (h0 : 0 ≤ n) (h1 : n < a.ws.length) : m61 a n = some (tg a n) := by
 obtain ⟨w, e, _, _, e1, _⟩ := hd_ex I h0 h1
 unfold m61 tg
 rw [e, oBs, e1, oBs]
 cases (fw a n).2 <;> rfl
theorem m110_eq {a : Ar} {M : List Int} (K : Mk a M) (p : Int) : m110 a p = some (decide ((1 - a.to) * a.semi + 1 ≤ p ∧ p ≤ (2 - a.to) * a.semi - 1)) := by
 obtain ⟨c1, c2, c1003, c1005, c4, c1004⟩ := K.num
 have B := K.bd
 have b3 := B.b3
 unfold m110
 rw [m67_eq c1003, oBs, m64_eq (by omega) c1, oBs, oBs, m65_eq (by omega) c1, oBs, show 1 - a.to + 1 = 2 - a.to by omega, wr (by omega) (by omega), m63_eq, oBs]
theorem Mk.tg {a : Ar} {M : List Int} (K : Mk a M) (I : ArI a) {v : Vl} {w : Int} (e : rd M v.n = some w) (hw : w = 1 ∨ w = 2 ∨ w = 3) : m61 a v.n = some (tg a v.n) ∧ m71 a v = some (tg a v.n) ∧ live M (tg a v.n) := by
 have hb := rd_lt e
 have h1 : v.n < a.ws.length := by rw [K.len] at hb; exact hb.2
 refine ⟨m61_tg I hb.1 h1, ?_, ?_⟩
 ·obtain ⟨x, e0, _, _, _, e1⟩ := hd_ex I hb.1 h1
  unfold m71 Go.Proofs.YtnjnggejbpkgoaaGreat.tg
  rw [m110_eq K, oBs]
  by_cases d : (1 - a.to) * a.semi + 1 ≤ v.n ∧ v.n ≤ (2 - a.to) * a.semi - 1
  ·rw [decide_eq_true d, cond_true, e0, oBs, e1, oBs]
   cases (fw a v.n).2 <;> rfl
  ·rw [decide_eq_false d, cond_false]
   rcases hw with rfl | rfl | rfl
   ·rw [hd_fw (K.m1 _ e).2.1]; rfl
   ·rw [hd_fw (K.m2 _ e).2.2.1]; rfl
   ·have := (K.m3 _ e).2.1
    have B := K.bd
    exact absurd ⟨this.1, by have := B.old; omega⟩ d
 ·unfold Go.Proofs.YtnjnggejbpkgoaaGreat.tg
  rcases hw with rfl | rfl | rfl
  ·rw [hd_fw (K.m1 _ e).2.1]; exact .inl e
  ·rw [hd_fw (K.m2 _ e).2.2.1]; exact .inr e
  ·have := K.m3 _ e
   rw [this.2.2.2.1, if_pos rfl]; exact .inl this.2.2.2.2
def ck (a : Ar) (M : List Int) (v : Vl) (fr : Int) : Bool :=
 if kindOf v.t = 0 then true else match rd M v.n with
  | some w => decide (((w = 1 ∧ fr ≠ 3) ∨ ((w = 2 ∨ w = 3) ∧ fr ≠ 1)) ∧ (hd a (tg a v.n)).1.k = kindOf v.t)
  | none => false
theorem vok_n {v : Vl} (h : vok v = true) (hk : kindOf v.t ≠ 0) : v.n > 0 := by
 unfold vok at h
 by_cases h0 : v.t = 0
 ·rw [h0] at hk; exact absurd rfl hk
 by_cases h1 : v.t = 1
 ·rw [h1] at hk; exact absurd rfl hk
 by_cases h2 : v.t = 2
 ·rw [h2] at hk; exact absurd rfl hk
 by_cases h7 : v.t = 7
 ·rw [h7] at hk; exact absurd rfl hk
 rw [if_neg h0, if_neg h1, if_neg h2, if_neg h7] at h
 simp at h
 exact h.2
theorem m58_ck {a : Ar} {M : List Int} (K : Mk a M) (I : ArI a) {v : Vl} (hv : vok v = true) (fr : Int) : m58 a M v fr = some (ck a M v fr) := by
 obtain ⟨t, n⟩ := v
 unfold m58 ck
 rw [m100_eq, oBs]
 by_cases hk : kindOf t = 0
 ·rw [if_pos hk, hk]; rfl
 ·have hn := vok_n hv hk
  have hn' : n > 0 := hn
  rw [if_neg hk, bne_iff_ne.2 hk, Bool.not_true, cond_false]
  by_cases hb : n ≥ (M.length : Int)
  ·rw [decide_eq_true hb, cond_true]
   cases e : rd M n with
   | none => rfl
   | some w => have := rd_lt e; omega
  ·rw [decide_eq_false hb, cond_false]
   obtain ⟨w, e⟩ := rd_ex (l := M) (p := n) (by omega) (by omega)
   rw [e, oBs]
   simp only
   have T : w = 1 ∨ w = 2 ∨ w = 3 → ((m61 a n).bind fun r9 => (m55 a r9).bind fun r10 => (m101 t).bind fun r11 => some (r10.k == r11)) = some (decide ((hd a (tg a n)).1.k = kindOf t)) := fun hw => by
    obtain ⟨t1, t2, t3⟩ := K.tg I (v := ⟨t, n⟩) e hw
    have O := K.obj t3
    have := O.h1
    have := O.hi
    have := O.s
    rw [t1, oBs, m55_hd I (by omega) (by omega), oBs, m101_eq, oBs]
    simp [BEq.beq]
   rcases K.m0 _ _ e with rfl | rfl | rfl | rfl
   ·simp
   ·rw [T (.inl rfl)]
    by_cases f : fr = 3
    ·subst f; simp
    ·rw [bne_iff_ne.2 f]; simp [f]
   ·rw [T (.inr (.inl rfl))]
    by_cases f : fr = 1
    ·subst f; simp
    ·rw [bne_iff_ne.2 f]; simp [f]
   ·rw [T (.inr (.inr rfl))]
    by_cases f : fr = 1
    ·subst f; simp
    ·rw [bne_iff_ne.2 f]; simp [f]
def frOf (a : Ar) (M : List Int) (p : Int) : Int := if rd M p = some 2 then 3 else if a.cyc = true ∧ p ≥ a.scan then 2 else 1
theorem m109_ck {a : Ar} {M : List Int} (K : Mk a M) (I : ArI a) {v : Vl} (hv : vok v = true) (p fr : Int) (h : (p < 0 ∧ fr = 1) ∨ (live M p ∧ fr = frOf a M p)) : m109 a M v p = some (ck a M v fr) := by
 obtain ⟨t, n⟩ := v
 unfold m109 ck
 rw [m112_eq, m100_eq, oBs]
 by_cases hk : kindOf t = 0
 ·rw [if_pos hk, hk]; rfl
 ·have hn := vok_n hv hk
  have hn' : n > 0 := hn
  rw [if_neg hk, bne_iff_ne.2 hk, Bool.not_true, cond_false]
  by_cases hb : n ≥ (M.length : Int)
  ·rw [decide_eq_true hb, cond_true]
   cases e : rd M n with
   | none => rfl
   | some w => have := rd_lt e; omega
  ·rw [decide_eq_false hb, cond_false]
   obtain ⟨w, e⟩ := rd_ex (l := M) (p := n) (by omega) (by omega)
   rw [e, oBs]
   simp only
   have T : w = 1 ∨ w = 2 ∨ w = 3 → ((m71 a ⟨t, n⟩).bind fun r9 => (m72 a r9).bind fun r10 => (m138 t).bind fun r11 => some (r10.k == r11)) = some (decide ((hd a (tg a n)).1.k = kindOf t)) := fun hw => by
    obtain ⟨t1, t2, t3⟩ := K.tg I (v := ⟨t, n⟩) e hw
    have O := K.obj t3
    have := O.h1
    have := O.hi
    have := O.s
    rw [t2, oBs, m72_hd I (by omega) (by omega), oBs, m138_eq, m101_eq, oBs]
    simp [BEq.beq]
   rcases h with ⟨hp, rfl⟩ | ⟨hp, rfl⟩
   ·rw [decide_eq_true hp, cond_true]
    rcases K.m0 _ _ e with rfl | rfl | rfl | rfl
    ·simp
    ·rw [T (.inl rfl)]; simp
    ·simp
    ·simp
   ·have O := K.obj hp
    have := O.h1
    rw [decide_eq_false (by omega), cond_false]
    rcases hp with hp | hp
    ·rw [hp, oBs]
     have ef : frOf a M p = if a.cyc = true ∧ p ≥ a.scan then 2 else 1 := by unfold frOf; rw [hp]; simp
     rw [ef]
     rcases K.m0 _ _ e with rfl | rfl | rfl | rfl
     ·simp
     ·rw [T (.inl rfl)]; simp; intro _; split <;> simp
     ·rw [T (.inr (.inl rfl))]
      cases hc : a.cyc with
      | false => simp
      | true =>
       by_cases hs : p < a.scan
       ·rw [decide_eq_true hs]; simp [hs]
       ·rw [decide_eq_false hs]; simp [hs]
     ·rw [T (.inr (.inr rfl))]
      cases hc : a.cyc with
      | false => simp
      | true =>
       by_cases hs : p < a.scan
       ·rw [decide_eq_true hs]; simp [hs]
       ·rw [decide_eq_false hs]; simp [hs]
    ·rw [hp, oBs]
     have ef : frOf a M p = 3 := by unfold frOf; rw [hp]; simp
     rw [ef]
     rcases K.m0 _ _ e with rfl | rfl | rfl | rfl
     ·simp
     ·simp
     ·rw [T (.inr (.inl rfl))]; simp
     ·rw [T (.inr (.inr rfl))]; simp
open Go Go.AH Go.AM
def rv (a : Ar) (i : Int) : Vl × Bool := match rd a.ws i, rd a.ws (i + 1) with
 | some w, some x => if w ≤ 15 ∧ vok ⟨w, IntKind.i64.wrap x⟩ = true then (⟨w, IntKind.i64.wrap x⟩, true) else (⟨0, 0⟩, false)
 | _, _ => (⟨0, 0⟩, false)
theorem rv_ex {a : Ar} {i : Int} (h0 : 0 ≤ i) (h1 : i + 1 < a.ws.length) : ∃ w x, rd a.ws i = some w ∧ rd a.ws (i + 1) = some x ∧ rv a i = if w ≤ 15 ∧ vok ⟨w, IntKind.i64.wrap x⟩ = true then (⟨w, IntKind.i64.wrap x⟩, true) else (⟨0, 0⟩, false) := by
 obtain ⟨w, e⟩ := rd_ex (l := a.ws) (p := i) (by omega) (by omega)
 obtain ⟨x, e1⟩ := rd_ex (l := a.ws) (p := i + 1) (by omega) (by omega)
 exact ⟨w, x, e, e1, by unfold rv; rw [e, e1]⟩
theorem rv_ok {a : Ar} {i : Int} (h : (rv a i).2 = true) : vok (rv a i).1 = true := by
 unfold rv at h ⊢
 cases e : rd a.ws i with
 | none => rw [e] at h; cases h
 | some w =>
  rw [e] at h
  cases e1 : rd a.ws (i + 1) with
  | none => rw [e1] at h; cases h
  | some x =>
   rw [e1] at h
   simp only at h ⊢
   by_cases c : w ≤ 15 ∧ vok ⟨w, IntKind.i64.wrap x⟩ = true
   ·rw [if_pos c]; exact c.2
   ·rw [if_neg c] at h; cases h
theorem m93_rv {a : Ar} (I : ArI a) (hl : (a.ws.length : Int) ≤ 8000) {i : Int} (h0 : 0 ≤ i) (h1 : i + 1 < a.ws.length) : m93 a.ws i = some (rv a i) := by
 obtain ⟨w, x, e, e1, er⟩ := rv_ex h0 h1
 obtain ⟨n, rfl, hn⟩ := I.word e
 unfold m93
 rw [er, e, oBs, wr (x := i + 1) (by omega) (by omega), e1, oBs]
 by_cases c : (n : Int) ≤ 15
 ·rw [decide_eq_false (by omega), cond_false, m57_eq, oBs, wr (x := (n : Int)) (by omega) (by omega)]
  cases vok ⟨(n : Int), IntKind.i64.wrap x⟩ with
  | true => rw [if_pos ⟨c, rfl⟩]; rfl
  | false => rw [if_neg (fun y => by cases y.2)]; rfl
 ·rw [decide_eq_true (by omega), cond_true, if_neg (fun y => c y.1)]
theorem vok_9 {v : Vl} (h0 : 9 < v.t) : vok v = false := by
 unfold vok
 rw [if_neg (by omega), if_neg (by omega), if_neg (by omega), if_neg (by omega)]
 have : kindOf v.t = 0 := by
  unfold kindOf
  rw [if_neg (by omega), if_neg (by omega), if_neg (by omega), if_neg (by omega), if_neg (by omega), if_neg (by omega)]
 rw [this]; rfl
theorem m133_rv {a : Ar} (I : ArI a) (hl : (a.ws.length : Int) ≤ 8000) {i : Int} (h0 : 0 ≤ i) (h1 : i + 1 < a.ws.length) : m133 a.ws i = some (rv a i) := by
 obtain ⟨w, x, e, e1, er⟩ := rv_ex h0 h1
 obtain ⟨n, rfl, hn⟩ := I.word e
 unfold m133
 rw [er, wr (x := (a.ws.length : Int) - 2) (by omega) (by omega), m63_eq, oBs, decide_eq_true (by omega), Bool.not_true, cond_false, e, oBs, wr (x := i + 1) (by omega) (by omega), e1, oBs]
 by_cases c : (n : Int) ≤ 9
 ·rw [decide_eq_false (by omega), cond_false, m108_eq, oBs, wr (x := (n : Int)) (by omega) (by omega)]
  cases vok ⟨(n : Int), IntKind.i64.wrap x⟩ with
  | true => rw [if_pos ⟨by omega, rfl⟩]; rfl
  | false => rw [if_neg (fun y => by cases y.2)]; rfl
 ·rw [decide_eq_true (by omega), cond_true, if_neg (fun y => by rw [vok_9 (v := ⟨(n : Int), IntKind.i64.wrap x⟩) (by show 9 < (n : Int); omega)] at y; cases y.2)]
theorem m114_rv {a : Ar} (I : ArI a) (hl : (a.ws.length : Int) ≤ 8000) {i : Int} (h0 : 0 ≤ i) (h1 : i + 1 < a.ws.length) (h : (rv a i).2 = true) : m114 a i = some (rv a i).1 := by
 obtain ⟨w, x, e, e1, er⟩ := rv_ex h0 h1
 obtain ⟨n, rfl, hn⟩ := I.word e
 unfold m114
 rw [er] at h ⊢
 rw [e, oBs, wr (x := i + 1) (by omega) (by omega), e1, oBs]
 by_cases c : (n : Int) ≤ 15 ∧ vok ⟨(n : Int), IntKind.i64.wrap x⟩ = true
 ·rw [if_pos c, wr (x := (n : Int)) (by omega) (by omega)]
 ·rw [if_neg c] at h; cases h
theorem rv_word {a : Ar} {i : Int} (h : (rv a i).2 = true) : rd a.ws i = some (rv a i).1.t := by
 unfold rv at h ⊢
 cases e : rd a.ws i with
 | none => rw [e] at h; cases h
 | some w =>
  rw [e] at h
  cases e1 : rd a.ws (i + 1) with
  | none => rw [e1] at h; cases h
  | some x =>
   rw [e1] at h
   simp only at h ⊢
   by_cases c : w ≤ 15 ∧ vok ⟨w, IntKind.i64.wrap x⟩ = true
   ·rw [if_pos c]
   ·rw [if_neg c] at h; cases h
def okR (a : Ar) (M : List Int) (p fr k j : Int) : Bool :=
 (rv a (p + j)).2 && ck a M (rv a (p + j)).1 fr && !(((rv a (p + j)).1.t == 8 && k != 2) || ((rv a (p + j)).1.t == 9 && k == 3) || ((rv a (p + j)).1.t != 9 && k == 4))
def okT (a : Ar) (p k j : Int) : Bool := !(k == 2 && (rv a (p + j)).1.t != 0 && (rv a (p + j)).1.t != 8)
def tlR (a : Ar) (p k s : Int) : Option Bool :=
 bif k == 1 then (m94 a p s).bind fun r24 => some r24 else bif k == 4 then (m95 a p 1).bind fun r26 => (m59 r26 0 255).bind fun r27 => some r27 else bif k == 6 then (m96 a p).bind fun r29 => some r29 else some true
def tlP (a : Ar) (M : List Int) (p k s : Int) : Option Bool :=
 bif k == 1 then (m134 a M p s).bind fun r62 => some r62 else bif k == 4 then (rd a.ws (IntKind.i64.wrap (p + 1))).bind fun w64 => some (decide (w64 ≤ 255)) else bif k == 6 then (m135 a M p s).bind fun r66 => some r66 else some true
theorem sR {a : Ar} {M : List Int} (K : Mk a M) (I : ArI a) {p fr : Int} (hp : 0 ≤ p) {h : Hd} {l : List Int} (hl : l.length ≤ 256) (hj : ∀ j ∈ l, 1 ≤ j ∧ j ≤ 256 ∧ p + j + 1 < a.ws.length) : ∀ (f : Nat) (i : Int), 0 ≤ i → i ≤ l.length → ((l.length : Int) - i).toNat < f →
  mS54_2 a f M p h fr l i = if (l.drop i.toNat).all (okR a M p fr h.k) = true then tlR a p h.k h.s else some false
 | 0, _, _, _, x => absurd x (Nat.not_lt_zero _)
 | f + 1, i, h0, h1, hf => by
  have B := K.bd
  have hB := B.hl
  obtain ⟨k, s, n⟩ := h
  rw [mS54_2]
  by_cases c : i < (l.length : Int)
  ·have hi : i.toNat < l.length := by omega
   have e : rd l i = some l[i.toNat] := by unfold rd; rw [if_pos h0, List.getElem?_eq_getElem hi]
   have hb := hj _ (List.getElem_mem hi)
   rw [List.drop_eq_getElem_cons hi, List.all_cons]
   generalize l[i.toNat] = j at e hb
   rw [decide_eq_true c, cond_true, e, oBs, wr (x := p + j) (by omega) (by omega), m93_rv I hB (by omega) (by omega), oBs, wr (x := i + 1) (by omega) (by omega)]
   cases hv : (rv a (p + j)).2 with
   | false =>
    have : okR a M p fr k j = false := by unfold okR; rw [hv]; rfl
    rw [this]; rfl
   | true =>
    rw [Bool.not_true, cond_false, m58_ck K I (rv_ok hv), oBs]
    have IH := sR K I hp (h := ⟨k, s, n⟩) hl hj f (i + 1) (by omega) (by omega) (by omega) (fr := fr)
    rw [show (i + 1).toNat = i.toNat + 1 by omega] at IH
    rw [IH]
    have ho : okR a M p fr k j = (ck a M (rv a (p + j)).1 fr && !(((rv a (p + j)).1.t == 8 && k != 2) || ((rv a (p + j)).1.t == 9 && k == 3) || ((rv a (p + j)).1.t != 9 && k == 4))) := by unfold okR; rw [hv, Bool.true_and]
    rw [ho]
    simp only [bne]
    cases ck a M (rv a (p + j)).1 fr with
    | false => rfl
    | true =>
    cases (rv a (p + j)).1.t == 8 <;> cases (rv a (p + j)).1.t == 9 <;> cases k == 2 <;> cases k == 3 <;> cases k == 4 <;> rfl
  ·rw [decide_eq_false c, cond_false, List.drop_of_length_le (by omega)]
   rfl
theorem sP {a : Ar} {M : List Int} (K : Mk a M) (I : ArI a) {p fr : Int} (hp : live M p ∧ fr = frOf a M p) {h : Hd} {l : List Int} (hl : l.length ≤ 256) (hj : ∀ j ∈ l, 1 ≤ j ∧ j ≤ 256 ∧ p + j + 1 < a.ws.length) : ∀ (f : Nat) (i : Int), 0 ≤ i → i ≤ l.length → ((l.length : Int) - i).toNat < f →
  mS104_0 a M f p h l (l.length : Int) i = if (l.drop i.toNat).all (fun j => okR a M p fr h.k j && okT a p h.k j) = true then tlP a M p h.k h.s else some false
 | 0, _, _, _, x => absurd x (Nat.not_lt_zero _)
 | f + 1, i, h0, h1, hf => by
  have B := K.bd
  have hB := B.hl
  have p1 := (K.obj hp.1).h1
  obtain ⟨k, s, n⟩ := h
  rw [mS104_0]
  by_cases c : i < (l.length : Int)
  ·have hi : i.toNat < l.length := by omega
   have e : rd l i = some l[i.toNat] := by unfold rd; rw [if_pos h0, List.getElem?_eq_getElem hi]
   have hb := hj _ (List.getElem_mem hi)
   rw [List.drop_eq_getElem_cons hi, List.all_cons]
   generalize l[i.toNat] = j at e hb
   rw [decide_eq_true c, cond_true, e, oBs, wr (x := p + j) (by omega) (by omega), m133_rv I hB (by omega) (by omega), oBs, wr (x := i + 1) (by omega) (by omega)]
   cases hv : (rv a (p + j)).2 with
   | false =>
    have : okR a M p fr k j = false := by unfold okR; rw [hv]; rfl
    rw [this]; rfl
   | true =>
    rw [Bool.not_true, cond_false, m109_ck K I (rv_ok hv) p fr (.inr hp), oBs]
    have IH := sP K I hp (h := ⟨k, s, n⟩) hl hj f (i + 1) (by omega) (by omega) (by omega)
    rw [show (i + 1).toNat = i.toNat + 1 by omega] at IH
    rw [IH]
    have ho : okR a M p fr k j = (ck a M (rv a (p + j)).1 fr && !(((rv a (p + j)).1.t == 8 && k != 2) || ((rv a (p + j)).1.t == 9 && k == 3) || ((rv a (p + j)).1.t != 9 && k == 4))) := by unfold okR; rw [hv, Bool.true_and]
    rw [ho]
    unfold okT
    simp only [bne]
    cases ck a M (rv a (p + j)).1 fr with
    | false => rfl
    | true =>
    generalize ((List.drop (i.toNat + 1) l).all _) = Y
    have x23 : (k == 2 && k == 3) = false := by by_cases h : k = 2 <;> simp [h]
    have x24 : (k == 2 && k == 4) = false := by by_cases h : k = 2 <;> simp [h]
    have x34 : (k == 3 && k == 4) = false := by by_cases h : k = 3 <;> simp [h]
    generalize (rv a (p + j)).1.t = t
    have y08 : (t == 0 && t == 8) = false := by by_cases h : t = 0 <;> simp [h]
    have y09 : (t == 0 && t == 9) = false := by by_cases h : t = 0 <;> simp [h]
    have y89 : (t == 8 && t == 9) = false := by by_cases h : t = 8 <;> simp [h]
    generalize (k == 2) = b2 at *
    generalize (k == 3) = b3 at *
    generalize (k == 4) = b4 at *
    generalize (t == 0) = t0 at *
    generalize (t == 8) = t8 at *
    generalize (t == 9) = t9 at *
    clear IH ho
    cases b2 <;> cases b3 <;> cases b4 <;> first | exact absurd x23 (by decide) | exact absurd x24 (by decide) | exact absurd x34 (by decide) | (cases t0 <;> cases t8 <;> cases t9 <;> first | exact absurd y08 (by decide) | exact absurd y09 (by decide) | exact absurd y89 (by decide) | (cases Y <;> rfl))
  ·rw [decide_eq_false c, cond_false, List.drop_of_length_le (by omega)]
   rfl
open Go Go.AH Go.AM
theorem wr_le {w c : Int} (h0 : 0 ≤ w) (h1 : w < 18446744073709551616) (c0 : 0 ≤ c) (c1 : c < 9223372036854775808) : (0 ≤ IntKind.i64.wrap w ∧ IntKind.i64.wrap w ≤ c) ↔ w ≤ c := by
 by_cases h : w < 9223372036854775808
 ·rw [wr (by omega) (by omega)]; omega
 ·have hb : IntKind.i64.bits = 64 := rfl
  have e : IntKind.i64.wrap w = w - 18446744073709551616 := by
   unfold IntKind.wrap
   simp only [hb]
   have : w % 2 ^ 64 = w := by omega
   rw [this, if_pos]
   ·rfl
   ·simp; exact ⟨rfl, by omega⟩
  rw [e]; omega
theorem m94_some {a : Ar} (I : ArI a) (hl : (a.ws.length : Int) ≤ 8000) {p s : Int} (h0 : 0 ≤ p) (hs : 1 ≤ s ∧ s ≤ 256) (hi : p + s + 1 ≤ a.ws.length) : ∃ b, m94 a p s = some b := by
 obtain ⟨w, e⟩ := rd_ex (l := a.ws) (p := p + 1) (by omega) (by omega)
 obtain ⟨x, e1⟩ := rd_ex (l := a.ws) (p := p + s) (by omega) (by omega)
 unfold m94
 rw [m95_eq, wr (x := p + 1) (by omega) (by omega), e, oBs, oBs, m59_eq, oBs, wr (x := p + s) (by omega) (by omega), e1]
 by_cases c : 0 ≤ IntKind.i64.wrap w ∧ IntKind.i64.wrap w ≤ 160
 ·rw [decide_eq_true c, Bool.not_true, cond_false]
  generalize IntKind.i64.wrap w = n at c
  have hm : 0 ≤ Int.tmod n 8 ∧ Int.tmod n 8 < 8 := ⟨Int.tmod_nonneg 8 (by omega), Int.tmod_lt_of_pos _ (by decide)⟩
  rw [wr (x := 8 * Int.tmod n 8) (by omega) (by omega), wu (x := 8 * Int.tmod n 8) (by omega) (by omega)]
  have hsh : shrM .u64 x (8 * Int.tmod n 8) = some (x.fdiv (2 ^ min (8 * n.tmod 8).toNat IntKind.u64.bits)) := if_pos (by omega)
  rw [oBs, hsh, oBs]
  cases s != IntKind.i64.wrap (1 + IntKind.i64.wrap ((IntKind.i64.wrap (n + 7)).tdiv 8)) with
  | true => exact ⟨_, rfl⟩
  | false =>
   cases n.tmod 8 == 0 with
   | true => exact ⟨_, rfl⟩
   | false => exact ⟨_, rfl⟩
 ·rw [decide_eq_false c]; exact ⟨_, rfl⟩
def zs (a : Ar) (p : Int) : Nat → Bool
 | 0 => true
 | k + 1 => (rd a.ws (p + 7 + 2 * (60 - ((k + 1 : Nat) : Int))) == some 0) && zs a p k
theorem zs_ref {a : Ar} (hl : (a.ws.length : Int) ≤ 8000) {p : Int} (h0 : 0 ≤ p) (hp : p + 127 ≤ a.ws.length) : ∀ (k f : Nat), k < f → k ≤ 60 → mS96_4 a f p (60 - (k : Int)) = some (zs a p k)
 | _, 0, h, _ => absurd h (Nat.not_lt_zero _)
 | 0, f + 1, hf, _ => by
  rw [mS96_4, decide_eq_false (by omega), cond_false, zs]
 | k + 1, f + 1, hf, hk => by
  obtain ⟨w, e⟩ := rd_ex (l := a.ws) (p := p + 7 + 2 * (60 - ((k + 1 : Nat) : Int))) (by omega) (by omega)
  rw [mS96_4, decide_eq_true (by omega), cond_true, wr (x := p + 7) (by omega) (by omega), wr (x := 2 * _) (by omega) (by omega), wr (x := p + 7 + _) (by omega) (by omega), wr (x := _ + 1) (by omega) (by omega), zs, e, oBs,
   show 60 - ((k + 1 : Nat) : Int) + 1 = 60 - (k : Int) by omega, zs_ref hl h0 hp k f (by omega) (by omega)]
  by_cases c : w = 0
  ·subst c; rfl
  ·rw [bne_iff_ne.2 c, show (some w == some (0 : Int)) = false by simpa using c]; rfl
theorem zs_prog {a : Ar} (I : ArI a) (hl : (a.ws.length : Int) ≤ 8000) (is u : List Int) {p w : Int} (h0 : 0 ≤ p) (hp : p + 127 ≤ a.ws.length) (hw : 0 ≤ w ∧ w ≤ 60) (hu : rd u 1 = some w) (hv : ∀ j ∈ sq 61 5, (rv a (p + j)).2 = true) :
  ∀ (k f : Nat), k < f → k ≤ 60 → mS135_2 a is f p u (sq 61 5) 61 (61 - (k : Int)) = some (zs a p (min k (60 - w).toNat))
 | _, 0, h, _ => absurd h (Nat.not_lt_zero _)
 | 0, f + 1, hf, _ => by
  rw [mS135_2, decide_eq_false (by omega), cond_false, Nat.zero_min, zs]
 | k + 1, f + 1, hf, hk => by
  have hm : (5 + 2 * (61 - ((k + 1 : Nat) : Int))) ∈ sq 61 5 := sq_mem.2 ⟨60 - k, by omega, by omega⟩
  have e : rd (sq 61 5) (61 - ((k + 1 : Nat) : Int)) = some (5 + 2 * (61 - ((k + 1 : Nat) : Int))) := by
   unfold rd
   rw [if_pos (by omega), sq_at 61 5 _ (by omega)]
   exact congrArg some (by omega)
  have r := hv _ hm
  have rw0 := rv_word r
  have em := m114_rv I hl (i := p + (5 + 2 * (61 - ((k + 1 : Nat) : Int)))) (by omega) (by omega) r
  rw [mS135_2, decide_eq_true (by omega), cond_true, e, oBs, wr (x := p + _) (by omega) (by omega), em, oBs, show ((61 - ((k + 1 : Nat) : Int)) == 0) = false from beq_eq_false_iff_ne.2 (by omega), cond_false, hu, oBs,
   wr (x := w) (by omega) (by omega), wr (x := _ + 1) (by omega) (by omega), show 61 - ((k + 1 : Nat) : Int) + 1 = 61 - (k : Int) by omega, zs_prog I hl is u h0 hp hw hu hv k f (by omega) (by omega)]
  by_cases c : 61 - ((k + 1 : Nat) : Int) > w
  ·rw [decide_eq_true c, cond_true, show min (k + 1) (60 - w).toNat = k + 1 by omega, show min k (60 - w).toNat = k by omega, zs, show p + 7 + 2 * (60 - ((k + 1 : Nat) : Int)) = p + (5 + 2 * (61 - ((k + 1 : Nat) : Int))) by omega, rw0]
   by_cases z : (rv a (p + (5 + 2 * (61 - ((k + 1 : Nat) : Int))))).1.t = 0
   ·rw [z]; rfl
   ·rw [bne_iff_ne.2 z, show (some (rv a (p + (5 + 2 * (61 - ((k + 1 : Nat) : Int))))).1.t == some (0 : Int)) = false by simpa using z]; rfl
  ·rw [decide_eq_false c, cond_false, show min (k + 1) (60 - w).toNat = min k (60 - w).toNat by omega]
theorem sub_rd {xs : List Int} {lo : Int} (h0 : 0 ≤ lo) (h1 : lo + 4 ≤ xs.length) (h2 : xs.length ≤ 8000) : ∃ u, subM xs lo (lo + 4) = some u ∧ ∀ j, 0 ≤ j → j < 4 → rd u j = rd xs (lo + j) := by
 refine ⟨(xs.drop lo.toNat).take ((lo + 4).toNat - lo.toNat), if_pos ⟨h0, by omega, h1, by unfold most; omega, by omega⟩, fun j j0 j1 => ?_⟩
 unfold rd
 rw [if_pos j0, if_pos (by omega), List.getElem?_take_of_lt (by omega), List.getElem?_drop]
 congr 1
 omega
theorem co_eq {a : Ar} (I : ArI a) (hl : (a.ws.length : Int) ≤ 8000) (is : List Int) {p : Int} (h0 : 0 ≤ p) (hp : p + 127 ≤ a.ws.length) (hv : ∀ j ∈ sq 61 5, (rv a (p + j)).2 = true) : ∃ b, m96 a p = some b ∧ m135 a is p 126 = some b := by
 obtain ⟨w1, e1⟩ := rd_ex (l := a.ws) (p := p + 1) (by omega) (by omega)
 obtain ⟨w2, e2⟩ := rd_ex (l := a.ws) (p := p + 2) (by omega) (by omega)
 obtain ⟨w3, e1003⟩ := rd_ex (l := a.ws) (p := p + 3) (by omega) (by omega)
 obtain ⟨w4, e1004⟩ := rd_ex (l := a.ws) (p := p + 4) (by omega) (by omega)
 obtain ⟨u, eu, hu⟩ := sub_rd (xs := a.ws) (lo := p + 1) (by omega) (by omega) (by omega)
 have u0 : rd u 0 = some w1 := by rw [hu 0 (by omega) (by omega), Int.add_zero]; exact e1
 have u1 : rd u 1 = some w2 := by rw [hu 1 (by omega) (by omega), show p + 1 + 1 = p + 2 by omega]; exact e2
 have u2 : rd u 2 = some w3 := by rw [hu 2 (by omega) (by omega), show p + 1 + 2 = p + 3 by omega]; exact e1003
 have u3 : rd u 3 = some w4 := by rw [hu 3 (by omega) (by omega), show p + 1 + 3 = p + 4 by omega]; exact e1004
 have W := fun (w : Int) (i : Int) (e : rd a.ws i = some w) => I.w w (rd_mem e)
 have b1 := W _ _ e1
 have b2 := W _ _ e2
 have b3 := W _ _ e1003
 have b4 := W _ _ e1004
 have hs : hok ⟨6, 126, 1⟩ = true := by decide
 have eS : m113 6 126 = some (sq 61 5) := (slots_eq hs).2.1
 have v5 := hv 5 (sq_mem.2 ⟨0, by omega, by omega⟩)
 have e34 := m114_rv I hl (i := p + 5) (by omega) (by omega) v5
 have es0 : rd (sq 61 5) 0 = some 5 := by
  have := sq_at 61 5 0 (by omega)
  unfold rd
  rw [if_pos (Int.le_refl _)]
  exact this
 have L1 : mS96_4 a 20000 p (IntKind.i64.wrap w2) = mS96_4 a 20000 p (IntKind.i64.wrap w2) := rfl
 unfold m96 m135
 rw [m95_eq, m95_eq, m95_eq, m95_eq, wr (x := p + 1) (by omega) (by omega), wr (x := p + 2) (by omega) (by omega), wr (x := p + 3) (by omega) (by omega), wr (x := p + 4) (by omega) (by omega), wr (x := p + 5) (by omega) (by omega),
  e1, e2, e1003, e1004]
 rw [show p + 5 = p + 1 + 4 by omega, eu, show p + 1 + 4 = p + 5 by omega, m93_rv I hl (by omega) (by omega)]
 simp only [oBs, m59_eq, u0, u1, u2, u3, eS]
 by_cases c1 : w1 ≤ 4
 ·rw [decide_eq_true ((wr_le b1.1 b1.2 (by decide) (by decide)).2 c1), decide_eq_false (by omega : ¬ w1 > 4), Bool.not_true, cond_false, cond_false]
  by_cases c2 : w2 ≤ 60
  ·rw [decide_eq_true ((wr_le b2.1 b2.2 (by decide) (by decide)).2 c2), decide_eq_false (by omega : ¬ w2 > 60), Bool.not_true, cond_false, cond_false, wr (x := w2) (by omega) (by omega)]
   by_cases c1003 : w3 ≤ w2
   ·rw [decide_eq_true ((wr_le b3.1 b3.2 (by omega) (by omega)).2 c1003), decide_eq_false (by omega : ¬ w3 > w2), Bool.not_true, cond_false, cond_false]
    by_cases c1004 : w4 ≤ 4095
    ·rw [decide_eq_true ((wr_le b4.1 b4.2 (by decide) (by decide)).2 c1004), decide_eq_false (by omega : ¬ w4 > 4095), Bool.not_true, cond_false, cond_false, sq_len]
     have R := zs_ref hl h0 hp (60 - w2).toNat 20000 (by omega) (by omega)
     rw [show 60 - (((60 - w2).toNat : Nat) : Int) = w2 by omega] at R
     have P := zs_prog I hl is u h0 hp ⟨b2.1, c2⟩ u1 hv 60 19999 (by omega) (by omega)
     rw [show min 60 (60 - w2).toNat = (60 - w2).toNat by omega, show 61 - ((60 : Nat) : Int) = 1 by omega] at P
     rw [R, show (20000 : Nat) = 19999 + 1 from rfl, mS135_2, decide_eq_true (by decide), cond_true, es0, oBs, wr (x := p + 5) (by omega) (by omega), e34, oBs, beq_self_eq_true, cond_true, u1, oBs,
      wr (x := w2) (by omega) (by omega), decide_eq_false (by omega : ¬ (0 : Int) > w2), cond_false, show IntKind.i64.wrap (0 + 1) = 1 from wr (by omega) (by omega), show ((61 : Nat) : Int) = 61 from rfl, P]
     generalize (rv a (p + 5)).1.t = t
     cases t != 0 with
     | false => exact ⟨_, rfl, rfl⟩
     | true =>
      cases t != 6 with
      | false => exact ⟨_, rfl, rfl⟩
      | true => exact ⟨_, rfl, rfl⟩
    ·rw [decide_eq_false (fun x => c1004 ((wr_le b4.1 b4.2 (by decide) (by decide)).1 x)), decide_eq_true (by omega : w4 > 4095)]
     exact ⟨_, rfl, rfl⟩
   ·rw [decide_eq_false (fun x => c1003 ((wr_le b3.1 b3.2 (by omega) (by omega)).1 x)), decide_eq_true (by omega : w3 > w2)]
    exact ⟨_, rfl, rfl⟩
  ·rw [decide_eq_false (fun x => c2 ((wr_le b2.1 b2.2 (by decide) (by decide)).1 x)), decide_eq_true (by omega : w2 > 60)]
   exact ⟨_, rfl, rfl⟩
 ·rw [decide_eq_false (fun x => c1 ((wr_le b1.1 b1.2 (by decide) (by decide)).1 x)), decide_eq_true (by omega : w1 > 4)]
  exact ⟨_, rfl, rfl⟩
open Go Go.AH Go.AM
theorem tl_eq {a : Ar} {M : List Int} (K : Mk a M) (I : ArI a) {p : Int} (O : Obj a p) (hv : ∀ j ∈ slots (hd a p).1.k (hd a p).1.s, (rv a (p + j)).2 = true) : ∃ b, tlR a p (hd a p).1.k (hd a p).1.s = some b ∧ tlP a M p (hd a p).1.k (hd a p).1.s = some b := by
 have hl := K.bd.hl
 obtain ⟨h1, ok, hi, hs⟩ := O
 have hk := hd_hok ok
 generalize (hd a p).1 = x at *
 obtain ⟨k, s, n⟩ := x
 simp only at *
 unfold tlR tlP
 by_cases k1 : k = 1
 ·subst k1
  obtain ⟨b, e⟩ := m94_some I hl (by omega) ⟨hs.1, hs.2.1⟩ hi
  exact ⟨b, by rw [e]; rfl, by rw [← text_eq I, e]; rfl⟩
 ·rw [beq_eq_false_iff_ne.2 k1, cond_false, cond_false]
  by_cases k4 : k = 4
  ·subst k4
   obtain ⟨w, e⟩ := rd_ex (l := a.ws) (p := p + 1) (by omega) (by omega)
   have b := I.w w (rd_mem e)
   rw [beq_self_eq_true, cond_true, cond_true, m95_eq, wr (x := p + 1) (by omega) (by omega), e]
   simp only [oBs, m59_eq]
   refine ⟨_, rfl, congrArg some (decide_eq_decide.2 ?_)⟩
   exact (wr_le b.1 b.2 (by decide) (by decide)).symm
  ·rw [beq_eq_false_iff_ne.2 k4, cond_false, cond_false]
   by_cases k6 : k = 6
   ·subst k6
    have e : s = 126 := by unfold hok at hk; simp at hk; exact hk.1
    subst e
    obtain ⟨b, e1, e2⟩ := co_eq I hl M (p := p) (by omega) (by omega) hv
    exact ⟨b, by rw [e1]; rfl, by rw [e2]; rfl⟩
   ·rw [beq_eq_false_iff_ne.2 k6]
    exact ⟨true, rfl, rfl⟩
def objR (a : Ar) (M : List Int) (p : Int) : Bool := (slots (hd a p).1.k (hd a p).1.s).all (okR a M p (frOf a M p) (hd a p).1.k) && (tlR a p (hd a p).1.k (hd a p).1.s == some true)
def objT (a : Ar) (p : Int) : Bool := (slots (hd a p).1.k (hd a p).1.s).all (okT a p (hd a p).1.k)
theorem sq_all {k : Nat} {i : Int} (hi : 1 ≤ i) (hk : i + 2 * (k : Int) ≤ 257) : (sq k i).length ≤ 256 := by rw [sq_len]; omega
theorem slots_len {k s n : Int} (h : hok ⟨k, s, n⟩ = true) : (slots k s).length ≤ 256 := by
 have hb := hok_s h
 have hs : 1 ≤ s ∧ s ≤ 256 := ⟨hb.1, hb.2.1⟩
 unfold slots
 split
 ·rw [sq_len]; omega
 ·split
  ·rw [sq_len]; omega
  ·split
   ·rw [sq_len]; omega
   ·simp
theorem okR_v {a : Ar} {M : List Int} {p fr k j : Int} (h : okR a M p fr k j = true) : (rv a (p + j)).2 = true := by
 unfold okR at h
 cases e : (rv a (p + j)).2 with
 | true => rfl
 | false => rw [e] at h; cases h
theorem m54_obj {a : Ar} {M : List Int} (K : Mk a M) (I : ArI a) {p : Int} (h : live M p) : m54 a M p = some (objR a M p) := by
 have hl := K.bd.hl
 have O := K.obj h
 have O' := O
 obtain ⟨h1, ok, hi, hs⟩ := O'
 have hk := hd_hok ok
 have S := slots_eq (k := (hd a p).1.k) (s := (hd a p).1.s) (n := (hd a p).1.n) hk
 have L := slots_len (k := (hd a p).1.k) (s := (hd a p).1.s) (n := (hd a p).1.n) hk
 have R := sR K I (p := p) (fr := frOf a M p) (by omega) (h := (hd a p).1) L (fun j hj => by have := S.2.2 j hj; omega) 20000 0 (Int.le_refl _) (by omega) (by omega)
 have T := tl_eq K I O
 have e : m54 a M p = mS54_2 a 20000 M p (hd a p).1 (frOf a M p) (slots (hd a p).1.k (hd a p).1.s) 0 := by
  obtain ⟨w, ew⟩ : ∃ w, rd M p = some w ∧ (w = 1 ∨ w = 2) := h.elim (fun x => ⟨1, x, .inl rfl⟩) (fun x => ⟨2, x, .inr rfl⟩)
  unfold m54 frOf
  rw [m55_hd I (by omega) (by omega), oBs, S.1, ew.1]
  simp only [oBs]
  rcases ew.2 with rfl | rfl
  ·rw [show ((1 : Int) == 2) = false from rfl, cond_false, if_neg (by decide)]
   cases a.cyc with
   | false => rw [cond_false, if_neg (fun x => by cases x.1)]
   | true =>
    by_cases c : p ≥ a.scan
    ·rw [cond_true, decide_eq_true c, cond_true, if_pos ⟨rfl, c⟩]
    ·rw [cond_true, decide_eq_false c, cond_false, if_neg (fun x => c x.2)]
  ·rw [show ((2 : Int) == 2) = true from rfl, cond_true, if_pos rfl]
 rw [e, R, show (0 : Int).toNat = 0 from rfl, List.drop_zero]
 unfold objR
 cases c : (slots (hd a p).1.k (hd a p).1.s).all (okR a M p (frOf a M p) (hd a p).1.k) with
 | false => rw [if_neg (by decide)]; rfl
 | true =>
  obtain ⟨b, t1, _⟩ := T (fun j hj => okR_v (List.all_eq_true.1 c j hj))
  rw [if_pos rfl, t1]
  cases b <;> rfl
theorem m104_obj {a : Ar} {M : List Int} (K : Mk a M) (I : ArI a) {p : Int} (h : live M p) : m104 a M p = some (objR a M p && objT a p) := by
 have hl := K.bd.hl
 have O := K.obj h
 have O' := O
 obtain ⟨h1, ok, hi, hs⟩ := O'
 have hk := hd_hok ok
 have S := slots_eq (k := (hd a p).1.k) (s := (hd a p).1.s) (n := (hd a p).1.n) hk
 have L := slots_len (k := (hd a p).1.k) (s := (hd a p).1.s) (n := (hd a p).1.n) hk
 have R := sP K I (p := p) (fr := frOf a M p) ⟨h, rfl⟩ (h := (hd a p).1) L (fun j hj => by have := S.2.2 j hj; omega) 20000 0 (Int.le_refl _) (by omega) (by omega)
 have T := tl_eq K I O
 have e : m104 a M p = mS104_0 a M 20000 p (hd a p).1 (slots (hd a p).1.k (hd a p).1.s) ((slots (hd a p).1.k (hd a p).1.s).length : Int) 0 := by
  unfold m104
  rw [m72_hd I (by omega) (by omega), oBs, S.2.1]
  simp only [oBs]
 rw [e, R, show (0 : Int).toNat = 0 from rfl, List.drop_zero]
 unfold objR objT
 have ea : (slots (hd a p).1.k (hd a p).1.s).all (fun j => okR a M p (frOf a M p) (hd a p).1.k j && okT a p (hd a p).1.k j) = ((slots (hd a p).1.k (hd a p).1.s).all (okR a M p (frOf a M p) (hd a p).1.k) && (slots (hd a p).1.k (hd a p).1.s).all (okT a p (hd a p).1.k)) := by
  induction (slots (hd a p).1.k (hd a p).1.s) with
  | nil => rfl
  | cons x l ih => simp only [List.all_cons, ih]; cases okR a M p (frOf a M p) (hd a p).1.k x <;> cases okT a p (hd a p).1.k x <;> cases l.all (okR a M p (frOf a M p) (hd a p).1.k) <;> rfl
 rw [ea]
 cases c : (slots (hd a p).1.k (hd a p).1.s).all (okR a M p (frOf a M p) (hd a p).1.k) with
 | false => rw [Bool.false_and, if_neg (by decide)]; rfl
 | true =>
  obtain ⟨b, t1, t2⟩ := T (fun j hj => okR_v (List.all_eq_true.1 c j hj))
  rw [t1, t2]
  cases b <;> cases (slots (hd a p).1.k (hd a p).1.s).all (okT a p (hd a p).1.k) <;> rfl
def All (M : List Int) (P : Int → Bool) (x : Int) : Prop := ∀ p, x ≤ p → live M p → P p = true
theorem All.step {M : List Int} {P : Int → Bool} {x : Int} (h : live M x → P x = true) : All M P x ↔ All M P (x + 1) := by
 constructor
 ·intro H p hp lp
  exact H p (by omega) lp
 ·intro H p hp lp
  by_cases e : p = x
  ·subst e; exact h lp
  ·exact H p (by omega) lp
theorem objs_ref {a : Ar} {M : List Int} (K : Mk a M) (I : ArI a) : ∀ (f : Nat) (x : Int), 0 ≤ x → x ≤ M.length → ((M.length : Int) - x).toNat < f →
  (All M (objR a M) x → mS28_2 a f M x = mS28_4 a 20000 M (List.replicate a.ws.length false) 0) ∧ (¬ All M (objR a M) x → mS28_2 a f M x = some false)
 | 0, _, _, _, h => absurd h (Nat.not_lt_zero _)
 | f + 1, x, h0, h1, hf => by
  have hl := K.bd.hl
  have hM := K.len
  rw [mS28_2]
  by_cases c : x < (M.length : Int)
  ·obtain ⟨w, e⟩ := rd_ex h0 c
   rw [decide_eq_true c, cond_true, e, oBs, wr (x := x + 1) (by omega) (by omega)]
   have IH := objs_ref K I f (x + 1) (by omega) (by omega) (by omega)
   have key : live M x → (All M (objR a M) x → ((m54 a M x).bind fun r4 => bif (!r4) then some false else mS28_2 a f M (x + 1)) = mS28_4 a 20000 M (List.replicate a.ws.length false) 0) ∧
     (¬ All M (objR a M) x → ((m54 a M x).bind fun r4 => bif (!r4) then some false else mS28_2 a f M (x + 1)) = some false) := fun lx => by
    rw [m54_obj K I lx, oBs]
    cases o : objR a M x with
    | false => exact ⟨fun H => absurd (H x (Int.le_refl _) lx) (by rw [o]; decide), fun _ => rfl⟩
    | true =>
     rw [Bool.not_true, cond_false, All.step (fun _ => o)]
     exact IH
   by_cases w1 : w = 1
   ·subst w1; exact key (.inl e)
   ·rw [beq_eq_false_iff_ne.2 w1, cond_false]
    by_cases w2 : w = 2
    ·subst w2; exact key (.inr e)
    ·rw [beq_eq_false_iff_ne.2 w2, cond_false, All.step (fun lx => by
      rcases lx with y | y <;> rw [e] at y <;> cases y
      ·exact absurd rfl w1
      ·exact absurd rfl w2)]
     exact IH
  ·have em : (mkL (a.ws.length : Int) (false : Bool)) = some (List.replicate a.ws.length false) := by
    unfold mkL
    rw [if_pos ⟨Int.natCast_nonneg _, by omega⟩, Int.toNat_natCast]
   rw [decide_eq_false c, cond_false, em, oBs]
   exact ⟨fun _ => rfl, fun H => absurd (fun p hp lp => by have := (live_0 lp).2; omega) H⟩
theorem objs_prog {a : Ar} {M : List Int} (K : Mk a M) (I : ArI a) : ∀ (f : Nat) (x : Int), 0 ≤ x → x ≤ M.length → ((M.length : Int) - x).toNat < f →
  (All M (fun p => objR a M p && objT a p) x → mS69_0 a f M [] (M.length : Int) x = mS69_2 a 20000 M [] (M.length : Int) 0) ∧ (¬ All M (fun p => objR a M p && objT a p) x → mS69_0 a f M [] (M.length : Int) x = some (false, []))
 | 0, _, _, _, h => absurd h (Nat.not_lt_zero _)
 | f + 1, x, h0, h1, hf => by
  have hl := K.bd.hl
  have hM := K.len
  rw [mS69_0]
  by_cases c : x < (M.length : Int)
  ·obtain ⟨w, e⟩ := rd_ex h0 c
   rw [decide_eq_true c, cond_true, e, oBs, wr (x := x + 1) (by omega) (by omega)]
   have IH := objs_prog K I f (x + 1) (by omega) (by omega) (by omega)
   have key : live M x → (All M (fun p => objR a M p && objT a p) x → ((m104 a M x).bind fun r4 => bif (!r4) then some (false, []) else mS69_0 a f M [] (M.length : Int) (x + 1)) = mS69_2 a 20000 M [] (M.length : Int) 0) ∧
     (¬ All M (fun p => objR a M p && objT a p) x → ((m104 a M x).bind fun r4 => bif (!r4) then some (false, []) else mS69_0 a f M [] (M.length : Int) (x + 1)) = some (false, [])) := fun lx => by
    rw [m104_obj K I lx, oBs]
    cases o : (objR a M x && objT a x) with
    | false => exact ⟨fun H => absurd (H x (Int.le_refl _) lx) (by show ¬ (objR a M x && objT a x) = true; rw [o]; decide), fun _ => rfl⟩
    | true =>
     rw [Bool.not_true, cond_false, All.step (fun _ => o)]
     exact IH
   by_cases w1 : w = 1
   ·subst w1; exact key (.inl e)
   ·rw [beq_eq_false_iff_ne.2 w1, cond_false]
    by_cases w2 : w = 2
    ·subst w2; exact key (.inr e)
    ·rw [beq_eq_false_iff_ne.2 w2, cond_false, All.step (fun lx => by
      rcases lx with y | y <;> rw [e] at y <;> cases y
      ·exact absurd rfl w1
      ·exact absurd rfl w2)]
     exact IH
  ·rw [decide_eq_false c, cond_false]
   exact ⟨fun _ => rfl, fun H => absurd (fun p hp lp => by have := (live_0 lp).2; omega) H⟩
open Go Go.AH Go.AM
def GV (a : Ar) (M : List Int) (v : Vl) : Prop := vok v = true ∧ (kindOf v.t ≠ 0 → ∃ w, (w = 1 ∨ w = 2 ∨ w = 3) ∧ rd M v.n = some w ∧ (hd a (tg a v.n)).1.k = kindOf v.t)
theorem ck_gv {a : Ar} {M : List Int} {v : Vl} {fr : Int} (h : vok v = true) (c : ck a M v fr = true) : GV a M v := by
 refine ⟨h, fun hk => ?_⟩
 unfold ck at c
 rw [if_neg hk] at c
 cases e : rd M v.n with
 | none => rw [e] at c; cases c
 | some w =>
  rw [e] at c
  have := of_decide_eq_true c
  exact ⟨w, by omega, rfl, this.2⟩
theorem text_ok {a : Ar} (I : ArI a) (hl : (a.ws.length : Int) ≤ 8000) {p s : Int} (h0 : 0 ≤ p) (hs : 1 ≤ s ∧ s ≤ 256) (hi : p + s + 1 ≤ a.ws.length) (h : m94 a p s = some true) :
  ∃ w, rd a.ws (p + 1) = some w ∧ (0 ≤ IntKind.i64.wrap w ∧ IntKind.i64.wrap w ≤ 160) ∧ s = 1 + (IntKind.i64.wrap w + 7) / 8 := by
 obtain ⟨w, e⟩ := rd_ex (l := a.ws) (p := p + 1) (by omega) (by omega)
 refine ⟨w, e, ?_⟩
 unfold m94 at h
 rw [m95_eq, wr (x := p + 1) (by omega) (by omega), e] at h
 simp only [oBs, m59_eq] at h
 by_cases c : 0 ≤ IntKind.i64.wrap w ∧ IntKind.i64.wrap w ≤ 160
 ·refine ⟨c, ?_⟩
  rw [decide_eq_true c, Bool.not_true, cond_false] at h
  generalize IntKind.i64.wrap w = n at c h
  have e2 : Int.tdiv (n + 7) 8 = (n + 7) / 8 := Int.tdiv_eq_ediv_of_nonneg (by omega)
  rw [wr (x := n + 7) (by omega) (by omega), e2, wr (x := (n + 7) / 8) (by omega) (by omega), wr (x := 1 + (n + 7) / 8) (by omega) (by omega)] at h
  by_cases d : s = 1 + (n + 7) / 8
  ·exact d
  ·rw [bne_iff_ne.2 d] at h; cases h
 ·rw [decide_eq_false c] at h; cases h
theorem txt_loop {a : Ar} (hl : (a.ws.length : Int) ≤ 8000) {q : Int} (h0 : 0 ≤ q) : ∀ (f : Nat) (n : Int) (l : List Int) (i : Int), (l.length : Int) = n → n ≤ 160 → 0 ≤ i → i ≤ n → (n - i).toNat < f → n ≤ 8 * (a.ws.length - q - 2) →
  ∃ s, mS60_0 a f q n l i = some s ∧ mS70_0 a f q l n i = some s ∧ s.size ≤ 160
 | 0, _, _, _, _, _, _, _, h, _ => absurd h (Nat.not_lt_zero _)
 | f + 1, n, l, i, hn, hn2, hi, hi2, hf, hq => by
  rw [mS60_0, mS70_0]
  by_cases c : i < n
  ·have e1 : Int.tdiv i 8 = i / 8 := Int.tdiv_eq_ediv_of_nonneg hi
   have e2 : Int.tmod i 8 = i % 8 := Int.tmod_eq_emod_of_nonneg hi
   obtain ⟨w, e⟩ := rd_ex (l := a.ws) (p := q + 2 + i / 8) (by omega) (by omega)
   have hsh : ∀ w, shrM .u64 w (8 * (i % 8)) = some (w.fdiv (2 ^ min (8 * (i % 8)).toNat IntKind.u64.bits)) := fun w => if_pos (by omega)
   rw [decide_eq_true c, cond_true, cond_true, e1, e2, wr (x := q + 2) (by omega) (by omega), wr (x := i / 8) (by omega) (by omega), wr (x := q + 2 + i / 8) (by omega) (by omega), e, oBs, oBs,
    wr (x := 8 * (i % 8)) (by omega) (by omega), wu (x := 8 * (i % 8)) (by omega) (by omega), hsh, oBs, oBs, upd_eq hi (by omega), oBs, oBs, wr (x := i + 1) (by omega) (by omega)]
   exact txt_loop hl h0 f n _ (i + 1) (by simpa using hn) hn2 (by omega) (by omega) (by omega) hq
  ·rw [decide_eq_false c, cond_false, cond_false]
   refine ⟨_, rfl, rfl, ?_⟩
   have : (bstr l).size = l.length := by simp [bstr, ByteArray.size]
   rw [this]; omega
theorem txt {a : Ar} {M : List Int} (K : Mk a M) (I : ArI a) {q : Int} (lq : live M q) (hk : (hd a q).1.k = 1) (ho : objR a M q = true) : ∃ s, m60 a q = some s ∧ m70 a q = some s ∧ s.size ≤ 160 := by
 have hl := K.bd.hl
 obtain ⟨h1, ok, hi, hs⟩ := K.obj lq
 unfold objR at ho
 rw [hk] at ho
 have ht : tlR a q 1 (hd a q).1.s = some true := by
  simp at ho
  exact ho.2
 have h94 : m94 a q (hd a q).1.s = some true := by
  unfold tlR at ht
  cases e : m94 a q (hd a q).1.s with
  | none => rw [e] at ht; cases ht
  | some b => rw [e] at ht; exact ht
 obtain ⟨w, e, hw, he⟩ := text_ok I hl (by omega) ⟨hs.1, hs.2.1⟩ hi h94
 have em : (mkL (IntKind.i64.wrap w) (0 : Int)) = some (List.replicate (IntKind.i64.wrap w).toNat 0) := by
  unfold mkL
  rw [if_pos ⟨hw.1, by omega⟩]
 obtain ⟨s, s1, s2, s3⟩ := txt_loop hl (q := q) (by omega) 20000 (IntKind.i64.wrap w) (List.replicate (IntKind.i64.wrap w).toNat 0) 0 (by simp; omega) hw.2 (Int.le_refl _) hw.1 (by omega) (by omega)
 refine ⟨s, ?_, ?_, s3⟩
 ·unfold m60
  rw [m95_eq, wr (x := q + 1) (by omega) (by omega), e, oBs, oBs, em, oBs]
  exact s1
 ·unfold m70
  rw [wr (x := q + 1) (by omega) (by omega), e, oBs, em, oBs, List.length_replicate, show (((IntKind.i64.wrap w).toNat : Nat) : Int) = IntKind.i64.wrap w by omega]
  exact s2
theorem hash_loop (s : ByteArray) : ∀ (f : Nat) (h i : Int), 0 ≤ h → h < 1000003 → 0 ≤ i → i ≤ s.size → s.size ≤ 160 → ((s.size : Int) - i).toNat < f → ∃ r, mS30_0 f s h i = some r ∧ mS35_0 f h s (s.size : Int) i = some r ∧ 0 ≤ r
 | 0, _, _, _, _, _, _, _, h => absurd h (Nat.not_lt_zero _)
 | f + 1, h, i, h0, h1, i0, i1, hs, hf => by
  rw [mS30_0, mS35_0]
  by_cases c : i < (s.size : Int)
  ·have hc : ∃ x : Int, chr s i = some x ∧ 0 ≤ x ∧ x < 256 := by
    have hi : i.toNat < s.size := by omega
    refine ⟨(s[i.toNat].toNat : Int), ?_, by omega, by have := s[i.toNat].toNat_lt; omega⟩
    unfold chr
    rw [if_pos i0, getElem?_pos s i.toNat hi]; rfl
   obtain ⟨x, e, x0, x1⟩ := hc
   have e2 : Int.tmod (33 * h + x) 1000003 = (33 * h + x) % 1000003 := Int.tmod_eq_emod_of_nonneg (by omega)
   rw [decide_eq_true c, cond_true, cond_true, e, oBs, oBs, wr (x := 33 * h) (by omega) (by omega), wr (x := x) (by omega) (by omega), wr (x := 33 * h + x) (by omega) (by omega), e2, wr (x := i + 1) (by omega) (by omega)]
   exact hash_loop s f _ (i + 1) (by omega) (by omega) (by omega) (by omega) hs (by omega)
  ·rw [decide_eq_false c, cond_false, cond_false]
   exact ⟨h, rfl, rfl, h0⟩
theorem kindOf_in {t : Int} (h : kindOf t ≠ 0) : t = 3 ∨ t = 4 ∨ t = 5 ∨ t = 6 ∨ t = 8 ∨ t = 9 := by
 by_cases h3 : t = 3
 ·exact .inl h3
 by_cases h4 : t = 4
 ·exact .inr (.inl h4)
 by_cases h5 : t = 5
 ·exact .inr (.inr (.inl h5))
 by_cases h6 : t = 6
 ·exact .inr (.inr (.inr (.inl h6)))
 by_cases h8 : t = 8
 ·exact .inr (.inr (.inr (.inr (.inl h8))))
 by_cases h9 : t = 9
 ·exact .inr (.inr (.inr (.inr (.inr h9))))
 unfold kindOf at h
 rw [if_neg h3, if_neg h4, if_neg h5, if_neg h6, if_neg h8, if_neg h9] at h
 exact absurd rfl h
theorem hash_eq {a : Ar} {M : List Int} (K : Mk a M) (I : ArI a) (A : All M (objR a M) 0) {v : Vl} (h : GV a M v) (t0 : v.t ≠ 0) (t8 : v.t ≠ 8) (t9 : v.t ≠ 9) : ∃ r, m30 a v = some r ∧ m35 a v = some r ∧ 0 ≤ r := by
 obtain ⟨t, n⟩ := v
 simp only at t0 t8 t9
 obtain ⟨hv, hk⟩ := h
 simp only at hk
 by_cases t1 : t = 1
 ·subst t1
  refine ⟨n, rfl, rfl, ?_⟩
  unfold vok at hv
  simp at hv
  omega
 by_cases t2 : t = 2
 ·subst t2
  have hb : IntKind.u64.bits = 64 := rfl
  have hu : 0 ≤ IntKind.u64.wrap n := by
   unfold IntKind.wrap
   simp only [hb]
   have : IntKind.u64.signed = false := rfl
   rw [this]
   simp
   omega
  have e2 : Int.tmod (IntKind.u64.wrap n) 1000003 = IntKind.u64.wrap n % 1000003 := Int.tmod_eq_emod_of_nonneg hu
  refine ⟨_, rfl, rfl, ?_⟩
  show 0 ≤ IntKind.i64.wrap (Int.tmod (IntKind.u64.wrap n) 1000003)
  rw [e2, wr (by omega) (by omega)]
  omega
 by_cases t7 : t = 7
 ·subst t7
  refine ⟨_, rfl, rfl, ?_⟩
  unfold vok at hv
  simp at hv
  show 0 ≤ IntKind.i64.wrap (n + 7)
  rw [wr (by omega) (by omega)]
  omega
 have hk0 : kindOf t ≠ 0 := by
  unfold vok at hv
  rw [if_neg t0, if_neg t1, if_neg t2, if_neg t7] at hv
  simp at hv
  exact hv.1
 obtain ⟨w, hw, ew, ek⟩ := hk hk0
 obtain ⟨g1, g2, g3⟩ := K.tg I (v := ⟨t, n⟩) ew hw
 simp only at g1 g2 g3
 have O := K.obj g3
 have oi := O.hi
 have o1 := O.h1
 have os := O.s
 have e19 : m55 a (tg a n) = some (hd a (tg a n)).1 := m55_hd I (by omega) (by omega)
 have e29 : m72 a (tg a n) = some (hd a (tg a n)).1 := m72_hd I (by omega) (by omega)
 by_cases t3 : t = 3
 ·subst t3
  obtain ⟨s, s1, s2, s3⟩ := txt K I g3 ek (A _ (by omega) g3)
  obtain ⟨r, r1, r2, r3⟩ := hash_loop s 20000 5381 0 (by decide) (by decide) (Int.le_refl _) (by omega) s3 (by omega)
  refine ⟨r, ?_, ?_, r3⟩
  ·show (m61 a n).bind _ = _
   rw [g1, oBs, s1, oBs]
   exact r1
  ·show (m71 a ⟨3, n⟩).bind _ = _
   rw [g2, oBs, s2, oBs]
   exact r2
 ·refine ⟨(hd a (tg a n)).1.n, ?_, ?_, hd_n a _⟩
  ·unfold m30
   rw [beq_eq_false_iff_ne.2 t1, cond_false, beq_eq_false_iff_ne.2 t2, cond_false, beq_eq_false_iff_ne.2 t7, cond_false, beq_eq_false_iff_ne.2 t3, cond_false]
   show (m61 a n).bind _ = _
   rw [g1, oBs, e19]; rfl
  ·rcases kindOf_in hk0 with x | rfl | rfl | rfl | x | x
   ·exact absurd x t3
   ·show (m71 a ⟨4, n⟩).bind _ = _
    rw [g2, oBs, e29]; rfl
   ·show (m71 a ⟨5, n⟩).bind _ = _
    rw [g2, oBs, e29]; rfl
   ·show (m71 a ⟨6, n⟩).bind _ = _
    rw [g2, oBs, e29]; rfl
   ·exact absurd x t8
   ·exact absurd x t9
theorem same_eq {a : Ar} {M : List Int} (K : Mk a M) (I : ArI a) (A : All M (objR a M) 0) {v w : Vl} (hv : GV a M v) (hw : GV a M w) : ∃ b, m131 a v w = some b ∧ m157 a v w = some b := by
 obtain ⟨t, n⟩ := v
 obtain ⟨u, m⟩ := w
 unfold m131 m157
 by_cases c : t = u
 ·subst c
  show ∃ b, (bif t != t then _ else _) = _ ∧ (bif t != t then _ else _) = _
  rw [bne_self_eq_false, cond_false, cond_false, m112_eq, m100_eq, oBs, oBs]
  by_cases hk0 : kindOf t = 0
  ·have : (kindOf t != 0) = false := by rw [hk0]; rfl
   simp only [this, Bool.not_false, cond_true]
   exact ⟨_, rfl, rfl⟩
  ·have : (kindOf t != 0) = true := bne_iff_ne.2 hk0
   simp only [this, Bool.not_true, cond_false]
   obtain ⟨w1, hw1, ew1, ek1⟩ := hv.2 hk0
   obtain ⟨w2, hw2, ew2, ek2⟩ := hw.2 hk0
   obtain ⟨g1, g2, g3⟩ := K.tg I (v := ⟨t, n⟩) ew1 hw1
   obtain ⟨j1, j2, j3⟩ := K.tg I (v := ⟨t, m⟩) ew2 hw2
   simp only at g1 g2 g3 j1 j2 j3 ek1 ek2
   rw [g1, oBs, j1, oBs, g2, oBs, j2, oBs]
   have h1 := (K.obj g3).h1
   have h2 := (K.obj j3).h1
   by_cases t3 : t = 3
   ·subst t3
    obtain ⟨s, s1, s2, s3⟩ := txt K I g3 ek1 (A _ (by omega) g3)
    obtain ⟨z, z1, z2, z3⟩ := txt K I j3 ek2 (A _ (by omega) j3)
    rw [beq_self_eq_true, cond_true, cond_true, s1, oBs, z1, oBs, s2, oBs, z2, oBs]
    by_cases e : tg a n = tg a m
    ·rw [e] at s1
     have : s = z := by rw [s1] at z1; exact Option.some.inj z1
     subst this
     rw [beq_iff_eq.2 e, cond_true]
     exact ⟨true, by simp, rfl⟩
    ·rw [beq_eq_false_iff_ne.2 e, cond_false]
     exact ⟨_, rfl, rfl⟩
   ·rw [beq_eq_false_iff_ne.2 t3, cond_false, cond_false]
    cases tg a n == tg a m <;> exact ⟨_, rfl, rfl⟩
 ·show ∃ b, (bif t != u then _ else _) = _ ∧ (bif t != u then _ else _) = _
  rw [bne_iff_ne.2 c]
  exact ⟨_, rfl, rfl⟩
open Go Go.AH Go.AM
structure Blk (a : Ar) (M : List Int) (b n : Int) : Prop where
 h1 : 1 ≤ b
 nn : 4 ≤ n ∧ n ≤ 64
 hi : b + 4 * n + 1 ≤ a.ws.length
 s : (hd a b).1.s = 4 * n
 key : ∀ i, 0 ≤ i → i < n → (rv a (b + 1 + 4 * i)).2 = true ∧ GV a M (rv a (b + 1 + 4 * i)).1 ∧ (rv a (b + 1 + 4 * i)).1.t ≠ 8 ∧ (rv a (b + 1 + 4 * i)).1.t ≠ 9
theorem okR_ck {a : Ar} {M : List Int} {p fr k j : Int} (h : okR a M p fr k j = true) : GV a M (rv a (p + j)).1 ∧ (k ≠ 2 → (rv a (p + j)).1.t ≠ 8) ∧ (k = 3 → (rv a (p + j)).1.t ≠ 9) ∧ (k = 4 → (rv a (p + j)).1.t = 9) := by
 have hv := okR_v h
 unfold okR at h
 rw [hv, Bool.true_and] at h
 cases c : ck a M (rv a (p + j)).1 fr with
 | false => rw [c] at h; cases h
 | true =>
  rw [c, Bool.true_and] at h
  refine ⟨ck_gv (rv_ok hv) c, fun hk ht => ?_, fun hk ht => ?_, fun hk => ?_⟩
  ·rw [ht] at h; simp [hk] at h
  ·rw [ht, hk] at h; simp at h
  ·by_cases ht : (rv a (p + j)).1.t = 9
   ·exact ht
   ·rw [hk] at h; simp [ht] at h
theorem Mk.blk {a : Ar} {M : List Int} (K : Mk a M) (A : All M (objR a M) 0) {b : Int} (lb : live M b) (hk : (hd a b).1.k = 3) : ∃ n, Blk a M b n := by
 obtain ⟨h1, ok, hi, hs⟩ := K.obj lb
 have ho := A b (by omega) lb
 have hh := hd_hok ok
 have hsz : (hd a b).1.s = 16 ∨ (hd a b).1.s = 32 ∨ (hd a b).1.s = 64 ∨ (hd a b).1.s = 128 ∨ (hd a b).1.s = 256 := by
  unfold hok at hh
  rw [hk] at hh
  simp at hh
  omega
 unfold objR at ho
 rw [hk] at ho
 simp only [Bool.and_eq_true] at ho
 have ha := List.all_eq_true.1 ho.1
 have es : slots 3 (hd a b).1.s = sq ((hd a b).1.s / 2).toNat 1 := by unfold slots; simp
 rw [es] at ha
 refine ⟨(hd a b).1.s / 4, h1, by omega, by omega, by omega, fun i i0 i1 => ?_⟩
 have hm : 1 + 4 * i ∈ sq ((hd a b).1.s / 2).toNat 1 := sq_mem.2 ⟨(2 * i).toNat, by omega, by omega⟩
 have o := ha _ hm
 have v := okR_v o
 have g := okR_ck o
 rw [show b + (1 + 4 * i) = b + 1 + 4 * i by omega] at v g
 exact ⟨v, g.1, g.2.1 (by decide), g.2.2.1 rfl⟩
theorem m98_rv {a : Ar} (I : ArI a) (hl : (a.ws.length : Int) ≤ 8000) {M : List Int} {b n : Int} (B : Blk a M b n) {i : Int} (i0 : 0 ≤ i) (i1 : i < n) : m98 a b i = some (rv a (b + 1 + 4 * i)).1 := by
 have h1 := B.h1
 have hi := B.hi
 have hn := B.nn
 unfold m98
 rw [wr (x := b + 1) (by omega) (by omega), wr (x := 4 * i) (by omega) (by omega), wr (x := b + 1 + 4 * i) (by omega) (by omega), m93_rv I hl (by omega) (by omega)]
 rfl
theorem m114_k {a : Ar} (I : ArI a) (hl : (a.ws.length : Int) ≤ 8000) {M : List Int} {b n : Int} (B : Blk a M b n) {i : Int} (i0 : 0 ≤ i) (i1 : i < n) : m114 a (IntKind.i64.wrap ((IntKind.i64.wrap (b + 1)) + (IntKind.i64.wrap (4 * i)))) = some (rv a (b + 1 + 4 * i)).1 := by
 have h1 := B.h1
 have hi := B.hi
 have hn := B.nn
 rw [wr (x := b + 1) (by omega) (by omega), wr (x := 4 * i) (by omega) (by omega), wr (x := b + 1 + 4 * i) (by omega) (by omega)]
 exact m114_rv I hl (by omega) (by omega) (B.key i i0 i1).1
def Lk (a : Ar) (b n : Int) (r : Int × Bool) : Prop := (r.1 = -1 ∧ r.2 = false) ∨ ((0 ≤ r.1 ∧ r.1 < n) ∧ (r.2 = false → (rv a (b + 1 + 4 * r.1)).1.t = 0))
theorem look_loop {a : Ar} {M : List Int} (K : Mk a M) (I : ArI a) (A : All M (objR a M) 0) {b n : Int} (B : Blk a M b n) {v : Vl} (hv : GV a M v) : ∀ (f : Nat) (x y : Int), 0 ≤ x → x < n → 0 ≤ y → y ≤ n → (n - y).toNat < f →
  ∃ r, mS99_2 a f b n v x y = some r ∧ mS136_0 a f b v n x n y = some r ∧ Lk a b n r
 | 0, _, _, _, _, _, _, h => absurd h (Nat.not_lt_zero _)
 | f + 1, x, y, x0, x1, y0, y1, hf => by
  have hl := K.bd.hl
  have hn := B.nn
  rw [mS99_2, mS136_0]
  by_cases c : y < n
  ·rw [decide_eq_true c, cond_true, cond_true, m98_rv I hl B x0 x1, m114_k I hl B x0 x1, oBs, oBs]
   by_cases t : (rv a (b + 1 + 4 * x)).1.t = 0
   ·rw [beq_iff_eq.2 t, cond_true, cond_true]
    exact ⟨_, rfl, rfl, .inr ⟨⟨x0, x1⟩, fun _ => t⟩⟩
   ·rw [beq_eq_false_iff_ne.2 t, cond_false, cond_false]
    have g := (B.key x x0 x1).2.1
    obtain ⟨e, e1, e2⟩ := same_eq K I A g hv
    rw [e1, e2, oBs, oBs]
    cases e with
    | true => exact ⟨_, rfl, rfl, .inr ⟨⟨x0, x1⟩, fun h => by cases h⟩⟩
    | false =>
     have er : remM (IntKind.i64.wrap (x + 1)) n = some ((x + 1) % n) := by
      unfold remM
      rw [if_neg (by omega), wr (x := x + 1) (by omega) (by omega), Int.tmod_eq_emod_of_nonneg (by omega)]
     rw [cond_false, cond_false, er, oBs, oBs, wr (x := y + 1) (by omega) (by omega)]
     exact look_loop K I A B hv f _ (y + 1) (Int.emod_nonneg _ (by omega)) (Int.emod_lt_of_pos _ (by omega)) (by omega) (by omega) (by omega)
  ·rw [decide_eq_false c, cond_false, cond_false]
   exact ⟨_, rfl, rfl, .inl ⟨rfl, rfl⟩⟩
theorem look {a : Ar} {M : List Int} (K : Mk a M) (I : ArI a) (A : All M (objR a M) 0) {b n : Int} (B : Blk a M b n) {v : Vl} (hv : GV a M v) (t0 : v.t ≠ 0) (t8 : v.t ≠ 8) (t9 : v.t ≠ 9) :
  ∃ r, m99 a b n v = some r ∧ m136 a b v = some r ∧ Lk a b n r := by
 have hl := K.bd.hl
 have hn := B.nn
 have h1 := B.h1
 have hi := B.hi
 obtain ⟨h, e1, e2, h0⟩ := hash_eq K I A hv t0 t8 t9
 have er : remM h n = some (h % n) := by
  unfold remM
  rw [if_neg (by omega), Int.tmod_eq_emod_of_nonneg h0]
 obtain ⟨r, r1, r2, r3⟩ := look_loop K I A B hv 20000 (h % n) 0 (Int.emod_nonneg _ (by omega)) (Int.emod_lt_of_pos _ (by omega)) (Int.le_refl _) (by omega) (by omega)
 refine ⟨r, ?_, ?_, r3⟩
 ·unfold m99
  rw [beq_eq_false_iff_ne.2 (by omega : n ≠ 0), cond_false, beq_eq_false_iff_ne.2 t0, cond_false]
  show (m30 a v).bind _ = _
  rw [e1, oBs, er, oBs]
  exact r1
 ·unfold m136
  rw [m72_hd I (by omega) (by omega), oBs]
  show (m35 a v).bind _ = _
  rw [e2, oBs]
  have es : IntKind.i64.wrap (Int.tdiv (hd a b).1.s 4) = n := by
   rw [B.s, Int.tdiv_eq_ediv_of_nonneg (by omega), wr (by omega) (by omega)]; omega
  rw [es, er, oBs]
  exact r2
def cnt (a : Ar) (b n : Int) : Nat → Int
 | 0 => 0
 | k + 1 => (if (rv a (b + 1 + 4 * (n - ((k + 1 : Nat) : Int)))).1.t = 0 then 0 else 1) + cnt a b n k
theorem cnt_le (a : Ar) (b n : Int) : ∀ k : Nat, 0 ≤ cnt a b n k ∧ cnt a b n k ≤ k
 | 0 => ⟨Int.le_refl _, Int.le_refl _⟩
 | k + 1 => by
  have := cnt_le a b n k
  rw [cnt]
  split <;> omega
theorem cnt_ref {a : Ar} (hl : (a.ws.length : Int) ≤ 8000) {M : List Int} {b n : Int} (B : Blk a M b n) : ∀ (f k : Nat) (c : Int), k < f → (k : Int) ≤ n → 0 ≤ c → c + k ≤ 1000 → mS97_0 a f b n c (n - (k : Int)) = some (c + cnt a b n k, n)
 | 0, _, _, h, _, _, _ => absurd h (Nat.not_lt_zero _)
 | f + 1, 0, c, _, _, _, _ => by
  rw [mS97_0, decide_eq_false (by omega), cond_false, cnt, Int.add_zero]
 | f + 1, k + 1, c, hf, hk, c0, c1 => by
  have hn := B.nn
  have h1 := B.h1
  have hi := B.hi
  have w := rv_word (B.key (n - ((k + 1 : Nat) : Int)) (by omega) (by omega)).1
  rw [mS97_0, decide_eq_true (by omega), cond_true, wr (x := b + 1) (by omega) (by omega), wr (x := 4 * _) (by omega) (by omega), wr (x := b + 1 + _) (by omega) (by omega), w, oBs, wr (x := n - _ + 1) (by omega) (by omega), wr (x := c + 1) (by omega) (by omega), cnt,
   show n - ((k + 1 : Nat) : Int) + 1 = n - (k : Int) by omega]
  by_cases t : (rv a (b + 1 + 4 * (n - ((k + 1 : Nat) : Int)))).1.t = 0
  ·rw [if_pos t, show ((rv a (b + 1 + 4 * (n - ((k + 1 : Nat) : Int)))).1.t != 0) = false by rw [t]; rfl, cond_false, Int.zero_add]
   exact cnt_ref hl B f k c (by omega) (by omega) c0 (by omega)
  ·rw [if_neg t, bne_iff_ne.2 t, cond_true, cnt_ref hl B f k (c + 1) (by omega) (by omega) (by omega) (by omega)]
   exact congrArg some (congrArg (fun z => (z, n)) (by omega))
theorem m97_cnt {a : Ar} (I : ArI a) (hl : (a.ws.length : Int) ≤ 8000) {M : List Int} {b n : Int} (B : Blk a M b n) : m97 a b = some (cnt a b n n.toNat, n) := by
 have hn := B.nn
 have h1 := B.h1
 have hi := B.hi
 have es : IntKind.i64.wrap (Int.tdiv (hd a b).1.s 4) = n := by
  rw [B.s, Int.tdiv_eq_ediv_of_nonneg (by omega), wr (by omega) (by omega)]; omega
 have R := cnt_ref hl B 20000 n.toNat 0 (by omega) (by omega) (by omega) (by omega)
 rw [show n - ((n.toNat : Nat) : Int) = 0 by omega, Int.zero_add] at R
 unfold m97
 rw [m55_hd I (by omega) (by omega), oBs, es]
 exact R
theorem keys {a : Ar} {M : List Int} (K : Mk a M) (I : ArI a) (A : All M (objR a M) 0) {b n : Int} (B : Blk a M b n) {w : Int} (w0 : 0 ≤ w) (w1 : w < 18446744073709551616) (G : List Bool) (ml : List Int) : ∀ (f k : Nat) (c : Int), k < f → (k : Int) ≤ n → 0 ≤ c → c + k ≤ 1000 →
  ∃ e, mS56_0 a f (IntKind.i64.wrap w) b (c + cnt a b n k) n (n - (k : Int)) G = some (e, G) ∧ mS105_0 a f M ml w b c n n (n - (k : Int)) = some (e, ml)
 | 0, _, _, h, _, _, _ => absurd h (Nat.not_lt_zero _)
 | f + 1, 0, c, _, _, c0, c1 => by
  have hn := B.nn
  rw [mS56_0, mS105_0, decide_eq_false (by omega), cond_false, cond_false, cnt, Int.add_zero, wu (x := c) (by omega) (by omega), wr (x := 3 * n) (by omega) (by omega), wr (x := 4 * c) (by omega) (by omega)]
  by_cases e : w = c
  ·subst e
   rw [wr (x := w) (by omega) (by omega), beq_self_eq_true, cond_true, cond_true, wr (x := 4 * w) (by omega) (by omega)]
   exact ⟨_, rfl, rfl⟩
  ·have h2 : IntKind.i64.wrap w ≠ c := fun h => by
    have := (wr_le w0 w1 c0 (by omega : c < 9223372036854775808)).1 (by omega)
    rw [wr (x := w) (by omega) (by omega)] at h
    exact e h
   rw [beq_eq_false_iff_ne.2 h2, beq_eq_false_iff_ne.2 (fun h => e h.symm)]
   exact ⟨_, rfl, rfl⟩
 | f + 1, k + 1, c, hf, hk, c0, c1 => by
  have hl := K.bd.hl
  have hn := B.nn
  have h1 := B.h1
  have hi := B.hi
  have kk := B.key (n - ((k + 1 : Nat) : Int)) (by omega) (by omega)
  have em := m98_rv I hl B (i := n - ((k + 1 : Nat) : Int)) (by omega) (by omega)
  have em2 := m114_k I hl B (i := n - ((k + 1 : Nat) : Int)) (by omega) (by omega)
  have L := fun t0 => look K I A B kk.2.1 t0 kk.2.2.1 kk.2.2.2
  rw [mS56_0, mS105_0, decide_eq_true (by omega), cond_true, cond_true, em, em2, oBs, oBs, wr (x := n - _ + 1) (by omega) (by omega), wr (x := c + 1) (by omega) (by omega), cnt, show n - ((k + 1 : Nat) : Int) + 1 = n - (k : Int) by omega]
  have hL : ∀ r, Lk a b n r → r.2 = false → r.1 = n - ((k + 1 : Nat) : Int) → (rv a (b + 1 + 4 * (n - ((k + 1 : Nat) : Int)))).1.t = 0 := fun r hr h2 h1 => by
   rcases hr with x | x
   ·omega
   ·rw [h1] at x; exact x.2 h2
  generalize (rv a (b + 1 + 4 * (n - ((k + 1 : Nat) : Int)))).1 = v at *
  obtain ⟨t, m⟩ := v
  simp only at L hL ⊢
  by_cases t0 : t = 0
  ·subst t0
   have e77 : ∃ r, m99 a b n ⟨0, m⟩ = some r := by
    unfold m99
    rw [beq_eq_false_iff_ne.2 (by omega : n ≠ 0)]
    exact ⟨_, rfl⟩
   obtain ⟨r, e77⟩ := e77
   rw [e77, oBs, bne_self_eq_false, beq_self_eq_true, cond_false, cond_true, if_pos rfl, Int.zero_add]
   exact keys K I A B w0 w1 G ml f k c (by omega) (by omega) c0 (by omega)
  ·obtain ⟨r, r1, r2, r3⟩ := L t0
   rw [r1, r2, oBs, oBs, bne_iff_ne.2 t0, cond_true, beq_eq_false_iff_ne.2 t0, cond_false, if_neg t0]
   obtain ⟨x, y⟩ := r
   simp only at *
   by_cases hx : x = n - ((k + 1 : Nat) : Int)
   ·cases y with
    | false => exact absurd (hL _ r3 rfl hx) t0
    | true =>
     rw [hx, bne_self_eq_false, Bool.not_true, cond_false, cond_false, cond_false, ← Int.add_assoc]
     exact keys K I A B w0 w1 G ml f k (c + 1) (by omega) (by omega) (by omega) (by omega)
   ·rw [bne_iff_ne.2 hx]
    cases y <;> exact ⟨_, rfl, rfl⟩
open Go Go.AH Go.AM
structure LS (a : Ar) (G : List Bool) (ml : List Int) : Prop where
 len : G.length = a.ws.length
 m : ∀ q b, rd G q = some b → (b = true ↔ q ∈ ml)
theorem tab {a : Ar} {M : List Int} (K : Mk a M) (I : ArI a) (A : All M (objR a M) 0) {p : Int} (lp : live M p) (hk : (hd a p).1.k = 2) {G : List Bool} {ml : List Int} (L : LS a G ml) :
  (objT a p = false → m56 a p G = some (false, G)) ∧ (objT a p = true → ∃ b G' ml', m56 a p G = some (b, G') ∧ m105 a M ml p = some (b, ml') ∧ (b = true → LS a G' ml')) := by
 have hl := K.bd.hl
 obtain ⟨h1, ok, hi, hs⟩ := K.obj lp
 have ho := A p (by omega) lp
 have hh := hd_hok ok
 have hsz : (hd a p).1.s = 3 := by
  unfold hok at hh
  rw [hk] at hh
  simp at hh
  exact hh.1
 unfold objR at ho
 have hT : objT a p = okT a p 2 2 := by
  unfold objT
  rw [hk, hsz]
  show (slots 2 3).all (okT a p 2) = _
  rw [show slots 2 3 = [2] from rfl]
  simp
 rw [hk, hsz, show slots 2 3 = [2] from rfl] at ho
 simp only [List.all_cons, List.all_nil, Bool.and_true, Bool.and_eq_true] at ho
 have v := okR_v ho.1
 have g := (okR_ck ho.1).1
 obtain ⟨w, ew⟩ := rd_ex (l := a.ws) (p := p + 1) (by omega) (by omega)
 have bw := I.w w (rd_mem ew)
 have e21 := m93_rv I hl (i := p + 2) (by omega) (by omega)
 have e34 := m114_rv I hl (i := p + 2) (by omega) (by omega) v
 rw [hT]
 unfold okT m56 m105
 rw [wr (x := p + 2) (by omega) (by omega), e21, oBs, m95_eq, wr (x := p + 1) (by omega) (by omega), ew, oBs, oBs, oBs, e34, oBs]
 generalize (rv a (p + 2)).1 = x at *
 obtain ⟨t, n⟩ := x
 simp only at *
 by_cases t0 : t = 0
 ·subst t0
  refine ⟨fun h => by simp at h, fun _ => ?_⟩
  have e : (IntKind.i64.wrap w == 0) = (w == 0) := by
   have := wr_le bw.1 bw.2 (c := 0) (by decide) (by decide)
   by_cases c : w = 0
   ·subst c; rfl
   ·rw [beq_eq_false_iff_ne.2 c, beq_eq_false_iff_ne.2 (fun h => c (by have := this.1 (by omega); omega))]
  rw [e]
  exact ⟨_, _, _, rfl, rfl, fun _ => L⟩
 ·rw [beq_eq_false_iff_ne.2 t0, cond_false, cond_false]
  by_cases t8 : t = 8
  ·subst t8
   refine ⟨fun h => by simp at h, fun _ => ?_⟩
   obtain ⟨wm, hw, em, ek⟩ := g.2 (by show kindOf 8 ≠ 0; decide)
   obtain ⟨g1, g2, g3⟩ := K.tg I (v := ⟨8, n⟩) em hw
   simp only at em ek g1 g2 g3
   obtain ⟨nn, B⟩ := K.blk A g3 (by rw [ek]; rfl)
   have Bn := B.nn
   have Bh := B.hi
   have B1 := B.h1
   have e75 := m97_cnt I hl B
   have e29 : m72 a (tg a n) = some (hd a (tg a n)).1 := m72_hd I (by omega) (by omega)
   have es : IntKind.i64.wrap (Int.tdiv (hd a (tg a n)).1.s 4) = nn := by
    rw [B.s, Int.tdiv_eq_ediv_of_nonneg (by omega), wr (by omega) (by omega)]; omega
   obtain ⟨b, eb⟩ := rd_ex (l := G) (p := tg a n) (by omega) (by rw [L.len]; omega)
   have hb := L.m _ _ eb
   rw [bne_self_eq_false, cond_false, g1, oBs, eb, oBs]
   rw [g2, oBs]
   cases b with
   | true =>
    rw [decide_eq_true (hb.1 rfl)]
    exact ⟨false, _, _, rfl, rfl, fun h => by cases h⟩
   | false =>
    have hb' : ¬ tg a n ∈ ml := fun h => by cases hb.2 h
    rw [decide_eq_false hb', cond_false, cond_false, upd_eq (by omega) (by rw [L.len]; omega), oBs, e75, oBs, e29, oBs]
    simp only [es]
    obtain ⟨e, k1, k2⟩ := keys K I A B bw.1 bw.2 (G.set (tg a n).toNat true) (insM ml (tg a n)) 20000 nn.toNat 0 (by omega) (by omega) (Int.le_refl _) (by omega)
    rw [show nn - ((nn.toNat : Nat) : Int) = 0 by omega, Int.zero_add] at k1
    rw [show nn - ((nn.toNat : Nat) : Int) = 0 by omega] at k2
    refine ⟨e, _, _, k1, k2, fun _ => ⟨by simp [L.len], fun q b hq => ?_⟩⟩
    rw [rd_set (by omega) (by rw [L.len]; omega)] at hq
    rw [mem_insM]
    by_cases c : q = tg a n
    ·rw [if_pos c] at hq
     cases hq
     exact ⟨fun _ => .inr c, fun _ => rfl⟩
    ·rw [if_neg c] at hq
     rw [L.m q b hq]
     exact ⟨fun h => .inl h, fun h => h.elim id (fun h => absurd h c)⟩
  ·rw [bne_iff_ne.2 t8, cond_true]
   refine ⟨fun _ => rfl, fun h => ?_⟩
   simp [t0, t8] at h
def rok (a : Ar) (M : List Int) (v : Vl) : Bool := vok v && v.t != 8 && ck a M v 1
theorem m107_eq {a : Ar} {M : List Int} (K : Mk a M) (I : ArI a) (v : Vl) : m107 v a M = some (!rok a M v) := by
 obtain ⟨t, n⟩ := v
 unfold m107 rok
 rw [m108_eq, oBs]
 cases hv : vok ⟨t, n⟩ with
 | false => rfl
 | true =>
  rw [Bool.not_true, cond_false, m109_ck K I hv (-1) 1 (.inl ⟨by decide, rfl⟩), oBs]
  show (bif t == 8 then some true else some (!ck a M ⟨t, n⟩ 1)) = some (!(true && (t != 8) && ck a M ⟨t, n⟩ 1))
  by_cases c : t = 8
  ·rw [beq_iff_eq.2 c, c]; rfl
  ·rw [beq_eq_false_iff_ne.2 c, bne_iff_ne.2 c]; rfl
theorem roots_ref {a : Ar} {M : List Int} (K : Mk a M) (I : ArI a) : ∀ (f : Nat) (x : Int), 0 ≤ x → x ≤ a.rs.length → ((a.rs.length : Int) - x).toNat < f → mS28_6 a f M x = some ((a.rs.drop x.toNat).all (rok a M))
 | 0, _, _, _, h => absurd h (Nat.not_lt_zero _)
 | f + 1, x, h0, h1, hf => by
  have hr := K.num.roots
  rw [mS28_6]
  by_cases c : x < (a.rs.length : Int)
  ·have hi : x.toNat < a.rs.length := by omega
   have e : rd a.rs x = some a.rs[x.toNat] := by unfold rd; rw [if_pos h0, List.getElem?_eq_getElem hi]
   rw [List.drop_eq_getElem_cons hi, List.all_cons]
   generalize a.rs[x.toNat] = v at e
   have IH := roots_ref K I f (x + 1) (by omega) (by omega) (by omega)
   rw [show (x + 1).toNat = x.toNat + 1 by omega] at IH
   rw [decide_eq_true c, cond_true, e, oBs, m57_eq, oBs, wr (x := x + 1) (by omega) (by omega), IH]
   rw [show rok a M v = (vok v && v.t != 8 && ck a M v 1) from rfl]
   cases hv : vok v with
   | false => rfl
   | true =>
    rw [Bool.not_true, cond_false, m58_ck K I (v := ⟨v.t, v.n⟩) hv, oBs]
    by_cases t8 : v.t = 8
    ·rw [beq_iff_eq.2 t8, t8]; rfl
    ·rw [beq_eq_false_iff_ne.2 t8, cond_false, bne_iff_ne.2 t8]
     show (bif !ck a M v 1 then _ else _) = _
     cases ck a M v 1 <;> rfl
  ·rw [decide_eq_false c, cond_false, List.drop_of_length_le (by omega)]; rfl
theorem roots_prog {a : Ar} {M : List Int} (K : Mk a M) (I : ArI a) : ∀ (f : Nat) (x : Int), 0 ≤ x → x ≤ a.rs.length → ((a.rs.length : Int) - x).toNat < f → ∃ r, mS137_0 a M f (a.rs.length : Int) x = some r ∧ decide (r ≥ 0) = !(a.rs.drop x.toNat).all (rok a M)
 | 0, _, _, _, h => absurd h (Nat.not_lt_zero _)
 | f + 1, x, h0, h1, hf => by
  have hr := K.num.roots
  rw [mS137_0]
  by_cases c : x < (a.rs.length : Int)
  ·have hi : x.toNat < a.rs.length := by omega
   have e : rd a.rs x = some a.rs[x.toNat] := by unfold rd; rw [if_pos h0, List.getElem?_eq_getElem hi]
   rw [List.drop_eq_getElem_cons hi, List.all_cons]
   generalize a.rs[x.toNat] = v at e
   rw [decide_eq_true c, cond_true, e, oBs, wr (x := x + 1) (by omega) (by omega)]
   show ∃ r, ((m107 v a M).bind _) = _ ∧ _
   rw [m107_eq K I, oBs]
   cases hv : rok a M v with
   | false => exact ⟨x, rfl, by rw [decide_eq_true h0]; rfl⟩
   | true =>
    rw [Bool.not_true, cond_false, Bool.true_and]
    have IH := roots_prog K I f (x + 1) (by omega) (by omega) (by omega)
    rw [show (x + 1).toNat = x.toNat + 1 by omega] at IH
    exact IH
  ·rw [decide_eq_false c, cond_false, List.drop_of_length_le (by omega)]
   exact ⟨-1, rfl, rfl⟩
theorem m106_eq {a : Ar} {M : List Int} (K : Mk a M) (I : ArI a) : m106 a M = some (!a.rs.all (rok a M)) := by
 have hr := K.num.roots
 obtain ⟨r, r1, r2⟩ := roots_prog K I 20000 0 (Int.le_refl _) (by omega) (by omega)
 rw [show (0 : Int).toNat = 0 from rfl, List.drop_zero] at r2
 unfold m106 m137
 rw [r1, oBs, r2]
theorem objT_2 {a : Ar} {p : Int} (h : (hd a p).1.k ≠ 2) : objT a p = true := by
 unfold objT
 refine List.all_eq_true.2 fun j _ => ?_
 unfold okT
 rw [beq_eq_false_iff_ne.2 h]; rfl
theorem tabs {a : Ar} {M : List Int} (K : Mk a M) (I : ArI a) (A : All M (objR a M) 0) : ∀ (f : Nat) (x : Int) (G : List Bool) (ml : List Int), 0 ≤ x → x ≤ M.length → ((M.length : Int) - x).toNat < f → LS a G ml →
  (¬ All M (objT a) x → mS28_4 a f M G x = some false) ∧ (All M (objT a) x → ∃ b l, mS28_4 a f M G x = some b ∧ mS69_2 a f M ml (M.length : Int) x = some (b, l) ∧ (b = true → a.rs.all (rok a M) = true))
 | 0, _, _, _, _, _, h, _ => absurd h (Nat.not_lt_zero _)
 | f + 1, x, G, ml, h0, h1, hf, L => by
  have hl := K.bd.hl
  have hM := K.len
  have hr := K.num.roots
  rw [mS28_4, mS69_2]
  by_cases c : x < (M.length : Int)
  ·obtain ⟨w, e⟩ := rd_ex h0 c
   rw [decide_eq_true c, cond_true, cond_true, e, oBs, oBs, wr (x := x + 1) (by omega) (by omega)]
   have key : live M x →
     (¬ All M (objT a) x → ((m55 a x).bind fun r4 => bif r4.k == 2 then (m56 a x G).bind fun r6 => bif (!r6.1) then some false else mS28_4 a f M r6.2 (x + 1) else mS28_4 a f M G (x + 1)) = some false) ∧
     (All M (objT a) x → ∃ b l, ((m55 a x).bind fun r4 => bif r4.k == 2 then (m56 a x G).bind fun r6 => bif (!r6.1) then some false else mS28_4 a f M r6.2 (x + 1) else mS28_4 a f M G (x + 1)) = some b ∧
      ((m72 a x).bind fun r4 => bif r4.k == 2 then (m105 a M ml x).bind fun r6 => bif (!r6.1) then some (false, r6.2) else mS69_2 a f M r6.2 (M.length : Int) (x + 1) else mS69_2 a f M ml (M.length : Int) (x + 1)) = some (b, l) ∧ (b = true → a.rs.all (rok a M) = true)) := fun lx => by
    rw [m55_hd I h0 (by omega), m72_hd I h0 (by omega), oBs, oBs]
    by_cases k2 : (hd a x).1.k = 2
    ·rw [beq_iff_eq.2 k2, cond_true, cond_true]
     have T := tab K I A lx k2 L
     cases o : objT a x with
     | false =>
      rw [T.1 o]
      exact ⟨fun _ => rfl, fun H => absurd (H x (Int.le_refl _) lx) (by rw [o]; decide)⟩
     | true =>
      obtain ⟨b, G', ml', t1, t2, t3⟩ := T.2 o
      rw [t1, t2, oBs, oBs, All.step (fun _ => o)]
      cases b with
      | false => exact ⟨fun _ => rfl, fun _ => ⟨false, _, rfl, rfl, fun h => by cases h⟩⟩
      | true => exact tabs K I A f (x + 1) G' ml' (by omega) (by omega) (by omega) (t3 rfl)
    ·rw [beq_eq_false_iff_ne.2 k2, cond_false, cond_false, All.step (fun _ => objT_2 k2)]
     exact tabs K I A f (x + 1) G ml (by omega) (by omega) (by omega) L
   by_cases w1 : w = 1
   ·subst w1; exact key (.inl e)
   ·rw [beq_eq_false_iff_ne.2 w1, cond_false, cond_false]
    by_cases w2 : w = 2
    ·subst w2; exact key (.inr e)
    ·rw [beq_eq_false_iff_ne.2 w2, cond_false, cond_false, All.step (fun lx => by
      rcases lx with y | y <;> rw [e] at y <;> cases y
      ·exact absurd rfl w1
      ·exact absurd rfl w2)]
     exact tabs K I A f (x + 1) G ml (by omega) (by omega) (by omega) L
  ·rw [decide_eq_false c, cond_false, cond_false, m106_eq K I, roots_ref K I 20000 0 (Int.le_refl _) (by omega) (by omega), show (0 : Int).toNat = 0 from rfl, List.drop_zero]
   rw [oBs, Bool.not_not]
   exact ⟨fun H => absurd (fun p hp lp => by have := (live_0 lp).2; omega) H, fun _ => ⟨_, _, rfl, rfl, fun h => h⟩⟩
theorem arena {a : Ar} (I : ArI a) : (m28 a = some false ∧ m33 a = some false) ∨ (m28 a = some true ∧ m33 a = some true ∧ ∃ M, Mk a M ∧ All M (objR a M) 0 ∧ All M (objT a) 0 ∧ a.rs.all (rok a M) = true) := by
 by_cases N : Num a
 ·rw [m33_ok N]
  rcases heads I N with h | ⟨M, K, e1, e2⟩
  ·exact .inl h
  ·have hl := K.bd.hl
   have hM := K.len
   have R := objs_ref K I 20000 0 (Int.le_refl _) (by omega) (by omega)
   have P := objs_prog K I 20000 0 (Int.le_refl _) (by omega) (by omega)
   have L0 : LS a (List.replicate a.ws.length false) [] := ⟨by simp, fun q b hq => by
    have : b = false := (List.mem_replicate.1 (rd_mem hq)).2
    subst this
    exact ⟨fun h => (by cases h), fun h => (by cases h)⟩⟩
   rw [e1, e2]
   have er : rest a M = (mS69_0 a 20000 M [] (M.length : Int) 0).bind fun q => some q.1 := rfl
   rw [er]
   by_cases A : All M (objR a M) 0
   ·have T := tabs K I A 20000 0 (List.replicate a.ws.length false) [] (Int.le_refl _) (by omega) (by omega) L0
    rw [R.1 A]
    by_cases B : All M (objT a) 0
    ·have AB : All M (fun p => objR a M p && objT a p) 0 := fun p hp lp => by
      show (objR a M p && objT a p) = true
      rw [A p hp lp, B p hp lp]; rfl
     obtain ⟨b, l, t1, t2, t3⟩ := T.2 B
     rw [P.1 AB, t1, t2, oBs]
     cases b with
     | false => exact .inl ⟨rfl, rfl⟩
     | true => exact .inr ⟨rfl, rfl, M, K, A, B, t3 rfl⟩
    ·have AB : ¬ All M (fun p => objR a M p && objT a p) 0 := fun H => B fun p hp lp => by
      have := H p hp lp
      have h2 : (objR a M p && objT a p) = true := this
      rw [Bool.and_eq_true] at h2
      exact h2.2
     rw [P.2 AB, T.1 B]
     exact .inl ⟨rfl, rfl⟩
   ·have AB : ¬ All M (fun p => objR a M p && objT a p) 0 := fun H => A fun p hp lp => by
     have := H p hp lp
     have h2 : (objR a M p && objT a p) = true := this
     rw [Bool.and_eq_true] at h2
     exact h2.1
    rw [R.2 A, P.2 AB]
    exact .inl ⟨rfl, rfl⟩
 ·exact .inl ⟨by unfold m28; rw [m51_num I N]; rfl, m33_num I N⟩
theorem hashOf {a : Ar} (I : ArI a) (hr : a.rs.length ≤ 2000000) (r : Int) : ∃ v, m7 a r = some v ∧ m9 a r = some v := by
 unfold m7 m9
 rcases arena I with ⟨h1, h2⟩ | ⟨h1, h2, M, K, A, _, R⟩
 ·rw [h1, h2]; exact ⟨_, rfl, rfl⟩
 ·have hr := K.num.roots
  have e1034 : m34 a [r] = some (decide (0 ≤ r ∧ r ≤ (a.rs.length : Int) - 1)) := by
   unfold m34
   rw [show (20000 : Nat) = 19998 + 2 from rfl, mS34_0]
   rw [decide_eq_true (by simp), cond_true, show rd [r] 0 = some r from rfl, oBs, wr (x := (a.rs.length : Int) - 1) (by omega) (by omega), m63_eq, oBs, show IntKind.i64.wrap (0 + 1) = 1 from wr (by omega) (by omega)]
   cases decide (0 ≤ r ∧ r ≤ (a.rs.length : Int) - 1) with
   | false => rfl
   | true =>
    rw [Bool.not_true, cond_false, mS34_0, decide_eq_false (by simp), cond_false]
  have e1029 : m29 a r = some (decide (0 ≤ r ∧ r ≤ (a.rs.length : Int) - 1)) := by
   unfold m29
   rw [wr (x := (a.rs.length : Int) - 1) (by omega) (by omega), m59_eq, oBs]
  rw [h1, h2, oBs, oBs, Bool.not_true, cond_false, cond_false, e1034, e1029, oBs, oBs]
  by_cases c : 0 ≤ r ∧ r ≤ (a.rs.length : Int) - 1
  ·obtain ⟨v, e⟩ := rd_ex (l := a.rs) (p := r) c.1 (by omega)
   rw [decide_eq_true c, Bool.not_true, cond_false, cond_false, e, oBs, oBs]
   have ho := List.all_eq_true.1 R v (rd_mem e)
   unfold rok at ho
   simp only [Bool.and_eq_true, bne_iff_ne] at ho
   by_cases t0 : v.t = 0
   ·rw [beq_iff_eq.2 t0]; exact ⟨_, rfl, rfl⟩
   by_cases t9 : v.t = 9
   ·rw [beq_iff_eq.2 t9]
    cases v.t == 0 <;> exact ⟨_, rfl, rfl⟩
   obtain ⟨x, x1, x2, _⟩ := hash_eq K I A (ck_gv ho.1.1 ho.2) t0 ho.1.2 t9
   rw [beq_eq_false_iff_ne.2 t0, cond_false, cond_false, beq_eq_false_iff_ne.2 t9, cond_false, cond_false]
   refine ⟨x, ?_, ?_⟩
   ·show (m30 a v).bind _ = _
    rw [x1]; rfl
   ·show (m35 a v).bind _ = _
    rw [x2]; rfl
  ·rw [decide_eq_false c]
   exact ⟨_, rfl, rfl⟩
end Go.Proofs.YtnjnggejbpkgoaaGreat
