import Derived.Test.YtadmoackacickaaXAH
import Derived.Test.YtadmoackacickaaXAA
set_option linter.unusedSimpArgs false
set_option linter.unusedVariables false
/- Both compilers side by side: blocks; bodies. -/
namespace Go.Proofs.Ytadmoackacickaa
open Go Go.AH
def flatN : List (List Int) → List Int
 | [] => []
 | x :: r => flatN r ++ x
theorem flat_N : ∀ (fs : List CF), flatS fs = flatN (fs.map (·.nd))
 | [] => rfl
 | F :: R => by
  show flatS R ++ F.nd = flatN (R.map (·.nd)) ++ F.nd
  rw [flat_N R]
section
variable {e : Bool} {B : Bd} {T : List Kn} {fns : List Int} {i : Int} {nds : List (List Int)} {bx : List Bool} {g : SG} {m : MG}
theorem Q.flatS (q : Q e B fns nds bx g m) (h : g.cd = 0) : Go.Proofs.Ytadmoackacickaa.flatS g.fs = flatN nds := by
 rw [flat_N, q.n h]
def StOk (T : List Kn) (B : Bd) (e : Bool) (fs fm fb : Nat) (i : Int) : Prop :=
 ∀ (fn : Int) (rest : List Int) (nd : List Int) (nds : List (List Int)) (bx : List Bool) (g : SG) (m : MG), Q e B (fn :: rest) (nd :: nds) bx g m → Lim g → (∀ z ∈ flatN (nd :: nds), 0 ≤ z) → bokP T B fb i fn (flatN (nd :: nds)) → (∀ f ∈ fn :: rest, f = -1 ∨ i < f) →
  Q e B (fn :: rest) ((nd ++ addS (kk T i) i) :: nds) (bxP T B fb i fn (flatN (nd :: nds)) bx) (runS T fs 1 i g) (runM T B fm i m) ∧ Lim (runS T fs 1 i g)
def BkOk (T : List Kn) (B : Bd) (e : Bool) (fs fm fb : Nat) (i : Int) : Prop :=
 ∀ (fn : Int) (rest : List Int) (nd : List Int) (nds : List (List Int)) (bx : List Bool) (g : SG) (m : MG), Q e B (fn :: rest) (nd :: nds) bx g m → Lim g → (∀ z ∈ flatN (nd :: nds), 0 ≤ z) → bokP T B fb i fn (flatN (nd :: nds)) → (∀ f ∈ fn :: rest, f = -1 ∨ i < f) →
  Q e B (fn :: rest) (nd :: nds) (bxP T B fb i fn (flatN (nd :: nds)) bx) (runS T fs 2 i g) (runM T B fm i m) ∧ Lim (runS T fs 2 i g)
theorem st_list {fs fm fb : Nat} {fn : Int} {rest : List Int} : ∀ (l : List Int), (∀ k ∈ l, StOk T B e fs fm fb k) → (∀ k ∈ l, ∀ sn, scP T fb k sn = sn ++ addS (kk T k) k) → (∀ k ∈ l, 0 ≤ k) → ∀ (nd : List Int) (bx : List Bool) (g : SG) (m : MG), Q e B (fn :: rest) (nd :: nds) bx g m → Lim g → (∀ z ∈ flatN (nd :: nds), 0 ≤ z) →
  bokK (bokP T B fb · fn) (scP T fb) l (flatN (nd :: nds)) → (∀ k ∈ l, ∀ f ∈ fn :: rest, f = -1 ∨ k < f) → ∃ x, Q e B (fn :: rest) ((nd ++ x) :: nds) (bxK (bxP T B fb · fn) (scP T fb) l (flatN (nd :: nds)) bx) (l.foldl (fun g k => if g.cd = 0 then runS T fs 1 k g else g) g) (l.foldl (fun g k => runM T B fm k g) m) ∧ Lim (l.foldl (fun g k => if g.cd = 0 then runS T fs 1 k g else g) g)
 | [], _, _, _, nd, bx, g, m, q, hl, _, _, _ => ⟨[], by rw [List.append_nil]; exact q, hl⟩
 | k :: l, hE, hS, h0, nd, bx, g, m, q, hl, hp, hb, hd => by
  have hs := hS k (by simp) (flatN (nd :: nds))
  have ea : flatN (nd :: nds) ++ addS (kk T k) k = flatN ((nd ++ addS (kk T k) k) :: nds) := List.append_assoc _ _ _
  rw [ea] at hs
  have hb2 := hb.2
  rw [hs] at hb2
  rw [List.foldl_cons, List.foldl_cons]
  unfold bxK
  rw [hs]
  by_cases hg : g.cd = 0
  ·rw [if_pos hg]
   obtain ⟨q1, l1⟩ := hE k (by simp) fn rest nd nds bx g m q hl hp hb.1 (hd k (by simp))
   obtain ⟨x, q2, l2⟩ := st_list l (fun k hk => hE k (by simp [hk])) (fun k hk => hS k (by simp [hk])) (fun k hk => h0 k (by simp [hk])) _ _ _ _ q1 l1 (fun z hz => by
    rw [← ea] at hz
    rcases List.mem_append.1 hz with h | h
    ·exact hp z h
    ·unfold addS at h
     split at h
     ·rw [List.mem_singleton.1 h]; exact h0 k (by simp)
     ·cases h) hb2 (fun k hk => hd k (by simp [hk]))
   exact ⟨addS (kk T k) k ++ x, by rw [← List.append_assoc]; exact q2, l2⟩
  ·rw [if_neg hg]
   have hm : m.cd ≠ 0 := fun h => hg (q.a h)
   have kS : bad (l.foldl (fun g k => if g.cd = 0 then runS T fs 1 k g else g) g) := fold_keep (fun a b ha => by
    rw [if_neg ha]; exact ha) l g hg
   rw [runM_bad hm, foldM_bad hm]
   exact ⟨[], Q.bad kS hm, Lim.bad kS⟩
theorem Q.cut {fn : Int} {rest : List Int} {nd x : List Int} (q : Q e B (fn :: rest) ((nd ++ x) :: nds) bx g m) : Q e B (fn :: rest) (nd :: nds) bx (g.hd fun F => { F with nd := nd }) m := by
 refine ⟨q.a, q.b, fun h => ?_, q.x, q.y, fun h => ?_, q.f, q.t, fun h => ?_, q.z⟩
 ·have hi := q.i h
  have hn := q.n h
  unfold SG.hd
  cases e1 : g.fs with
  | nil => rw [e1] at hi; exact hi
  | cons F R =>
   rw [e1] at hi hn
   simp only [List.map_cons, List.cons.injEq] at hn
   obtain ⟨i1, i2⟩ := hi
   exact ⟨fun z hz => i1 z (by rw [hn.1]; exact List.mem_append_left _ hz), i2⟩
 ·have hr := q.r h
  unfold SG.hd
  cases e1 : g.fs with
  | nil => rw [e1] at hr; exact hr
  | cons F R =>
   rw [e1] at hr
   cases e2 : m.fs with
   | nil => rw [e2] at hr; exact hr.elim
   | cons M Ms => rw [e2] at hr; exact hr
 ·have hn := q.n h
  unfold SG.hd
  cases e1 : g.fs with
  | nil => rw [e1] at hn; cases hn
  | cons F R =>
   rw [e1] at hn
   simp only [List.map_cons, List.cons.injEq] at hn
   show nd :: R.map (·.nd) = _
   rw [hn.2]
theorem Lim.hd {u : CF → CF} (hu : ∀ F, (u F).own = F.own) (h : Lim g) : Lim (g.hd u) := fun k => by
 obtain ⟨h1, h2⟩ := h k
 refine ⟨?_, h2⟩
 unfold SG.hd
 cases e : g.fs with
 | nil => intro F hF; cases hF
 | cons F R =>
  rw [e] at h1
  intro F' hF'
  rcases List.mem_cons.1 hF' with h | h
  ·subst h; rw [hu]; exact h1 F (by simp)
  ·exact h1 F' (by simp [h])
theorem bok_at {f i : Nat} {n : Kn} {fn : Int} {sn : List Int} (hn : T[i]? = some n) : bokP T B (f + 1) (i : Int) fn sn = (bokK (bokP T B f · (if n.k = 6 then (i : Int) else fn)) (scP T f) n.ks sn ∧ bokN T B n i fn (n.ks.foldl (fun s k => scP T f k s) sn)) := by
 show (match T[(i : Int).toNat]? with | some n => bokK (bokP T B f · (if n.k = 6 then (i : Int) else fn)) (scP T f) n.ks sn ∧ bokN T B n (i : Int).toNat fn (n.ks.foldl (fun s k => scP T f k s) sn) | none => True) = _
 rw [Int.toNat_natCast, hn]
theorem bx_at {f i : Nat} {n : Kn} {fn : Int} {sn : List Int} (hn : T[i]? = some n) : bxP T B (f + 1) (i : Int) fn sn bx = bxN T B n i fn (n.ks.foldl (fun s k => scP T f k s) sn) (bxK (bxP T B f · (if n.k = 6 then (i : Int) else fn)) (scP T f) n.ks sn bx) := by
 show (match T[(i : Int).toNat]? with | some n => bxN T B n (i : Int).toNat fn (n.ks.foldl (fun s k => scP T f k s) sn) (bxK (bxP T B f · (if n.k = 6 then (i : Int) else fn)) (scP T f) n.ks sn bx) | none => bx) = _
 rw [Int.toNat_natCast, hn]
theorem bk_ok {fs fm fb i : Nat} {n : Kn} (hn : T[i]? = some n) (hk : n.k = 21) (lo : ∀ k ∈ n.ks, 0 ≤ k ∧ k < (i : Int)) (hE : ∀ k ∈ n.ks, StOk T B e fs fm fb k) (hS : ∀ k ∈ n.ks, ∀ sn, scP T fb k sn = sn ++ addS (kk T k) k) : BkOk T B e (fs + 1) (fm + 1) (fb + 1) (i : Int) := by
 intro fn rest nd nds bx g m q hl hp hb hd
 by_cases hg : g.cd = 0
 case neg =>
  have h1 : (runS T (fs + 1) 2 (i : Int) g).cd ≠ 0 := runS_bad _ _ _ _ hg
  have hm : m.cd ≠ 0 := fun h => hg (q.a h)
  exact ⟨Q.bad h1 (by rw [runM_bad hm]; exact hm), Lim.bad h1⟩
 rw [bok_at hn, if_neg (by omega)] at hb
 have ebx : bxP T B (fb + 1) (i : Int) fn (flatN (nd :: nds)) bx = bxK (bxP T B fb · fn) (scP T fb) n.ks (flatN (nd :: nds)) bx := by
  rw [bx_at hn, if_neg (by omega)]
  unfold bxN
  rw [if_neg (by omega)]
 obtain ⟨x, q1, l1⟩ := st_list (fn := fn) (rest := rest) (nds := nds) (fs := fs) (fm := fm) (fb := fb) (B := B) (e := e) n.ks hE hS (fun k hk => (lo k hk).1) nd bx g m q hl hp hb.1 (fun k hk f hf => (hd f hf).imp id fun h => Int.lt_trans (lo k hk).2 h)
 have e0 : (match g.fs with | [] => [] | F0 :: _ => F0.nd) = nd := by
  have hn := q.n hg
  cases e1 : g.fs with
  | nil => rw [e1] at hn; cases hn
  | cons F R =>
   rw [e1] at hn
   simp only [List.map_cons, List.cons.injEq] at hn
   exact hn.1
 have e1 : runS T (fs + 1) 2 (i : Int) g = (n.ks.foldl (fun g k => if g.cd = 0 then runS T fs 1 k g else g) g).hd fun F => { F with nd := nd } := by
  show stepS T (runS T fs) 2 (i : Int) g = _
  unfold stepS
  rw [Int.toNat_natCast, hn]
  show (n.ks.foldl (fun g k => if g.cd = 0 then runS T fs 1 k g else g) g).hd (fun F => { F with nd := match g.fs with | [] => [] | F0 :: _ => F0.nd }) = _
  rw [e0]
 rw [ebx, e1]
 refine ⟨?_, Lim.hd (fun _ => rfl) l1⟩
 by_cases hm : m.cd = 0
 ·have e2 : runM T B (fm + 1) (i : Int) m = n.ks.foldl (fun g k => runM T B fm k g) m := by
   show stepM T B (runM T B fm) (i : Int) m = _
   unfold stepM
   rw [if_neg (fun h => h hm), Int.toNat_natCast, hn]
   dsimp only
   rw [if_neg (by omega), if_neg (by omega), if_neg (by omega), if_neg (by omega), if_neg (by omega), if_neg (by omega), if_neg (by omega), if_neg (by omega), if_neg (by omega), if_neg (by omega), if_neg (by omega), if_pos hk]
  rw [e2]; exact q1.cut
 ·rw [runM_bad hm]; exact q.drop hg hm q1.cut
theorem body_ok {fs fm fb : Nat} {b : Int} {ps : List Int} (G : SG → SG) (hG : ∀ g : SG, G g = ((fun g4 : SG => { g4 with fs := g4.fs.tail }) (match (runS T fs 2 b (ps.foldl (fun g k => if g.cd = 0 ∧ g.bx.getD k.toNat false = true then g.emit else g) (ps.foldl (fun g k => if g.cd = 0 then (localS k g).1 else g) { g with fs := ⟨[], [], [], 0⟩ :: g.fs }))).emit.emit.fs with
   | [] => (runS T fs 2 b (ps.foldl (fun g k => if g.cd = 0 ∧ g.bx.getD k.toNat false = true then g.emit else g) (ps.foldl (fun g k => if g.cd = 0 then (localS k g).1 else g) { g with fs := ⟨[], [], [], 0⟩ :: g.fs }))).emit.emit
   | F :: _ => if F.up.length > 12 ∨ F.ln > 4000 then (runS T fs 2 b (ps.foldl (fun g k => if g.cd = 0 ∧ g.bx.getD k.toNat false = true then g.emit else g) (ps.foldl (fun g k => if g.cd = 0 then (localS k g).1 else g) { g with fs := ⟨[], [], [], 0⟩ :: g.fs }))).emit.emit.fail 3 else (runS T fs 2 b (ps.foldl (fun g k => if g.cd = 0 ∧ g.bx.getD k.toNat false = true then g.emit else g) (ps.foldl (fun g k => if g.cd = 0 then (localS k g).1 else g) { g with fs := ⟨[], [], [], 0⟩ :: g.fs }))).emit.emit)))
  (q : Q e B fns nds bx g m) (hl : Lim g) (hi : i ∉ fns) (ho : ∀ k ∈ ps, B.ow.getD k.toNat 0 = i) (hp : ∀ z ∈ flatN (ps :: nds), 0 ≤ z) (hb : bokP T B fb b i (flatN (ps :: nds))) (hd : ∀ f ∈ i :: fns, f = -1 ∨ b < f) (hB : BkOk T B e fs fm fb b) :
  Q e B fns nds (bxP T B fb b i (flatN (ps :: nds)) bx) (G g) (wholeM B (runM T B fm) i ps b m) ∧ Lim (G g) := by
 rw [hG g]
 unfold wholeM
 dsimp only
 obtain ⟨q1, l1⟩ := pars ps [] _ _ (q.push hi) hl.push ho
 rw [List.nil_append] at q1
 obtain ⟨q2, l2⟩ := boxes ps _ _ q1 l1
 obtain ⟨q3, l3⟩ := hB i fns ps nds bx _ _ q2 l2 hp hb hd
 have q4 := q3.emit.emit
 have l4 := l3.emit.emit
 generalize (runS T fs 2 b (ps.foldl (fun g k => if g.cd = 0 ∧ g.bx.getD k.toNat false = true then g.emit else g) (ps.foldl (fun g k => if g.cd = 0 then (localS k g).1 else g) { g with fs := ⟨[], [], [], 0⟩ :: g.fs }))).emit.emit = G3 at q4 l4 ⊢
 generalize (runM T B fm b (ps.foldl (fun g k => if B.bx.getD k.toNat false = true ∧ g.cd = 0 then g.put else g) (ps.foldl (fun g k => localM k g) { m with fs := ⟨i, [], [], 0⟩ :: m.fs }))).put.put = M3 at q4 ⊢
 have key : Q e B (i :: fns) (ps :: nds) (bxP T B fb b i (flatN (ps :: nds)) bx) (match G3.fs with | [] => G3 | F :: _ => if F.up.length > 12 ∨ F.ln > 4000 then G3.fail 3 else G3) (match M3.fs with | [] => M3 | F :: _ => if F.up.length > 12 ∨ F.ln > 4000 then M3.fail 3 else M3) ∧ Lim (match G3.fs with | [] => G3 | F :: _ => if F.up.length > 12 ∨ F.ln > 4000 then G3.fail 3 else G3) := by
  by_cases hm : M3.cd = 0
  ·have hr := q4.r hm
   cases e1 : G3.fs with
   | nil =>
    cases e2 : M3.fs with
    | nil => exact ⟨q4, l4⟩
    | cons M Ms => rw [e1, e2] at hr; exact hr.elim
   | cons F R =>
    cases e2 : M3.fs with
    | nil => rw [e1, e2] at hr; exact hr.elim
    | cons M Ms =>
     rw [e1, e2] at hr
     obtain ⟨_, r2, r3, r4, _⟩ := hr
     dsimp only
     by_cases c : F.up.length > 12 ∨ F.ln > 4000
     ·rw [if_pos c, if_pos (by rw [← r2]; omega)]
      exact ⟨Q.bad (fail_cd (by decide)) (failM_cd (by decide)), Lim.bad (fail_cd (by decide))⟩
     ·rw [if_neg c]
      refine ⟨?_, l4⟩
      by_cases d : M.up.length > 12 ∨ M.ln > 4000
      ·rw [if_pos d]
       have he : e = false := by
        cases e with
        | false => rfl
        | true => have := r4 rfl; rw [r2, this] at c; exact absurd d c
       subst he
       have hf : (M3.fail 3).cd ≠ 0 := failM_cd (by decide)
       exact ⟨fun k => absurd k hf, fun k => (by cases k), q4.i, q4.x, q4.y, fun k => absurd k hf, fun k => absurd k hf, fun k => absurd k hf, q4.n, q4.z⟩
      ·rw [if_neg d]; exact q4
  ·have hM : (match M3.fs with | [] => M3 | F :: _ => if F.up.length > 12 ∨ F.ln > 4000 then M3.fail 3 else M3).cd ≠ 0 := by
    split
    ·exact hm
    ·split
     ·exact failM_cd (by decide)
     ·exact hm
   generalize (match M3.fs with | [] => M3 | F :: _ => if F.up.length > 12 ∨ F.ln > 4000 then M3.fail 3 else M3) = M4 at hM ⊢
   split
   ·exact ⟨q4.swap hm hM, l4⟩
   ·split
    ·exact ⟨Q.bad (fail_cd (by decide)) hM, Lim.bad (fail_cd (by decide))⟩
    ·exact ⟨q4.swap hm hM, l4⟩
 exact ⟨key.1.pop, key.2.pop⟩
end
section
variable {e : Bool} {B : Bd} {T : List Kn} {fns : List Int} {i : Int} {nds : List (List Int)} {bx : List Bool} {g : SG} {m : MG}
theorem par_bok {f : Nat} {fn : Int} {b : Int} : ∀ (ps : List Int), (∀ k ∈ ps, ∃ (j : Nat) (p : Kn), k = j ∧ T[j]? = some p ∧ p.k = 22 ∧ p.ks = []) → ∀ (sn : List Int) (bx : List Bool), bokK (bokP T B (f + 1) · fn) (scP T (f + 1)) (ps ++ [b]) sn →
  (∀ k ∈ ps, B.ow.getD k.toNat 0 = fn) ∧ bokP T B (f + 1) b fn (sn ++ ps) ∧ bxK (bxP T B (f + 1) · fn) (scP T (f + 1)) (ps ++ [b]) sn bx = bxP T B (f + 1) b fn (sn ++ ps) bx
 | [], _, sn, bx, h => ⟨(fun k hk => by cases hk), by rw [List.append_nil]; exact h.1, by rw [List.append_nil]; rfl⟩
 | k :: ps, hs, sn, bx, h => by
  obtain ⟨j, p, rfl, hj, hp, hk⟩ := hs _ (List.mem_cons_self)
  obtain ⟨h1, h2⟩ := h
  have es : scP T (f + 1) (j : Int) sn = sn ++ [(j : Int)] := by
   rw [scP_s hj, hk]
   unfold scN
   rw [if_pos (.inr hp)]; rfl
  rw [es] at h2
  rw [bok_at hj] at h1
  obtain ⟨a1, a2, a3⟩ := par_bok ps (fun k hk => hs k (by simp [hk])) (sn ++ [(j : Int)]) bx h2
  rw [List.append_assoc] at a2 a3
  refine ⟨fun z hz => ?_, a2, ?_⟩
  ·rcases List.mem_cons.1 hz with c | c
   ·subst c
    rw [Int.toNat_natCast]
    exact h1.2.2 (.inr hp)
   ·exact a1 z c
  ·rw [List.cons_append]
   unfold bxK
   rw [es]
   have : bxP T B (f + 1) (j : Int) fn sn bx = bx := by
    rw [bx_at hj, hk]
    unfold bxN
    rw [if_neg (by omega)]; rfl
   rw [this]
   exact a3
theorem ex_fn {fs fm fb i : Nat} {n : Kn} {ps : List Int} {b : Int} (hn : T[i]? = some n) (hk : n.k = 6) (lo : ∀ k ∈ n.ks, 0 ≤ k ∧ k < (i : Int)) (hks : n.ks = ps ++ [b]) (hps : ∀ k ∈ ps, ∃ (j : Nat) (p : Kn), k = j ∧ T[j]? = some p ∧ p.k = 22 ∧ p.ks = []) (hB : BkOk T B e fs fm (fb + 1) b) : ExOk T B e (fs + 2) (fm + 1) (fb + 2) (i : Int) := by
 intro fn rest nds bx g m sn q hl hf hp hb hd
 by_cases hg : g.cd = 0
 case neg =>
  have h1 : (runS T (fs + 2) 0 (i : Int) g).cd ≠ 0 := runS_bad _ _ _ _ hg
  have hm : m.cd ≠ 0 := fun h => hg (q.a h)
  exact ⟨Q.bad h1 (by rw [runM_bad hm]; exact hm), Lim.bad h1⟩
 have esn : flatN nds = sn := by rw [← q.flatS hg]; exact hf hg
 rw [bok_at hn, if_pos hk, hks] at hb
 obtain ⟨a1, a2, a3⟩ := par_bok ps hps sn bx hb.1
 have ebx : bxP T B (fb + 2) (i : Int) fn sn bx = bxP T B (fb + 1) b (i : Int) (sn ++ ps) bx := by
  rw [bx_at hn, if_pos hk, hks]
  unfold bxN
  rw [if_neg (by omega)]
  exact a3
 have e1 : runS T (fs + 2) 0 (i : Int) g = if numS T (i : Int) ≥ 100 then g.fail 3 else if (bodyS T (runS T fs 2) (i : Int) g).cd = 0 then (bodyS T (runS T fs 2) (i : Int) g).emit else bodyS T (runS T fs 2) (i : Int) g := by
  have e3 : runS T (fs + 1) 3 (i : Int) g = bodyS T (runS T fs 2) (i : Int) g := by
   show stepS T (runS T fs) 3 (i : Int) g = _
   unfold stepS
   rw [Int.toNat_natCast, hn]
   rfl
  show stepS T (runS T (fs + 1)) 0 (i : Int) g = _
  unfold stepS
  rw [Int.toNat_natCast, hn]
  dsimp only
  rw [if_neg (fun h => h hg), if_neg (by omega), if_neg (by omega), if_neg (by omega), if_pos hk, e3]
  rfl
 have e2 : m.cd = 0 → runM T B (fm + 1) (i : Int) m = if numS T (i : Int) ≥ 100 then m.fail 3 else (wholeM B (runM T B fm) (i : Int) ps b m).put := fun hm => by
  show stepM T B (runM T B fm) (i : Int) m = _
  unfold stepM
  rw [if_neg (fun h => h hm), Int.toNat_natCast, hn]
  dsimp only
  rw [if_neg (by omega), if_neg (by omega), if_neg (by omega), if_pos hk, hks, List.dropLast_concat, List.getLastD_concat]
 rw [ebx, e1]
 by_cases c : numS T (i : Int) ≥ 100
 ·rw [if_pos c] at e2 ⊢
  refine ⟨Q.bad (fail_cd (by decide)) ?_, Lim.bad (fail_cd (by decide))⟩
  by_cases hm : m.cd = 0
  ·rw [e2 hm]; exact failM_cd (by decide)
  ·rw [runM_bad hm]; exact hm
 rw [if_neg c]
 have hmem : b ∈ n.ks := by rw [hks]; simp
 obtain ⟨q1, l1⟩ := body_ok (e := e) (fs := fs) (fm := fm) (fb := fb + 1) (b := b) (ps := ps) (bodyS T (runS T fs 2) (i : Int)) (fun g => by
  unfold bodyS
  rw [Int.toNat_natCast, hn]
  dsimp only
  rw [if_pos hk, if_pos hk, hks, List.dropLast_concat, List.getLastD_concat]
  rfl) q hl (fun h => by
   have := hd _ h
   omega) a1 (fun z hz => by
   rcases List.mem_append.1 (show z ∈ flatN nds ++ ps from hz) with h | h
   ·exact hp z (esn ▸ h)
   ·exact (lo z (by rw [hks]; simp [h])).1) (by
   show bokP T B (fb + 1) b (i : Int) (flatN nds ++ ps)
   rw [esn]; exact a2) (fun f hf => by
   have lb := (lo b hmem).2
   rcases List.mem_cons.1 hf with h | h
   ·subst h; exact .inr lb
   ·have := hd f h
    omega) hB
 have eb : flatN (ps :: nds) = sn ++ ps := by rw [← esn]; rfl
 rw [eb] at q1
 have q2 : Q e B (fn :: rest) nds (bxP T B (fb + 1) b (i : Int) (sn ++ ps) bx) (if (bodyS T (runS T fs 2) (i : Int) g).cd = 0 then (bodyS T (runS T fs 2) (i : Int) g).emit else bodyS T (runS T fs 2) (i : Int) g) (wholeM B (runM T B fm) (i : Int) ps b m).put := by
  by_cases c : (bodyS T (runS T fs 2) (i : Int) g).cd = 0
  ·rw [if_pos c]; exact q1.emit
  ·rw [if_neg c]
   have hm : (wholeM B (runM T B fm) (i : Int) ps b m).cd ≠ 0 := fun h => c (q1.a h)
   exact Q.bad c hm
 have l2 : Lim (if (bodyS T (runS T fs 2) (i : Int) g).cd = 0 then (bodyS T (runS T fs 2) (i : Int) g).emit else bodyS T (runS T fs 2) (i : Int) g) := by
  split
  ·exact l1.emit
  ·exact l1
 refine ⟨?_, l2⟩
 by_cases hm : m.cd = 0
 ·rw [e2 hm, if_neg c]; exact q2
 ·rw [runM_bad hm]; exact q.drop hg hm q2
end
section
variable {e : Bool} {B : Bd} {T : List Kn} {fns : List Int} {i : Int} {nds : List (List Int)} {bx : List Bool} {g : SG} {m : MG}
theorem scP_nil {fb : Nat} {k : Int} (h : ∀ sn, scP T fb k sn = sn ++ addS (kk T k) k) (c : kk T k ≠ 14 ∧ kk T k ≠ 22) : ∀ sn, scP T fb k sn = sn := fun sn => by
 rw [h sn, show addS (kk T k) k = [] from if_neg (by omega), List.append_nil]
theorem st1_at {R : Nat → Int → SG → SG} {i : Nat} {n : Kn} (hn : T[i]? = some n) (g : SG) : stepS T R 1 (i : Int) g = if n.k = 15 then (if (R 0 (n.ks.getD 0 0) g).cd ≠ 0 then R 0 (n.ks.getD 0 0) g else nameS T true (i : Int) (R 0 (n.ks.getD 0 0) g))
  else if n.k = 17 then (if n.ks.length = 2 then R 2 (n.ks.getD 1 0) (R 0 (n.ks.getD 0 0) g).emit else R 2 (n.ks.getD 2 0) (R 2 (n.ks.getD 1 0) (R 0 (n.ks.getD 0 0) g).emit).emit)
  else if n.k = 18 then (R 2 (n.ks.getD 1 0) (R 0 (n.ks.getD 0 0) g).emit).emit
  else if n.k = 14 then (if (R 0 (n.ks.getD 0 0) g).cd ≠ 0 then R 0 (n.ks.getD 0 0) g
   else if (localS (i : Int) (R 0 (n.ks.getD 0 0) g)).2 = false then (localS (i : Int) (R 0 (n.ks.getD 0 0) g)).1 else if (localS (i : Int) (R 0 (n.ks.getD 0 0) g)).1.bx.getD i false = true then (localS (i : Int) (R 0 (n.ks.getD 0 0) g)).1.emit.emit else (localS (i : Int) (R 0 (n.ks.getD 0 0) g)).1.emit)
  else (n.ks.foldl (fun g k => R 0 k g) g).emit := by
 unfold stepS
 rw [Int.toNat_natCast, hn]
 rfl
theorem st_ok (S : Shp T) {fs fm fb i : Nat} {n : Kn} (hn : T[i]? = some n) (hk : xSt n.k) (hE : ∀ k ∈ n.ks, xEx (kk T k) → ExOk T B e fs fm fb k) (hB : ∀ k ∈ n.ks, kk T k = 21 → BkOk T B e fs fm fb k) (hS : ∀ k ∈ n.ks, ∀ sn, scP T fb k sn = sn ++ addS (kk T k) k) : StOk T B e (fs + 1) (fm + 1) (fb + 1) (i : Int) := by
 intro fn rest nd nds bx g m q hl hp hb hd
 by_cases hg : g.cd = 0
 case neg =>
  have h1 : (runS T (fs + 1) 1 (i : Int) g).cd ≠ 0 := runS_bad _ _ _ _ hg
  have hm : m.cd ≠ 0 := fun h => hg (q.a h)
  exact ⟨Q.bad h1 (by rw [runM_bad hm]; exact hm), Lim.bad h1⟩
 unfold xSt at hk
 have lo := S.lo i n hn
 have hd' : ∀ k ∈ n.ks, ∀ f ∈ fn :: rest, f = -1 ∨ k < f := fun k hk f hf => (hd f hf).imp id fun h => Int.lt_trans (lo k hk).2 h
 rw [bok_at hn, if_neg (by omega)] at hb
 have ebx : bxP T B (fb + 1) (i : Int) fn (flatN (nd :: nds)) bx = bxN T B n i fn (n.ks.foldl (fun s k => scP T fb k s) (flatN (nd :: nds))) (bxK (bxP T B fb · fn) (scP T fb) n.ks (flatN (nd :: nds)) bx) := by
  rw [bx_at hn, if_neg (by omega)]
 rw [kk_at hn, ebx]
 have fin : ∀ {nds' : List (List Int)} {bx' : List Bool} {G : SG} (m1 : MG), (m.cd = 0 → runM T B (fm + 1) (i : Int) m = m1) → Q e B (fn :: rest) nds' bx' G m1 → Q e B (fn :: rest) nds' bx' G (runM T B (fm + 1) (i : Int) m) := fun m1 h1 h2 => by
  by_cases hm : m.cd = 0
  ·rw [h1 hm]; exact h2
  ·rw [runM_bad hm]; exact q.drop hg hm h2
 by_cases k17 : n.k = 17
 ·obtain ⟨c, l, hks, hc, hlen, hbl⟩ := S.iff i n hn k17
  have hcE := hE c (by rw [hks]; simp) hc
  have hcS := scP_nil (hS c (by rw [hks]; simp)) (by unfold xEx at hc; omega)
  have e0 : addS n.k (i : Int) = [] := if_neg (by omega)
  rw [e0, List.append_nil]
  have e3 : ∀ sn bx, bxN T B n i fn sn bx = bx := fun sn bx => by
   unfold bxN
   rw [if_neg (by omega)]
  rw [e3]
  have hb1 := hb.1
  rw [hks] at hb1
  obtain ⟨b1, b2⟩ := hb1
  rw [hcS] at b2
  obtain ⟨q1, l1⟩ := hcE fn rest (nd :: nds) bx g m (flatN (nd :: nds)) q hl (fun h => q.flatS h) hp b1 (hd' c (by rw [hks]; simp))
  have bks : ∀ x ∈ l, BkOk T B e fs fm fb x ∧ ∀ sn, scP T fb x sn = sn := fun x hx => by
   have hm : x ∈ n.ks := by rw [hks]; simp [hx]
   have h21 := hbl x hx
   exact ⟨hB x hm h21, scP_nil (hS x hm) (by omega)⟩
  match l, hlen, hks, b2, bks with
  | [x], _, hks, b2, bks =>
   obtain ⟨q2, l2⟩ := (bks x (by simp)).1 fn rest nd nds _ _ _ q1.emit l1.emit hp b2.1 (hd' x (by rw [hks]; simp))
   have e1 : runS T (fs + 1) 1 (i : Int) g = runS T fs 2 x (runS T fs 0 c g).emit := by
    show stepS T (runS T fs) 1 (i : Int) g = _
    rw [st1_at hn, if_neg (by omega), if_pos k17, hks, if_pos (show [c, x].length = 2 from rfl)]
    rfl
   have e2 : bxK (bxP T B fb · fn) (scP T fb) n.ks (flatN (nd :: nds)) bx = bxP T B fb x fn (flatN (nd :: nds)) (bxP T B fb c fn (flatN (nd :: nds)) bx) := by
    rw [hks]
    show bxP T B fb x fn (scP T fb c (flatN (nd :: nds))) _ = _
    rw [hcS]
   rw [e1, e2]
   refine ⟨fin _ (fun hm => ?_) q2, l2⟩
   show stepM T B (runM T B fm) (i : Int) m = _
   unfold stepM
   rw [if_neg (fun h => h hm), Int.toNat_natCast, hn]
   dsimp only
   rw [if_neg (by omega), if_neg (by omega), if_neg (by omega), if_neg (by omega), if_neg (by omega), if_neg (by omega), if_neg (by omega), if_neg (by omega), if_neg (by omega), if_neg (by omega), if_neg (by omega), if_neg (by omega), if_neg (by omega), hks, if_pos (show [c, x].length = 2 from rfl)]
   rfl
  | [x, y], _, hks, b2, bks =>
   have hxS := (bks x (by simp)).2
   obtain ⟨q2, l2⟩ := (bks x (by simp)).1 fn rest nd nds _ _ _ q1.emit l1.emit hp b2.1 (hd' x (by rw [hks]; simp))
   have b3 := b2.2
   rw [hxS] at b3
   obtain ⟨q3, l3⟩ := (bks y (by simp)).1 fn rest nd nds _ _ _ q2.emit l2.emit hp b3.1 (hd' y (by rw [hks]; simp))
   have e1 : runS T (fs + 1) 1 (i : Int) g = runS T fs 2 y (runS T fs 2 x (runS T fs 0 c g).emit).emit := by
    show stepS T (runS T fs) 1 (i : Int) g = _
    rw [st1_at hn, if_neg (by omega), if_pos k17, hks, if_neg (by simp)]
    rfl
   have e2 : bxK (bxP T B fb · fn) (scP T fb) n.ks (flatN (nd :: nds)) bx = bxP T B fb y fn (flatN (nd :: nds)) (bxP T B fb x fn (flatN (nd :: nds)) (bxP T B fb c fn (flatN (nd :: nds)) bx)) := by
    rw [hks]
    show bxP T B fb y fn (scP T fb x (scP T fb c (flatN (nd :: nds)))) (bxP T B fb x fn (scP T fb c (flatN (nd :: nds))) _) = _
    rw [hcS, hxS]
   rw [e1, e2]
   refine ⟨fin _ (fun hm => ?_) q3, l3⟩
   show stepM T B (runM T B fm) (i : Int) m = _
   unfold stepM
   rw [if_neg (fun h => h hm), Int.toNat_natCast, hn]
   dsimp only
   rw [if_neg (by omega), if_neg (by omega), if_neg (by omega), if_neg (by omega), if_neg (by omega), if_neg (by omega), if_neg (by omega), if_neg (by omega), if_neg (by omega), if_neg (by omega), if_neg (by omega), if_neg (by omega), if_neg (by omega), hks, if_neg (by simp)]
   rfl
  | [], hlen, _, _, _ => exact absurd hlen (by simp)
  | _ :: _ :: _ :: _, hlen, _, _, _ => exact absurd hlen (by simp)
 by_cases k18 : n.k = 18
 ·obtain ⟨c, x, hks, hc, hx⟩ := S.whl i n hn k18
  have hcE := hE c (by rw [hks]; simp) hc
  have hcS := scP_nil (hS c (by rw [hks]; simp)) (by unfold xEx at hc; omega)
  have hxB := hB x (by rw [hks]; simp) hx
  have e0 : addS n.k (i : Int) = [] := if_neg (by omega)
  rw [e0, List.append_nil]
  have e3 : ∀ sn bx, bxN T B n i fn sn bx = bx := fun sn bx => by
   unfold bxN
   rw [if_neg (by omega)]
  rw [e3]
  have hb1 := hb.1
  rw [hks] at hb1
  obtain ⟨b1, b2⟩ := hb1
  rw [hcS] at b2
  obtain ⟨q1, l1⟩ := hcE fn rest (nd :: nds) bx g m (flatN (nd :: nds)) q hl (fun h => q.flatS h) hp b1 (hd' c (by rw [hks]; simp))
  obtain ⟨q2, l2⟩ := hxB fn rest nd nds _ _ _ q1.emit l1.emit hp b2.1 (hd' x (by rw [hks]; simp))
  have e1 : runS T (fs + 1) 1 (i : Int) g = (runS T fs 2 x (runS T fs 0 c g).emit).emit := by
   show stepS T (runS T fs) 1 (i : Int) g = _
   rw [st1_at hn, if_neg (by omega), if_neg (by omega), if_pos k18, hks]
   rfl
  have e2 : bxK (bxP T B fb · fn) (scP T fb) n.ks (flatN (nd :: nds)) bx = bxP T B fb x fn (flatN (nd :: nds)) (bxP T B fb c fn (flatN (nd :: nds)) bx) := by
   rw [hks]
   show bxP T B fb x fn (scP T fb c (flatN (nd :: nds))) _ = _
   rw [hcS]
  rw [e1, e2]
  refine ⟨fin _ (fun hm => ?_) q2.emit, l2.emit⟩
  show stepM T B (runM T B fm) (i : Int) m = _
  unfold stepM
  rw [if_neg (fun h => h hm), Int.toNat_natCast, hn]
  dsimp only
  rw [if_neg (by omega), if_neg (by omega), if_neg (by omega), if_neg (by omega), if_neg (by omega), if_neg (by omega), if_neg (by omega), if_neg (by omega), if_neg (by omega), if_neg (by omega), if_neg (by omega), if_neg (by omega), hks, if_pos k18]
  rfl
 have hx : ∀ k ∈ n.ks, xEx (kk T k) := S.ex i n hn (by omega)
 have hE' : ∀ k ∈ n.ks, ExOk T B e fs fm fb k := fun k hk => hE k hk (hx k hk)
 have hS' : ∀ k ∈ n.ks, ∀ sn, scP T fb k sn = sn := fun k hk => scP_nil (hS k hk) (by have := hx k hk; unfold xEx at this; omega)
 rw [fold_sc n.ks hS'] at hb ⊢
 obtain ⟨q1, l1⟩ := ex_list (fn := fn) (rest := rest) (nds := nd :: nds) (fs := fs) (fm := fm) (fb := fb) (B := B) (e := e) n.ks hE' hS' bx g m (flatN (nd :: nds)) q hl (fun h => q.flatS h) hp hb.1 hd'
 by_cases k14 : n.k = 14
 ·have hone := S.one i n hn (.inl k14)
  match hks : n.ks, hone with
  | [c], _ =>
  rw [hks] at q1 l1
  have e3 : ∀ sn bx, bxN T B n i fn sn bx = bx := fun sn bx => by
   unfold bxN
   rw [if_neg (by omega)]
  have e0 : addS n.k (i : Int) = [(i : Int)] := if_pos (.inl k14)
  rw [e0, e3]
  have q1' : Q e B (fn :: rest) (nd :: nds) (bxK (bxP T B fb · fn) (scP T fb) [c] (flatN (nd :: nds)) bx) (runS T fs 0 c g) (runM T B fm c m) := q1
  have l1' : Lim (runS T fs 0 c g) := l1
  have e1 : runS T (fs + 1) 1 (i : Int) g = if (runS T fs 0 c g).cd ≠ 0 then runS T fs 0 c g else if (localS (i : Int) (runS T fs 0 c g)).2 = false then (localS (i : Int) (runS T fs 0 c g)).1 else if (localS (i : Int) (runS T fs 0 c g)).1.bx.getD i false = true then (localS (i : Int) (runS T fs 0 c g)).1.emit.emit else (localS (i : Int) (runS T fs 0 c g)).1.emit := by
   show stepS T (runS T fs) 1 (i : Int) g = _
   rw [st1_at hn, if_neg (by omega), if_neg (by omega), if_neg (by omega), if_pos k14, hks]
   rfl
  have e2 : m.cd = 0 → runM T B (fm + 1) (i : Int) m = if B.bx.getD i false = true then (localM (i : Int) (runM T B fm c m)).put.put else (localM (i : Int) (runM T B fm c m)).put := fun hm => by
   show stepM T B (runM T B fm) (i : Int) m = _
   unfold stepM
   rw [if_neg (fun h => h hm), Int.toNat_natCast, hn]
   dsimp only
   rw [if_neg (by omega), if_neg (by omega), if_neg (by omega), if_neg (by omega), if_neg (by omega), if_neg (by omega), if_neg (by omega), if_neg (by omega), if_pos k14, hks]
   rfl
  rw [e1]
  by_cases hg1 : (runS T fs 0 c g).cd = 0
  ·rw [if_neg (fun h => h hg1)]
   have ow : B.ow.getD i 0 = fn := hb.2.2 (.inl k14)
   rcases q1'.local hg1 l1' (i : Int) (by rw [Int.toNat_natCast]; exact ow) with ⟨h1, h2, h3⟩ | ⟨h1, h2, h3, h4⟩
   ·rw [if_pos h1]
    refine ⟨fin _ e2 (Q.bad h2 ?_), Lim.bad h2⟩
    split
    ·exact h3
    ·exact h3
   ·rw [if_neg (by rw [h1]; decide)]
    have qb := h4.emit.box h2 i
    have lb : Lim (if (localS (i : Int) (runS T fs 0 c g)).1.bx.getD i false = true then (localS (i : Int) (runS T fs 0 c g)).1.emit.emit else (localS (i : Int) (runS T fs 0 c g)).1.emit) := by
     split
     ·exact h3.emit.emit
     ·exact h3.emit
    exact ⟨fin _ e2 qb, lb⟩
  ·rw [if_pos hg1]
   have hm1 : (runM T B fm c m).cd ≠ 0 := fun h => hg1 (q1'.a h)
   refine ⟨fin _ e2 (Q.bad hg1 ?_), Lim.bad hg1⟩
   split
   ·exact localM_bad hm1
   ·exact localM_bad hm1
 have e0 : addS n.k (i : Int) = [] := if_neg (by omega)
 rw [e0, List.append_nil]
 by_cases k15 : n.k = 15
 ·have hone := S.one i n hn (.inr k15)
  match hks : n.ks, hone with
  | [c], _ =>
  rw [hks] at q1 l1
  have q1' : Q e B (fn :: rest) (nd :: nds) (bxK (bxP T B fb · fn) (scP T fb) [c] (flatN (nd :: nds)) bx) (runS T fs 0 c g) (runM T B fm c m) := q1
  have l1' : Lim (runS T fs 0 c g) := l1
  have e1 : runS T (fs + 1) 1 (i : Int) g = if (runS T fs 0 c g).cd ≠ 0 then runS T fs 0 c g else nameS T true (i : Int) (runS T fs 0 c g) := by
   show stepS T (runS T fs) 1 (i : Int) g = _
   rw [st1_at hn, if_pos k15, hks]
   rfl
  have e2 : m.cd = 0 → runM T B (fm + 1) (i : Int) m = nameM T B true (i : Int) (runM T B fm c m) := fun hm => by
   show stepM T B (runM T B fm) (i : Int) m = _
   unfold stepM
   rw [if_neg (fun h => h hm), Int.toNat_natCast, hn]
   dsimp only
   rw [if_neg (by omega), if_neg (by omega), if_neg (by omega), if_neg (by omega), if_neg (by omega), if_neg (by omega), if_neg (by omega), if_neg (by omega), if_neg (by omega), if_pos k15, hks]
   rfl
  rw [e1]
  by_cases hg1 : (runS T fs 0 c g).cd = 0
  ·rw [if_neg (fun h => h hg1)]
   have qn := q1'.name hg1 true i (flatN (nd :: nds)) (q1'.flatS hg1) (hb.2.1 (.inr k15)) hp
   unfold bxN
   rw [if_pos (.inr k15)]
   exact ⟨fin _ e2 qn, l1'.name⟩
  ·rw [if_pos hg1]
   have hm1 : (runM T B fm c m).cd ≠ 0 := fun h => hg1 (q1'.a h)
   exact ⟨fin _ e2 (Q.bad hg1 (nameM_bad _ _ hm1)), Lim.bad hg1⟩
 have e3 : ∀ sn bx, bxN T B n i fn sn bx = bx := fun sn bx => by
  unfold bxN
  rw [if_neg (by omega)]
 rw [e3]
 have e1 : runS T (fs + 1) 1 (i : Int) g = (n.ks.foldl (fun g k => runS T fs 0 k g) g).emit := by
  show stepS T (runS T fs) 1 (i : Int) g = _
  rw [st1_at hn, if_neg (by omega), if_neg (by omega), if_neg (by omega), if_neg (by omega)]
 rw [e1]
 refine ⟨fin _ (fun hm => ?_) q1.emit, l1.emit⟩
 show stepM T B (runM T B fm) (i : Int) m = _
 unfold stepM
 rw [if_neg (fun h => h hm), Int.toNat_natCast, hn]
 dsimp only
 rw [if_neg (by omega), if_neg (by omega), if_neg (by omega), if_neg (by omega), if_neg (by omega), if_neg (by omega), if_neg (by omega), if_neg (by omega), if_neg (by omega), if_neg (by omega), if_pos (by omega)]
end
section
variable {e : Bool} {B : Bd} {T : List Kn}
def NdOk (T : List Kn) (B : Bd) (e : Bool) (i : Nat) : Prop := ∀ (n : Kn), T[i]? = some n → ∀ fs fm fb : Nat, 2 * i + 2 ≤ fs → i + 1 ≤ fm → i + 1 ≤ fb →
 (xEx n.k → ExOk T B e fs fm fb (i : Int)) ∧ (n.k = 23 ∨ n.k = 24 → ∀ fs fm : Nat, 2 * i ≤ fs → i ≤ fm → ItOk T B e fs fm fb (i : Int)) ∧ (xSt n.k → StOk T B e fs fm fb (i : Int)) ∧ (n.k = 21 → BkOk T B e fs fm fb (i : Int))
theorem node_ok (S : Shp T) (e : Bool) (B : Bd) : ∀ (N i : Nat), i < N → NdOk T B e i := by
 intro N
 induction N with
 | zero => intro i h; exact absurd h (Nat.not_lt_zero _)
 | succ N ih =>
  intro i hi n hn fs fm fb hfs hfm hfb
  have lo := S.lo i n hn
  obtain ⟨fs, rfl⟩ : ∃ q, fs = q + 2 := ⟨fs - 2, by omega⟩
  obtain ⟨fm, rfl⟩ : ∃ q, fm = q + 1 := ⟨fm - 1, by omega⟩
  obtain ⟨fb, rfl⟩ : ∃ q, fb = q + 1 := ⟨fb - 1, by omega⟩
  have kid : ∀ k ∈ n.ks, kk T k ≠ 0 → ∃ (j : Nat) (p : Kn), k = j ∧ T[j]? = some p ∧ p.k = kk T k ∧ j < i := fun k hk h => by
   have l := lo k hk
   obtain ⟨j, p, rfl, h1, h2⟩ := node_at l.1 h
   exact ⟨j, p, rfl, h1, h2, by omega⟩
  have kE : ∀ k ∈ n.ks, xEx (kk T k) → ∀ fs fm fb' : Nat, 2 * i ≤ fs → i ≤ fm → fb' = fb → ExOk T B e fs fm fb' k := fun k hk h fs fm fb' h1 h2 h3 => by
   obtain ⟨j, p, rfl, e1, e2, e3⟩ := kid k hk (by unfold xEx at h; omega)
   rw [← e2] at h
   exact (ih j (by omega) p e1 fs fm fb' (by omega) (by omega) (by omega)).1 h
  have kB : ∀ k ∈ n.ks, kk T k = 21 → ∀ fs fm : Nat, 2 * i ≤ fs → i ≤ fm → BkOk T B e fs fm fb k := fun k hk h fs fm h1 h2 => by
   obtain ⟨j, p, rfl, e1, e2, e3⟩ := kid k hk (by omega)
   rw [← e2] at h
   exact (ih j (by omega) p e1 fs fm fb (by omega) (by omega) (by omega)).2.2.2 h
  have kS : ∀ k ∈ n.ks, (1 ≤ kk T k ∧ kk T k ≤ 24) → ∀ sn, scP T fb k sn = sn ++ addS (kk T k) k := fun k hk h sn => by
   obtain ⟨j, p, rfl, e1, e2, e3⟩ := kid k hk (by omega)
   rw [← e2]
   exact sc_kind S i fb (by omega) j p e3 e1 (by omega) sn
  have kSE : ∀ k ∈ n.ks, xEx (kk T k) → ∀ sn, scP T fb k sn = sn := fun k hk h => scP_nil (kS k hk (by unfold xEx at h; omega)) (by unfold xEx at h; omega)
  refine ⟨fun hk => ?_, fun hk fs fm h1 h2 => ?_, fun hk => ?_, fun hk => ?_⟩
  ·by_cases k6 : n.k = 6
   ·obtain ⟨ps, b, hks, hps, hb⟩ := S.fn i n hn k6
    have hmem : b ∈ n.ks := by rw [hks]; simp
    have hbi := lo b hmem
    obtain ⟨fb, rfl⟩ : ∃ q, fb = q + 1 := ⟨fb - 1, by omega⟩
    refine ex_fn hn k6 lo hks (fun k hk => ?_) (kB b hmem hb fs fm (by omega) (by omega))
    have hm : k ∈ n.ks := by rw [hks]; simp [hk]
    obtain ⟨j, p, e0, e1, e2, _⟩ := kid k hm (by rw [hps k hk]; decide)
    exact ⟨j, p, e0, e1, by rw [e2]; exact hps k hk, S.leaf j p e1 (.inr (by rw [e2]; exact hps k hk))⟩
   by_cases k7 : n.k = 7
   ·have ht := S.tab i n hn k7
    refine ex_table hn k7 (fun k hk => (lo k hk).2) (fun k hk => ?_) (fun k hk => ?_)
    ·have := ht k hk
     obtain ⟨j, p, rfl, e1, e2, e3⟩ := kid k hk (by omega)
     exact (ih j (by omega) p e1 (2 * j + 2) (j + 1) fb (Nat.le_refl _) (Nat.le_refl _) (by omega)).2.1 (by omega) (fs + 1) fm (by omega) (by omega)
    ·have := ht k hk
     exact scP_nil (kS k hk (by omega)) (by omega)
   ·have hx : ∀ k ∈ n.ks, xEx (kk T k) := fun k hk' => by
     unfold xEx at hk
     by_cases c : n.k ≤ 5
     ·rw [S.leaf i n hn (.inl c)] at hk'; cases hk'
     ·exact S.ex i n hn (by omega) k hk'
    exact ex_plain hn hk (fun k hk => (lo k hk).2) k6 k7 (fun h => S.leaf i n hn (.inl h)) (S.two i n hn) (fun k hk => kE k hk (hx k hk) _ _ _ (by omega) (by omega) rfl) (fun k hk => kSE k hk (hx k hk))
  ·have hx : ∀ k ∈ n.ks, xEx (kk T k) := S.ex i n hn (by omega)
   exact item_ok hn hk (fun k hk => (lo k hk).2) (fun k hk => kE k hk (hx k hk) fs fm fb h1 h2 rfl) (fun k hk => kSE k hk (hx k hk))
  ·refine st_ok S hn hk (fun k hk hx => kE k hk hx _ _ _ (by omega) (by omega) rfl) (fun k hk hx => kB k hk hx _ _ (by omega) (by omega)) (fun k hk' => kS k hk' ?_)
   unfold xSt at hk
   by_cases k17 : n.k = 17
   ·obtain ⟨c, l, e1, e2, _, e3⟩ := S.iff i n hn k17
    rw [e1] at hk'
    unfold xEx at e2
    rcases List.mem_cons.1 hk' with h | h
    ·rw [h]; omega
    ·rw [e3 k h]; decide
   by_cases k18 : n.k = 18
   ·obtain ⟨c, b, e1, e2, e3⟩ := S.whl i n hn k18
    rw [e1] at hk'
    unfold xEx at e2
    rcases List.mem_cons.1 hk' with h | h
    ·rw [h]; omega
    ·rw [List.mem_singleton.1 h, e3]; decide
   ·have := S.ex i n hn (by omega) k hk'
    unfold xEx at this
    omega
  ·have hs := S.blk i n hn hk
   refine bk_ok hn hk lo (fun k hk => ?_) (fun k hk => kS k hk (by have := hs k hk; unfold xSt at this; omega))
   have h := hs k hk
   obtain ⟨j, p, rfl, e1, e2, e3⟩ := kid k hk (by unfold xSt at h; omega)
   rw [← e2] at h
   exact (ih j (by omega) p e1 (fs + 1) fm fb (by omega) (by omega) (by omega)).2.2.1 h
theorem pass_ok (S : Shp T) (hr : kk T ((T.length : Int) - 1) = 21) (hpos : 0 < T.length) (e : Bool) (B : Bd) (bx0 : List Bool) (hb : bokP T B (T.length + 1) ((T.length : Int) - 1) (-1) []) (hx : ∀ q, bx0.getD q false = true → B.bx.getD q false = true) (hy : e = true → bx0 = B.bx) :
  Q e B [] [] (bxP T B (T.length + 1) ((T.length : Int) - 1) (-1) [] bx0) (makeS T bx0) (makeM T B) := by
 obtain ⟨r, hr0⟩ : ∃ r : Nat, T.length = r + 1 := ⟨T.length - 1, by omega⟩
 have er : ((T.length : Int) - 1) = (r : Int) := by omega
 rw [er] at hr hb ⊢
 obtain ⟨j, n, ej, hn, hk⟩ := node_at (T := T) (k := (r : Int)) (by omega) (by omega)
 have : j = r := by omega
 subst this
 have hk21 : n.k = 21 := by omega
 have q0 : Q e B [] [] bx0 ⟨[], bx0, [], 0⟩ ⟨[], [], 0⟩ := ⟨fun _ => rfl, fun _ _ => rfl, fun _ => trivial, fun _ => hx, fun _ h => hy h, fun _ => trivial, fun _ => rfl, fun _ => rfl, fun _ => rfl, fun _ => rfl⟩
 have l0 : Lim (⟨[], bx0, [], 0⟩ : SG) := fun _ => ⟨(fun F hF => by cases hF), Nat.zero_le _⟩
 have bk := (node_ok S e B (j + 1) j (by omega) n hn (3 * T.length + 4) (T.length + 3) (T.length + 1) (by omega) (by omega) (by omega)).2.2.2 hk21
 obtain ⟨q1, _⟩ := body_ok (e := e) (fs := 3 * T.length + 4) (fm := T.length + 3) (fb := T.length + 1) (b := (j : Int)) (ps := []) (i := -1) (fun g => runS T (3 * T.length + 5) 3 (j : Int) g) (fun g => by
  show stepS T (runS T (3 * T.length + 4)) 3 (j : Int) g = _
  unfold stepS
  rw [Int.toNat_natCast, hn]
  show bodyS T (runS T (3 * T.length + 4) 2) (j : Int) g = _
  unfold bodyS
  rw [Int.toNat_natCast, hn]
  dsimp only
  rw [if_neg (by omega), if_neg (by omega)]
  rfl) q0 l0 (by simp) (fun k hk => by cases hk) (fun z hz => by cases hz) hb (fun f hf => by
   left
   exact List.mem_singleton.1 hf) bk
 have eM : makeM T B = wholeM B (runM T B (T.length + 3)) (-1) [] (j : Int) ⟨[], [], 0⟩ := by
  unfold makeM
  rw [er]
 have eS : makeS T bx0 = runS T (3 * T.length + 5) 3 (j : Int) ⟨[], bx0, [], 0⟩ := by
  unfold makeS
  rw [er]
 rw [eM, eS]
 exact q1
end
theorem boxed_eq {T : List Kn} (S : Shp T) (hr : kk T ((T.length : Int) - 1) = 21) (hpos : 0 < T.length) (hN : ∀ (f : Nat) (k fr : Int), 0 ≤ numP T f k fr → 0 ≤ fr → numP T f k fr = k + 1 ∧ fr ≤ k)
  (hnum : numP T (T.length + 1) ((T.length : Int) - 1) 0 = (T.length : Int)) : boxedS T = boxedM T := by
 obtain ⟨L, hb, ebx⟩ := bound_ok hpos S.lo hN hnum
 have p1 := pass_ok S hr hpos false (boundP T) (List.replicate T.length false) hb (fun q h => by
  exfalso
  revert h
  simp only [List.getD, List.getElem?_replicate]
  split <;> simp) (fun h => by cases h)
 have p2 := pass_ok S hr hpos true (boundP T) (boundP T).bx hb (fun q h => h) (fun _ => rfl)
 rw [← ebx] at p1
 unfold boxedS boxedM
 dsimp only
 by_cases h1 : (makeS T (List.replicate T.length false)).cd = 0
 ·rw [if_neg (fun h => h h1), p1.z h1]
  by_cases h2 : (makeM T (boundP T)).cd = 0
  ·rw [if_neg (fun h => h (p2.a h2)), if_neg (fun h => h h2)]
  ·have h3 : (makeS T (boundP T).bx).cd ≠ 0 := fun h => h2 (p2.b rfl h)
   rw [if_pos h3, if_pos h2]
 ·have h2 : (makeM T (boundP T)).cd ≠ 0 := fun h => h1 (p1.a h)
  rw [if_pos h1, if_pos h2]
def szP (T : List Kn) : Nat → Int → Nat
 | 0, _ => 0
 | f + 1, i => match T[i.toNat]? with
  | some n => 1 + (n.ks.map (szP T f)).sum
  | none => 0
def sz (T : List Kn) (i : Int) : Nat := szP T (i.toNat + 1) i
section
variable {T : List Kn}
theorem szP_s {f i : Nat} {n : Kn} (h : T[i]? = some n) : szP T (f + 1) (i : Int) = 1 + (n.ks.map (szP T f)).sum := by
 show (match T[(i : Int).toNat]? with | some n => 1 + (n.ks.map (szP T f)).sum | none => 0) = _
 rw [Int.toNat_natCast, h]
theorem szP_eq (lo : ∀ (j : Nat) (n : Kn), T[j]? = some n → ∀ k ∈ n.ks, 0 ≤ k ∧ k < j) : ∀ (N i f f' : Nat), i < N → i < f → i < f' → szP T f (i : Int) = szP T f' (i : Int) := by
 intro N
 induction N with
 | zero => intro i _ _ h; exact absurd h (Nat.not_lt_zero _)
 | succ N ih =>
  intro i f f' hi hf hf'
  obtain ⟨f, rfl⟩ : ∃ q, f = q + 1 := ⟨f - 1, by omega⟩
  obtain ⟨f', rfl⟩ : ∃ q, f' = q + 1 := ⟨f' - 1, by omega⟩
  cases h : T[i]? with
  | none =>
   show (match T[(i : Int).toNat]? with | some n => 1 + (n.ks.map (szP T f)).sum | none => 0) = (match T[(i : Int).toNat]? with | some n => 1 + (n.ks.map (szP T f')).sum | none => 0)
   rw [Int.toNat_natCast, h]
  | some n =>
   rw [szP_s h, szP_s h]
   congr 2
   refine List.map_congr_left fun k hk => ?_
   have l := lo i n h k hk
   obtain ⟨j, rfl⟩ : ∃ q : Nat, k = q := ⟨k.toNat, by omega⟩
   exact ih j f f' (by omega) (by omega) (by omega)
theorem sz_s (lo : ∀ (j : Nat) (n : Kn), T[j]? = some n → ∀ k ∈ n.ks, 0 ≤ k ∧ k < j) {i : Nat} {n : Kn} (h : T[i]? = some n) : sz T (i : Int) = 1 + (n.ks.map (sz T)).sum := by
 unfold sz
 rw [szP_s h]
 congr 2
 refine List.map_congr_left fun k hk => ?_
 have l := lo i n h k hk
 obtain ⟨j, rfl⟩ : ∃ q : Nat, k = q := ⟨k.toNat, by omega⟩
 exact szP_eq lo (j + 1) j _ _ (by omega) (by omega) (by omega)
theorem sz_num (hN : ∀ (f : Nat) (k fr : Int), 0 ≤ numP T f k fr → 0 ≤ fr → numP T f k fr = k + 1 ∧ fr ≤ k) : ∀ (f : Nat) (i fr : Int), 0 ≤ fr → 0 ≤ numP T f i fr → (szP T f i : Int) = i + 1 - fr := by
 intro f
 induction f with
 | zero => intro i fr _ h; exact absurd h (by show ¬ (0:Int) ≤ -1; decide)
 | succ f ih =>
  intro i fr hfr h
  have hi := (hN (f + 1) i fr h hfr)
  have e : numP T (f + 1) i fr = match T[i.toNat]? with | some n => numGo' (numP T f) i n.ks fr | none => -1 := rfl
  rw [e] at h
  show ((match T[i.toNat]? with | some n => 1 + (n.ks.map (szP T f)).sum | none => 0 : Nat) : Int) = _
  cases hn : T[i.toNat]? with
  | none => rw [hn] at h; exact absurd h (by show ¬ (0:Int) ≤ -1; decide)
  | some n =>
   rw [hn] at h
   dsimp only at h ⊢
   have key : ∀ (l : List Int) (fr : Int), 0 ≤ fr → 0 ≤ numGo' (numP T f) i l fr → (((l.map (szP T f)).sum : Nat) : Int) = i - fr := by
    intro l
    induction l with
    | nil =>
     intro fr _ h
     unfold numGo' at h
     by_cases c : i = fr
     ·rw [c]; simp
     ·rw [if_neg c] at h; exact absurd h (by decide)
    | cons k l ihl =>
     intro fr h0 h
     unfold numGo' at h
     by_cases c : numP T f k fr < 0
     ·rw [if_pos c] at h; exact absurd h (by decide)
     rw [if_neg c] at h
     have k1 := hN f k fr (by omega) h0
     rw [k1.1] at h
     have a := ih k fr h0 (by omega)
     have b := ihl (k + 1) (by omega) h
     rw [List.map_cons, List.sum_cons]
     omega
   have := key n.ks fr hfr h
   omega
end
structure BF (K : Nat) (F : CF) : Prop where
 ln : F.ln ≤ K
 up : F.up.length ≤ K
 nd : F.nd.length ≤ K
 own : F.own.length ≤ K
structure Bs (K : Nat) (s : SG) : Prop where
 f : ∀ F ∈ s.fs, BF K F
 t : s.ts.length ≤ K
 n : s.fs.length ≤ K
theorem BF.mono {K K' : Nat} {F : CF} (h : BF K F) (k : K ≤ K') : BF K' F := ⟨Nat.le_trans h.ln k, Nat.le_trans h.up k, Nat.le_trans h.nd k, Nat.le_trans h.own k⟩
theorem Bs.mono {K K' : Nat} {s : SG} (h : Bs K s) (k : K ≤ K') : Bs K' s := ⟨fun F hF => (h.f F hF).mono k, Nat.le_trans h.t k, Nat.le_trans h.n k⟩
section
variable {K : Nat} {s : SG} {T : List Kn}
theorem Bs.hd {u : CF → CF} {K' : Nat} (h : Bs K s) (k : K ≤ K') (hu : ∀ F, BF K F → BF K' (u F)) : Bs K' (s.hd u) := by
 unfold SG.hd
 cases e : s.fs with
 | nil => exact ⟨(fun F hF => by cases hF), Nat.le_trans h.t k, Nat.zero_le _⟩
 | cons F R =>
  have h1 := h.f
  have h2 := h.n
  rw [e] at h1 h2
  refine ⟨fun F' hF' => ?_, Nat.le_trans h.t k, Nat.le_trans h2 k⟩
  rcases List.mem_cons.1 hF' with c | c
  ·subst c; exact hu F (h1 F (by simp))
  ·exact (h1 F' (by simp [c])).mono k
theorem Bs.emit (h : Bs K s) : Bs (K + 1) s.emit := h.hd (Nat.le_succ K) fun F b => ⟨Nat.succ_le_succ b.ln, Nat.le_succ_of_le b.up, Nat.le_succ_of_le b.nd, Nat.le_succ_of_le b.own⟩
theorem Bs.fail (h : Bs K s) {c : Int} : Bs K (s.fail c) := by
 unfold SG.fail
 split
 ·exact ⟨h.f, h.t, h.n⟩
 ·exact h
theorem up_len {q : Int} : ∀ (fs : List CF), (upS q fs).length = fs.length
 | [] => rfl
 | F :: R => by
  have := congrArg List.length (up_nd (q := q) (F :: R)).1
  simpa using this
theorem up_bf {q : Int} {K : Nat} : ∀ (fs : List CF), (∀ F ∈ fs, BF K F) → ∀ F ∈ upS q fs, BF (K + 1) F
 | [], _ => (fun F hF => by cases hF)
 | F :: R, h => by
  unfold upS
  have hF := h F (by simp)
  have hR : ∀ F ∈ R, BF (K + 1) F := fun F' h' => (h F' (by simp [h'])).mono (Nat.le_succ K)
  by_cases c : q ∈ F.up
  ·rw [if_pos c]
   exact fun F' h' => (h F' h').mono (Nat.le_succ K)
  ·rw [if_neg c]
   intro F' h'
   rcases List.mem_cons.1 h' with e | e
   ·subst e
    exact ⟨Nat.le_succ_of_le hF.ln, by simp; exact hF.up, Nat.le_succ_of_le hF.nd, Nat.le_succ_of_le hF.own⟩
   ·cases R with
    | nil => cases e
    | cons O R =>
     dsimp only at e
     by_cases d : q ∈ O.own
     ·rw [if_pos d] at e; exact hR F' e
     ·rw [if_neg d] at e
      exact up_bf (O :: R) (fun F' h' => h F' (by simp [h'])) F' e
theorem Bs.ups (h : Bs K s) (q : Int) (b : List Bool) : Bs (K + 1) { s with bx := b, fs := upS q s.fs } := ⟨up_bf s.fs h.f, Nat.le_succ_of_le h.t, by show (upS q s.fs).length ≤ _; rw [up_len]; exact Nat.le_succ_of_le h.n⟩
theorem Bs.text (h : Bs K s) {t : BA} : Bs (K + 1) (textS t s) := by
 have h2 : Bs (K + 1) ({ s with ts := s.ts ++ [t] } : SG) := ⟨fun F hF => (h.f F hF).mono (Nat.le_succ K), by show (s.ts ++ [t]).length ≤ _; simp; exact h.t, Nat.le_succ_of_le h.n⟩
 have h3 : Bs (K + 1) ({ s with ts := s.ts ++ [t] } : SG).emit := by
  unfold SG.emit SG.hd
  have b := h.emit
  unfold SG.emit SG.hd at b
  exact ⟨b.f, h2.t, b.n⟩
 unfold textS
 split
 ·split
  ·exact h.fail.mono (Nat.le_succ K)
  ·exact h.emit
 ·split
  ·exact h2.fail
  ·exact h3
theorem Bs.local (h : Bs K s) {i : Int} : Bs (K + 1) (localS i s).1 := by
 unfold localS
 split
 ·exact h.mono (Nat.le_succ K)
 ·rename_i F R e
  split
  ·exact h.fail.mono (Nat.le_succ K)
  ·have h1 := h.f
   have h2 := h.n
   rw [e] at h1 h2
   have hF := h1 F (by simp)
   refine ⟨fun F' h' => ?_, Nat.le_succ_of_le h.t, Nat.le_succ_of_le h2⟩
   rcases List.mem_cons.1 h' with c | c
   ·subst c
    exact ⟨Nat.le_succ_of_le hF.ln, Nat.le_succ_of_le hF.up, by simp; exact hF.nd, by simp; exact hF.own⟩
   ·exact (h1 F' (by simp [c])).mono (Nat.le_succ K)
theorem Bs.push (h : Bs K s) : Bs (K + 1) { s with fs := ⟨[], [], [], 0⟩ :: s.fs } := ⟨fun F hF => by
 rcases List.mem_cons.1 hF with c | c
 ·subst c; exact ⟨Nat.zero_le _, Nat.zero_le _, Nat.zero_le _, Nat.zero_le _⟩
 ·exact (h.f F c).mono (Nat.le_succ K), Nat.le_succ_of_le h.t, Nat.succ_le_succ h.n⟩
theorem Bs.pop (h : Bs K s) : Bs K { s with fs := s.fs.tail } := ⟨fun F hF => h.f F (List.mem_of_mem_tail hF), h.t, by
 show s.fs.tail.length ≤ K
 have := h.n
 rw [List.length_tail]; omega⟩
theorem sum5 (l : List Int) : (l.map fun k => 5 * sz T k).sum = 5 * (l.map (sz T)).sum := by
 induction l with
 | nil => rfl
 | cons k l ih => rw [List.map_cons, List.map_cons, List.sum_cons, List.sum_cons, ih]; omega
theorem mem_sz {l : List Int} {k : Int} (h : k ∈ l) : sz T k ≤ (l.map (sz T)).sum := by
 induction l with
 | nil => cases h
 | cons a l ih =>
  rw [List.map_cons, List.sum_cons]
  rcases List.mem_cons.1 h with c | c
  ·subst c; omega
  ·have := ih c; omega
end
def key (F : CF) : Nat × List Int × List Int := (F.ln, F.own, F.nd)
def MoL : List CF → List CF → Prop
 | [], [] => True
 | F :: R, F' :: R' => F.ln ≤ F'.ln ∧ F.own <+: F'.own ∧ R'.map key = R.map key
 | _, _ => False
def Mo (s s' : SG) : Prop := MoL s.fs s'.fs
structure In (T : List Kn) (s : SG) : Prop where
 a : ∀ F ∈ s.fs, (∀ q ∈ F.nd, q ∈ F.own) ∧ ∀ q ∈ F.own, 0 ≤ q ∧ q < (T.length : Int)
 b : s.bx.length = T.length
structure Iv (T : List Kn) (K : Nat) (s : SG) : Prop where
 b : Bs K s
 i : In T s
theorem Iv.mono {T : List Kn} {K K' : Nat} {s : SG} (h : Iv T K s) (k : K ≤ K') : Iv T K' s := ⟨h.b.mono k, h.i⟩
theorem MoL.refl : ∀ (l : List CF), MoL l l
 | [] => trivial
 | _ :: _ => ⟨Nat.le_refl _, List.prefix_refl _, rfl⟩
theorem MoL.trans : ∀ {a b c : List CF}, MoL a b → MoL b c → MoL a c
 | [], [], [], _, _ => trivial
 | [], [], _ :: _, _, h => h.elim
 | [], _ :: _, _, h, _ => h.elim
 | _ :: _, [], _, h, _ => h.elim
 | _ :: _, _ :: _, [], _, h => h.elim
 | _ :: _, _ :: _, _ :: _, h1, h2 => ⟨Nat.le_trans h1.1 h2.1, h1.2.1.trans h2.2.1, h2.2.2.trans h1.2.2⟩
theorem MoL.key {a b : List CF} (h : b.map key = a.map key) : MoL a b := by
 cases a with
 | nil =>
  cases b with
  | nil => trivial
  | cons => cases h
 | cons F R =>
  cases b with
  | nil => cases h
  | cons F' R' =>
   simp only [List.map_cons, List.cons.injEq] at h
   have h1 : F'.ln = F.ln := congrArg Prod.fst h.1
   have h2 : F'.own = F.own := congrArg (fun p => p.2.1) h.1
   exact ⟨by rw [h1]; exact Nat.le_refl _, by rw [h2]; exact List.prefix_refl _, h.2⟩
theorem MoL.len : ∀ {a b : List CF}, MoL a b → b.length = a.length
 | [], [], _ => rfl
 | [], _ :: _, h => h.elim
 | _ :: _, [], h => h.elim
 | _ :: R, _ :: R', h => by
  have := congrArg List.length h.2.2
  simpa using this
structure Gd (T : List Kn) (w : Nat) (s s' : SG) : Prop where
 m : Mo s s'
 v : ∀ K, Iv T K s → Iv T (K + w) s'
section
variable {T : List Kn} {w w' : Nat} {s s' s'' : SG}
theorem Gd.refl (s : SG) : Gd T 0 s s := ⟨MoL.refl _, fun _ h => h⟩
theorem Gd.trans (a : Gd T w s s') (b : Gd T w' s' s'') : Gd T (w + w') s s'' := ⟨a.m.trans b.m, fun K h => by
 rw [← Nat.add_assoc]; exact b.v _ (a.v K h)⟩
theorem Gd.mono (a : Gd T w s s') (h : w ≤ w') : Gd T w' s s' := ⟨a.m, fun K k => (a.v K k).mono (by omega)⟩
theorem In.hd {u : CF → CF} (h : In T s) (hu : ∀ F, (∀ q ∈ F.nd, q ∈ F.own) → (∀ q ∈ (u F).nd, q ∈ (u F).own)) (ho : ∀ F, (u F).own = F.own) : In T (s.hd u) := by
 refine ⟨?_, h.b⟩
 unfold SG.hd
 cases e : s.fs with
 | nil => intro F hF; cases hF
 | cons F R =>
  have h1 := h.a
  rw [e] at h1
  intro F' hF'
  rcases List.mem_cons.1 hF' with c | c
  ·subst c
   have := h1 F (by simp)
   exact ⟨hu F this.1, by rw [ho]; exact this.2⟩
  ·exact h1 F' (by simp [c])
theorem Gd.emit (s : SG) : Gd T 1 s s.emit := ⟨by
 unfold Mo SG.emit SG.hd
 cases e : s.fs with
 | nil => trivial
 | cons F R => exact ⟨Nat.le_succ _, List.prefix_refl _, rfl⟩, fun K h => ⟨h.b.emit, h.i.hd (fun F hF => hF) (fun _ => rfl)⟩⟩
theorem Gd.fail (s : SG) (c : Int) : Gd T 0 s (s.fail c) := by
 unfold SG.fail
 split
 ·exact ⟨MoL.refl _, fun K h => ⟨⟨h.b.f, h.b.t, h.b.n⟩, ⟨h.i.a, h.i.b⟩⟩⟩
 ·exact Gd.refl s
theorem up_key {q : Int} : ∀ (fs : List CF), (upS q fs).map key = fs.map key
 | [] => rfl
 | F :: R => by
  unfold upS
  by_cases c : q ∈ F.up
  ·rw [if_pos c]
  ·rw [if_neg c]
   cases R with
   | nil => rfl
   | cons O R =>
    dsimp only
    by_cases d : q ∈ O.own
    ·rw [if_pos d]; rfl
    ·rw [if_neg d]
     exact congrArg (key F :: ·) (up_key (O :: R))
theorem key_in {a b : List CF} (h : b.map key = a.map key) {P : List Int → List Int → Prop} (ha : ∀ F ∈ a, P F.nd F.own) : ∀ F ∈ b, P F.nd F.own := fun F hF => by
 have : key F ∈ a.map key := by rw [← h]; exact List.mem_map_of_mem hF
 obtain ⟨F0, m0, e0⟩ := List.mem_map.1 this
 have h1 : F0.own = F.own := congrArg (fun p => p.2.1) e0
 have h2 : F0.nd = F.nd := congrArg (fun p => p.2.2) e0
 rw [← h1, ← h2]
 exact ha F0 m0
theorem Gd.ups (s : SG) (q z : Int) : Gd T 1 s { s with bx := s.bx.set z.toNat true, fs := upS q s.fs } :=
 ⟨MoL.key (up_key _), fun K h => ⟨h.b.ups _ _, ⟨key_in (up_key s.fs) (P := fun nd own => (∀ q ∈ nd, q ∈ own) ∧ ∀ q ∈ own, 0 ≤ q ∧ q < (T.length : Int)) h.i.a, by show (s.bx.set _ _).length = _; rw [List.length_set]; exact h.i.b⟩⟩⟩
theorem Gd.name (s : SG) (set : Bool) (i : Int) : Gd T 2 s (nameS T set i s) := by
 unfold nameS
 split
 ·split
  ·exact (Gd.emit s).mono (by omega)
  ·exact (Gd.fail s 2).mono (by omega)
 ·exact (Gd.emit s).mono (by omega)
 ·exact (Gd.ups s _ _).trans (Gd.emit _)
theorem Gd.text (s : SG) (t : BA) : Gd T 1 s (textS t s) := by
 have ht : Gd T 1 s { s with ts := s.ts ++ [t] } := ⟨MoL.refl _, fun K h => ⟨⟨fun F hF => (h.b.f F hF).mono (Nat.le_succ K), by show (s.ts ++ [t]).length ≤ _; simp; exact h.b.t, Nat.le_succ_of_le h.b.n⟩, ⟨h.i.a, h.i.b⟩⟩⟩
 have b : ∀ K, Bs K s → Bs (K + 1) (textS t s) := fun K h => h.text
 refine ⟨?_, fun K h => ⟨h.b.text, ?_⟩⟩
 ·unfold textS
  split
  ·split
   ·exact (Gd.fail (T := T) s 3).m
   ·exact (Gd.emit (T := T) s).m
  ·split
   ·exact ht.m.trans (Gd.fail (T := T) _ 3).m
   ·exact ht.m.trans (Gd.emit (T := T) _).m
 ·have h2 := (ht.v K h)
  unfold textS
  split
  ·split
   ·exact ((Gd.fail s 3).v K h).i
   ·exact ((Gd.emit s).v K h).i
  ·split
   ·exact ((Gd.fail _ 3).v _ h2).i
   ·exact ((Gd.emit _).v _ h2).i
theorem Gd.local (s : SG) (i : Int) (h0 : 0 ≤ i) (h1 : i < (T.length : Int)) : Gd T 1 s (localS i s).1 := by
 refine ⟨?_, fun K h => ⟨h.b.local, ?_⟩⟩
 ·unfold localS
  split
  ·exact MoL.refl _
  ·rename_i F R e
   split
   ·exact (Gd.fail (T := T) s 3).m
   ·unfold Mo
    rw [e]
    exact ⟨Nat.le_refl _, List.prefix_append _ _, rfl⟩
 ·unfold localS
  split
  ·exact h.i
  ·rename_i F R e
   split
   ·exact ((Gd.fail s 3).v K h).i
   ·refine ⟨fun F' hF' => ?_, h.i.b⟩
    have ha := h.i.a
    rw [e] at ha
    rcases List.mem_cons.1 hF' with c | c
    ·subst c
     have hF := ha F (by simp)
     refine ⟨fun q hq => ?_, fun q hq => ?_⟩
     ·rcases List.mem_append.1 hq with x | x
      ·exact List.mem_append_left _ (hF.1 q x)
      ·exact List.mem_append_right _ x
     ·rcases List.mem_append.1 hq with x | x
      ·exact hF.2 q x
      ·rw [List.mem_singleton.1 x]; exact ⟨h0, h1⟩
    ·exact ha F' (by simp [c])
theorem Gd.body (a : Gd T w { s with fs := ⟨[], [], [], 0⟩ :: s.fs } s') : Gd T (w + 1) s { s' with fs := s'.fs.tail } := by
 obtain ⟨m, v⟩ := a
 unfold Mo at m
 cases e : s'.fs with
 | nil => rw [e] at m; exact m.elim
 | cons F' R' =>
  rw [e] at m
  refine ⟨?_, fun K h => ?_⟩
  ·show MoL s.fs R'
   exact MoL.key m.2.2
  ·have h2 := v (K + 1) ⟨h.b.push, ⟨fun F hF => by
    rcases List.mem_cons.1 hF with c | c
    ·subst c; exact ⟨(fun q hq => by cases hq), (fun q hq => by cases hq)⟩
    ·exact h.i.a F c, h.i.b⟩⟩
   have h3 := h2.b.pop
   rw [e] at h3
   refine ⟨h3.mono (by omega), fun F hF => h2.i.a F ?_, h2.i.b⟩
   rw [e]
   exact List.mem_cons_of_mem _ hF
theorem Gd.restore (a : Gd T w s s') : Gd T w s (s'.hd fun F => { F with nd := match s.fs with | [] => [] | F0 :: _ => F0.nd }) := by
 obtain ⟨m, v⟩ := a
 unfold Mo at m
 cases e : s.fs with
 | nil =>
  cases e' : s'.fs with
  | cons F' R' => rw [e, e'] at m; exact m.elim
  | nil =>
   refine ⟨?_, fun K h => ?_⟩
   ·unfold Mo SG.hd
    rw [e, e']; trivial
   ·have h2 := v K h
    unfold SG.hd
    rw [e']
    exact ⟨⟨(fun F hF => by cases hF), h2.b.t, Nat.zero_le _⟩, ⟨(fun F hF => by cases hF), h2.i.b⟩⟩
 | cons F R =>
  cases e' : s'.fs with
  | nil => rw [e, e'] at m; exact m.elim
  | cons F' R' =>
   rw [e, e'] at m
   refine ⟨?_, fun K h => ?_⟩
   ·unfold Mo SG.hd
    rw [e, e']
    exact m
   ·have h2 := v K h
    have hF := h.i.a F (by rw [e]; simp)
    have bF := h.b.f F (by rw [e]; simp)
    have h2b := h2.b.f
    have h2n := h2.b.n
    have h2a := h2.i.a
    rw [e'] at h2b h2n h2a
    unfold SG.hd
    rw [e']
    refine ⟨⟨fun G hG => ?_, h2.b.t, h2n⟩, ⟨fun G hG => ?_, h2.i.b⟩⟩
    ·rcases List.mem_cons.1 hG with c | c
     ·subst c
      have := h2b F' (by simp)
      exact ⟨this.ln, this.up, Nat.le_trans bF.nd (Nat.le_add_right _ _), this.own⟩
     ·exact h2b G (by simp [c])
    ·rcases List.mem_cons.1 hG with c | c
     ·subst c
      exact ⟨fun q hq => m.2.1.subset (hF.1 q hq), (h2a F' (by simp)).2⟩
     ·exact h2a G (by simp [c])
theorem gd_fold {R : SG → Int → SG} {w : Int → Nat} : ∀ (l : List Int), (∀ k ∈ l, ∀ s, Gd T (w k) s (R s k)) → ∀ s, Gd T (l.map w).sum s (l.foldl R s)
 | [], _, s => Gd.refl s
 | k :: l, h, s => by
  rw [List.foldl_cons, List.map_cons, List.sum_cons]
  exact (h k (by simp) s).trans (gd_fold l (fun k hk => h k (by simp [hk])) _)
def cost (T : List Kn) (m : Nat) (i : Int) : Nat := if m = 3 then (if kk T i = 6 then 5 * sz T i - 1 else 5 * sz T i + 3) else 5 * sz T i
theorem gd_body (S : Shp T) {B : Int → SG → SG} {i : Nat} {n : Kn} (hn : T[i]? = some n) (hB : ∀ s, Gd T (5 * sz T (if n.k = 6 then n.ks.getLastD 0 else (i : Int))) s (B (if n.k = 6 then n.ks.getLastD 0 else (i : Int)) s)) (s : SG) : Gd T (cost T 3 (i : Int)) s (bodyS T B (i : Int) s) := by
 have hi : (i : Int) < (T.length : Int) := by have := (List.getElem?_eq_some_iff.1 hn).1; omega
 have hsz := sz_s S.lo hn
 have lo := S.lo i n hn
 have e : bodyS T B (i : Int) s = ((fun g4 : SG => { g4 with fs := g4.fs.tail }) (match (B (if n.k = 6 then n.ks.getLastD 0 else (i : Int)) ((if n.k = 6 then n.ks.dropLast else []).foldl (fun g k => if g.cd = 0 ∧ g.bx.getD k.toNat false = true then g.emit else g) ((if n.k = 6 then n.ks.dropLast else []).foldl (fun g k => if g.cd = 0 then (localS k g).1 else g) { s with fs := ⟨[], [], [], 0⟩ :: s.fs }))).emit.emit.fs with
   | [] => (B (if n.k = 6 then n.ks.getLastD 0 else (i : Int)) ((if n.k = 6 then n.ks.dropLast else []).foldl (fun g k => if g.cd = 0 ∧ g.bx.getD k.toNat false = true then g.emit else g) ((if n.k = 6 then n.ks.dropLast else []).foldl (fun g k => if g.cd = 0 then (localS k g).1 else g) { s with fs := ⟨[], [], [], 0⟩ :: s.fs }))).emit.emit
   | F :: _ => if F.up.length > 12 ∨ F.ln > 4000 then (B (if n.k = 6 then n.ks.getLastD 0 else (i : Int)) ((if n.k = 6 then n.ks.dropLast else []).foldl (fun g k => if g.cd = 0 ∧ g.bx.getD k.toNat false = true then g.emit else g) ((if n.k = 6 then n.ks.dropLast else []).foldl (fun g k => if g.cd = 0 then (localS k g).1 else g) { s with fs := ⟨[], [], [], 0⟩ :: s.fs }))).emit.emit.fail 3 else (B (if n.k = 6 then n.ks.getLastD 0 else (i : Int)) ((if n.k = 6 then n.ks.dropLast else []).foldl (fun g k => if g.cd = 0 ∧ g.bx.getD k.toNat false = true then g.emit else g) ((if n.k = 6 then n.ks.dropLast else []).foldl (fun g k => if g.cd = 0 then (localS k g).1 else g) { s with fs := ⟨[], [], [], 0⟩ :: s.fs }))).emit.emit)) := by
  unfold bodyS
  rw [Int.toNat_natCast, hn]
  rfl
 rw [e]
 have hps : ∀ k ∈ (if n.k = 6 then n.ks.dropLast else []), 0 ≤ k ∧ k < (T.length : Int) := fun k hk => by
  by_cases c : n.k = 6
  ·rw [if_pos c] at hk
   have := lo k ((List.dropLast_sublist _).subset hk)
   omega
  ·rw [if_neg c] at hk; cases hk
 have g1 : ∀ s, Gd T ((if n.k = 6 then n.ks.dropLast else []).map fun _ => 1).sum s ((if n.k = 6 then n.ks.dropLast else []).foldl (fun g k => if g.cd = 0 then (localS k g).1 else g) s) := gd_fold _ fun k hk s => by
  split
  ·exact Gd.local s k (hps k hk).1 (hps k hk).2
  ·exact (Gd.refl s).mono (by omega)
 have g2 : ∀ s, Gd T ((if n.k = 6 then n.ks.dropLast else []).map fun _ => 1).sum s ((if n.k = 6 then n.ks.dropLast else []).foldl (fun g k => if g.cd = 0 ∧ g.bx.getD k.toNat false = true then g.emit else g) s) := gd_fold _ fun k hk s => by
  split
  ·exact Gd.emit s
  ·exact (Gd.refl s).mono (by omega)
 have gB := ((((g1 { s with fs := ⟨[], [], [], 0⟩ :: s.fs }).trans (g2 _)).trans (hB _)).trans (Gd.emit _)).trans (Gd.emit _)
 generalize (B (if n.k = 6 then n.ks.getLastD 0 else (i : Int)) ((if n.k = 6 then n.ks.dropLast else []).foldl (fun g k => if g.cd = 0 ∧ g.bx.getD k.toNat false = true then g.emit else g) ((if n.k = 6 then n.ks.dropLast else []).foldl (fun g k => if g.cd = 0 then (localS k g).1 else g) { s with fs := ⟨[], [], [], 0⟩ :: s.fs }))).emit.emit = G at gB ⊢
 have hsum : ∀ l : List Int, (l.map fun _ => 1).sum = l.length := fun l => by
  induction l with
  | nil => rfl
  | cons a l ih => rw [List.map_cons, List.sum_cons, ih, List.length_cons]; omega
 have hone : ∀ k ∈ n.ks, 1 ≤ sz T k := fun k hk => by
  have l := lo k hk
  obtain ⟨j, rfl⟩ : ∃ q : Nat, k = q := ⟨k.toNat, by omega⟩
  have hj : j < T.length := by omega
  rw [sz_s S.lo (show T[j]? = some T[j] by simp [hj])]; omega
 have hw : (((((if n.k = 6 then n.ks.dropLast else []).map fun _ => 1).sum + ((if n.k = 6 then n.ks.dropLast else []).map fun _ => 1).sum) + 5 * sz T (if n.k = 6 then n.ks.getLastD 0 else (i : Int))) + 1) + 1 + 1 ≤ cost T 3 (i : Int) := by
  unfold cost
  rw [if_pos rfl, kk_at hn, hsum]
  by_cases c : n.k = 6
  ·simp only [if_pos c]
   obtain ⟨ps, b, e1, _, _⟩ := S.fn i n hn c
   rw [e1] at hsz hone ⊢
   rw [List.dropLast_concat, List.getLastD_concat]
   rw [List.map_append, List.sum_append] at hsz
   simp only [List.map_cons, List.map_nil, List.sum_cons, List.sum_nil] at hsz
   have : ∀ l : List Int, (∀ k ∈ l, 1 ≤ sz T k) → l.length ≤ (l.map (sz T)).sum := fun l => by
    induction l with
    | nil => intro _; simp
    | cons a l ih =>
     intro h
     have := ih fun k hk => h k (by simp [hk])
     have := h a (by simp)
     rw [List.map_cons, List.sum_cons, List.length_cons]; omega
   have := this ps fun k hk => hone k (by simp [hk])
   omega
  ·simp only [if_neg c, List.length_nil]
   omega
 have gM : ∀ (w : Nat) (s0 : SG), Gd T w s0 G → Gd T w s0 (match G.fs with | [] => G | F :: _ => if F.up.length > 12 ∨ F.ln > 4000 then G.fail 3 else G) := fun w s0 g => by
  cases G.fs with
  | nil => exact g
  | cons F R =>
   dsimp only
   split
   ·exact (g.trans (Gd.fail G 3)).mono (by omega)
   ·exact g
 exact Gd.mono (Gd.body (gM _ _ gB)) hw
end
section
variable {T : List Kn}
theorem gd_none {f m : Nat} {i : Int} (h : T[i.toNat]? = none) (s : SG) : runS T f m i s = s := by
 cases f with
 | zero => rfl
 | succ f =>
  show stepS T (runS T f) m i s = s
  unfold stepS
  rw [h]
theorem kid_le (S : Shp T) {i : Nat} {n : Kn} (hn : T[i]? = some n) : ∀ j, j < n.ks.length → 5 * sz T (n.ks.getD j 0) + 5 ≤ 5 * sz T (i : Int) := fun j hj => by
 have := mem_sz (T := T) (l := n.ks) (k := n.ks.getD j 0) (by rw [List.getD, List.getElem?_eq_getElem hj]; simp)
 rw [sz_s S.lo hn]; omega
theorem gd_item (S : Shp T) {E : Int → SG → SG} {i : Nat} {n : Kn} (hn : T[i]? = some n) (hE : ∀ k ∈ n.ks, ∀ s, Gd T (5 * sz T k) s (E k s)) (s : SG) : Gd T (5 * sz T (i : Int)) s (itemS T E s (i : Int)) := by
 have hsz := sz_s S.lo hn
 have e : itemS T E s (i : Int) = (n.ks.foldl (fun g k => E k g) (if n.k = 23 then s.emit.emit else s.emit)).emit := by
  unfold itemS
  rw [Int.toNat_natCast, hn]
 rw [e]
 have g0 : Gd T 2 s (if n.k = 23 then s.emit.emit else s.emit) := by
  split
  ·exact (Gd.emit s).trans (Gd.emit _)
  ·exact (Gd.emit s).mono (by omega)
 have g1 := gd_fold (R := fun g k => E k g) (w := fun k => 5 * sz T k) n.ks hE (if n.k = 23 then s.emit.emit else s.emit)
 rw [sum5] at g1
 exact ((g0.trans g1).trans (Gd.emit _)).mono (by omega)
theorem gd_run (S : Shp T) : ∀ (f m : Nat) (i : Int), m ≤ 3 → 0 ≤ i → ∀ (s : SG), Gd T (cost T m i) s (runS T f m i s) := by
 intro f
 induction f with
 | zero => intro m i _ _ s; exact (Gd.refl s).mono (Nat.zero_le _)
 | succ f ih =>
  intro m i hm3 hi s
  obtain ⟨i, rfl⟩ : ∃ q : Nat, i = q := ⟨i.toNat, by omega⟩
  cases hn : T[i]? with
  | none => rw [gd_none (by rw [Int.toNat_natCast]; exact hn)]; exact (Gd.refl s).mono (Nat.zero_le _)
  | some n =>
   have lo := S.lo i n hn
   have hiT : (i : Int) < (T.length : Int) := by have := (List.getElem?_eq_some_iff.1 hn).1; omega
   have hsz := sz_s S.lo hn
   have kid : ∀ (m : Nat), m < 3 → ∀ k : Int, 0 ≤ k → ∀ s, Gd T (5 * sz T k) s (runS T f m k s) := fun m hm k hk s => by
    have := ih m k (by omega) hk s
    unfold cost at this
    rwa [if_neg (by omega)] at this
   have kid0 : ∀ (m : Nat), m < 3 → ∀ j s, Gd T (5 * sz T (n.ks.getD j 0)) s (runS T f m (n.ks.getD j 0) s) := fun m hm j s => by
    refine kid m hm _ ?_ s
    by_cases hj : j < n.ks.length
    ·have := lo (n.ks.getD j 0) (by rw [List.getD, List.getElem?_eq_getElem hj]; simp)
     omega
    ·rw [List.getD, List.getElem?_eq_none (by omega)]; simp
   have kids : ∀ s, Gd T (5 * (n.ks.map (sz T)).sum) s (n.ks.foldl (fun g k => runS T f 0 k g) s) := fun s => by
    have := gd_fold (R := fun g k => runS T f 0 k g) (w := fun k => 5 * sz T k) n.ks (fun k hk s => kid 0 (by decide) k (lo k hk).1 s) s
    rwa [sum5] at this
   have eS : runS T (f + 1) m (i : Int) s = stepS T (runS T f) m (i : Int) s := rfl
   rw [eS]
   by_cases m3 : m = 3
   ·subst m3
    have e1 : stepS T (runS T f) 3 (i : Int) s = bodyS T (runS T f 2) (i : Int) s := by
     unfold stepS
     rw [Int.toNat_natCast, hn]; rfl
    rw [e1]
    refine gd_body S hn (fun s => ?_) s
    by_cases c : n.k = 6
    ·rw [if_pos c]
     obtain ⟨ps, b, e2, _, _⟩ := S.fn i n hn c
     rw [e2, List.getLastD_concat]
     exact kid 2 (by decide) b (lo b (by rw [e2]; simp)).1 s
    ·rw [if_neg c]
     exact kid 2 (by decide) _ (by omega) s
   have ec : cost T m (i : Int) = 5 * sz T (i : Int) := if_neg m3
   rw [ec]
   have k0 := fun (hj : 0 < n.ks.length) => kid_le S hn 0 hj
   have k1 := fun (hj : 1 < n.ks.length) => kid_le S hn 1 hj
   have kk3 : 0 < n.ks.length → 1 < n.ks.length → 5 * sz T (n.ks.getD 0 0) + 5 * sz T (n.ks.getD 1 0) + 5 ≤ 5 * sz T (i : Int) := fun h0 h1 => by
    match hks : n.ks, h1 with
    | a :: b :: r, _ =>
     rw [hks] at hsz
     simp only [List.map_cons, List.sum_cons] at hsz
     show 5 * sz T a + 5 * sz T b + 5 ≤ _
     omega
   match m, m3, hm3 with
   | 0, _, _ =>
    have e1 : stepS T (runS T f) 0 (i : Int) s = (if s.cd ≠ 0 then s
     else if n.k = 1 ∨ n.k = 2 ∨ n.k = 3 then s.emit
     else if n.k = 4 then textS n.t s
     else if n.k = 5 then nameS T false (i : Int) s
     else if n.k = 6 then (if numS T (i : Int) ≥ 100 then s.fail 3 else if (runS T f 3 (i : Int) s).cd = 0 then (runS T f 3 (i : Int) s).emit else runS T f 3 (i : Int) s)
     else if n.k = 7 then n.ks.foldl (itemS T (runS T f 0)) s.emit
     else if n.k = 12 ∨ n.k = 13 then runS T f 0 (n.ks.getD 1 0) (runS T f 0 (n.ks.getD 0 0) s).emit
     else if n.k = 9 then (if (n.ks.length : Int) - 1 > 40 then (n.ks.foldl (fun g k => runS T f 0 k g) s.emit).fail 3 else (n.ks.foldl (fun g k => runS T f 0 k g) s.emit).emit)
     else if n.k = 8 ∨ n.k = 10 ∨ n.k = 11 then (n.ks.foldl (fun g k => runS T f 0 k g) s).emit
     else n.ks.foldl (fun g k => runS T f 0 k g) s) := by
     unfold stepS
     rw [Int.toNat_natCast, hn]; rfl
    rw [e1]
    by_cases c0 : s.cd ≠ 0
    ·rw [if_pos c0]; exact (Gd.refl s).mono (Nat.zero_le _)
    rw [if_neg c0]
    by_cases c1 : n.k = 1 ∨ n.k = 2 ∨ n.k = 3
    ·rw [if_pos c1]; exact (Gd.emit s).mono (by omega)
    rw [if_neg c1]
    by_cases c2 : n.k = 4
    ·rw [if_pos c2]; exact (Gd.text s _).mono (by omega)
    rw [if_neg c2]
    by_cases c3 : n.k = 5
    ·rw [if_pos c3]; exact (Gd.name s _ _).mono (by omega)
    rw [if_neg c3]
    by_cases c4 : n.k = 6
    ·rw [if_pos c4]
     have g3 := ih 3 (i : Int) (by omega) (by omega) s
     have e3 : cost T 3 (i : Int) = 5 * sz T (i : Int) - 1 := by
      unfold cost
      rw [if_pos rfl, if_pos (by rw [kk_at hn]; exact c4)]
     rw [e3] at g3
     split
     ·exact (Gd.fail s 3).mono (Nat.zero_le _)
     ·split
      ·exact (g3.trans (Gd.emit _)).mono (by omega)
      ·exact g3.mono (by omega)
    rw [if_neg c4]
    by_cases c5 : n.k = 7
    ·rw [if_pos c5]
     have gi := gd_fold (R := itemS T (runS T f 0)) (w := fun k => 5 * sz T k) n.ks (fun k hk s => by
      have l := lo k hk
      obtain ⟨j, rfl⟩ : ∃ q : Nat, k = q := ⟨k.toNat, by omega⟩
      have hj : j < T.length := by omega
      exact gd_item S (show T[j]? = some T[j] by simp [hj]) (fun k' hk' s => kid 0 (by decide) k' (S.lo j T[j] (by simp [hj]) k' hk').1 s) s) s.emit
     rw [sum5] at gi
     exact ((Gd.emit s).trans gi).mono (by omega)
    rw [if_neg c5]
    by_cases c6 : n.k = 12 ∨ n.k = 13
    ·rw [if_pos c6]
     have h2 := S.two i n hn c6
     exact (((kid0 0 (by decide) 0 s).trans (Gd.emit _)).trans (kid0 0 (by decide) 1 _)).mono (by have := kk3 (by omega) (by omega); omega)
    rw [if_neg c6]
    by_cases c7 : n.k = 9
    ·rw [if_pos c7]
     have g2 := (Gd.emit (T := T) s).trans (kids s.emit)
     split
     ·exact (g2.trans (Gd.fail _ 3)).mono (by omega)
     ·exact (g2.trans (Gd.emit _)).mono (by omega)
    rw [if_neg c7]
    split
    ·exact ((kids s).trans (Gd.emit _)).mono (by omega)
    ·exact (kids s).mono (by omega)
   | 1, _, _ =>
    rw [st1_at hn]
    by_cases c1 : n.k = 15
    ·rw [if_pos c1]
     have h1 := S.one i n hn (.inr c1)
     have := k0 (by omega)
     split
     ·exact (kid0 0 (by decide) 0 s).mono (by omega)
     ·exact ((kid0 0 (by decide) 0 s).trans (Gd.name _ _ _)).mono (by omega)
    rw [if_neg c1]
    by_cases c2 : n.k = 17
    ·rw [if_pos c2]
     obtain ⟨c, l, e1, _, hl, _⟩ := S.iff i n hn c2
     have h3 := kk3 (by rw [e1]; simp) (by rw [e1]; rcases hl with h | h <;> simp [h])
     have g3 := (((kid0 0 (by decide) 0 s).trans (Gd.emit _)).trans (kid0 2 (by decide) 1 _))
     split
     ·exact g3.mono (by omega)
     ·have : 5 * sz T (n.ks.getD 0 0) + 5 * sz T (n.ks.getD 1 0) + 5 * sz T (n.ks.getD 2 0) + 5 ≤ 5 * sz T (i : Int) := by
       rename_i hne
       match hks : n.ks, e1, hl with
       | a :: b :: r :: [], e1, _ =>
        rw [hks] at hsz
        simp only [List.map_cons, List.sum_cons] at hsz
        show 5 * sz T a + 5 * sz T b + 5 * sz T r + 5 ≤ _
        omega
       | a :: b :: [], e1, _ => rw [hks] at hne; exact absurd rfl hne
       | a :: [], e1, hl => cases e1; simp at hl
       | [], e1, _ => cases e1
       | a :: b :: r :: x :: y, e1, hl => cases e1; simp at hl
      exact ((g3.trans (Gd.emit _)).trans (kid0 2 (by decide) 2 _)).mono (by omega)
    rw [if_neg c2]
    by_cases c3 : n.k = 18
    ·rw [if_pos c3]
     obtain ⟨c, b, e1, _, _⟩ := S.whl i n hn c3
     have h3 := kk3 (by rw [e1]; simp) (by rw [e1]; simp)
     exact ((((kid0 0 (by decide) 0 s).trans (Gd.emit _)).trans (kid0 2 (by decide) 1 _)).trans (Gd.emit _)).mono (by omega)
    rw [if_neg c3]
    by_cases c4 : n.k = 14
    ·rw [if_pos c4]
     have h1 := S.one i n hn (.inl c4)
     have := k0 (by omega)
     have g1 := kid0 0 (by decide) 0 s
     have g2 := g1.trans (Gd.local _ (i : Int) (by omega) hiT)
     split
     ·exact g1.mono (by omega)
     ·split
      ·exact g2.mono (by omega)
      ·split
       ·exact ((g2.trans (Gd.emit _)).trans (Gd.emit _)).mono (by omega)
       ·exact (g2.trans (Gd.emit _)).mono (by omega)
    rw [if_neg c4]
    exact ((kids s).trans (Gd.emit _)).mono (by omega)
   | 2, _, _ =>
    have e1 : stepS T (runS T f) 2 (i : Int) s = (n.ks.foldl (fun g k => if g.cd = 0 then runS T f 1 k g else g) s).hd (fun F => { F with nd := match s.fs with | [] => [] | F0 :: _ => F0.nd }) := by
     unfold stepS
     rw [Int.toNat_natCast, hn]; rfl
    rw [e1]
    have g1 := gd_fold (R := fun g k => if g.cd = 0 then runS T f 1 k g else g) (w := fun k => 5 * sz T k) n.ks (fun k hk s => by
     split
     ·exact kid 1 (by decide) k (lo k hk).1 s
     ·exact (Gd.refl s).mono (Nat.zero_le _)) s
    rw [sum5] at g1
    exact g1.restore.mono (by omega)
   | 3, h, _ => exact absurd rfl h
   | m + 4, _, hm3 => exact absurd hm3 (by omega)
end
def okP (T : List Kn) (B : Bd) : Nat → Int → List Int → Prop
 | 0, _, _ => True
 | f + 1, i, fns => match T[i.toNat]? with
  | some n => (∀ k ∈ n.ks, okP T B f k (if n.k = 6 then i :: fns else fns)) ∧ ((n.k = 5 ∨ n.k = 15) → 0 ≤ B.bd.getD i.toNat 0 → B.bd.getD i.toNat 0 < (T.length : Int) ∧ B.ow.getD (B.bd.getD i.toNat 0).toNat 0 ∈ fns)
  | none => True
theorem okP_at {T : List Kn} {B : Bd} {f i : Nat} {n : Kn} {fns : List Int} (hn : T[i]? = some n) : okP T B (f + 1) (i : Int) fns = ((∀ k ∈ n.ks, okP T B f k (if n.k = 6 then (i : Int) :: fns else fns)) ∧ ((n.k = 5 ∨ n.k = 15) → 0 ≤ B.bd.getD i 0 → B.bd.getD i 0 < (T.length : Int) ∧ B.ow.getD (B.bd.getD i 0).toNat 0 ∈ fns)) := by
 show (match T[(i : Int).toNat]? with | some n => (∀ k ∈ n.ks, okP T B f k (if n.k = 6 then (i : Int) :: fns else fns)) ∧ ((n.k = 5 ∨ n.k = 15) → 0 ≤ B.bd.getD (i : Int).toNat 0 → B.bd.getD (i : Int).toNat 0 < (T.length : Int) ∧ B.ow.getD (B.bd.getD (i : Int).toNat 0).toNat 0 ∈ fns) | none => True) = _
 rw [Int.toNat_natCast, hn]
def ScOk (T : List Kn) (B : Bd) (fns sn : List Int) : Prop := ∀ q ∈ sn, 0 ≤ q ∧ q < (T.length : Int) ∧ B.ow.getD q.toNat 0 ∈ fns
theorem ok_of {T : List Kn} {B : Bd} (S : Shp T) : ∀ (N i : Nat), i < N → ∀ (f : Nat) (n : Kn) (fn : Int) (rest sn : List Int), i < f → T[i]? = some n → 1 ≤ n.k ∧ n.k ≤ 24 → bokP T B f (i : Int) fn sn → ScOk T B (fn :: rest) sn → okP T B f (i : Int) (fn :: rest) := by
 intro N
 induction N with
 | zero => intro i h; exact absurd h (Nat.not_lt_zero _)
 | succ N ih =>
  intro i hi f n fn rest sn hf hn hk hb hs
  obtain ⟨f, rfl⟩ : ∃ q, f = q + 1 := ⟨f - 1, by omega⟩
  rw [bok_at hn] at hb
  rw [okP_at hn]
  have lo := S.lo i n hn
  have hkind : ∀ k ∈ n.ks, 1 ≤ kk T k ∧ kk T k ≤ 24 := fun k hm => by
   by_cases c1 : n.k ≤ 5 ∨ n.k = 22
   ·rw [S.leaf i n hn c1] at hm; cases hm
   by_cases c2 : n.k = 6
   ·obtain ⟨ps, b, e, h1, h2⟩ := S.fn i n hn c2
    rw [e] at hm
    rcases List.mem_append.1 hm with h | h
    ·rw [h1 k h]; decide
    ·rw [List.mem_singleton.1 h, h2]; decide
   by_cases c3 : n.k = 7
   ·have := S.tab i n hn c3 k hm; omega
   by_cases c4 : n.k = 17
   ·obtain ⟨c, l, e, h1, _, h3⟩ := S.iff i n hn c4
    rw [e] at hm
    unfold xEx at h1
    rcases List.mem_cons.1 hm with h | h
    ·rw [h]; omega
    ·rw [h3 k h]; decide
   by_cases c5 : n.k = 18
   ·obtain ⟨c, b, e, h1, h3⟩ := S.whl i n hn c5
    rw [e] at hm
    unfold xEx at h1
    rcases List.mem_cons.1 hm with h | h
    ·rw [h]; omega
    ·rw [List.mem_singleton.1 h, h3]; decide
   by_cases c6 : n.k = 21
   ·have := S.blk i n hn c6 k hm
    unfold xSt at this; omega
   ·have := S.ex i n hn (by omega) k hm
    unfold xEx at this; omega
  have kids : ∀ (fn' : Int) (rest' : List Int) (l : List Int), (∀ k ∈ l, k ∈ n.ks) → ∀ sn, bokK (bokP T B f · fn') (scP T f) l sn → ScOk T B (fn' :: rest') sn → (∀ k ∈ l, okP T B f k (fn' :: rest')) ∧ ScOk T B (fn' :: rest') (l.foldl (fun s k => scP T f k s) sn) := by
   intro fn' rest' l
   induction l with
   | nil => intro _ sn _ hs; exact ⟨(fun k hk => by cases hk), hs⟩
   | cons k l ihl =>
    intro hm sn hb hs
    have hkn := hm k (by simp)
    have hki := lo k hkn
    have hkk := hkind k hkn
    obtain ⟨j, p, rfl, hj, hpk⟩ := node_at (T := T) hki.1 (by omega)
    rw [← hpk] at hkk
    have h1 := ih j (by omega) f p fn' rest' sn (by omega) hj hkk hb.1 hs
    have hsc : scP T f (j : Int) sn = sn ++ addS p.k (j : Int) := sc_kind S (j + 1) f (by omega) j p (by omega) hj hkk sn
    have hjT := (List.getElem?_eq_some_iff.1 hj).1
    have hs2 : ScOk T B (fn' :: rest') (scP T f (j : Int) sn) := by
     rw [hsc]
     intro q hq
     rcases List.mem_append.1 hq with c | c
     ·exact hs q c
     ·unfold addS at c
      split at c
      ·rename_i h14
       rw [List.mem_singleton.1 c]
       refine ⟨by omega, by omega, ?_⟩
       obtain ⟨f', rfl⟩ : ∃ x, f = x + 1 := ⟨f - 1, by omega⟩
       have hb1 : bokP T B (f' + 1) (j : Int) fn' sn := hb.1
       rw [bok_at hj] at hb1
       have := hb1.2.2 h14
       rw [Int.toNat_natCast, this]
       exact List.mem_cons_self
      ·cases c
    obtain ⟨a1, a2⟩ := ihl (fun k hk => hm k (by simp [hk])) _ hb.2 hs2
    refine ⟨fun k hk => ?_, a2⟩
    rcases List.mem_cons.1 hk with c | c
    ·subst c; exact h1
    ·exact a1 k c
  by_cases c6 : n.k = 6
  ·rw [if_pos c6] at hb ⊢
   obtain ⟨a1, _⟩ := kids (i : Int) (fn :: rest) n.ks (fun _ h => h) sn hb.1 fun q hq => ⟨(hs q hq).1, (hs q hq).2.1, List.mem_cons_of_mem _ (hs q hq).2.2⟩
   exact ⟨a1, fun h => by omega⟩
  ·rw [if_neg c6] at hb ⊢
   obtain ⟨a1, a2⟩ := kids fn rest n.ks (fun _ h => h) sn hb.1 hs
   refine ⟨a1, fun h5 h0 => ?_⟩
   have h1 := (hb.2.1 h5).1
   rw [h1] at h0 ⊢
   cases hf : findL T (tx T (i : Int)) (n.ks.foldl (fun s k => scP T f k s) sn).reverse with
   | none => rw [hf] at h0; exact absurd h0 (by show ¬ (0 : Int) ≤ -1; decide)
   | some q =>
    have hq := a2 q (List.mem_reverse.1 (List.mem_of_find?_eq_some hf))
    exact ⟨hq.2.1, hq.2.2⟩
structure BM (K : Nat) (F : MF) : Prop where
 ln : F.ln ≤ K
 up : F.up.length ≤ K
 sl : F.sl.length ≤ K
structure Bm (K : Nat) (m : MG) : Prop where
 f : ∀ F ∈ m.fs, BM K F
 t : m.ts.length ≤ K
 n : m.fs.length ≤ K
def keyM (F : MF) : Int × Nat × List Int := (F.fn, F.ln, F.sl)
def MmL : List MF → List MF → Prop
 | [], [] => True
 | F :: R, F' :: R' => F'.fn = F.fn ∧ F.ln ≤ F'.ln ∧ R'.map keyM = R.map keyM
 | _, _ => False
def Mm (m m' : MG) : Prop := MmL m.fs m'.fs
theorem BM.mono {K K' : Nat} {F : MF} (h : BM K F) (k : K ≤ K') : BM K' F := ⟨Nat.le_trans h.ln k, Nat.le_trans h.up k, Nat.le_trans h.sl k⟩
theorem Bm.mono {K K' : Nat} {m : MG} (h : Bm K m) (k : K ≤ K') : Bm K' m := ⟨fun F hF => (h.f F hF).mono k, Nat.le_trans h.t k, Nat.le_trans h.n k⟩
theorem MmL.refl : ∀ (l : List MF), MmL l l
 | [] => trivial
 | _ :: _ => ⟨rfl, Nat.le_refl _, rfl⟩
theorem MmL.trans : ∀ {a b c : List MF}, MmL a b → MmL b c → MmL a c
 | [], [], [], _, _ => trivial
 | [], [], _ :: _, _, h => h.elim
 | [], _ :: _, _, h, _ => h.elim
 | _ :: _, [], _, h, _ => h.elim
 | _ :: _, _ :: _, [], _, h => h.elim
 | _ :: _, _ :: _, _ :: _, h1, h2 => ⟨h2.1.trans h1.1, Nat.le_trans h1.2.1 h2.2.1, h2.2.2.trans h1.2.2⟩
theorem MmL.key {a b : List MF} (h : b.map keyM = a.map keyM) : MmL a b := by
 cases a with
 | nil =>
  cases b with
  | nil => trivial
  | cons => cases h
 | cons F R =>
  cases b with
  | nil => cases h
  | cons F' R' =>
   simp only [List.map_cons, List.cons.injEq] at h
   have h1 : F'.fn = F.fn := congrArg Prod.fst h.1
   have h2 : F'.ln = F.ln := congrArg (fun p => p.2.1) h.1
   exact ⟨h1, by rw [h2]; exact Nat.le_refl _, h.2⟩
theorem MmL.fns : ∀ {a b : List MF}, MmL a b → b.map (·.fn) = a.map (·.fn)
 | [], [], _ => rfl
 | [], _ :: _, h => h.elim
 | _ :: _, [], h => h.elim
 | F :: R, F' :: R', h => by
  have e : ∀ l : List MF, l.map (·.fn) = (l.map keyM).map Prod.fst := fun l => by rw [List.map_map]; rfl
  rw [List.map_cons, List.map_cons, h.1, e R', e R, h.2.2]
structure GdM (w : Nat) (m m' : MG) : Prop where
 g : Mm m m'
 v : ∀ K, Bm K m → Bm (K + w) m'
section
variable {T : List Kn} {B : Bd} {w w' : Nat} {m m' m'' : MG}
theorem GdM.refl (m : MG) : GdM 0 m m := ⟨MmL.refl _, fun _ h => h⟩
theorem GdM.trans (a : GdM w m m') (b : GdM w' m' m'') : GdM (w + w') m m'' := ⟨a.g.trans b.g, fun K h => by
 rw [← Nat.add_assoc]; exact b.v _ (a.v K h)⟩
theorem GdM.mono (a : GdM w m m') (h : w ≤ w') : GdM w' m m' := ⟨a.g, fun K k => (a.v K k).mono (by omega)⟩
theorem GdM.put (m : MG) : GdM 1 m m.put := by
 unfold MG.put MG.hd
 constructor
 ·unfold Mm
  cases e : m.fs with
  | nil => trivial
  | cons F R => exact ⟨rfl, Nat.le_succ _, rfl⟩
 ·intro K h
  have h1 := h.f
  have h2 := h.n
  cases e : m.fs with
  | nil => exact ⟨(fun F hF => by cases hF), Nat.le_succ_of_le h.t, Nat.zero_le _⟩
  | cons F R =>
   rw [e] at h1 h2
   refine ⟨fun F' hF' => ?_, Nat.le_succ_of_le h.t, Nat.le_succ_of_le h2⟩
   rcases List.mem_cons.1 hF' with c | c
   ·subst c
    have := h1 F (by simp)
    exact ⟨Nat.succ_le_succ this.ln, Nat.le_succ_of_le this.up, Nat.le_succ_of_le this.sl⟩
   ·exact (h1 F' (by simp [c])).mono (Nat.le_succ K)
theorem GdM.fail (m : MG) (c : Int) : GdM 0 m (m.fail c) := by
 unfold MG.fail
 split
 ·exact ⟨MmL.refl _, fun K h => ⟨h.f, h.t, h.n⟩⟩
 ·exact GdM.refl m
theorem upM_key {o q : Int} : ∀ (fs : List MF), (upM o q fs).map keyM = fs.map keyM
 | [] => rfl
 | F :: R => by
  unfold upM
  by_cases c : q ∈ F.up
  ·rw [if_pos c]
  ·rw [if_neg c]
   cases R with
   | nil => rfl
   | cons O R =>
    dsimp only
    by_cases d : o = O.fn
    ·rw [if_pos d]; rfl
    ·rw [if_neg d]
     exact congrArg (keyM F :: ·) (upM_key (O :: R))
theorem upM_bm {o q : Int} {K : Nat} : ∀ (fs : List MF), (∀ F ∈ fs, BM K F) → ∀ F ∈ upM o q fs, BM (K + 1) F
 | [], _ => (fun F hF => by cases hF)
 | F :: R, h => by
  unfold upM
  have hF := h F (by simp)
  have hR : ∀ F ∈ R, BM (K + 1) F := fun F' h' => (h F' (by simp [h'])).mono (Nat.le_succ K)
  by_cases c : q ∈ F.up
  ·rw [if_pos c]
   exact fun F' h' => (h F' h').mono (Nat.le_succ K)
  ·rw [if_neg c]
   intro F' h'
   rcases List.mem_cons.1 h' with e | e
   ·subst e
    exact ⟨Nat.le_succ_of_le hF.ln, by simp; exact hF.up, Nat.le_succ_of_le hF.sl⟩
   ·cases R with
    | nil => cases e
    | cons O R =>
     dsimp only at e
     by_cases d : o = O.fn
     ·rw [if_pos d] at e; exact hR F' e
     ·rw [if_neg d] at e
      exact upM_bm (O :: R) (fun F' h' => h F' (by simp [h'])) F' e
theorem upM_len {o q : Int} (fs : List MF) : (upM o q fs).length = fs.length := by
 have := congrArg List.length (upM_key (o := o) (q := q) fs)
 simpa using this
theorem GdM.ups (m : MG) (o q : Int) : GdM 1 m { m with fs := upM o q m.fs } := ⟨MmL.key (upM_key _), fun K h => ⟨upM_bm _ h.f, Nat.le_succ_of_le h.t, by show (upM o q m.fs).length ≤ _; rw [upM_len]; exact Nat.le_succ_of_le h.n⟩⟩
theorem GdM.name (m : MG) (set : Bool) (i : Int) : GdM 2 m (nameM T B set i m) := by
 unfold nameM
 dsimp only
 split
 ·split
  ·exact (GdM.put m).mono (by omega)
  ·exact (GdM.fail m 2).mono (by omega)
 ·split
  ·exact (GdM.refl m).mono (by omega)
  ·split
   ·exact (GdM.ups m _ _).trans (GdM.put _)
   ·exact (GdM.put m).mono (by omega)
theorem GdM.text (m : MG) (t : BA) : GdM 2 m (textM t m) := by
 have ht : GdM 1 m { m with ts := m.ts ++ [t] } := ⟨MmL.refl _, fun K h => ⟨fun F hF => (h.f F hF).mono (Nat.le_succ K), by show (m.ts ++ [t]).length ≤ _; simp; exact h.t, Nat.le_succ_of_le h.n⟩⟩
 unfold textM
 split
 ·exact (GdM.put m).mono (by omega)
 ·split
  ·exact ((GdM.fail m 3).trans (GdM.put _)).mono (by omega)
  ·exact ht.trans (GdM.put _)
theorem GdM.local (m : MG) (i : Int) : GdM 1 m (localM i m) := by
 unfold localM
 split
 ·exact (GdM.refl m).mono (by omega)
 ·rename_i F R e
  split
  ·exact (GdM.fail m 3).mono (by omega)
  ·constructor
   ·unfold Mm
    rw [e]
    exact ⟨rfl, Nat.le_refl _, rfl⟩
   ·intro K h
    have h1 := h.f
    have h2 := h.n
    rw [e] at h1 h2
    refine ⟨fun F' hF' => ?_, Nat.le_succ_of_le h.t, Nat.le_succ_of_le h2⟩
    rcases List.mem_cons.1 hF' with c | c
    ·subst c
     have := h1 F (by simp)
     exact ⟨Nat.le_succ_of_le this.ln, Nat.le_succ_of_le this.up, by simp; exact this.sl⟩
    ·exact (h1 F' (by simp [c])).mono (Nat.le_succ K)
theorem gdM_fold {R : MG → Int → MG} {w : Int → Nat} : ∀ (l : List Int), (∀ k ∈ l, ∀ m, GdM (w k) m (R m k)) → ∀ m, GdM (l.map w).sum m (l.foldl R m)
 | [], _, m => GdM.refl m
 | k :: l, h, m => by
  rw [List.foldl_cons, List.map_cons, List.sum_cons]
  exact (h k (by simp) m).trans (gdM_fold l (fun k hk => h k (by simp [hk])) _)
theorem GdM.body {fn : Int} (a : GdM w { m with fs := ⟨fn, [], [], 0⟩ :: m.fs } m') : GdM (w + 1) m { m' with fs := m'.fs.tail } := by
 obtain ⟨mm, v⟩ := a
 unfold Mm at mm
 cases e : m'.fs with
 | nil => rw [e] at mm; exact mm.elim
 | cons F' R' =>
  rw [e] at mm
  refine ⟨MmL.key mm.2.2, fun K h => ?_⟩
  have h2 := v (K + 1) ⟨fun F hF => by
   rcases List.mem_cons.1 hF with c | c
   ·subst c; exact ⟨Nat.zero_le _, Nat.zero_le _, Nat.zero_le _⟩
   ·exact (h.f F c).mono (Nat.le_succ K), Nat.le_succ_of_le h.t, Nat.succ_le_succ h.n⟩
  have h3 := h2.f
  have h4 := h2.n
  rw [e] at h3 h4
  refine ⟨fun F hF => (h3 F (List.mem_cons_of_mem _ hF)).mono (by omega), Nat.le_trans h2.t (by omega), ?_⟩
  show R'.length ≤ _
  rw [List.length_cons] at h4
  omega
theorem gdM_whole {P : Int → MG → MG} {fn : Int} {ps : List Int} {blk : Int} (hP : ∀ m, GdM w m (P blk m)) (m : MG) : GdM (ps.length + ps.length + w + 3) m (wholeM B P fn ps blk m) := by
 unfold wholeM
 dsimp only
 have hsum : ∀ l : List Int, (l.map fun _ => 1).sum = l.length := fun l => by
  induction l with
  | nil => rfl
  | cons a l ih => rw [List.map_cons, List.sum_cons, ih, List.length_cons]; omega
 have g1 := gdM_fold (R := fun g k => localM k g) (w := fun _ => 1) ps (fun k hk m => GdM.local m k) { m with fs := ⟨fn, [], [], 0⟩ :: m.fs }
 have g2 := gdM_fold (R := fun g k => if B.bx.getD k.toNat false = true ∧ g.cd = 0 then g.put else g) (w := fun _ => 1) ps (fun k hk m => by
  split
  ·exact GdM.put m
  ·exact (GdM.refl m).mono (by omega)) (ps.foldl (fun g k => localM k g) { m with fs := ⟨fn, [], [], 0⟩ :: m.fs })
 have g3 := (((g1.trans g2).trans (hP _)).trans (GdM.put _)).trans (GdM.put _)
 rw [hsum] at g3
 generalize (P blk (ps.foldl (fun g k => if B.bx.getD k.toNat false = true ∧ g.cd = 0 then g.put else g) (ps.foldl (fun g k => localM k g) { m with fs := ⟨fn, [], [], 0⟩ :: m.fs }))).put.put = G at g3 ⊢
 have gM : GdM (ps.length + ps.length + w + 1 + 1) { m with fs := ⟨fn, [], [], 0⟩ :: m.fs } (match G.fs with | [] => G | F :: _ => if F.up.length > 12 ∨ F.ln > 4000 then G.fail 3 else G) := by
  cases G.fs with
  | nil => exact g3
  | cons F R =>
   dsimp only
   split
   ·exact (g3.trans (GdM.fail G 3)).mono (by omega)
   ·exact g3
 exact gM.body.mono (by omega)
theorem stM_at {P : Int → MG → MG} {i : Nat} {n : Kn} (hn : T[i]? = some n) (g : MG) : stepM T B P (i : Int) g = if g.cd ≠ 0 then g
  else if n.k = 1 ∨ n.k = 2 ∨ n.k = 3 then g.put
  else if n.k = 4 then textM n.t g
  else if n.k = 5 then nameM T B false (i : Int) g
  else if n.k = 6 then (if numS T (i : Int) ≥ 100 then g.fail 3 else (wholeM B P (i : Int) n.ks.dropLast (n.ks.getLastD 0) g).put)
  else if n.k = 7 then n.ks.foldl (itemM T P) g.put
  else if n.k = 8 ∨ n.k = 10 ∨ n.k = 11 then (n.ks.foldl (fun g k => P k g) g).put
  else if n.k = 9 then (if (n.ks.length : Int) - 1 > 40 then ((n.ks.foldl (fun g k => P k g) g.put).fail 3).put else (n.ks.foldl (fun g k => P k g) g.put).put)
  else if n.k = 12 ∨ n.k = 13 then P (n.ks.getD 1 0) (P (n.ks.getD 0 0) g).put
  else if n.k = 14 then (if B.bx.getD i false = true then (localM (i : Int) (n.ks.foldl (fun g k => P k g) g)).put.put else (localM (i : Int) (n.ks.foldl (fun g k => P k g) g)).put)
  else if n.k = 15 then nameM T B true (i : Int) (n.ks.foldl (fun g k => P k g) g)
  else if n.k = 16 ∨ n.k = 19 ∨ n.k = 20 then (n.ks.foldl (fun g k => P k g) g).put
  else if n.k = 21 then n.ks.foldl (fun g k => P k g) g
  else if n.k = 18 then (P (n.ks.getD 1 0) (P (n.ks.getD 0 0) g).put).put else if n.ks.length = 2 then P (n.ks.getD 1 0) (P (n.ks.getD 0 0) g).put else P (n.ks.getD 2 0) (P (n.ks.getD 1 0) (P (n.ks.getD 0 0) g).put).put := by
 unfold stepM
 rw [Int.toNat_natCast, hn]
theorem gdM_item (S : Shp T) {P : Int → MG → MG} {i : Nat} {n : Kn} (hn : T[i]? = some n) (hP : ∀ k ∈ n.ks, ∀ m, GdM (5 * sz T k) m (P k m)) (m : MG) : GdM (5 * sz T (i : Int)) m (itemM T P m (i : Int)) := by
 have hsz := sz_s S.lo hn
 have e : itemM T P m (i : Int) = (n.ks.foldl (fun g k => P k g) (if n.k = 23 then m.put.put else m.put)).put := by
  unfold itemM
  rw [Int.toNat_natCast, hn]
 rw [e]
 have g0 : GdM 2 m (if n.k = 23 then m.put.put else m.put) := by
  split
  ·exact (GdM.put m).trans (GdM.put _)
  ·exact (GdM.put m).mono (by omega)
 have g1 := gdM_fold (R := fun g k => P k g) (w := fun k => 5 * sz T k) n.ks hP (if n.k = 23 then m.put.put else m.put)
 rw [sum5] at g1
 exact ((g0.trans g1).trans (GdM.put _)).mono (by omega)
theorem gdM_run (S : Shp T) : ∀ (f : Nat) (i : Int), 0 ≤ i → (1 ≤ kk T i ∧ kk T i ≤ 21) → ∀ (m : MG), GdM (5 * sz T i) m (runM T B f i m) := by
 intro f
 induction f with
 | zero => intro i _ _ m; exact (GdM.refl m).mono (Nat.zero_le _)
 | succ f ih =>
  intro i hi hv m
  obtain ⟨i, rfl⟩ : ∃ q : Nat, i = q := ⟨i.toNat, by omega⟩
  show GdM _ m (stepM T B (runM T B f) (i : Int) m)
  cases hn : T[i]? with
  | none =>
   have : stepM T B (runM T B f) (i : Int) m = m := by
    unfold stepM
    rw [Int.toNat_natCast, hn]
    by_cases c0 : m.cd ≠ 0
    ·exact if_pos c0
    ·exact if_neg c0
   rw [this]
   exact (GdM.refl m).mono (Nat.zero_le _)
  | some n =>
   have lo := S.lo i n hn
   have hsz := sz_s S.lo hn
   rw [kk_at hn] at hv
   have hval : n.k ≠ 6 → n.k ≠ 7 → ∀ k ∈ n.ks, 1 ≤ kk T k ∧ kk T k ≤ 21 := fun h6 h7 k hm => by
    by_cases c1 : n.k ≤ 5
    ·rw [S.leaf i n hn (.inl c1)] at hm; cases hm
    by_cases c4 : n.k = 17
    ·obtain ⟨c, l, e, h1, _, h3⟩ := S.iff i n hn c4
     rw [e] at hm
     unfold xEx at h1
     rcases List.mem_cons.1 hm with h | h
     ·rw [h]; omega
     ·rw [h3 k h]; decide
    by_cases c5 : n.k = 18
    ·obtain ⟨c, b, e, h1, h3⟩ := S.whl i n hn c5
     rw [e] at hm
     unfold xEx at h1
     rcases List.mem_cons.1 hm with h | h
     ·rw [h]; omega
     ·rw [List.mem_singleton.1 h, h3]; decide
    by_cases c6 : n.k = 21
    ·have := S.blk i n hn c6 k hm
     unfold xSt at this; omega
    ·have := S.ex i n hn (by omega) k hm
     unfold xEx at this; omega
   have kids : n.k ≠ 6 → n.k ≠ 7 → ∀ m, GdM (5 * (n.ks.map (sz T)).sum) m (n.ks.foldl (fun g k => runM T B f k g) m) := fun h6 h7 m => by
    have := gdM_fold (R := fun g k => runM T B f k g) (w := fun k => 5 * sz T k) n.ks (fun k hk m => ih k (lo k hk).1 (hval h6 h7 k hk) m) m
    rwa [sum5] at this
   have kid0 : n.k ≠ 6 → n.k ≠ 7 → ∀ j, j < n.ks.length → ∀ m, GdM (5 * sz T (n.ks.getD j 0)) m (runM T B f (n.ks.getD j 0) m) := fun h6 h7 j hj m => by
    have hm : n.ks.getD j 0 ∈ n.ks := by rw [List.getD, List.getElem?_eq_getElem hj]; exact List.getElem_mem hj
    exact ih _ (lo _ hm).1 (hval h6 h7 _ hm) m
   have kk3 : 0 < n.ks.length → 1 < n.ks.length → 5 * sz T (n.ks.getD 0 0) + 5 * sz T (n.ks.getD 1 0) + 5 ≤ 5 * sz T (i : Int) := fun h0 h1 => by
    match hks : n.ks, h1 with
    | a :: b :: r, _ =>
     rw [hks] at hsz
     simp only [List.map_cons, List.sum_cons] at hsz
     show 5 * sz T a + 5 * sz T b + 5 ≤ _
     omega
   rw [stM_at hn]
   by_cases c0 : m.cd ≠ 0
   ·rw [if_pos c0]; exact (GdM.refl m).mono (Nat.zero_le _)
   rw [if_neg c0]
   by_cases c1 : n.k = 1 ∨ n.k = 2 ∨ n.k = 3
   ·rw [if_pos c1]; exact (GdM.put m).mono (by omega)
   rw [if_neg c1]
   by_cases c2 : n.k = 4
   ·rw [if_pos c2]; exact (GdM.text m _).mono (by omega)
   rw [if_neg c2]
   by_cases c3 : n.k = 5
   ·rw [if_pos c3]; exact (GdM.name m _ _).mono (by omega)
   rw [if_neg c3]
   by_cases c4 : n.k = 6
   ·rw [if_pos c4]
    split
    ·exact (GdM.fail m 3).mono (Nat.zero_le _)
    ·obtain ⟨ps, b, hks, _, hbk⟩ := S.fn i n hn c4
     have hb := lo b (by rw [hks]; simp)
     have gw := gdM_whole (B := B) (P := runM T B f) (fn := (i : Int)) (ps := n.ks.dropLast) (blk := n.ks.getLastD 0) (w := 5 * sz T b) (fun m => by
      rw [hks, List.getLastD_concat]
      exact ih b hb.1 (by rw [hbk]; decide) m) m
     have hl : n.ks.dropLast.length = ps.length := by rw [hks, List.dropLast_concat]
     rw [hl] at gw
     have szps : ps.length + sz T b ≤ (n.ks.map (sz T)).sum := by
      rw [hks, List.map_append, List.sum_append]
      simp only [List.map_cons, List.map_nil, List.sum_cons, List.sum_nil]
      have : ∀ l : List Int, (∀ k ∈ l, 0 ≤ k ∧ k < (i : Int)) → l.length ≤ (l.map (sz T)).sum := fun l => by
       induction l with
       | nil => intro _; simp
       | cons a l ihl =>
        intro h
        have h1 := ihl fun k hk => h k (by simp [hk])
        have h2 := h a (by simp)
        obtain ⟨j, rfl⟩ : ∃ q : Nat, a = q := ⟨a.toNat, by omega⟩
        have hiT := (List.getElem?_eq_some_iff.1 hn).1
        have hj : j < T.length := by omega
        have h3 := sz_s S.lo (show T[j]? = some T[j] by simp [hj])
        rw [List.map_cons, List.sum_cons, List.length_cons]; omega
      have := this ps fun k hk => lo k (by rw [hks]; simp [hk])
      omega
     exact (gw.trans (GdM.put _)).mono (by omega)
   rw [if_neg c4]
   by_cases c5 : n.k = 7
   ·rw [if_pos c5]
    have gi := gdM_fold (R := itemM T (runM T B f)) (w := fun k => 5 * sz T k) n.ks (fun k hk m => by
     have l := lo k hk
     obtain ⟨j, rfl⟩ : ∃ q : Nat, k = q := ⟨k.toNat, by omega⟩
     have hiT := (List.getElem?_eq_some_iff.1 hn).1
     have hj : j < T.length := by omega
     exact gdM_item S (show T[j]? = some T[j] by simp [hj]) (fun k' hk' m => ih k' (S.lo j T[j] (by simp [hj]) k' hk').1 (by
      have ht := S.tab i n hn c5 (j : Int) hk
      rw [kk_at (show T[j]? = some T[j] by simp [hj])] at ht
      have := S.ex j T[j] (by simp [hj]) (by omega) k' hk'
      unfold xEx at this; omega) m) m) m.put
    rw [sum5] at gi
    exact ((GdM.put m).trans gi).mono (by omega)
   rw [if_neg c5]
   by_cases c6 : n.k = 8 ∨ n.k = 10 ∨ n.k = 11
   ·rw [if_pos c6]; exact ((kids c4 c5 m).trans (GdM.put _)).mono (by omega)
   rw [if_neg c6]
   by_cases c7 : n.k = 9
   ·rw [if_pos c7]
    have g2 := (GdM.put m).trans (kids c4 c5 m.put)
    split
    ·exact ((g2.trans (GdM.fail _ 3)).trans (GdM.put _)).mono (by omega)
    ·exact (g2.trans (GdM.put _)).mono (by omega)
   rw [if_neg c7]
   by_cases c8 : n.k = 12 ∨ n.k = 13
   ·rw [if_pos c8]
    have h2 := S.two i n hn c8
    exact (((kid0 c4 c5 0 (by omega) m).trans (GdM.put _)).trans (kid0 c4 c5 1 (by omega) _)).mono (by have := kk3 (by omega) (by omega); omega)
   rw [if_neg c8]
   by_cases c9 : n.k = 14
   ·rw [if_pos c9]
    have g2 := ((kids c4 c5 m).trans (GdM.local _ (i : Int))).trans (GdM.put _)
    split
    ·exact (g2.trans (GdM.put _)).mono (by omega)
    ·exact g2.mono (by omega)
   rw [if_neg c9]
   by_cases c10 : n.k = 15
   ·rw [if_pos c10]; exact ((kids c4 c5 m).trans (GdM.name _ _ _)).mono (by omega)
   rw [if_neg c10]
   by_cases c11 : n.k = 16 ∨ n.k = 19 ∨ n.k = 20
   ·rw [if_pos c11]; exact ((kids c4 c5 m).trans (GdM.put _)).mono (by omega)
   rw [if_neg c11]
   by_cases c12 : n.k = 21
   ·rw [if_pos c12]; exact (kids c4 c5 m).mono (by omega)
   rw [if_neg c12]
   by_cases c13 : n.k = 18
   ·rw [if_pos c13]
    obtain ⟨c, b, e1, _, _⟩ := S.whl i n hn c13
    have h2 : 1 < n.ks.length := by rw [e1]; simp
    have h3 := kk3 (by omega) h2
    exact ((((kid0 c4 c5 0 (by omega) m).trans (GdM.put _)).trans (kid0 c4 c5 1 h2 _)).trans (GdM.put _)).mono (by omega)
   rw [if_neg c13]
   have c14 : n.k = 17 := by omega
   obtain ⟨c, l, e1, _, hl, _⟩ := S.iff i n hn c14
   have h2 : 1 < n.ks.length := by rw [e1]; rcases hl with h | h <;> simp [h]
   have h3 := kk3 (by omega) h2
   have g3 := (((kid0 c4 c5 0 (by omega) m).trans (GdM.put _)).trans (kid0 c4 c5 1 h2 _))
   split
   ·exact g3.mono (by omega)
   ·rename_i hne
    have h4 : 2 < n.ks.length := by omega
    have : 5 * sz T (n.ks.getD 0 0) + 5 * sz T (n.ks.getD 1 0) + 5 * sz T (n.ks.getD 2 0) + 5 ≤ 5 * sz T (i : Int) := by
     match hks : n.ks, h4 with
     | a :: b :: r :: x, _ =>
      rw [hks] at hsz
      simp only [List.map_cons, List.sum_cons] at hsz
      show 5 * sz T a + 5 * sz T b + 5 * sz T r + 5 ≤ _
      omega
    exact ((g3.trans (GdM.put _)).trans (kid0 c4 c5 2 h4 _)).mono (by omega)
end
end Go.Proofs.Ytadmoackacickaa
/- Plain laws of the small evaluator's heap: frames, rows that are one's own. -/
namespace Go.AM
open Go.AH
structure Ext (b : Nat) (h h' : AHeap) : Prop where
 size : h.size ≤ h'.size
 obj : ∀ i, i < b → h'.obj i = h.obj i
 ep : ∀ e r, r < b → h'.ep e r = h.ep e r
 tip : ∀ e r, r < b → h'.tip e r = h.tip e r
 map : ∀ i, i < b → h'.map i = h.map i
theorem Ext.refl (b : Nat) (h : AHeap) : Ext b h h := ⟨Nat.le_refl _, fun _ _ => rfl, fun _ _ _ => rfl, fun _ _ _ => rfl, fun _ _ => rfl⟩
theorem Ext.trans {b : Nat} {h h' h'' : AHeap} (x : Ext b h h') (y : Ext b h' h'') : Ext b h h'' :=
 ⟨Nat.le_trans x.size y.size, fun i hi => (y.obj i hi).trans (x.obj i hi), fun e r hr => (y.ep e r hr).trans (x.ep e r hr), fun e r hr => (y.tip e r hr).trans (x.tip e r hr), fun i hi => (y.map i hi).trans (x.map i hi)⟩
theorem Ext.mono {b c : Nat} {h h' : AHeap} (x : Ext b h h') (hc : c ≤ b) : Ext c h h' :=
 ⟨x.size, fun i hi => x.obj i (by omega), fun e r hr => x.ep e r (by omega), fun e r hr => x.tip e r (by omega), fun i hi => x.map i (by omega)⟩
theorem Ext.at? {b : Nat} {h h' : AHeap} (x : Ext b h h') {i : Nat} {o : AObj} (hi : i < b) (ho : h.at? i = some o) : h'.at? i = some o := by
 obtain ⟨h1, h2, h3, h4⟩ := at?_obj ho
 exact at?_mk ((x.obj i hi).trans h1) (by have := x.size; omega) h3 ((x.ep _ _ (by omega)).trans h4)
theorem Ext.new {b : Nat} {h : AHeap} (hb : b ≤ h.size) (e : TypeId) (cs : List Value) : Ext b h (h.new e cs) :=
 ⟨by simp [AHeap.new], fun i hi => by simp [AHeap.new]; omega, fun _ _ _ => rfl, fun e' r hr => by simp [AHeap.new]; omega, fun i hi => by simp [AHeap.new]⟩
theorem Ext.put {b : Nat} {h : AHeap} {i : Nat} {o : AObj} (hi : b ≤ i) (hr : b ≤ o.root) (cs : List Value) : Ext b h (h.put i o cs) :=
 ⟨Nat.le_refl _, fun j hj => by simp [AHeap.put]; omega, fun e r h' => by simp [AHeap.put]; omega, fun e r h' => by simp [AHeap.put]; omega, fun _ _ => rfl⟩
theorem Ext.app {b : Nat} {h : AHeap} {o : AObj} (hb : b ≤ h.size) (hr : b ≤ o.root) (k : Nat) (cs : List Value) : Ext b h (h.app o k cs) :=
 ⟨by simp [AHeap.app], fun j hj => by simp [AHeap.app]; omega, fun e r h' => by simp only [AHeap.app]; rw [if_neg (by omega)], fun e r h' => by simp only [AHeap.app]; rw [if_neg (by omega)], fun i hi => by simp [AHeap.app]⟩
def Row (h : AHeap) (i : Nat) (cs : List Value) : Prop := ∃ o, h.at? i = some o ∧ o.cells = cs
theorem Row.ext {c : Nat} {h h' : AHeap} {i : Nat} {cs : List Value} (x : Row h i cs) (y : Ext c h h') (hi : i < c) : Row h' i cs :=
 let ⟨o, h1, h2⟩ := x; ⟨o, y.at? hi h1, h2⟩
theorem Row.rd {h : AHeap} {i off n : Nat} {cs : List Value} (x : Row h i cs) (hn : off + n ≤ cs.length) : h.rd i off n = some ((cs.drop off).take n) := by
 obtain ⟨o, h1, rfl⟩ := x
 simp [AHeap.rd, h1, hn]
theorem Row.ld1 {h : AHeap} {i off : Nat} {cs : List Value} {v : Value} (x : Row h i cs) (hv : cs[off]? = some v) : aLd1 h (ptr i off) = some v := by
 have hl := (List.getElem?_eq_some_iff.1 hv).1
 simp only [aLd1, ptr, x.rd (off := off) (n := 1) (by omega), oBs]
 rw [List.head?_take, if_neg (by omega), List.head?_drop, hv]
theorem Row.ldN {h : AHeap} {i off n : Nat} {cs : List Value} (x : Row h i cs) (hn : off + n ≤ cs.length) : aLdN h (ptr i off) n = some (.agg ((cs.drop off).take n).toArray) := by
 simp [aLdN, ptr, x.rd hn]
theorem Row.src {h : AHeap} {i off n esz : Nat} {cs : List Value} (x : Row h i cs) (hn : off + n * esz ≤ cs.length) : aSrc h esz (slc i off n) = some (n, (cs.drop off).take (n * esz)) := by
 simp [aSrc, slc, x.rd hn]
end Go.AM
