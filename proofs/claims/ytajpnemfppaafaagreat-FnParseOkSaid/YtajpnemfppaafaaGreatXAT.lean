import Derived.Test.YtajpnemfppaafaaGreatXAS
import Derived.Test.YtajpnemfppaafaaGreatXAN
import Derived.Test.YtajpnemfppaafaaGreatXAI
import Derived.Test.YtajpnemfppaafaaGreatXAP
import Derived.Test.YtajpnemfppaafaaGreatXAF
set_option linter.unusedSimpArgs false
set_option linter.unusedVariables false
/- From another place on the reference's parser reads the same; what it reads is a right tree: lists, suffixes, fields. -/
namespace Go.Proofs.YtajpnemfppaafaaGreat
open Go Go.AH
def gLoop (c : PC) (cm : Nat → Bool) (t : ByteArray) (item : PI) : Nat → List Int → PM
 | 0, _, _ => none
 | n + 1, ks, st => if st.code = 0 ∧ isP c st t = false then (if cm ks.length = true then wantP c ⟨#[44]⟩ st else some st).bind fun s => (item s).bind fun x => if ks.length > 1000000 then none else gLoop c cm t item n (ks ++ [x.1]) x.2 else some (ks, st)
theorem callLoop_g {c : PC} {ex : PI} : ∀ (n : Nat) (ks : List Int) (st : PSt), callLoop c ex n ks st = gLoop c (fun n => decide (n > 1)) ⟨#[41]⟩ ex n ks st
 | 0, _, _ => rfl
 | n + 1, ks, st => by
  rw [callLoop, gLoop]
  simp only [decide_eq_true_eq, callLoop_g n]
theorem tabLoop_g {c : PC} {field : PI} : ∀ (n : Nat) (ks : List Int) (st : PSt), tabLoop c field n ks st = gLoop c (fun n => decide (n > 0)) ⟨#[125]⟩ field n ks st
 | 0, _, _ => rfl
 | n + 1, ks, st => by
  rw [tabLoop, gLoop]
  simp only [decide_eq_true_eq, tabLoop_g n]
theorem blkLoop_g {c : PC} {stmt : PI} : ∀ (n : Nat) (ks : List Int) (st : PSt), blkLoop c stmt n ks st = gLoop c (fun _ => false) ⟨#[125]⟩ stmt n ks st
 | 0, _, _ => rfl
 | n + 1, ks, st => by
  rw [blkLoop, gLoop, if_neg (show ¬ (false = true) by decide), oBs]
  simp only [blkLoop_g n]
def prmItem (c : PC) : PI := fun s => (nameN c s).bind fun m => nodeS 22 m.1 0 [] m.2
theorem parLoop_g {c : PC} : ∀ (n : Nat) (ks : List Int) (st : PSt), parLoop c n ks st = gLoop c (fun n => decide (n > 0)) ⟨#[41]⟩ (prmItem c) n ks st
 | 0, _, _ => rfl
 | n + 1, ks, st => by
  rw [parLoop, gLoop]
  unfold prmItem
  simp only [decide_eq_true_eq, Option.bind_assoc, parLoop_g n]
  rfl
theorem dG {c : PC} {cm : Nat → Bool} {t : ByteArray} {item : PI} {st : PSt} (h : Dc st) : ∀ (n : Nat) (ks : List Int), Wn D2 (gLoop c cm t item n ks st)
 | 0, _ => wN
 | n + 1, ks => by rw [gLoop]; exact wI (fun z => absurd z.1 h) fun _ => wS h
theorem dParItem {c : PC} : Dd (prmItem c) := fun st h => wB (dName h) fun m hm => dNode hm
theorem shp9 {kk : List Int} (h0 : 0 < kk.length) (h : ∀ x ∈ kk, clsOk 1 x = true) : shP 9 kk = true := by
 rw [← kids_shape (by decide) (by decide)]
 show (decide (0 < kk.length) && kk.all isEx) = true
 rw [decide_eq_true h0, Bool.true_and, List.all_eq_true]
 exact fun x hx => by rw [← cls_ex]; exact h x hx
theorem shp7 {kk : List Int} (h : ∀ x ∈ kk, clsOk 5 x = true) : shP 7 kk = true := by
 rw [← kids_shape (by decide) (by decide)]
 show (kk.all fun k => k == 23 || k == 24) = true
 rw [List.all_eq_true]
 exact fun x hx => by rw [← cls_fi]; exact h x hx
theorem shp21 {kk : List Int} (h : ∀ x ∈ kk, clsOk 2 x = true) : shP 21 kk = true := by
 rw [← kids_shape (by decide) (by decide)]
 show kk.all isSt = true
 rw [List.all_eq_true]
 exact fun x hx => by rw [← cls_st]; exact h x hx
theorem shp6 {kk : List Int} {y : Int} (h : ∀ x ∈ kk, clsOk 4 x = true) (hy : clsOk 3 y = true) : shP 6 (kk ++ [y]) = true := by
 rw [← kids_shape (by decide) (by decide)]
 show (decide (0 < (kk ++ [y]).length) && ((kk ++ [y]).dropLast.all (· == 22) && (kk ++ [y]).getLast? == some 21)) = true
 rw [cls_bl] at hy
 have hy' : y = 21 := by unfold isBl at hy; simpa using hy
 subst hy'
 rw [List.dropLast_concat, List.getLast?_concat, decide_eq_true (by simp), Bool.true_and, beq_self_eq_true, Bool.and_true, List.all_eq_true]
 exact fun x hx => by rw [← cls_pr]; exact h x hx
section
variable {c c' : PC} {q : Nat} {bs : List Kn} (w : Tw c c' q bs)
theorem Hp.weak {cl : Int} {d e : Nat} {m m' : PI} (h : Hp c c' q bs true cl d e m m') : Hp c c' q bs false cl d e m m' := fun st r l x => by
 rcases h st r l x with a | ⟨R, E⟩
 ·exact .inl a
 ·exact .inr ⟨R, fun _ => E (.inl rfl)⟩
include w
theorem comma_sh {p : Bool} {t : ByteArray} {st s : PSt} (l : Ls c st) (e : (if p = true then wantP c t st else some st) = some s) :
  Dc s ∨ (s.nodes = st.nodes ∧ ((p = true ∧ s.at' = st.at' + 1) ∨ (p = false ∧ s.at' = st.at')) ∧ Ls c s ∧ (∀ (st0 : PSt) (lo : Nat) (ks : List Int), Lr c st0 lo ks st → Lr c st0 lo ks s) ∧ (if p = true then wantP c' t (shS q bs st) else some (shS q bs st)) = some (shS q bs s)) := by
 cases p with
 | false =>
  rw [if_neg (by decide)] at e ⊢
  cases e
  exact .inr ⟨rfl, .inr ⟨rfl, rfl⟩, l, fun _ _ _ x => x, rfl⟩
 | true =>
  rw [if_pos rfl] at e ⊢
  rcases want_sh w l e with d | ⟨lt, rfl, E⟩
  ·exact .inl d
  ·exact .inr ⟨rfl, .inl ⟨rfl, rfl⟩, l.stp lt, fun _ _ _ x => x.stp lt, E⟩
theorem hLoop {cm : Nat → Bool} {t : ByteArray} {item item' : PI} {cl : Int} {d e : Nat} (hi : Hp c c' q bs false cl d e item item') (di : Dd item) (he : e = 0 ∨ (e = 1 ∧ ∀ n, 0 < n → cm n = true)) {st : PSt} (d0 : Nat) :
  ∀ (n : Nat) (ks : List Int) (s : PSt) (r : List Int × PSt), Lr c st st.nodes.length ks s → (∀ k ∈ ks, clsOk cl (kd s.nodes k) = true) → s.nodes.length + st.at' + (if ks.length = 0 then e else 0) + d0 ≤ st.nodes.length + s.at' →
   gLoop c cm t item n ks s = some r →
   Dc r.2 ∨ (Lr c st st.nodes.length r.1 r.2 ∧ (∀ k ∈ r.1, clsOk cl (kd r.2.nodes k) = true) ∧ ks.length ≤ r.1.length ∧ r.2.nodes.length + st.at' + d0 ≤ st.nodes.length + r.2.at' ∧ s.at' ≤ r.2.at' ∧
    (r.2.at' < c.toks.length → gLoop c' cm t item' n (ks.map (· + (bs.length : Int))) (shS q bs s) = some (r.1.map (· + (bs.length : Int)), shS q bs r.2)))
 | 0, _, _, _, _, _, _, x => by cases x
 | n + 1, ks, s, r, X, hk, ct, x => by
  have ls := X.ls
  rw [gLoop] at x
  by_cases h : s.code = 0 ∧ isP c s t = false
  ·rw [if_pos h] at x
   obtain ⟨s1, e1, x⟩ := bnd x
   rcases comma_sh w ls e1 with dd | ⟨hn, ha, l1, tr, E1⟩
   ·exact .inl (wB (di s1 dd) (fun y hy => wI (fun _ => wN) fun _ => dG hy n _) r x)
   obtain ⟨y, e2, x⟩ := bnd x
   by_cases hl : ks.length > 1000000
   ·rw [if_pos hl] at x; cases x
   rw [if_neg hl] at x
   rcases hi _ _ l1 e2 with dd | ⟨R, E2⟩
   ·exact .inl (dG (st := y.2) dd n _ r x)
   ·have X1 := tr _ _ _ X
    have X2 := X1.snoc R.lr
    have lt := R.lt; have ctr := R.ct
    rw [hn] at ctr
    have hl0 : (ks ++ [y.1]).length ≠ 0 := by simp
    have key : y.2.nodes.length + st.at' + (if (ks ++ [y.1]).length = 0 then e else 0) + d0 ≤ st.nodes.length + y.2.at' := by
     rw [if_neg hl0]
     by_cases hz : ks.length = 0
     ·rw [if_pos hz] at ct
      rcases ha with ⟨_, a⟩ | ⟨_, a⟩ <;> omega
     ·rw [if_neg hz] at ct
      rcases he with rfl | ⟨rfl, hcm⟩
      ·rcases ha with ⟨_, a⟩ | ⟨_, a⟩ <;> omega
      ·rcases ha with ⟨_, a⟩ | ⟨b, a⟩
       ·omega
       ·rw [hcm _ (by omega)] at b; cases b
    have hk2 : ∀ k ∈ ks ++ [y.1], clsOk cl (kd y.2.nodes k) = true := fun k hk' => by
     rcases List.mem_append.1 hk' with a | a
     ·rw [X1.kd R.lr k a, hn]; exact hk k a
     ·obtain rfl := List.mem_singleton.1 a; exact R.cls
    rcases hLoop hi di he d0 n _ _ r X2 hk2 key x with dd | ⟨Y, yk, yl, yc, ya, E3⟩
    ·exact .inl dd
    ·have sa : s.at' ≤ s1.at' := by rcases ha with ⟨_, a⟩ | ⟨_, a⟩ <;> omega
     refine .inr ⟨Y, yk, by simp at yl; omega, yc, by omega, fun hz => ?_⟩
     have lts : s.at' < c.toks.length := by omega
     rw [gLoop, if_pos (show (shS q bs s).code = 0 ∧ _ from ⟨ls.code, by rw [isP_sh w ls lts]; exact h.2⟩), List.length_map, E1, oBs, E2 (.inr (by omega)), oBs, if_neg hl]
     have := E3 hz
     rw [List.map_append] at this
     exact this
  ·rw [if_neg h] at x
   cases x
   refine .inr ⟨X, hk, Nat.le_refl _, by show s.nodes.length + st.at' + d0 ≤ st.nodes.length + s.at'; split at ct <;> omega, Nat.le_refl _, fun hz => ?_⟩
   rw [gLoop, if_neg (fun a => h ⟨ls.code, by rw [← isP_sh w ls hz]; exact a.2⟩)]
theorem hParItem : Hp c c' q bs false 4 0 0 (prmItem c) (prmItem c') := by
 intro st r l e
 unfold prmItem at e
 obtain ⟨⟨t, s⟩, e1, e⟩ := bnd e
 rcases name_sh w l e1 with dd | ⟨lt, rfl, np, _, E1⟩
 ·exact .inl (dNode (st := s) dd r e)
 ·have X := (Lr.start l).stp lt
  obtain ⟨rfl, n2⟩ := node_sh w X.ls e
  have hs : (YtajpnemfppaafaaGreat.stp st).at' = st.at' + 1 := rfl
  refine .inr ⟨RI.put X ?_ (by decide) rfl (by decide) (by omega) (by show st.nodes.length + 1 + st.at' + 0 ≤ st.nodes.length + (st.at' + 1) + 0; omega) (by decide) (fun z => absurd z (by decide)) l, fun hz => ?_⟩
  ·show (nameP t && (0 : Int) == 0) = true
   rw [np]; rfl
  ·unfold prmItem
   rw [E1, oBs]
   exact n2
theorem hSuf {ex ex' : PI} (h : Hp c c' q bs false 1 0 0 ex ex') (dx : Dd ex) {N : Nat} {st : PSt} (l : Ls c st) :
  ∀ (n : Nat) (a : Int) (s : PSt) (r : Int × PSt), RI c 1 0 0 st (a, s) → sufLoop c ex N n a s = some r →
   Dc r.2 ∨ (RI c 1 0 0 st r ∧ s.at' ≤ r.2.at' ∧ (r.2.at' < c.toks.length → sufLoop c' ex' N n (a + (bs.length : Int)) (shS q bs s) = some (r.1 + (bs.length : Int), shS q bs r.2)))
 | 0, _, _, _, _, e => by cases e
 | n + 1, a, s, r, R, e => by
  have ls : Ls c s := R.lr.ls
  have Rs : Lr c st st.nodes.length [a] s := R.lr
  have lt1 : st.at' < s.at' := R.lt
  have ct1 : s.nodes.length + st.at' + 0 ≤ st.nodes.length + s.at' + 0 := R.ct
  have c1 : clsOk 1 (kd s.nodes a) = true := R.cls
  have hs : (YtajpnemfppaafaaGreat.stp s).at' = s.at' + 1 := rfl
  have hn : (YtajpnemfppaafaaGreat.stp s).nodes = s.nodes := rfl
  rw [sufLoop, if_pos ls.code] at e
  by_cases i1 : isP c s ⟨#[40]⟩ = true
  ·rw [if_pos i1] at e
   have lt := (isP_live i1).2
   obtain ⟨s1, e1, e⟩ := bnd e
   obtain ⟨rfl, a1⟩ := adv_sh w ls e1
   obtain ⟨y, e2, e⟩ := bnd e
   have e2' := e2
   rw [callLoop_g] at e2'
   rcases hLoop w h dx (.inl rfl) (st := st) 1 N [a] _ y (Rs.stp lt) (fun k hk => by obtain rfl := List.mem_singleton.1 hk; exact c1) (by rw [if_neg (by simp), hs, hn]; omega) e2' with dd | ⟨Y, yk, yl, yc, ya, E2⟩
   ·exact .inl (wB (dWant (st := y.2) dd _) (fun s hs => wB (dNode hs) fun x hx => dSuf hx n _) r e)
   obtain ⟨s3, e1003, e⟩ := bnd e
   rcases want_sh w Y.ls e1003 with dd | ⟨lt3, rfl, E3⟩
   ·exact .inl (wB (dNode (st := s3) dd) (fun x hx => dSuf hx n _) r e)
   obtain ⟨x, e1004, e⟩ := bnd e
   have X := Y.stp lt3
   obtain ⟨rfl, n4⟩ := node_sh w X.ls e1004
   have hs3 : (YtajpnemfppaafaaGreat.stp y.2).at' = y.2.at' + 1 := rfl
   have hn3 : (YtajpnemfppaafaaGreat.stp y.2).nodes = y.2.nodes := rfl
   have NR : RI c 1 0 0 st (((YtajpnemfppaafaaGreat.stp y.2).nodes.length : Int), putN 9 E0 0 y.1 (YtajpnemfppaafaaGreat.stp y.2)) := by
    refine RI.put X (has0 rfl) (by decide) (shp9 (by rw [List.length_map]; simp at yl; omega) (fun k hk => ?_)) (by decide) (by omega) (by rw [hs3, hn3]; omega) (by decide) (fun _ => by rw [hs3, hn3]; omega) l
    obtain ⟨j, hj, rfl⟩ := List.mem_map.1 hk
    exact yk j hj
   rcases hSuf h dx l n _ _ r NR e with dd | ⟨R5, m5, E5⟩
   ·exact .inl dd
   ·have m5' : y.2.at' + 1 ≤ r.2.at' := m5
    refine .inr ⟨R5, by omega, fun hz => ?_⟩
    have E2' := E2 (by omega)
    rw [← callLoop_g] at E2'
    rw [sufLoop, if_pos (show (shS q bs s).code = 0 from ls.code), isP_sh w ls lt, if_pos i1, a1, oBs]
    rw [show ([a + (bs.length : Int)] : List Int) = [a].map (· + (bs.length : Int)) from rfl, E2', oBs, E3, oBs, n4, oBs]
    exact E5 hz
  rw [if_neg i1] at e
  by_cases i2 : isP c s ⟨#[91]⟩ = true
  ·rw [if_pos i2] at e
   have lt := (isP_live i2).2
   obtain ⟨s1, e1, e⟩ := bnd e
   obtain ⟨rfl, a1⟩ := adv_sh w ls e1
   obtain ⟨y, e2, e⟩ := bnd e
   rcases h _ _ (ls.stp lt) e2 with dd | ⟨R2, E2⟩
   ·exact .inl (wB (dWant (st := y.2) dd _) (fun s hs => wB (dNode hs) fun x hx => dSuf hx n _) r e)
   obtain ⟨s3, e1003, e⟩ := bnd e
   rcases want_sh w R2.lr.ls e1003 with dd | ⟨lt3, rfl, E3⟩
   ·exact .inl (wB (dNode (st := s3) dd) (fun x hx => dSuf hx n _) r e)
   obtain ⟨x, e1004, e⟩ := bnd e
   have X0 := (Rs.stp lt).snoc R2.lr
   have X := X0.stp lt3
   obtain ⟨rfl, n4⟩ := node_sh w X.ls e1004
   have hs3 : (YtajpnemfppaafaaGreat.stp y.2).at' = y.2.at' + 1 := rfl
   have hn3 : (YtajpnemfppaafaaGreat.stp y.2).nodes = y.2.nodes := rfl
   have ka : kd y.2.nodes a = kd s.nodes a := (Rs.stp lt).kd R2.lr a (by simp)
   have lt2 := R2.lt; have ct2 := R2.ct
   rw [hs] at lt2 ct2; rw [hn] at ct2
   have NR : RI c 1 0 0 st (((YtajpnemfppaafaaGreat.stp y.2).nodes.length : Int), putN 8 E0 0 [a, y.1] (YtajpnemfppaafaaGreat.stp y.2)) :=
    RI.put X (has0 rfl) (by decide) (sh2 (.inl rfl) (by rw [hn3, ka]; exact c1) R2.cls) (by decide) (by omega) (by rw [hs3, hn3]; omega) (by decide) (fun z => absurd z (by decide)) l
   rcases hSuf h dx l n _ _ r NR e with dd | ⟨R5, m5, E5⟩
   ·exact .inl dd
   ·have m5' : y.2.at' + 1 ≤ r.2.at' := m5
    refine .inr ⟨R5, by omega, fun hz => ?_⟩
    have n4' : nodeS 8 E0 0 [a + (bs.length : Int), y.1 + (bs.length : Int)] (shS q bs (YtajpnemfppaafaaGreat.stp y.2)) = _ := n4
    rw [sufLoop, if_pos (show (shS q bs s).code = 0 from ls.code), isP_sh w ls lt, isP_sh w ls lt, if_neg i1, if_pos i2, a1, oBs, E2 (.inr lt3), oBs, E3, oBs, n4', oBs]
    exact E5 hz
  rw [if_neg i2] at e
  by_cases i3 : isP c s ⟨#[46]⟩ = true
  ·rw [if_pos i3] at e
   have lt := (isP_live i3).2
   obtain ⟨s1, e1, e⟩ := bnd e
   obtain ⟨rfl, a1⟩ := adv_sh w ls e1
   obtain ⟨⟨t, s2⟩, e2, e⟩ := bnd e
   rcases name_sh w (ls.stp lt) e2 with dd | ⟨lt2, rfl, _, tp, E2⟩
   ·exact .inl (wB (dNode (st := s2) dd) (fun s hs => wB (dNode hs) fun x hx => dSuf hx n _) r e)
   obtain ⟨k, e1003, e⟩ := bnd e
   have K0 := (Lr.start (ls.stp lt)).stp lt2
   obtain ⟨rfl, n3⟩ := node_sh w K0.ls e1003
   have hs2 : (YtajpnemfppaafaaGreat.stp (YtajpnemfppaafaaGreat.stp s)).at' = s.at' + 2 := rfl
   have hn2 : (YtajpnemfppaafaaGreat.stp (YtajpnemfppaafaaGreat.stp s)).nodes = s.nodes := rfl
   have KR : RI c 1 0 0 (YtajpnemfppaafaaGreat.stp s) (((YtajpnemfppaafaaGreat.stp (YtajpnemfppaafaaGreat.stp s)).nodes.length : Int), putN 4 t 0 [] (YtajpnemfppaafaaGreat.stp (YtajpnemfppaafaaGreat.stp s))) := by
    refine RI.put K0 ?_ (by decide) rfl (by decide) (by rw [hs, hs2]; omega) (by rw [hs, hs2, hn, hn2]; omega) (by decide) (fun z => absurd z (by decide)) (ls.stp lt)
    show (textP t && (0 : Int) == 0) = true
    rw [tp]; rfl
   obtain ⟨x, e1004, e⟩ := bnd e
   have X := (Rs.stp lt).snoc KR.lr
   obtain ⟨rfl, n4⟩ := node_sh w X.ls e1004
   have ka : kd (putN 4 t 0 [] (YtajpnemfppaafaaGreat.stp (YtajpnemfppaafaaGreat.stp s))).nodes a = kd s.nodes a := (Rs.stp lt).kd KR.lr a (by simp)
   have hl3 : (putN 4 t 0 [] (YtajpnemfppaafaaGreat.stp (YtajpnemfppaafaaGreat.stp s))).nodes.length = s.nodes.length + 1 := put_len
   have ha3 : (putN 4 t 0 [] (YtajpnemfppaafaaGreat.stp (YtajpnemfppaafaaGreat.stp s))).at' = s.at' + 2 := rfl
   generalize hq : putN 4 t 0 [] (YtajpnemfppaafaaGreat.stp (YtajpnemfppaafaaGreat.stp s)) = s3 at *
   have NR : RI c 1 0 0 st ((s3.nodes.length : Int), putN 8 E0 0 [a, ((YtajpnemfppaafaaGreat.stp (YtajpnemfppaafaaGreat.stp s)).nodes.length : Int)] s3) :=
    RI.put X (has0 rfl) (by decide) (sh2 (.inl rfl) (by rw [ka]; exact c1) KR.cls) (by decide) (by omega) (by omega) (by decide) (fun z => absurd z (by decide)) l
   rcases hSuf h dx l n _ _ r NR e with dd | ⟨R5, m5, E5⟩
   ·exact .inl dd
   ·have m5' : s3.at' ≤ r.2.at' := m5
    refine .inr ⟨R5, by omega, fun hz => ?_⟩
    have n3' : nodeS 4 t 0 [] (shS q bs (YtajpnemfppaafaaGreat.stp (YtajpnemfppaafaaGreat.stp s))) = _ := n3
    have n4' : nodeS 8 E0 0 [a + (bs.length : Int), ((YtajpnemfppaafaaGreat.stp (YtajpnemfppaafaaGreat.stp s)).nodes.length : Int) + (bs.length : Int)] (shS q bs s3) = _ := n4
    rw [sufLoop, if_pos (show (shS q bs s).code = 0 from ls.code), isP_sh w ls lt, isP_sh w ls lt, isP_sh w ls lt, if_neg i1, if_neg i2, if_pos i3, a1, oBs, E2, oBs, n3', oBs, n4', oBs]
    exact E5 hz
  rw [if_neg i3] at e
  cases e
  refine .inr ⟨R, Nat.le_refl _, fun hz => ?_⟩
  rw [sufLoop, if_pos (show (shS q bs s).code = 0 from ls.code), isP_sh w ls hz, isP_sh w ls hz, isP_sh w ls hz, if_neg i1, if_neg i2, if_neg i3]
theorem hSuffix {n : Nat} {prim prim' ex ex' : PI} (h1 : Hp c c' q bs false 1 0 0 prim prim') (h : Hp c c' q bs false 1 0 0 ex ex') (dx : Dd ex) : Hp c c' q bs false 1 0 0 (suffixS c prim ex n) (suffixS c' prim' ex' n) := by
 intro st r l e
 unfold suffixS at e
 obtain ⟨a, e1, e⟩ := bnd e
 rcases h1 _ _ l e1 with dd | ⟨R, E⟩
 ·exact .inl (dSuf (st := a.2) dd n _ r e)
 ·rcases hSuf w h dx l n _ _ r R e with dd | ⟨R2, m2, E2⟩
  ·exact .inl dd
  ·refine .inr ⟨R2, fun hz => ?_⟩
   have hz' : r.2.at' < c.toks.length := hz.resolve_left (by decide)
   unfold suffixS
   rw [E (.inr (by omega)), oBs]
   exact E2 hz'
theorem hFn {n : Nat} {block block' : PI} (h : Hp c c' q bs true 3 1 0 block block') (db : Dd block) : Hp c c' q bs true 1 0 0 (fnS c block n) (fnS c' block' n) := by
 intro st r l e
 unfold fnS at e
 obtain ⟨s1, e1, e⟩ := bnd e
 rcases want_sh w l e1 with dd | ⟨lt, rfl, E1⟩
 ·exact .inl (wB (dPar (st := s1) dd n []) (fun l hl => wB (dWant hl _) fun s hs => wB (db _ hs) fun b hb => wI (fun _ => wN) fun _ => dNode hb) r e)
 obtain ⟨y, e2, e⟩ := bnd e
 have e2' := e2
 rw [parLoop_g] at e2'
 have hs : (YtajpnemfppaafaaGreat.stp st).at' = st.at' + 1 := rfl
 have hn : (YtajpnemfppaafaaGreat.stp st).nodes = st.nodes := rfl
 rcases hLoop w (hParItem w) dParItem (.inl rfl) (st := st) 1 n [] _ y ((Lr.start l).stp lt) (fun k hk => by cases hk) (by rw [if_pos (show ([] : List Int).length = 0 from rfl), hs, hn]; omega) e2' with dd | ⟨Y, yk, _, yc, ya, E2⟩
 ·exact .inl (wB (dWant (st := y.2) dd _) (fun s hs => wB (db _ hs) fun b hb => wI (fun _ => wN) fun _ => dNode hb) r e)
 obtain ⟨s3, e1003, e⟩ := bnd e
 rcases want_sh w Y.ls e1003 with dd | ⟨lt3, rfl, E3⟩
 ·exact .inl (wB (db s3 dd) (fun b hb => wI (fun _ => wN) fun _ => dNode hb) r e)
 obtain ⟨b, e1004, e⟩ := bnd e
 by_cases hl : y.1.length > 1000000
 ·rw [if_pos hl] at e; cases e
 rw [if_neg hl] at e
 have X0 := Y.stp lt3
 rcases h _ _ X0.ls e1004 with dd | ⟨R4, E4⟩
 ·exact .inl (dNode (st := b.2) dd r e)
 have X := X0.snoc R4.lr
 obtain ⟨rfl, n5⟩ := node_sh w X.ls e
 have hs3 : (YtajpnemfppaafaaGreat.stp y.2).at' = y.2.at' + 1 := rfl
 have hn3 : (YtajpnemfppaafaaGreat.stp y.2).nodes = y.2.nodes := rfl
 have lt4 := R4.lt; have ct4 := R4.ct
 rw [hs3] at lt4 ct4; rw [hn3] at ct4
 refine .inr ⟨RI.put X (has0 rfl) (by decide) ?_ (by decide) (by omega) (by omega) (by decide) (fun z => absurd z (by decide)) l, fun hz => ?_⟩
 ·rw [List.map_append]
  refine shp6 (fun k hk => ?_) R4.cls
  obtain ⟨j, hj, rfl⟩ := List.mem_map.1 hk
  rw [X0.kd R4.lr j hj]; exact yk j hj
 ·have E2' := E2 lt3
  rw [← parLoop_g] at E2'
  unfold fnS
  rw [E1, oBs, show ([] : List Int) = [].map (· + (bs.length : Int)) from rfl, E2', oBs, E3, oBs, E4 (.inl rfl), oBs, List.length_map, if_neg hl]
  have := n5
  rw [List.map_append] at this
  exact this
theorem hTable {n : Nat} {field field' : PI} (h : Hp c c' q bs false 5 0 1 field field') (df : Dd field) {st0 : PSt} (l0 : Ls c st0) (lt0 : st0.at' < c.toks.length) {r : Int × PSt} (e : tableS c field n (stp st0) = some r) :
  Dc r.2 ∨ (RI c 1 0 0 st0 r ∧ tableS c' field' n (shS q bs (stp st0)) = some (r.1 + (bs.length : Int), shS q bs r.2)) := by
 unfold tableS at e
 obtain ⟨y, e2, e⟩ := bnd e
 have e2' := e2
 rw [tabLoop_g] at e2'
 have hs : (YtajpnemfppaafaaGreat.stp st0).at' = st0.at' + 1 := rfl
 have hn : (YtajpnemfppaafaaGreat.stp st0).nodes = st0.nodes := rfl
 rcases hLoop w h df (.inr ⟨rfl, fun n hn => decide_eq_true hn⟩) (st := st0) 0 n [] _ y ((Lr.start l0).stp lt0) (fun k hk => by cases hk) (by rw [if_pos (show ([] : List Int).length = 0 from rfl), hs, hn]; omega) e2' with dd | ⟨Y, yk, _, yc, ya, E2⟩
 ·exact .inl (wB (dWant (st := y.2) dd _) (fun s hs => dNode hs) r e)
 obtain ⟨s3, e1003, e⟩ := bnd e
 rcases want_sh w Y.ls e1003 with dd | ⟨lt3, rfl, E3⟩
 ·exact .inl (dNode (st := s3) dd r e)
 have X := Y.stp lt3
 obtain ⟨rfl, n5⟩ := node_sh w X.ls e
 have hs3 : (YtajpnemfppaafaaGreat.stp y.2).at' = y.2.at' + 1 := rfl
 have hn3 : (YtajpnemfppaafaaGreat.stp y.2).nodes = y.2.nodes := rfl
 refine .inr ⟨RI.put X (has0 rfl) (by decide) (shp7 (fun k hk => ?_)) (by decide) (by omega) (by rw [hs3, hn3]; omega) (by decide) (fun z => absurd z (by decide)) l0, ?_⟩
 ·obtain ⟨j, hj, rfl⟩ := List.mem_map.1 hk
  exact yk j hj
 ·have E2' := E2 lt3
  rw [← tabLoop_g] at E2'
  unfold tableS
  rw [show ([] : List Int) = [].map (· + (bs.length : Int)) from rfl, E2', oBs, E3, oBs]
  exact n5
theorem hField {ex ex' : PI} (h : Hp c c' q bs false 1 0 0 ex ex') (dx : Dd ex) : Hp c c' q bs false 5 0 1 (fieldS c ex) (fieldS c' ex') := by
 intro st r l e
 unfold fieldS at e
 by_cases i1 : isP c st ⟨#[91]⟩ = true
 ·rw [if_pos i1] at e
  have lt := (isP_live i1).2
  have hs : (YtajpnemfppaafaaGreat.stp st).at' = st.at' + 1 := rfl
  have hn : (YtajpnemfppaafaaGreat.stp st).nodes = st.nodes := rfl
  obtain ⟨s1, e1, e⟩ := bnd e
  obtain ⟨rfl, a1⟩ := adv_sh w l e1
  obtain ⟨k, e2, e⟩ := bnd e
  rcases h _ _ (l.stp lt) e2 with dd | ⟨R2, E2⟩
  ·exact .inl (wB (dWant (st := k.2) dd _) (fun s hs => wB (dWant hs _) fun s hs => wB (dx _ hs) fun e he => dNode he) r e)
  obtain ⟨s3, e1003, e⟩ := bnd e
  rcases want_sh w R2.lr.ls e1003 with dd | ⟨lt3, rfl, E3⟩
  ·exact .inl (wB (dWant (st := s3) dd _) (fun s hs => wB (dx _ hs) fun e he => dNode he) r e)
  have X3 := (((Lr.start l).stp lt).snoc R2.lr).stp lt3
  obtain ⟨s4, e1004, e⟩ := bnd e
  rcases want_sh w X3.ls e1004 with dd | ⟨lt4, rfl, E4⟩
  ·exact .inl (wB (dx s4 dd) (fun e he => dNode he) r e)
  have X4 := X3.stp lt4
  obtain ⟨v, e1005, e⟩ := bnd e
  rcases h _ _ X4.ls e1005 with dd | ⟨R5, E5⟩
  ·exact .inl (dNode (st := v.2) dd r e)
  have X := X4.snoc R5.lr
  obtain ⟨rfl, n6⟩ := node_sh w X.ls e
  have lt2 := R2.lt; have ct2 := R2.ct; have lt5 := R5.lt; have ct5 := R5.ct
  have h4 : (YtajpnemfppaafaaGreat.stp (YtajpnemfppaafaaGreat.stp k.2)).at' = k.2.at' + 2 := rfl
  have h4n : (YtajpnemfppaafaaGreat.stp (YtajpnemfppaafaaGreat.stp k.2)).nodes = k.2.nodes := rfl
  rw [hs] at lt2 ct2; rw [hn] at ct2; rw [h4] at lt5 ct5; rw [h4n] at ct5
  have ka : kd v.2.nodes k.1 = kd k.2.nodes k.1 := X4.kd R5.lr k.1 (by simp)
  refine .inr ⟨RI.put X (has0 rfl) (by decide) (sh2 (by decide) (by rw [ka]; exact R2.cls) R5.cls) (by decide) (by omega) (by omega) (by decide) (fun z => absurd z (by decide)) l, fun hz => ?_⟩
  have hz' : v.2.at' < c.toks.length := hz.resolve_left (by decide)
  unfold fieldS
  rw [isP_sh w l lt, if_pos i1, a1, oBs, E2 (.inr lt3), oBs, E3, oBs, E4, oBs, E5 (.inr hz'), oBs]
  exact n6
 rw [if_neg i1] at e
 by_cases i2 : (pk c st).k = 1 ∧ st.at' > 1000000
 ·rw [if_pos i2] at e; cases e
 rw [if_neg i2] at e
 have i2' : ¬ ((shS q bs st).at' > 1000000) := by
  have := l.le; have := w.n; have := w.q
  show ¬ (q + st.at' > 1000000); omega
 by_cases i3 : (pk c st).k = 1 ∧ eqNext c st = true
 ·rw [if_pos i3] at e
  have lt1 := eqNext_lt i3.2
  have lt : st.at' < c.toks.length := by omega
  have hs : (YtajpnemfppaafaaGreat.stp st).at' = st.at' + 1 := rfl
  obtain ⟨⟨t, s1⟩, e1, e⟩ := bnd e
  rcases name_sh w l e1 with dd | ⟨_, rfl, _, tp, E1⟩
  ·exact .inl (wB (dAdv (st := s1) dd 1) (fun s hs => wB (dNode hs) fun k hk => wB (dx _ hk) fun e he => dNode he) r e)
  obtain ⟨s2, e2, e⟩ := bnd e
  obtain ⟨rfl, a2⟩ := adv_sh w (l.stp lt) e2
  obtain ⟨k, e1003, e⟩ := bnd e
  have K0 := ((Lr.start l).stp lt).stp (by rw [hs]; exact lt1)
  obtain ⟨rfl, n3⟩ := node_sh w K0.ls e1003
  have hs2 : (YtajpnemfppaafaaGreat.stp (YtajpnemfppaafaaGreat.stp st)).at' = st.at' + 2 := rfl
  have hn2 : (YtajpnemfppaafaaGreat.stp (YtajpnemfppaafaaGreat.stp st)).nodes = st.nodes := rfl
  have KR : RI c 1 0 0 st (((YtajpnemfppaafaaGreat.stp (YtajpnemfppaafaaGreat.stp st)).nodes.length : Int), putN 4 t 0 [] (YtajpnemfppaafaaGreat.stp (YtajpnemfppaafaaGreat.stp st))) := by
   refine RI.put K0 ?_ (by decide) rfl (by decide) (by rw [hs2]; omega) (by rw [hs2, hn2]; omega) (by decide) (fun z => absurd z (by decide)) l
   show (textP t && (0 : Int) == 0) = true
   rw [tp]; rfl
  obtain ⟨v, e1005, e⟩ := bnd e
  rcases h _ _ KR.lr.ls e1005 with dd | ⟨R5, E5⟩
  ·exact .inl (dNode (st := v.2) dd r e)
  have X := KR.lr.snoc R5.lr
  obtain ⟨rfl, n6⟩ := node_sh w X.ls e
  have lt5 := R5.lt; have ct5 := R5.ct
  have hl3 : (putN 4 t 0 [] (YtajpnemfppaafaaGreat.stp (YtajpnemfppaafaaGreat.stp st))).nodes.length = st.nodes.length + 1 := put_len
  have ha3 : (putN 4 t 0 [] (YtajpnemfppaafaaGreat.stp (YtajpnemfppaafaaGreat.stp st))).at' = st.at' + 2 := rfl
  rw [ha3] at lt5 ct5; rw [hl3] at ct5
  have ka := KR.lr.kd R5.lr ((YtajpnemfppaafaaGreat.stp (YtajpnemfppaafaaGreat.stp st)).nodes.length : Int) (by simp)
  have kc : clsOk 1 (kd v.2.nodes ((YtajpnemfppaafaaGreat.stp (YtajpnemfppaafaaGreat.stp st)).nodes.length : Int)) = true := by rw [ka]; exact KR.cls
  refine .inr ⟨RI.put X (has0 rfl) (by decide) (sh2 (by decide) kc R5.cls) (by decide) (by omega) (by omega) (by decide) (fun z => absurd z (by decide)) l, fun hz => ?_⟩
  have hz' : v.2.at' < c.toks.length := hz.resolve_left (by decide)
  have n3' : nodeS 4 t 0 [] (shS q bs (YtajpnemfppaafaaGreat.stp (YtajpnemfppaafaaGreat.stp st))) = _ := n3
  unfold fieldS
  rw [isP_sh w l lt, if_neg i1, if_neg (fun z => i2' z.2), pk_k w l lt, eqNext_sh w lt1, if_pos i3, E1, oBs, a2, oBs, n3', oBs, E5 (.inr hz'), oBs]
  exact n6
 rw [if_neg i3] at e
 obtain ⟨v, e1005, e⟩ := bnd e
 rcases h _ _ l e1005 with dd | ⟨R5, E5⟩
 ·exact .inl (dNode (st := v.2) dd r e)
 have X := (Lr.start l).snoc R5.lr
 obtain ⟨rfl, n6⟩ := node_sh w X.ls e
 have lt5 := R5.lt; have ct5 := R5.ct
 refine .inr ⟨RI.put X (has0 rfl) (by decide) (sh1 (by decide) R5.cls) (by decide) lt5 (by omega) (by decide) (fun z => absurd z (by decide)) l, fun hz => ?_⟩
 have hz' : v.2.at' < c.toks.length := hz.resolve_left (by decide)
 have lt1 : st.at' + 1 < c.toks.length := by omega
 have lt : st.at' < c.toks.length := by omega
 unfold fieldS
 rw [isP_sh w l lt, if_neg i1, if_neg (fun z => i2' z.2), pk_k w l lt, eqNext_sh w lt1, if_neg i3, E5 (.inr hz'), oBs]
 exact n6
theorem hPrimary {ex ex' fn fn' table table' : PI} (h1 : Hp c c' q bs false 1 0 0 ex ex') (h2 : Hp c c' q bs true 1 0 0 fn fn')
  (h3 : ∀ (st0 : PSt) (r : Int × PSt), Ls c st0 → st0.at' < c.toks.length → table (stp st0) = some r → Dc r.2 ∨ (RI c 1 0 0 st0 r ∧ table' (shS q bs (stp st0)) = some (r.1 + (bs.length : Int), shS q bs r.2))) :
  Hp c c' q bs true 1 0 0 (primaryS c ex fn table) (primaryS c' ex' fn' table') := by
 intro st r l e
 have leaf : ∀ {k i : Int} {t : ByteArray}, st.at' < c.toks.length → nodeS k t i [] (stp st) = some r → hasP ⟨k, t, i, []⟩ = true → (1 ≤ k ∧ k ≤ 24) → shP k [] = true → clsOk 1 k = true → k ≠ 9 →
   RI c 1 0 0 st r ∧ nodeS k t i [] (shS q bs (stp st)) = some (r.1 + (bs.length : Int), shS q bs r.2) := fun lt e a1 a2 a3 a4 a5 => by
  have X := (Lr.start l).stp lt
  obtain ⟨rfl, n6⟩ := node_sh w X.ls e
  exact ⟨RI.put X a1 a2 a3 a4 (by show st.at' < st.at' + 1; omega) (by show st.nodes.length + 1 + st.at' + 0 ≤ st.nodes.length + (st.at' + 1) + 0; omega) (by decide) (fun z => absurd z a5) l, n6⟩
 unfold primaryS at e
 by_cases i1 : (pk c st).k = 3
 ·have lt := pk_out l (show (pk c st).k ≠ 0 by omega)
  rw [if_pos i1] at e
  obtain ⟨s1, e1, e⟩ := bnd e
  obtain ⟨rfl, a1⟩ := adv_sh w l e1
  obtain ⟨R, E⟩ := leaf lt e (by show (emp E0 && inR (pk c st).i 0 999999999999999) = true; rw [emp0, gt3 (pk_good w l lt) i1]; rfl) (by decide) (by decide) (by decide) (by decide)
  refine .inr ⟨R, fun _ => ?_⟩
  unfold primaryS
  rw [pk_k w l lt, pk_i w l lt, if_pos i1, a1, oBs]
  exact E
 rw [if_neg i1] at e
 by_cases i2 : (pk c st).k = 4
 ·have lt := pk_out l (show (pk c st).k ≠ 0 by omega)
  rw [if_pos i2] at e
  obtain ⟨s1, e1, e⟩ := bnd e
  obtain ⟨rfl, a1⟩ := adv_sh w l e1
  obtain ⟨R, E⟩ := leaf lt e (by show (textP (pk c st).text && (0 : Int) == 0) = true; rw [gt4 (pk_good w l lt) i2]; rfl) (by decide) (by decide) (by decide) (by decide)
  refine .inr ⟨R, fun _ => ?_⟩
  unfold primaryS
  rw [pk_k w l lt, pk_text w l lt, if_neg i1, if_pos i2, a1, oBs]
  exact E
 rw [if_neg i2] at e
 by_cases i3 : (pk c st).k = 1
 ·rw [if_pos i3] at e
  obtain ⟨⟨t, s1⟩, e1, e⟩ := bnd e
  rcases name_sh w l e1 with dd | ⟨lt, rfl, np, _, E1⟩
  ·exact .inl (dNode (st := s1) dd r e)
  obtain ⟨R, E⟩ := leaf lt e (by show (nameP t && (0 : Int) == 0) = true; rw [np]; rfl) (by decide) (by decide) (by decide) (by decide)
  refine .inr ⟨R, fun _ => ?_⟩
  unfold primaryS
  rw [pk_k w l lt, if_neg i1, if_neg i2, if_pos i3, E1, oBs]
  exact E
 rw [if_neg i3] at e
 by_cases j1 : isP c st ⟨#[110, 105, 108]⟩ = true
 ·have lt := (isP_live j1).2
  rw [if_pos j1] at e
  obtain ⟨s1, e1, e⟩ := bnd e
  obtain ⟨rfl, a1⟩ := adv_sh w l e1
  obtain ⟨R, E⟩ := leaf lt e (has0 rfl) (by decide) (by decide) (by decide) (by decide)
  refine .inr ⟨R, fun _ => ?_⟩
  unfold primaryS
  rw [pk_k w l lt, isP_sh w l lt, if_neg i1, if_neg i2, if_neg i3, if_pos j1, a1, oBs]
  exact E
 rw [if_neg j1] at e
 by_cases j2 : isP c st ⟨#[116, 114, 117, 101]⟩ = true
 ·have lt := (isP_live j2).2
  rw [if_pos j2] at e
  obtain ⟨s1, e1, e⟩ := bnd e
  obtain ⟨rfl, a1⟩ := adv_sh w l e1
  obtain ⟨R, E⟩ := leaf lt e (by show (emp E0 && inR 1 0 1) = true; rw [emp0]; rfl) (by decide) (by decide) (by decide) (by decide)
  refine .inr ⟨R, fun _ => ?_⟩
  unfold primaryS
  rw [pk_k w l lt, isP_sh w l lt, isP_sh w l lt, if_neg i1, if_neg i2, if_neg i3, if_neg j1, if_pos j2, a1, oBs]
  exact E
 rw [if_neg j2] at e
 by_cases j3 : isP c st ⟨#[102, 97, 108, 115, 101]⟩ = true
 ·have lt := (isP_live j3).2
  rw [if_pos j3] at e
  obtain ⟨s1, e1, e⟩ := bnd e
  obtain ⟨rfl, a1⟩ := adv_sh w l e1
  obtain ⟨R, E⟩ := leaf lt e (by show (emp E0 && inR 0 0 1) = true; rw [emp0]; rfl) (by decide) (by decide) (by decide) (by decide)
  refine .inr ⟨R, fun _ => ?_⟩
  unfold primaryS
  rw [pk_k w l lt, isP_sh w l lt, isP_sh w l lt, isP_sh w l lt, if_neg i1, if_neg i2, if_neg i3, if_neg j1, if_neg j2, if_pos j3, a1, oBs]
  exact E
 rw [if_neg j3] at e
 by_cases j4 : isP c st ⟨#[102, 110]⟩ = true
 ·have lt := (isP_live j4).2
  rw [if_pos j4] at e
  obtain ⟨s1, e1, e⟩ := bnd e
  obtain ⟨rfl, a1⟩ := adv_sh w l e1
  rcases h2 _ _ (l.stp lt) e with dd | ⟨R, E⟩
  ·exact .inl dd
  refine .inr ⟨⟨((Lr.start l).stp lt).snoc R.lr, R.cls, by have := R.lt; have hs : (stp st).at' = st.at' + 1 := rfl; omega, by have := R.ct; have hs : (stp st).at' = st.at' + 1 := rfl; have hn : (stp st).nodes = st.nodes := rfl; rw [hs, hn] at this; omega, fun z => by have := R.call z; have hs : (stp st).at' = st.at' + 1 := rfl; have hn : (stp st).nodes = st.nodes := rfl; rw [hs, hn] at this; omega⟩, fun _ => ?_⟩
  unfold primaryS
  rw [pk_k w l lt, isP_sh w l lt, isP_sh w l lt, isP_sh w l lt, isP_sh w l lt, if_neg i1, if_neg i2, if_neg i3, if_neg j1, if_neg j2, if_neg j3, if_pos j4, a1, oBs]
  exact E (.inl rfl)
 rw [if_neg j4] at e
 by_cases j5 : isP c st ⟨#[123]⟩ = true
 ·have lt := (isP_live j5).2
  rw [if_pos j5] at e
  obtain ⟨s1, e1, e⟩ := bnd e
  obtain ⟨rfl, a1⟩ := adv_sh w l e1
  rcases h3 _ _ l lt e with dd | ⟨R, E⟩
  ·exact .inl dd
  refine .inr ⟨R, fun _ => ?_⟩
  unfold primaryS
  rw [pk_k w l lt, isP_sh w l lt, isP_sh w l lt, isP_sh w l lt, isP_sh w l lt, isP_sh w l lt, if_neg i1, if_neg i2, if_neg i3, if_neg j1, if_neg j2, if_neg j3, if_neg j4, if_pos j5, a1, oBs]
  exact E
 rw [if_neg j5] at e
 by_cases j6 : isP c st ⟨#[40]⟩ = true
 ·have lt := (isP_live j6).2
  rw [if_pos j6] at e
  obtain ⟨s1, e1, e⟩ := bnd e
  obtain ⟨rfl, a1⟩ := adv_sh w l e1
  obtain ⟨y, e2, e⟩ := bnd e
  rcases h1 _ _ (l.stp lt) e2 with dd | ⟨R, E⟩
  ·exact .inl (wB (R := fun r : Int × PSt => Dc r.2) (K := fun s => some (y.1, s)) (dWant (st := y.2) dd _) (fun s hs => wS hs) r e)
  obtain ⟨s3, e1003, e⟩ := bnd e
  rcases want_sh w R.lr.ls e1003 with dd | ⟨lt3, rfl, E3⟩
  ·cases e; exact .inl dd
  cases e
  have hs : (stp st).at' = st.at' + 1 := rfl
  have hn : (stp st).nodes = st.nodes := rfl
  have lt4 := R.lt; have ct4 := R.ct
  rw [hs] at lt4 ct4; rw [hn] at ct4
  have hs3 : (stp y.2).at' = y.2.at' + 1 := rfl
  have hn3 : (stp y.2).nodes = y.2.nodes := rfl
  refine .inr ⟨⟨(((Lr.start l).stp lt).snoc R.lr).stp lt3, R.cls, by show st.at' < (stp y.2).at'; omega, by show (stp y.2).nodes.length + _ + _ ≤ _ + (stp y.2).at' + _; rw [hs3, hn3]; omega, fun z => by show (stp y.2).nodes.length + _ + _ ≤ _ + (stp y.2).at'; rw [hs3, hn3]; omega⟩, fun _ => ?_⟩
  unfold primaryS
  rw [pk_k w l lt, isP_sh w l lt, isP_sh w l lt, isP_sh w l lt, isP_sh w l lt, isP_sh w l lt, isP_sh w l lt, if_neg i1, if_neg i2, if_neg i3, if_neg j1, if_neg j2, if_neg j3, if_neg j4, if_neg j5, if_pos j6, a1, oBs, E (.inr lt3), oBs, E3, oBs]
 rw [if_neg j6] at e
 cases e
 exact .inl (failP_code 2 (by decide))
theorem hBlock {n : Nat} {stmt stmt' : PI} (h : Hp c c' q bs true 2 1 0 stmt stmt') (ds : Dd stmt) : Hp c c' q bs true 3 1 0 (blockS c stmt n) (blockS c' stmt' n) := by
 intro st r l e
 unfold blockS at e
 obtain ⟨⟨b, s1⟩, e1, e⟩ := bnd e
 rcases open_sh w l e1 with ⟨rfl, dd⟩ | ⟨rfl, lt, rfl, o1⟩
 ·cases e; exact .inl dd
 obtain ⟨s2, e2, e⟩ := bnd (show (wantP c ⟨#[123]⟩ _).bind _ = some r from e)
 have l1 := l.nested (st.nest + 1)
 rcases want_sh w l1 e2 with dd | ⟨lt2, rfl, E2⟩
 ·exact .inl (wB (dBlk (st := s2) dd n []) (fun l hl => wB (dWant hl _) fun s hs => wB (dNest hs _) fun s hs => dNode hs) r e)
 obtain ⟨y, e1003, e⟩ := bnd e
 have e1003' := e1003
 rw [blkLoop_g] at e1003'
 have hs : (YtajpnemfppaafaaGreat.stp { st with nest := st.nest + 1 }).at' = st.at' + 1 := rfl
 have hn : (YtajpnemfppaafaaGreat.stp { st with nest := st.nest + 1 }).nodes = st.nodes := rfl
 rcases hLoop w h.weak ds (.inl rfl) (st := { st with nest := st.nest + 1 }) 1 n [] _ y ((Lr.start l1).stp lt2) (fun k hk => by cases hk) (by rw [if_pos (show ([] : List Int).length = 0 from rfl), hs, hn]; show st.nodes.length + st.at' + 0 + 1 ≤ st.nodes.length + (st.at' + 1); omega) e1003' with dd | ⟨Y, yk, _, yc, ya, E3⟩
 ·exact .inl (wB (dWant (st := y.2) dd _) (fun s hs => wB (dNest hs _) fun s hs => dNode hs) r e)
 obtain ⟨s4, e1004, e⟩ := bnd e
 rcases want_sh w Y.ls e1004 with dd | ⟨lt4, rfl, E4⟩
 ·exact .inl (wB (dNest (st := s4) dd _) (fun s hs => dNode hs) r e)
 obtain ⟨s5, e1005, e⟩ := bnd e
 obtain ⟨rfl, n5⟩ := nest_sh (q := q) (bs := bs) e1005
 have X : Lr c st st.nodes.length y.1 { (stp y.2) with nest := (stp y.2).nest + -1 } := (Y.stp lt4).back (by rw [(Y.stp lt4).nest]; show st.nest + 1 + -1 = st.nest; omega) (Nat.le_refl _) rfl rfl
 obtain ⟨rfl, n6⟩ := node_sh w X.ls e
 have yc' : y.2.nodes.length + st.at' + 1 ≤ st.nodes.length + y.2.at' := yc
 rw [hs] at ya
 refine .inr ⟨RI.put X (has0 rfl) (by decide) (shp21 (fun k hk => ?_)) (by decide) (by show st.at' < y.2.at' + 1; omega) (by show y.2.nodes.length + 1 + st.at' + 1 ≤ st.nodes.length + (y.2.at' + 1) + 0; omega) (by decide) (fun z => absurd z (by decide)) l, fun _ => ?_⟩
 ·obtain ⟨j, hj, rfl⟩ := List.mem_map.1 hk
  exact yk j hj
 ·have E3' := E3 lt4
  rw [← blkLoop_g] at E3'
  unfold blockS
  rw [o1, oBs]
  show (wantP c' ⟨#[123]⟩ _).bind _ = _
  rw [E2, oBs, show ([] : List Int) = [].map (· + (bs.length : Int)) from rfl, E3', oBs, E4, oBs, n5, oBs]
  exact n6
end
theorem sh17a {x y : Int} (h1 : clsOk 1 x = true) (h2 : clsOk 3 y = true) : shP 17 [x, y] = true := by
 show (clsOk 1 x && (clsOk 3 y && true)) = true
 rw [h1, h2]; rfl
theorem sh17b {x y z : Int} (h1 : clsOk 1 x = true) (h2 : clsOk 3 y = true) (h3 : clsOk 3 z = true) : shP 17 [x, y, z] = true := by
 show (clsOk 1 x && (clsOk 3 y && (clsOk 3 z && true))) = true
 rw [h1, h2, h3]; rfl
theorem sh18 {x y : Int} (h1 : clsOk 1 x = true) (h2 : clsOk 3 y = true) : shP 18 [x, y] = true := by
 show (clsOk 1 x && (clsOk 3 y && true)) = true
 rw [h1, h2]; rfl
section
variable {c c' : PC} {q : Nat} {bs : List Kn} (w : Tw c c' q bs)
theorem node_at {ns : List Kn} {lo hi : Nat} {v : Int} (x : Tl ns lo [v] hi) (hl : hi = ns.length) : ∃ n : Kn, ns[v.toNat]? = some n ∧ 0 ≤ v ∧ v < ns.length ∧ v.toNat + 1 = ns.length ∧ kd ns v = n.k ∧ Tl ns lo n.ks v.toNat := by
 obtain ⟨k, n, rfl, h1, h2, h3⟩ := x.one
 have e : ((k : Int)).toNat = k := by omega
 refine ⟨n, by rw [e]; exact h2, by omega, by omega, by rw [e]; omega, ?_, by rw [e]; exact h3⟩
 unfold kd; rw [e, h2]; rfl
theorem cut_sh {s s2 : PSt} {v : Int} (h0 : 0 ≤ v) (e : cutP v s = some s2) : s2 = { s with nodes := s.nodes.take v.toNat } ∧ v ≤ s.nodes.length ∧ cutP (v + (bs.length : Int)) (shS q bs s) = some (shS q bs s2) := by
 unfold cutP at e ⊢
 by_cases h : 0 ≤ v ∧ v ≤ s.nodes.length
 ·rw [if_pos h] at e; cases e
  have hl : (shS q bs s).nodes.length = bs.length + s.nodes.length := by show (bs ++ s.nodes.map _).length = _; simp
  refine ⟨rfl, h.2, ?_⟩
  rw [if_pos (by rw [hl]; omega)]
  unfold shS
  rw [show (v + (bs.length : Int)).toNat = bs.length + v.toNat by omega]
  simp [List.take_append]
  exact List.take_of_length_le (by omega)
 ·rw [if_neg h] at e; cases e
include w
theorem hAssign {ex ex' : PI} (h : Hp c c' q bs false 1 0 0 ex ex') (dx : Dd ex) : Hp c c' q bs true 2 1 0 (assignS c ex) (assignS c' ex') := by
 intro st r l e
 unfold assignS at e
 obtain ⟨y, e1, e⟩ := bnd e
 rcases h _ _ l e1 with dd | ⟨R, E⟩
 ·rw [if_neg (show ¬ y.2.code = 0 from dd)] at e
  cases e; exact .inl dd
 have ly := R.lr.ls
 rw [if_pos ly.code] at e
 obtain ⟨n, hn, v0, v1, v2, hk, T⟩ := node_at R.lr.tl rfl
 rw [hn] at e
 dsimp only at e
 rw [if_neg (by omega)] at e
 have lt := R.lt; have ct := R.ct
 have hys : (stp y.2).at' = y.2.at' + 1 := rfl
 have hyn : (stp y.2).nodes = y.2.nodes := rfl
 have gn := ly.good _ _ hn
 have hn' : (shS q bs y.2).nodes[(y.1 + (bs.length : Int)).toNat]? = some (shK bs.length n) := by
  show (bs ++ y.2.nodes.map (shK bs.length))[(y.1 + (bs.length : Int)).toNat]? = _
  rw [show (y.1 + (bs.length : Int)).toNat = bs.length + y.1.toNat by omega, List.getElem?_append_right (by omega), show bs.length + y.1.toNat - bs.length = y.1.toNat by omega, List.getElem?_map, hn]; rfl
 have start : ∀ {o : Option (Int × PSt)}, y.2.at' < c.toks.length → (match (shS q bs y.2).nodes[(y.1 + (bs.length : Int)).toNat]? with
  | none => none
  | some n => if y.1 + (bs.length : Int) < 0 then none else
   if isP c' (shS q bs y.2) ⟨#[59]⟩ = true ∧ n.k = 9 then (adv 1 (shS q bs y.2)).bind fun s => nodeS 20 E0 0 [y.1 + (bs.length : Int)] s
   else if isP c' (shS q bs y.2) ⟨#[61]⟩ = true ∧ n.k = 5 then (adv 1 (shS q bs y.2)).bind fun s => (cutP (y.1 + (bs.length : Int)) s).bind fun s => (ex' s).bind fun v => (wantP c' ⟨#[59]⟩ v.2).bind fun s => nodeS 15 n.t 0 [v.1] s
   else if isP c' (shS q bs y.2) ⟨#[61]⟩ = true ∧ n.k = 8 then (match n.ks with
    | [a, b] => (adv 1 (shS q bs y.2)).bind fun s => (cutP (y.1 + (bs.length : Int)) s).bind fun s => (ex' s).bind fun v => (wantP c' ⟨#[59]⟩ v.2).bind fun s => nodeS 16 E0 0 [a, b, v.1] s
    | _ => none)
   else some (-1, failP c' (shS q bs y.2) 2)) = o → assignS c' ex' (shS q bs st) = o := fun hlt ho => by
  unfold assignS
  rw [E (.inr hlt), oBs]
  dsimp only
  rw [if_pos (show (shS q bs y.2).code = 0 from ly.code)]
  exact ho
 by_cases i1 : isP c y.2 ⟨#[59]⟩ = true ∧ n.k = 9
 ·rw [if_pos i1] at e
  have lt1 := (isP_live i1.1).2
  obtain ⟨s1, e2, e⟩ := bnd e
  obtain ⟨rfl, a1⟩ := adv_sh w ly e2
  have X := R.lr.stp lt1
  obtain ⟨rfl, n6⟩ := node_sh w X.ls e
  have cl := R.call (by rw [hk]; exact i1.2)
  refine .inr ⟨RI.put X (has0 rfl) (by decide) ?_ (by decide) (by rw [hys]; omega) (by rw [hys, hyn]; omega) (by decide) (fun z => absurd z (by decide)) l, fun _ => start lt1 ?_⟩
  ·show shP 20 [kd y.2.nodes y.1] = true
   rw [hk, i1.2]; rfl
  ·rw [hn']
   dsimp only
   rw [if_neg (by omega), isP_sh w ly lt1, if_pos (show isP c y.2 ⟨#[59]⟩ = true ∧ (shK bs.length n).k = 9 from i1), a1, oBs]
   exact n6
 rw [if_neg i1] at e
 have cut : ∀ {s2 : PSt}, y.2.at' < c.toks.length → s2 = { stp y.2 with nodes := (stp y.2).nodes.take y.1.toNat } → Lr c st st.nodes.length n.ks s2 ∧ s2.nodes.length = y.1.toNat ∧ s2.at' = y.2.at' + 1 := fun {s2} lt1 hs => by
  subst hs
  have hl : ((stp y.2).nodes.take y.1.toNat).length = y.1.toNat := by rw [List.length_take, hyn]; omega
  have hT := T.le
  have cn := ly.cnt
  have ag : ∀ j, j < y.1.toNat → ((stp y.2).nodes.take y.1.toNat)[j]? = y.2.nodes[j]? := fun j hj => List.getElem?_take_of_lt hj
  refine ⟨⟨⟨ly.code, lt1, ly.good.take _, ?_⟩, R.lr.nest, by show st.at' ≤ y.2.at' + 1; omega, fun j hj => (ag j (by omega)).trans (R.lr.pre j hj), ?_, R.lr.plc⟩, hl, rfl⟩
  ·show ((stp y.2).nodes.take y.1.toNat).length ≤ 3 * (y.2.at' + 1)
   rw [hl]; omega
  ·show Tl ((stp y.2).nodes.take y.1.toNat) _ _ ((stp y.2).nodes.take y.1.toNat).length
   rw [hl]
   exact T.agree ag
 by_cases i2 : isP c y.2 ⟨#[61]⟩ = true ∧ n.k = 5
 ·rw [if_pos i2] at e
  have lt1 := (isP_live i2.1).2
  obtain ⟨s1, e2, e⟩ := bnd e
  obtain ⟨rfl, a1⟩ := adv_sh w ly e2
  obtain ⟨s2, e1003, e⟩ := bnd e
  obtain ⟨hs2, _, c1003⟩ := cut_sh (q := q) (bs := bs) v0 e1003
  obtain ⟨X2, z1, z2⟩ := cut lt1 hs2
  have nk : n.ks = [] := by
   have := gn.shp
   rw [i2.2] at this
   have h5 : shP 5 (n.ks.map (kd y.2.nodes)) = (decide (([] : List Int).length = (n.ks.map (kd y.2.nodes)).length) && ((n.ks.map (kd y.2.nodes)).zip ([] : List Int)).all fun p => clsOk p.2 p.1) := rfl
   rw [h5, Bool.and_eq_true, decide_eq_true_eq] at this
   have := this.1
   simpa using this.symm
  rw [nk] at X2 T
  have hlo : st.nodes.length = y.1.toNat := by exact T.nil_eq
  obtain ⟨v, e1004, e⟩ := bnd e
  rcases h _ _ X2.ls e1004 with dd | ⟨R4, E4⟩
  ·exact .inl (wB (dWant (st := v.2) dd _) (fun s hs => dNode hs) r e)
  obtain ⟨s5, e1005, e⟩ := bnd e
  rcases want_sh w R4.lr.ls e1005 with dd | ⟨lt5, rfl, E5⟩
  ·exact .inl (dNode (st := s5) dd r e)
  have X := (X2.snoc R4.lr).stp lt5
  obtain ⟨rfl, n6⟩ := node_sh w X.ls e
  have lt4 := R4.lt; have ct4 := R4.ct
  have hv : (stp v.2).at' = v.2.at' + 1 := rfl
  have hvn : (stp v.2).nodes = v.2.nodes := rfl
  have hnm : nameP n.t = true := by
   have := gn.has
   unfold hasP at this
   rw [i2.2, if_pos (by decide), Bool.and_eq_true] at this
   exact this.1
  refine .inr ⟨RI.put X ?_ (by decide) (sh1 (by decide) R4.cls) (by decide) (by rw [hv]; omega) (by rw [hv, hvn]; omega) (by decide) (fun z => absurd z (by decide)) l, fun _ => start lt1 ?_⟩
  ·show (nameP n.t && (0 : Int) == 0) = true
   rw [hnm]; rfl
  ·rw [hn']
   dsimp only
   rw [if_neg (by omega), isP_sh w ly lt1, isP_sh w ly lt1, if_neg (show ¬ (isP c y.2 ⟨#[59]⟩ = true ∧ (shK bs.length n).k = 9) from i1), if_pos (show isP c y.2 ⟨#[61]⟩ = true ∧ (shK bs.length n).k = 5 from i2), a1, oBs, c1003, oBs, E4 (.inr lt5), oBs, E5, oBs]
   exact n6
 rw [if_neg i2] at e
 by_cases i3 : isP c y.2 ⟨#[61]⟩ = true ∧ n.k = 8
 ·rw [if_pos i3] at e
  have lt1 := (isP_live i3.1).2
  match hks : n.ks, e with
  | [a, b], e =>
   dsimp only at e
   obtain ⟨s1, e2, e⟩ := bnd e
   obtain ⟨rfl, a1⟩ := adv_sh w ly e2
   obtain ⟨s2, e1003, e⟩ := bnd e
   obtain ⟨hs2, _, c1003⟩ := cut_sh (q := q) (bs := bs) v0 e1003
   obtain ⟨X2, z1, z2⟩ := cut lt1 hs2
   rw [hks] at X2
   have kab : clsOk 1 (kd y.2.nodes a) = true ∧ clsOk 1 (kd y.2.nodes b) = true := by
    have := gn.shp
    rw [i3.2, hks] at this
    have h8 : shP 8 ([a, b].map (kd y.2.nodes)) = (clsOk 1 (kd y.2.nodes a) && (clsOk 1 (kd y.2.nodes b) && true)) := rfl
    rw [h8, Bool.and_true, Bool.and_eq_true] at this
    exact this
   obtain ⟨v, e1004, e⟩ := bnd e
   rcases h _ _ X2.ls e1004 with dd | ⟨R4, E4⟩
   ·exact .inl (wB (dWant (st := v.2) dd _) (fun s hs => dNode hs) r e)
   obtain ⟨s5, e1005, e⟩ := bnd e
   rcases want_sh w R4.lr.ls e1005 with dd | ⟨lt5, rfl, E5⟩
   ·exact .inl (dNode (st := s5) dd r e)
   have X := (X2.snoc R4.lr).stp lt5
   obtain ⟨rfl, n6⟩ := node_sh w X.ls e
   have lt4 := R4.lt; have ct4 := R4.ct
   have hv : (stp v.2).at' = v.2.at' + 1 := rfl
   have hvn : (stp v.2).nodes = v.2.nodes := rfl
   have k2 : ∀ k ∈ [a, b], kd v.2.nodes k = kd y.2.nodes k := fun k hk => by
    rw [X2.kd R4.lr k hk]
    have := X2.tl.mem k hk
    rw [hs2]
    exact kd_same (hi := y.1.toNat) (by omega) (by omega) (fun j hj => List.getElem?_take_of_lt hj)
   have hlo := T.le
   refine .inr ⟨RI.put X (has0 rfl) (by decide) ?_ (by decide) (by rw [hv]; omega) (by rw [hv, hvn]; omega) (by decide) (fun z => absurd z (by decide)) l, fun _ => start lt1 ?_⟩
   ·show shP 16 [kd v.2.nodes a, kd v.2.nodes b, kd v.2.nodes v.1] = true
    rw [k2 a (by simp), k2 b (by simp)]
    show (clsOk 1 (kd y.2.nodes a) && (clsOk 1 (kd y.2.nodes b) && (clsOk 1 (kd v.2.nodes v.1) && true))) = true
    rw [kab.1, kab.2, R4.cls]; rfl
   ·rw [hn']
    dsimp only
    have hk' : (shK bs.length n).ks = [a + (bs.length : Int), b + (bs.length : Int)] := by show n.ks.map _ = _; rw [hks]; rfl
    rw [if_neg (by omega), isP_sh w ly lt1, isP_sh w ly lt1, if_neg (show ¬ (isP c y.2 ⟨#[59]⟩ = true ∧ (shK bs.length n).k = 9) from i1), if_neg (show ¬ (isP c y.2 ⟨#[61]⟩ = true ∧ (shK bs.length n).k = 5) from i2), if_pos (show isP c y.2 ⟨#[61]⟩ = true ∧ (shK bs.length n).k = 8 from i3), hk']
    dsimp only
    rw [a1, oBs, c1003, oBs, E4 (.inr lt5), oBs, E5, oBs]
    exact n6
  | [], e => cases e
  | [_], e => cases e
  | _ :: _ :: _ :: _, e => cases e
 rw [if_neg i3] at e
 cases e
 exact .inl (failP_code 2 (by decide))
theorem hStmt (ne : ∀ s : PSt, s.code = 0 → s.at' = q + c.toks.length → isP c' s ⟨#[101, 108, 115, 101]⟩ = false) {ex ex' block block' asg asg' : PI} (h : Hp c c' q bs false 1 0 0 ex ex') (hb : Hp c c' q bs true 3 1 0 block block')
  (ha : Hp c c' q bs true 2 1 0 asg asg') (dx : Dd ex) (db : Dd block) : Hp c c' q bs true 2 1 0 (stmtS c ex block asg) (stmtS c' ex' block' asg') := by
 intro st r l e
 have hs : (stp st).at' = st.at' + 1 := rfl
 have hn : (stp st).nodes = st.nodes := rfl
 unfold stmtS at e
 by_cases i1 : isP c st ⟨#[108, 111, 99, 97, 108]⟩ = true
 ·rw [if_pos i1] at e
  have lt := (isP_live i1).2
  obtain ⟨s1, e1, e⟩ := bnd e
  obtain ⟨rfl, a1⟩ := adv_sh w l e1
  obtain ⟨⟨t, s2⟩, e2, e⟩ := bnd e
  rcases name_sh w (l.stp lt) e2 with dd | ⟨lt2, rfl, np, _, E2⟩
  ·exact .inl (wB (dWant (st := s2) dd _) (fun s hs => wB (dx _ hs) fun e he => wB (dWant he _) fun s hs => dNode hs) r e)
  obtain ⟨s3, e1003, e⟩ := bnd e
  have X2 := ((Lr.start l).stp lt).stp lt2
  rcases want_sh w X2.ls e1003 with dd | ⟨lt3, rfl, E3⟩
  ·exact .inl (wB (dx s3 dd) (fun e he => wB (dWant he _) fun s hs => dNode hs) r e)
  have X3 := X2.stp lt3
  obtain ⟨v, e1004, e⟩ := bnd e
  rcases h _ _ X3.ls e1004 with dd | ⟨R4, E4⟩
  ·exact .inl (wB (dWant (st := v.2) dd _) (fun s hs => dNode hs) r e)
  obtain ⟨s5, e1005, e⟩ := bnd e
  rcases want_sh w R4.lr.ls e1005 with dd | ⟨lt5, rfl, E5⟩
  ·exact .inl (dNode (st := s5) dd r e)
  have X := (X3.snoc R4.lr).stp lt5
  obtain ⟨rfl, n6⟩ := node_sh w X.ls e
  have lt4 := R4.lt; have ct4 := R4.ct
  have h3 : (stp (stp (stp st))).at' = st.at' + 3 := rfl
  have h3n : (stp (stp (stp st))).nodes = st.nodes := rfl
  rw [h3] at lt4 ct4; rw [h3n] at ct4
  have hv : (stp v.2).at' = v.2.at' + 1 := rfl
  have hvn : (stp v.2).nodes = v.2.nodes := rfl
  refine .inr ⟨RI.put X ?_ (by decide) (sh1 (by decide) R4.cls) (by decide) (by rw [hv]; omega) (by rw [hv, hvn]; omega) (by decide) (fun z => absurd z (by decide)) l, fun _ => ?_⟩
  ·show (nameP t && (0 : Int) == 0) = true
   rw [np]; rfl
  ·unfold stmtS
   rw [isP_sh w l lt, if_pos i1, a1, oBs, E2, oBs, E3, oBs, E4 (.inr lt5), oBs, E5, oBs]
   exact n6
 rw [if_neg i1] at e
 by_cases i2 : isP c st ⟨#[105, 102]⟩ = true
 ·rw [if_pos i2] at e
  have lt := (isP_live i2).2
  obtain ⟨s1, e1, e⟩ := bnd e
  obtain ⟨rfl, a1⟩ := adv_sh w l e1
  obtain ⟨v, e2, e⟩ := bnd e
  rcases h _ _ (l.stp lt) e2 with dd | ⟨R2, E2⟩
  ·exact .inl (wB (db v.2 dd) (fun b hb => wI (fun _ => wB (dAdv hb 1) fun s hs => wB (db _ hs) fun d hd => dNode hd) fun _ => dNode hb) r e)
  obtain ⟨b, e1003, e⟩ := bnd e
  rcases hb _ _ R2.lr.ls e1003 with dd | ⟨R3, E3⟩
  ·exact .inl (wI (fun _ => wB (dAdv (st := b.2) dd 1) fun s hs => wB (db _ hs) fun d hd => dNode hd) (fun _ => dNode (st := b.2) dd) r e)
  have X2 := ((Lr.start l).stp lt).snoc R2.lr
  have X3 := X2.snoc R3.lr
  have lt2 := R2.lt; have ct2 := R2.ct; have lt3 := R3.lt; have ct3 := R3.ct; have le3 := R3.lr.ls.le
  rw [hs] at lt2 ct2; rw [hn] at ct2
  have kv : kd b.2.nodes v.1 = kd v.2.nodes v.1 := X2.kd R3.lr v.1 (by simp)
  by_cases i4 : isP c b.2 ⟨#[101, 108, 115, 101]⟩ = true
  ·rw [if_pos i4] at e
   have lt4 := (isP_live i4).2
   obtain ⟨s4, e1004, e⟩ := bnd e
   obtain ⟨rfl, a4⟩ := adv_sh w R3.lr.ls e1004
   obtain ⟨f, e1005, e⟩ := bnd e
   have X4 := X3.stp lt4
   rcases hb _ _ X4.ls e1005 with dd | ⟨R5, E5⟩
   ·exact .inl (dNode (st := f.2) dd r e)
   have X := X4.snoc R5.lr
   obtain ⟨rfl, n6⟩ := node_sh w X.ls e
   have lt5 := R5.lt; have ct5 := R5.ct
   have hb4 : (stp b.2).at' = b.2.at' + 1 := rfl
   have hb4n : (stp b.2).nodes = b.2.nodes := rfl
   rw [hb4] at lt5 ct5; rw [hb4n] at ct5
   have k1 : kd f.2.nodes v.1 = kd b.2.nodes v.1 := X4.kd R5.lr v.1 (by simp)
   have k2 : kd f.2.nodes b.1 = kd b.2.nodes b.1 := X4.kd R5.lr b.1 (by simp)
   refine .inr ⟨RI.put X (has0 rfl) (by decide) (sh17b (by rw [k1, kv]; exact R2.cls) (by rw [k2]; exact R3.cls) R5.cls) (by decide) (by omega) (by omega) (by decide) (fun z => absurd z (by decide)) l, fun _ => ?_⟩
   unfold stmtS
   rw [isP_sh w l lt, isP_sh w l lt, if_neg i1, if_pos i2, a1, oBs, E2 (.inr (by omega)), oBs, E3 (.inl rfl), oBs, isP_sh w R3.lr.ls lt4, if_pos i4, a4, oBs, E5 (.inl rfl), oBs]
   exact n6
  ·rw [if_neg i4] at e
   obtain ⟨rfl, n6⟩ := node_sh w X3.ls e
   refine .inr ⟨RI.put X3 (has0 rfl) (by decide) (sh17a (by rw [kv]; exact R2.cls) R3.cls) (by decide) (by omega) (by omega) (by decide) (fun z => absurd z (by decide)) l, fun _ => ?_⟩
   have i4' : ¬ isP c' (shS q bs b.2) ⟨#[101, 108, 115, 101]⟩ = true := by
    by_cases hb : b.2.at' < c.toks.length
    ·rw [isP_sh w R3.lr.ls hb]; exact i4
    ·rw [ne (shS q bs b.2) R3.lr.ls.code (by show q + b.2.at' = _; omega)]; decide
   unfold stmtS
   rw [isP_sh w l lt, isP_sh w l lt, if_neg i1, if_pos i2, a1, oBs, E2 (.inr (by omega)), oBs, E3 (.inl rfl), oBs, if_neg i4']
   exact n6
 rw [if_neg i2] at e
 by_cases i3 : isP c st ⟨#[119, 104, 105, 108, 101]⟩ = true
 ·rw [if_pos i3] at e
  have lt := (isP_live i3).2
  obtain ⟨s1, e1, e⟩ := bnd e
  obtain ⟨rfl, a1⟩ := adv_sh w l e1
  obtain ⟨v, e2, e⟩ := bnd e
  rcases h _ _ (l.stp lt) e2 with dd | ⟨R2, E2⟩
  ·exact .inl (wB (db v.2 dd) (fun b hb => dNode hb) r e)
  obtain ⟨b, e1003, e⟩ := bnd e
  rcases hb _ _ R2.lr.ls e1003 with dd | ⟨R3, E3⟩
  ·exact .inl (dNode (st := b.2) dd r e)
  have X2 := ((Lr.start l).stp lt).snoc R2.lr
  have X3 := X2.snoc R3.lr
  have lt2 := R2.lt; have ct2 := R2.ct; have lt3 := R3.lt; have ct3 := R3.ct; have le3 := R3.lr.ls.le
  rw [hs] at lt2 ct2; rw [hn] at ct2
  have kv : kd b.2.nodes v.1 = kd v.2.nodes v.1 := X2.kd R3.lr v.1 (by simp)
  obtain ⟨rfl, n6⟩ := node_sh w X3.ls e
  refine .inr ⟨RI.put X3 (has0 rfl) (by decide) (sh18 (by rw [kv]; exact R2.cls) R3.cls) (by decide) (by omega) (by omega) (by decide) (fun z => absurd z (by decide)) l, fun _ => ?_⟩
  unfold stmtS
  rw [isP_sh w l lt, isP_sh w l lt, isP_sh w l lt, if_neg i1, if_neg i2, if_pos i3, a1, oBs, E2 (.inr (by omega)), oBs, E3 (.inl rfl), oBs]
  exact n6
 rw [if_neg i3] at e
 by_cases i4 : isP c st ⟨#[114, 101, 116, 117, 114, 110]⟩ = true
 ·rw [if_pos i4] at e
  have lt := (isP_live i4).2
  obtain ⟨s1, e1, e⟩ := bnd e
  obtain ⟨rfl, a1⟩ := adv_sh w l e1
  obtain ⟨v, e1004, e⟩ := bnd e
  rcases h _ _ (l.stp lt) e1004 with dd | ⟨R4, E4⟩
  ·exact .inl (wB (dWant (st := v.2) dd _) (fun s hs => dNode hs) r e)
  obtain ⟨s5, e1005, e⟩ := bnd e
  rcases want_sh w R4.lr.ls e1005 with dd | ⟨lt5, rfl, E5⟩
  ·exact .inl (dNode (st := s5) dd r e)
  have X := (((Lr.start l).stp lt).snoc R4.lr).stp lt5
  obtain ⟨rfl, n6⟩ := node_sh w X.ls e
  have lt4 := R4.lt; have ct4 := R4.ct
  rw [hs] at lt4 ct4; rw [hn] at ct4
  have hv : (stp v.2).at' = v.2.at' + 1 := rfl
  have hvn : (stp v.2).nodes = v.2.nodes := rfl
  refine .inr ⟨RI.put X (has0 rfl) (by decide) (sh1 (by decide) R4.cls) (by decide) (by rw [hv]; omega) (by rw [hv, hvn]; omega) (by decide) (fun z => absurd z (by decide)) l, fun _ => ?_⟩
  unfold stmtS
  rw [isP_sh w l lt, isP_sh w l lt, isP_sh w l lt, isP_sh w l lt, if_neg i1, if_neg i2, if_neg i3, if_pos i4, a1, oBs, E4 (.inr lt5), oBs, E5, oBs]
  exact n6
 rw [if_neg i4] at e
 rcases ha st r l e with dd | ⟨R, E⟩
 ·exact .inl dd
 refine .inr ⟨R, fun hz => ?_⟩
 have lt : st.at' < c.toks.length := by have := R.lt; have := R.lr.ls.le; omega
 unfold stmtS
 rw [isP_sh w l lt, isP_sh w l lt, isP_sh w l lt, isP_sh w l lt, if_neg i1, if_neg i2, if_neg i3, if_neg i4]
 exact E hz
end
structure AllHp (c c' : PC) (q : Nat) (bs : List Kn) (D : Nat) : Prop where
 ex : Hp c c' q bs false 1 0 0 (sp c D 137) (sp c' D 137)
 l1 : Hp c c' q bs false 1 0 0 (sp c D 1761) (sp c' D 1761)
 l2 : Hp c c' q bs false 1 0 0 (sp c D 1762) (sp c' D 1762)
 l3 : Hp c c' q bs false 1 0 0 (sp c D 1763) (sp c' D 1763)
 l4 : Hp c c' q bs false 1 0 0 (sp c D 1764) (sp c' D 1764)
 l5 : Hp c c' q bs false 1 0 0 (sp c D 1765) (sp c' D 1765)
 l6 : Hp c c' q bs false 1 0 0 (sp c D 1766) (sp c' D 1766)
 l7 : Hp c c' q bs false 1 0 0 (sp c D 1767) (sp c' D 1767)
 tu : Hp c c' q bs false 1 0 0 (sp c D 197) (sp c' D 197)
 su : Hp c c' q bs false 1 0 0 (sp c D 204) (sp c' D 204)
 pr : Hp c c' q bs true 1 0 0 (sp c D 222) (sp c' D 222)
 fn : Hp c c' q bs true 1 0 0 (sp c D 233) (sp c' D 233)
 ta : ∀ (st0 : PSt) (r : Int × PSt), Ls c st0 → st0.at' < c.toks.length → sp c D 234 (stp st0) = some r → Dc r.2 ∨ (RI c 1 0 0 st0 r ∧ sp c' D 234 (shS q bs (stp st0)) = some (r.1 + (bs.length : Int), shS q bs r.2))
 fi : Hp c c' q bs false 5 0 1 (sp c D 239) (sp c' D 239)
 bl : Hp c c' q bs true 3 1 0 (sp c D 138) (sp c' D 138)
 ag : Hp c c' q bs true 2 1 0 (sp c D 139) (sp c' D 139)
 st : Hp c c' q bs true 2 1 0 (sp c D 82) (sp c' D 82)
section
variable {c c' : PC} {q : Nat} {bs : List Kn} (w : Tw c c' q bs)
theorem hp_eq {z : Bool} {cl : Int} {d e : Nat} {m n m' n' : PI} (h : Hp c c' q bs z cl d e n n') (h1 : ∀ st, m st = n st) (h2 : ∀ st, m' st = n' st) : Hp c c' q bs z cl d e m m' := by
 rw [show m = n from funext h1, show m' = n' from funext h2]; exact h
theorem hp_none {z : Bool} {cl : Int} {d e : Nat} {m m' : PI} (h1 : ∀ st, m st = none) : Hp c c' q bs z cl d e m m' := fun st r _ x => by rw [h1] at x; cases x
include w
theorem hAll (ne : ∀ s : PSt, s.code = 0 → s.at' = q + c.toks.length → isP c' s ⟨#[101, 108, 115, 101]⟩ = false) : ∀ D, AllHp c c' q bs D
 | 0 => by
  have z : ∀ k st, sp c 0 k st = none := fun k st => by rw [sp]
  exact ⟨hp_none (z _), hp_none (z _), hp_none (z _), hp_none (z _), hp_none (z _), hp_none (z _), hp_none (z _), hp_none (z _), hp_none (z _), hp_none (z _), hp_none (z _), hp_none (z _), fun _ _ _ _ x => (by rw [z] at x; cases x), hp_none (z _), hp_none (z _), hp_none (z _), hp_none (z _)⟩
 | D + 1 => by
  by_cases h : D < 30
  ·have z : ∀ k st, sp c (D + 1) k st = none := fun k st => by rw [sp, if_pos h]
   exact ⟨hp_none (z _), hp_none (z _), hp_none (z _), hp_none (z _), hp_none (z _), hp_none (z _), hp_none (z _), hp_none (z _), hp_none (z _), hp_none (z _), hp_none (z _), hp_none (z _), fun _ _ _ _ x => (by rw [z] at x; cases x), hp_none (z _), hp_none (z _), hp_none (z _), hp_none (z _)⟩
  have ih := hAll ne D
  refine ⟨hp_eq (hExpr w ih.l1) (fun _ => sp_137 h) (fun _ => sp_137 h), hp_eq (hLevel w ih.l2) (fun _ => sp_1761 h) (fun _ => sp_1761 h), hp_eq (hLevel w ih.l3) (fun _ => sp_1762 h) (fun _ => sp_1762 h),
   hp_eq (hLevel w ih.l4) (fun _ => sp_1763 h) (fun _ => sp_1763 h), hp_eq (hLevel w ih.l5) (fun _ => sp_1764 h) (fun _ => sp_1764 h), hp_eq (hLevel w ih.l6) (fun _ => sp_1765 h) (fun _ => sp_1765 h),
   hp_eq (hLevel w ih.l7) (fun _ => sp_1766 h) (fun _ => sp_1766 h), hp_eq ih.tu (fun _ => sp_1767 h) (fun _ => sp_1767 h), hp_eq (hTurn w ih.tu ih.su) (fun _ => sp_197 h) (fun _ => sp_197 h),
   hp_eq (hSuffix w ih.pr.weak ih.ex (dAll D 137)) (fun _ => sp_204 h) (fun _ => sp_204 h), hp_eq (hPrimary w ih.ex ih.fn ih.ta) (fun _ => sp_222 h) (fun _ => sp_222 h),
   hp_eq (hFn w ih.bl (dAll D 138)) (fun _ => sp_233 h) (fun _ => sp_233 h), fun st0 r l lt x => ?_, hp_eq (hField w ih.ex (dAll D 137)) (fun _ => sp_239 h) (fun _ => sp_239 h),
   hp_eq (hBlock w ih.st (dAll D 82)) (fun _ => sp_138 h) (fun _ => sp_138 h), hp_eq (hAssign w ih.ex (dAll D 137)) (fun _ => sp_139 h) (fun _ => sp_139 h),
   hp_eq (hStmt w ne ih.ex ih.bl ih.ag (dAll D 137) (dAll D 138)) (fun _ => sp_82 h) (fun _ => sp_82 h)⟩
  rw [sp_234 h] at x ⊢
  exact hTable w ih.fi (dAll D 239) l lt x
theorem hTop {stm stm' : PI} (h : Hp c c' q bs true 2 1 0 stm stm') (ds : Dd stm) {st0 : PSt} : ∀ (n : Nat) (ks : List Int) (s : PSt) (r : List Int × PSt), Lr c st0 0 ks s → (∀ k ∈ ks, clsOk 2 (kd s.nodes k) = true) → s.nodes.length + ks.length ≤ s.at' →
  topS c stm n ks s = some r → Dc r.2 ∨ (Lr c st0 0 r.1 r.2 ∧ (∀ k ∈ r.1, clsOk 2 (kd r.2.nodes k) = true) ∧ r.2.nodes.length + r.1.length ≤ r.2.at' ∧ r.2.at' = c.toks.length ∧
   ∃ new, r.1 = ks ++ new ∧ ∀ (n' : Nat) (ks' : List Int), ks'.length + new.length ≤ 1000000 → topS c' stm' (n' + new.length) ks' (shS q bs s) = topS c' stm' n' (ks' ++ new.map (· + (bs.length : Int))) (shS q bs r.2))
 | 0, _, _, _, _, _, _, x => by cases x
 | n + 1, ks, s, r, X, hk, ct, x => by
  have ls := X.ls
  rw [topS] at x
  by_cases hc : s.code = 0 ∧ s.at' < c.toks.length
  ·rw [if_pos hc] at x
   obtain ⟨y, e1, x⟩ := bnd x
   by_cases hl : ks.length > 1000000
   ·rw [if_pos hl] at x; cases x
   rw [if_neg hl] at x
   rcases h _ _ ls e1 with dd | ⟨R, E⟩
   ·exact .inl (dTop (st := y.2) dd n _ r x)
   have lt := R.lt; have ctr := R.ct
   rcases hTop h ds n _ _ r (X.snoc R.lr) (fun k hk' => by
    rcases List.mem_append.1 hk' with a | a
    ·rw [X.kd R.lr k a]; exact hk k a
    ·obtain rfl := List.mem_singleton.1 a; exact R.cls) (by simp; omega) x with dd | ⟨Y, yk, yc, ya, new, yn, E2⟩
   ·exact .inl dd
   refine .inr ⟨Y, yk, yc, ya, y.1 :: new, by rw [yn, List.append_assoc]; rfl, fun n' ks' hl' => ?_⟩
   rw [List.length_cons] at hl'
   obtain ⟨t', e1003, _⟩ := w.eq s.at' _ (List.getElem?_eq_getElem hc.2)
   have lt' := (List.getElem?_eq_some_iff.1 e1003).1
   rw [List.length_cons, show n' + (new.length + 1) = (n' + new.length) + 1 by omega, topS, if_pos (show (shS q bs s).code = 0 ∧ (shS q bs s).at' < c'.toks.length from ⟨ls.code, lt'⟩), E (.inl rfl), oBs, if_neg (by omega)]
   dsimp only
   rw [E2 n' _ (by simp; omega), List.append_assoc]
   rfl
  ·rw [if_neg hc] at x
   cases x
   have := ls.le
   refine .inr ⟨X, hk, ct, ?_, [], by simp, fun n' ks' _ => by simp⟩
   have : ¬ s.at' < c.toks.length := fun z => hc ⟨ls.code, z⟩
   show s.at' = _
   omega
end
section
variable {c : PC}
abbrev elseB : ByteArray := ⟨#[101, 108, 115, 101]⟩
def Nf (c : PC) (m : PI) : Prop := ∀ st, isP c st elseB = true → Wn D2 (m st)
theorem isP_two {st : PSt} {t u : ByteArray} (h : isP c st t = true) (hn : (t.toList == u.toList) = false) : isP c st u = false := by
 unfold isP at h ⊢
 have key : (pk c st).text.toList == t.toList → ((pk c st).text.toList == u.toList) = false := fun a => by
  rw [beq_iff_eq] at a; rw [a]; exact hn
 by_cases h5 : (pk c st).k = 5
 ·rw [if_pos h5] at h ⊢; exact key h
 ·rw [if_neg h5] at h ⊢
  by_cases h2 : (pk c st).k = 2
  ·rw [if_pos h2] at h ⊢; exact key h
  ·rw [if_neg h2]
theorem isP_k {st : PSt} {t : ByteArray} (h : isP c st t = true) : (pk c st).k = 5 ∨ (pk c st).k = 2 := by
 unfold isP at h
 by_cases h5 : (pk c st).k = 5
 ·exact .inl h5
 ·rw [if_neg h5] at h
  by_cases h2 : (pk c st).k = 2
  ·exact .inr h2
  ·rw [if_neg h2] at h; cases h
theorem nPrimary {ex fn table : PI} : Nf c (primaryS c ex fn table) := fun st h => by
 have hk := isP_k h
 unfold primaryS
 rw [if_neg (by omega), if_neg (by omega), if_neg (by omega), if_neg (by rw [isP_two h (by simp [ByteArray.toList_eq])]; decide), if_neg (by rw [isP_two h (by simp [ByteArray.toList_eq])]; decide), if_neg (by rw [isP_two h (by simp [ByteArray.toList_eq])]; decide),
  if_neg (by rw [isP_two h (by simp [ByteArray.toList_eq])]; decide), if_neg (by rw [isP_two h (by simp [ByteArray.toList_eq])]; decide), if_neg (by rw [isP_two h (by simp [ByteArray.toList_eq])]; decide)]
 exact wS (failP_code 2 (by decide))
theorem nSuffix {prim ex : PI} {n : Nat} (h1 : Nf c prim) : Nf c (suffixS c prim ex n) := fun st h => wB (h1 st h) fun a ha => dSuf ha n _
theorem nTurn {self suf : PI} (h1 : Nf c suf) : Nf c (turnS c self suf) := fun st h => by
 unfold turnS
 rw [if_neg (by rw [isP_two h (by simp [ByteArray.toList_eq])]; decide), if_neg (by rw [isP_two h (by simp [ByteArray.toList_eq])]; decide), if_neg (by rw [isP_two h (by simp [ByteArray.toList_eq])]; decide)]
 exact h1 st h
theorem nLevel {L : Int} {sub : PI} {n : Nat} (h1 : Nf c sub) : Nf c (levelS c L sub n) := fun st h => wB (h1 st h) fun a ha => dLev ha n _
theorem nExpr {lv : PI} (h1 : Nf c lv) : Nf c (exprS c lv) := fun st h => by
 unfold exprS openS
 obtain ⟨hc, hl⟩ := isP_live h
 rw [if_neg (by simp [hc]), if_neg (by omega)]
 by_cases h30 : st.nest ≥ 30
 ·rw [if_pos h30, oBs]
  exact wS (failP_code 3 (by decide))
 ·rw [if_neg h30]
  unfold nestTo
  by_cases hn : -1000 ≤ st.nest + 1 ∧ st.nest + 1 ≤ 1000
  ·rw [if_pos hn, Option.map_some, oBs]
   exact wB (h1 _ h) fun a ha => wB (dNest ha _) fun s hs => wS hs
  ·rw [if_neg hn]; exact wN
theorem nAssign {ex : PI} (h1 : Nf c ex) : Nf c (assignS c ex) := fun st h => wB (h1 st h) fun e he => wI (fun z => absurd z he) fun _ => wS he
theorem nStmt {ex block asg : PI} (h1 : Nf c asg) : Nf c (stmtS c ex block asg) := fun st h => by
 unfold stmtS
 rw [if_neg (by rw [isP_two h (by simp [ByteArray.toList_eq])]; decide), if_neg (by rw [isP_two h (by simp [ByteArray.toList_eq])]; decide), if_neg (by rw [isP_two h (by simp [ByteArray.toList_eq])]; decide), if_neg (by rw [isP_two h (by simp [ByteArray.toList_eq])]; decide)]
 exact h1 st h
structure AllN (c : PC) (D : Nat) : Prop where
 ex : Nf c (sp c D 137)
 l1 : Nf c (sp c D 1761)
 l2 : Nf c (sp c D 1762)
 l3 : Nf c (sp c D 1763)
 l4 : Nf c (sp c D 1764)
 l5 : Nf c (sp c D 1765)
 l6 : Nf c (sp c D 1766)
 l7 : Nf c (sp c D 1767)
 tu : Nf c (sp c D 197)
 su : Nf c (sp c D 204)
 pr : Nf c (sp c D 222)
 ag : Nf c (sp c D 139)
 st : Nf c (sp c D 82)
theorem nf_eq {m n : PI} (h : Nf c n) (e : ∀ st, m st = n st) : Nf c m := by rw [show m = n from funext e]; exact h
theorem nf_none {m : PI} (e : ∀ st, m st = none) : Nf c m := fun st _ => by rw [e]; exact wN
theorem nAll : ∀ D, AllN c D
 | 0 => by
  have z : ∀ k st, sp c 0 k st = none := fun k st => by rw [sp]
  exact ⟨nf_none (z _), nf_none (z _), nf_none (z _), nf_none (z _), nf_none (z _), nf_none (z _), nf_none (z _), nf_none (z _), nf_none (z _), nf_none (z _), nf_none (z _), nf_none (z _), nf_none (z _)⟩
 | D + 1 => by
  by_cases h : D < 30
  ·have z : ∀ k st, sp c (D + 1) k st = none := fun k st => by rw [sp, if_pos h]
   exact ⟨nf_none (z _), nf_none (z _), nf_none (z _), nf_none (z _), nf_none (z _), nf_none (z _), nf_none (z _), nf_none (z _), nf_none (z _), nf_none (z _), nf_none (z _), nf_none (z _), nf_none (z _)⟩
  have ih := nAll D
  exact ⟨nf_eq (nExpr ih.l1) (fun _ => sp_137 h), nf_eq (nLevel ih.l2) (fun _ => sp_1761 h), nf_eq (nLevel ih.l3) (fun _ => sp_1762 h), nf_eq (nLevel ih.l4) (fun _ => sp_1763 h), nf_eq (nLevel ih.l5) (fun _ => sp_1764 h),
   nf_eq (nLevel ih.l6) (fun _ => sp_1765 h), nf_eq (nLevel ih.l7) (fun _ => sp_1766 h), nf_eq ih.tu (fun _ => sp_1767 h), nf_eq (nTurn ih.su) (fun _ => sp_197 h), nf_eq (nSuffix ih.pr) (fun _ => sp_204 h),
   nf_eq nPrimary (fun _ => sp_222 h), nf_eq (nAssign ih.ex) (fun _ => sp_139 h), nf_eq (nStmt ih.ag) (fun _ => sp_82 h)⟩
end
theorem shS_zero (s : PSt) : shS 0 [] s = s := by
 have : ∀ n : Kn, shK 0 n = n := fun n => by unfold shK; simp
 have h2 : s.nodes.map (shK 0) = s.nodes := by rw [show shK 0 = id from funext this, List.map_id]
 unfold shS
 simp [h2]
theorem map_zero' (ks : List Int) : ks.map (· + ((([] : List Kn).length : Nat) : Int)) = ks := by simp
def pcOf (s : ByteArray) : PC := ⟨0, .slice none 0 0, (lexR s).1, s.size⟩
theorem parse_live {s : ByteArray} {D : Nat} {ns : List Kn} {top p : Int} (e : sparseR D s = some (ns, top, 0, p)) :
  (lexR s).2.1 = 0 ∧ ∃ (l : List Int) (s1 : PSt), topS (pcOf s) (sp (pcOf s) D 82) D [] st0 = some (l, s1) ∧ Lr (pcOf s) st0 0 l s1 ∧ (∀ k ∈ l, clsOk 2 (kd s1.nodes k) = true) ∧ s1.nodes.length + l.length ≤ s1.at' ∧ s1.at' = (lexR s).1.length ∧
   ns = s1.nodes ++ [⟨21, E0, 0, l⟩] ∧ top = (s1.nodes.length : Int) ∧ p = 0 := by
 unfold sparseR at e
 by_cases hc : (lexR s).2.1 ≠ 0
 ·rw [if_pos hc] at e; cases e
 rw [if_neg hc] at e
 refine ⟨by omega, ?_⟩
 change sparseC (pcOf s) D = _ at e
 unfold sparseC at e
 obtain ⟨l, e1, e⟩ := bnd e
 have w : Tw (pcOf s) (pcOf s) 0 [] := ⟨lexR_len s, (lexR_inv s).1, fun j t h => ⟨t, by rw [Nat.zero_add]; exact h, rfl⟩, by decide, by decide⟩
 have ne : ∀ s1 : PSt, s1.code = 0 → s1.at' = 0 + (pcOf s).toks.length → isP (pcOf s) s1 ⟨#[101, 108, 115, 101]⟩ = false := fun s1 h1 h2 => isP_zero (by rw [pk_end h1 (by omega)])
 have L0 : Ls (pcOf s) st0 := ⟨rfl, Nat.zero_le _, fun j n h => (by cases h), Nat.zero_le _⟩
 unfold finS at e
 rcases hTop w (hAll w ne D).st (dAll D 82) (st0 := st0) D [] st0 l (Lr.start L0) (fun k hk => by cases hk) (Nat.le_refl _) e1 with dd | ⟨Y, yk, yc, ya, _⟩
 ·rw [nodeS_d dd, oBs] at e
  dsimp only at e
  rw [if_pos (show l.2.code ≠ 0 from dd)] at e
  have : l.2.code = 0 := by simp only [Option.some.injEq, Prod.mk.injEq] at e; exact e.2.2.1
  exact absurd this dd
 have hN := lexR_len s
 have ya' : l.2.at' = (lexR s).1.length := ya
 rw [nodeS_ok Y.ls.code (by omega), oBs] at e
 dsimp only at e
 rw [if_neg (by show ¬ l.2.code ≠ 0; simp [Y.ls.code])] at e
 cases e
 exact ⟨l.1, l.2, e1, Y, yk, yc, ya', rfl, rfl, rfl⟩
theorem parse_tree {s : ByteArray} {D : Nat} {ns : List Kn} {top p : Int} (e : sparseR D s = some (ns, top, 0, p)) : implOk ns top = true := by
 obtain ⟨_, l, s1, _, Y, yk, yc, ya, rfl, rfl, _⟩ := parse_live e
 have hN := lexR_len s
 have hl : (s1.nodes ++ [(⟨21, E0, 0, l⟩ : Kn)]).length = s1.nodes.length + 1 := by simp
 have at1 : (s1.nodes ++ [(⟨21, E0, 0, l⟩ : Kn)])[s1.nodes.length]? = some ⟨21, E0, 0, l⟩ := by rw [List.getElem?_append_right (Nat.le_refl _), Nat.sub_self]; rfl
 have g : Good s1.nodes s1.nodes.length ⟨21, E0, 0, l⟩ := ⟨fun j hj => by have := Y.tl.mem j hj; omega, has0 rfl, (show (1 : Int) ≤ 21 ∧ (21 : Int) ≤ 24 by decide), shp21 (fun k hk => by
  obtain ⟨j, hj, rfl⟩ := List.mem_map.1 hk
  exact yk j hj)⟩
 refine tree_ok (Y.ls.good.put g) ?_ ?_ ?_
 ·rw [hl]
  exact .cons _ _ _ _ _ at1 (Y.tl.agree (fun j hj => List.getElem?_append_left hj)) (.nil _)
 ·unfold kd
  rw [show ((s1.nodes.length : Int)).toNat = s1.nodes.length by omega, at1]; rfl
 ·rw [hl]
  cases l with
  | nil => have := Y.tl.nil_eq; omega
  | cons k l => rw [List.length_cons] at yc; omega
theorem strip_at {a b : List Tok} (h : a.map strip = b.map strip) {j : Nat} {t : Tok} (ht : b[j]? = some t) : ∃ t', a[j]? = some t' ∧ strip t' = strip t := by
 have e : (a.map strip)[j]? = (b.map strip)[j]? := by rw [h]
 rw [List.getElem?_map, List.getElem?_map, ht] at e
 cases ha : a[j]? with
 | none => rw [ha] at e; cases e
 | some t' => rw [ha] at e; exact ⟨t', rfl, by simpa using e⟩
theorem parse_twice {s : ByteArray} {D : Nat} (hD : 7000 ≤ D) {ns : List Kn} {top p : Int} (e : sparseR D s = some (ns, top, 0, p)) (hs : 2 * s.size + 1 ≤ 3000) :
  ∃ (ks : List Int) (ns2 : List Kn) (ks2 : List Int), ns[top.toNat]? = some ⟨21, E0, 0, ks⟩ ∧ 0 ≤ top ∧ sparseR D ((s ++ nlB) ++ s) = some (ns2, (ns2.length : Int) - 1, 0, 0) ∧ ns2.length + 1 = 2 * ns.length ∧
   ns2[ns2.length - 1]? = some ⟨21, E0, 0, ks2⟩ ∧ ks2.length = 2 * ks.length := by
 obtain ⟨h0, l, s1, e1, Y, yk, yc, ya, rfl, rfl, _⟩ := parse_live e
 have hN := lexR_len s
 obtain ⟨a, b, x1, x2, x3⟩ := lex_twice h0 hs
 have la : a.length = (lexR s).1.length := by have := congrArg List.length x2; simpa using this
 have lb : b.length = (lexR s).1.length := by have := congrArg List.length x3; simpa using this
 have hl : (s1.nodes ++ [(⟨21, E0, 0, l⟩ : Kn)]).length = s1.nodes.length + 1 := by simp
 have tk : (pcOf ((s ++ nlB) ++ s)).toks = a ++ b := by show (lexR ((s ++ nlB) ++ s)).1 = _; rw [x1]
 have w1 : Tw (pcOf s) (pcOf ((s ++ nlB) ++ s)) 0 [] := ⟨hN, (lexR_inv s).1, fun j t h => by
  obtain ⟨t', h1, h2⟩ := strip_at x2 h
  exact ⟨t', by rw [tk, Nat.zero_add, List.getElem?_append_left (List.getElem?_eq_some_iff.1 h1).1]; exact h1, h2⟩, by decide, by decide⟩
 have w2 : Tw (pcOf s) (pcOf ((s ++ nlB) ++ s)) (lexR s).1.length s1.nodes := ⟨hN, (lexR_inv s).1, fun j t h => by
  obtain ⟨t', h1, h2⟩ := strip_at x3 h
  exact ⟨t', by rw [tk, List.getElem?_append_right (by omega), show (lexR s).1.length + j - a.length = j by omega]; exact h1, h2⟩, by omega, by omega⟩
 have L0 : Ls (pcOf s) st0 := ⟨rfl, Nat.zero_le _, fun j n h => (by cases h), Nat.zero_le _⟩
 have ne2 : ∀ s2 : PSt, s2.code = 0 → s2.at' = (lexR s).1.length + (pcOf s).toks.length → isP (pcOf ((s ++ nlB) ++ s)) s2 ⟨#[101, 108, 115, 101]⟩ = false := fun s2 c1 c2 => by
  have c1003 : s2.at' = (lexR s).1.length + (lexR s).1.length := c2
  exact isP_zero (by rw [pk_end c1 (by rw [tk, List.length_append]; omega)])
 have ne1 : ∀ s2 : PSt, s2.code = 0 → s2.at' = 0 + (pcOf s).toks.length → isP (pcOf ((s ++ nlB) ++ s)) s2 ⟨#[101, 108, 115, 101]⟩ = false := fun s2 c1 c2 => by
  have c1003 : s2.at' = (lexR s).1.length := by have : s2.at' = 0 + (lexR s).1.length := c2; omega
  by_cases hz : (lexR s).1.length = 0
  ·exact isP_zero (by rw [pk_end c1 (by rw [tk, List.length_append]; omega)])
  -- the first token of s is no 'else': s would not be read
  have h00 : st0.at' < (pcOf s).toks.length := by show 0 < (lexR s).1.length; omega
  have n0 : isP (pcOf s) st0 elseB = false := by
   cases hh : isP (pcOf s) st0 elseB with
   | false => rfl
   | true =>
    exfalso
    obtain ⟨D, rfl⟩ : ∃ d, D = d + 1 := ⟨D - 1, by omega⟩
    rw [topS, if_pos (show st0.code = 0 ∧ st0.at' < _ from ⟨rfl, h00⟩)] at e1
    have W : Wn D2 ((sp (pcOf s) (D + 1) 82 st0).bind fun x => if ([] : List Int).length > 1000000 then none else topS (pcOf s) (sp (pcOf s) (D + 1) 82) D ([] ++ [x.1]) x.2) :=
     wB ((nAll (D + 1)).st st0 hh) fun x hx => wI (fun _ => wN) fun _ => dTop hx D _
    exact W _ e1 Y.ls.code
  have e1003 := isP_sh w2 L0 h00 elseB
  rw [n0] at e1003
  have e1004 : isP (pcOf ((s ++ nlB) ++ s)) s2 elseB = isP (pcOf ((s ++ nlB) ++ s)) (shS (lexR s).1.length s1.nodes st0) elseB := by
   unfold isP pk
   rw [c1, c1003]
   rfl
  rw [e1004]; exact e1003
 obtain hm : l.length ≤ 3000 := by omega
 rcases hTop w1 (hAll w1 ne1 D).st (dAll D 82) (st0 := st0) D [] st0 (l, s1) (Lr.start L0) (fun k hk => by cases hk) (Nat.le_refl _) e1 with dd | ⟨_, _, _, _, new, hn1, E1⟩
 ·exact absurd Y.ls.code dd
 rcases hTop w2 (hAll w2 ne2 D).st (dAll D 82) (st0 := st0) D [] st0 (l, s1) (Lr.start L0) (fun k hk => by cases hk) (Nat.le_refl _) e1 with dd | ⟨_, _, _, _, new2, hn2, E2⟩
 ·exact absurd Y.ls.code dd
 rw [List.nil_append] at hn1 hn2
 have hn1' : l = new := hn1
 have hn2' : l = new2 := hn2
 subst hn1'
 subst hn2'
 obtain ⟨n', hn'⟩ : ∃ n', D = n' + 1 + l.length + l.length := ⟨D - 1 - l.length - l.length, by omega⟩
 have st1 : shS (lexR s).1.length s1.nodes st0 = s1 := by
  have h1 := Y.ls.code; have h2 := Y.nest; have h3 := Y.plc
  cases s1 with
  | mk a1 b1 c1 d1 f1 =>
   simp only at h1 h2 h3 ya
   subst ya; subst h1; subst h2; subst h3
   unfold shS
   simp [st0]
 have T1 : topS (pcOf ((s ++ nlB) ++ s)) (sp (pcOf ((s ++ nlB) ++ s)) D 82) D [] st0 = some (l ++ l.map (· + (s1.nodes.length : Int)), shS (lexR s).1.length s1.nodes s1) := by
  have A := E1 (n' + 1 + l.length) [] (by simp; omega)
  rw [shS_zero, shS_zero, map_zero', List.nil_append, ← hn'] at A
  rw [A]
  have B := E2 (n' + 1) l (by omega)
  rw [st1] at B
  rw [B, topS, if_neg]
  rw [tk, List.length_append]
  show ¬ (_ ∧ (lexR s).1.length + s1.at' < _)
  omega
 have hlen : (shS (lexR s).1.length s1.nodes s1).nodes.length = 2 * s1.nodes.length := by show (s1.nodes ++ s1.nodes.map _).length = _; simp; omega
 refine ⟨l, (shS (lexR s).1.length s1.nodes s1).nodes ++ [⟨21, E0, 0, l ++ l.map (· + (s1.nodes.length : Int))⟩], l ++ l.map (· + (s1.nodes.length : Int)), ?_, by omega, ?_, ?_, ?_, by simp; omega⟩
 ·rw [show ((s1.nodes.length : Int)).toNat = s1.nodes.length by omega, List.getElem?_append_right (Nat.le_refl _), Nat.sub_self]; rfl
 ·unfold sparseR
  rw [x1]
  dsimp only
  rw [if_neg (by simp)]
  have : sparseC (pcOf ((s ++ nlB) ++ s)) D = some ((shS (lexR s).1.length s1.nodes s1).nodes ++ [⟨21, E0, 0, l ++ l.map (· + (s1.nodes.length : Int))⟩], ((shS (lexR s).1.length s1.nodes s1).nodes.length : Int), 0, 0) := by
   unfold sparseC
   rw [T1, oBs]
   unfold finS
   dsimp only
   rw [nodeS_ok (show (shS (lexR s).1.length s1.nodes s1).code = 0 from Y.ls.code) (by rw [hlen]; omega), oBs]
   dsimp only
   rw [if_neg (by show ¬ s1.code ≠ 0; simp [Y.ls.code])]
   rfl
  have hp : pcOf ((s ++ nlB) ++ s) = ⟨0, .slice none 0 0, a ++ b, ((s ++ nlB) ++ s).size⟩ := by unfold pcOf; rw [x1]
  rw [hp] at this
  rw [this]
  congr 2
  simp
 ·rw [List.length_append, hlen, hl]; simp; omega
 ·rw [List.length_append, List.length_singleton, Nat.add_sub_cancel, List.getElem?_append_right (Nat.le_refl _), Nat.sub_self]; rfl
def TsT (h : AHeap) (o : Option (Value × AHeap)) : Prop := ∃ h', o = some (.bool true, h') ∧ Ext h.size h h'
theorem TsT.up {h g : AHeap} {o : Option (Value × AHeap)} (e : Ext h.size h g) (x : TsT g o) : TsT h o := let ⟨h', a, b⟩ := x; ⟨h', a, e.trans (b.mono e.size)⟩
theorem stAll' {b : Nat} {h : AHeap} {r rt m : Nat} {e : TypeId} {cs vs : List Value} {v : Value} (o : OwnR h r rt e cs) (hb : b ≤ rt) (hv : aCells v = some vs) (hl : vs.length = m) (hc : cs.length = m) :
  ∃ h', aSt h (ptr r 0) v m = some h' ∧ Ext b h h' ∧ Ks e rt h h' ∧ OwnR h' r rt e vs ∧ h'.size = h.size := by
 obtain ⟨ep, ha⟩ := o
 have hsp : splice cs 0 vs = vs := by unfold splice; simp [show cs.length ≤ vs.length by omega]
 refine ⟨h.put r ⟨rt, ep, false, e, cs⟩ vs, ?_, Ext.put (Nat.le_trans hb (at?_obj ha).2.2.1) hb _, fun k o hk hf => ?_, ⟨_, at?_put_same ha _⟩, rfl⟩
 ·have : 0 + m ≤ cs.length := by omega
  simp [aSt, ptr, ha, hv, hl, hsp, show m ≤ cs.length by omega]
 ·refine at?_put_other hk (fun e' => ?_) _ (fun x => hf.elim (fun f => f x.1) fun f => f x.2)
  subst e'; rw [ha] at hk; cases hk
  exact hf.elim (fun f => f rfl) fun f => f rfl
theorem newR {P : Option (Value × AHeap) → Prop} {h : AHeap} {e : TypeId} {cells : List Value} {k : Value → AHeap → Option (Value × AHeap)}
  (hk : ∀ g, Ext h.size h g → OwnR g h.size h.size e cells → g.size = h.size + 1 → P (k (ptr h.size 0) g)) : P (aNew h e cells k) := hk _ (Ext.new (Nat.le_refl _) _ _) (OwnR.new h e cells) rfl
section
variable {C : ACall} {N c : Nat} {nv nw : Value} {T : List Kn} {top : Int}
theorem same_in {n1 q q' p p' : Nat} {I : Int} {ks : List Int} {kv kw a b d a' b' d' : Value} {h : AHeap} (x : ISl c h kv ks) (y : ISl c h kw ks) (r6 : Row h p [a, b, d, kv]) (r7 : Row h p' [a', b', d', kw]) (hl : ks.length ≤ 1048576) :
  ∀ (k j m : Nat), ks.length - j = k → j ≤ ks.length → k < m → s24_5 hk0 C N n1 m (ptr q 0) (ptr q' 0) I (ptr p 0) (ptr p' 0) (j : Int) h = s24_2 hk0 C N n1 (ptr q 0) (ptr q' 0) (IntKind.i64.wrap (I + 1)) h := by
 obtain ⟨_, _, _, a3, _⟩ := ld4 r6
 obtain ⟨_, _, _, b3, _⟩ := ld4 r7
 intro k
 induction k with
 | zero =>
  intro j m hk hj hm
  obtain ⟨m, rfl⟩ : ∃ q, m = q + 1 := ⟨m - 1, by omega⟩
  rw [s24_5_eq]
  exact eb rfl (eb a3 (eb x.len (eb rfl (ecf (decide_eq_false (by omega)) rfl))))
 | succ k ih =>
  intro j m hk hj hm
  obtain ⟨m, rfl⟩ : ∃ q, m = q + 1 := ⟨m - 1, by omega⟩
  have hlt : j < ks.length := by omega
  obtain ⟨u, u1, u2⟩ := x.at hlt
  obtain ⟨v, v1, v2⟩ := y.at hlt
  have wj : IntKind.i64.wrap ((j : Int) + 1) = ((j + 1 : Nat) : Int) := by rw [wr (by omega) (by omega)]; omega
  rw [s24_5_eq]
  refine eb rfl (eb a3 (eb x.len (eb rfl (ect (decide_eq_true (by omega)) (eb rfl (eb a3 (eb u1 (eb u2 (eb rfl (eb rfl (eb b3 (eb v1 (eb v2 (eb rfl (ecf (bne_self_eq_false _) ?_)))))))))))))))
  rw [wj]
  exact ih (j + 1) m (by omega) (by omega) (by omega)
theorem same_loop {q q' : Nat} (hT : T.length ≤ 10000) (hN : ∀ n ∈ T, SmK n) (hD : 1048600 < N) : ∀ (k j m : Nat) (h : AHeap), T.length - j = k → j ≤ T.length → k < m → KSl c h nv T → KSl c h nw T → c ≤ h.size →
  Row h q [nv, .int .i64 top] → q < h.size → Row h q' [nw, .int .i64 top] → q' < h.size → TsT h (s24_2 hk0 C N m (ptr q 0) (ptr q' 0) (j : Int) h) := by
 intro k
 induction k with
 | zero =>
  intro j m h hk hj hm x y hc r hq r' hq'
  obtain ⟨m, rfl⟩ : ∃ q, m = q + 1 := ⟨m - 1, by omega⟩
  rw [s24_2_eq]
  exact pb (P := TsT h) rfl (pb (ld2 r).1 (pb x.len (pb rfl (pcf (decide_eq_false (by omega)) ⟨h, rfl, Ext.refl _ _⟩))))
 | succ k ih =>
  intro j m h hk hj hm x y hc r hq r' hq'
  obtain ⟨m, rfl⟩ : ∃ q, m = q + 1 := ⟨m - 1, by omega⟩
  have hlt : j < T.length := by omega
  obtain ⟨i, kv, x1, x2, x3⟩ := x.at hlt
  obtain ⟨i', kw, y1, y2, y3⟩ := y.at hlt
  have wj : IntKind.i64.wrap ((j : Int) + 1) = ((j + 1 : Nat) : Int) := by rw [wr (by omega) (by omega)]; omega
  have hn := hN T[j] (List.getElem_mem hlt)
  rw [s24_2_eq]
  refine pb (P := TsT h) rfl (pb (ld2 r).1 (pb x.len (pb rfl (pct (decide_eq_true (by omega)) (pb rfl (pb (ld2 r).1 (pb x1 (pb (x3 h (Ext.refl _ _)).1 (pb rfl (pb (ld2 r').1 (pb y1 (pb (y3 h (Ext.refl _ _)).1 ?_))))))))))))
  refine newR (P := TsT h) fun g1 E1 o1 z1 => newR (P := TsT h) fun g2 E2 o2 z2 => ?_
  have s1 := E1.size; have s2 := E2.size
  obtain ⟨g3, t3, E3, k3, o3, z3⟩ := stAll' (b := h.size) (m := 4) (o1.ext E2) (Nat.le_refl _) (kn_aCells x2) rfl rfl
  have E13 : Ext h.size h g3 := (E1.trans (E2.mono s1)).trans E3
  refine pb (P := TsT h) t3 ?_
  refine pb (P := TsT h) (ag1 (ld2 (r'.ext E13 hq')).1) (pct y.vbeq ?_)
  refine pb (P := TsT h) (ag1 (y3 g3 (E13.mono hc)).1) (pct (kn_vbeq y2) ?_)
  have o2' := o2.ks k3 (.inr (by omega))
  obtain ⟨g4, t4, E4, k4, o4, z4⟩ := stAll' (b := h.size) (m := 4) o2' (by omega) (kn_aCells y2) rfl rfl
  have o3' := o3.ks k4 (.inr (by omega))
  have E14 : Ext h.size h g4 := E13.trans E4
  obtain ⟨a0, a1, a2, a3, _⟩ := ld4 o3'.row
  obtain ⟨b0, b1, b2, b3, _⟩ := ld4 o4.row
  refine pb (P := TsT h) t4 (pb rfl (pb a0 (pb rfl (pb rfl (pb b0 (pb rfl (pcf (bne_self_eq_false _) ?_)))))))
  refine pb (P := TsT h) rfl (pb a1 (pb rfl (pb rfl (pb b1 (pb rfl (pcf (by simp) ?_))))))
  refine pb (P := TsT h) rfl (pb a2 (pb rfl (pb rfl (pb b2 (pb rfl (pcf (bne_self_eq_false _) ?_))))))
  refine pb (P := TsT h) rfl (pb a3 (pb x2.len (pb rfl (pb rfl (pb b3 (pb y2.len (pb rfl ?_)))))))
  rw [s24_3_j, s24_3_eq]
  refine pcf (P := TsT h) (bne_self_eq_false _) ?_
  rw [s24_4_j, s24_4_eq]
  have x2' := x2.ext (E14.mono hc)
  have y2' := y2.ext (E14.mono hc)
  have := same_in (C := C) (N := N) (n1 := m) (q := q) (q' := q') (I := (j : Int)) x2' y2' o3'.row o4.row hn.2 T[j].ks.length 0 N (by omega) (by omega) (by have := hn.2; omega)
  rw [show ((0 : Nat) : Int) = 0 from rfl] at this
  rw [this, wj]
  exact TsT.up E14 (ih (j + 1) m g4 (by omega) (by omega) (by omega) (x.ext (E14.mono hc)) (y.ext (E14.mono hc)) (by omega) (r.ext E14 hq) (by omega) (r'.ext E14 hq') (by omega))
end
theorem t24 {d c : Nat} (hd : 1048600 < d) {nv nw : Value} {T : List Kn} {top : Int} {h : AHeap} (x : KSl c h nv T) (y : KSl c h nw T) (hc : c ≤ h.size) (hT : T.length ≤ 10000) (hN : ∀ n ∈ T, SmK n) :
  TsT h (call Tp Ms (d + 1) 24 [trVal nv top, trVal nw top] h) := by
 rw [c24, e24]
 refine pb (P := TsT h) (tr_aCells x top) (newR (P := TsT h) fun g1 E1 o1 z1 => pb (tr_aCells y top) (newR (P := TsT h) fun g2 E2 o2 z2 => ?_))
 have s1 := E1.size; have s2 := E2.size
 have E : Ext h.size h g2 := E1.trans (E2.mono s1)
 have r1 := (o1.ext E2).row
 have x2 := x.ext (E.mono hc)
 have y2 := y.ext (E.mono hc)
 refine pb (P := TsT h) rfl (pb (ld2 r1).1 (pb x2.len (pb rfl (pb rfl (pb (ld2 o2.row).1 (pb y2.len (pb rfl (pcf (bne_self_eq_false _) ?_))))))))
 refine pb (P := TsT h) rfl (pb (ld2 r1).2.1 (pb rfl (pb rfl (pb (ld2 o2.row).2.1 (pb rfl ?_)))))
 rw [s24_0_j, s24_0_eq]
 refine pcf (P := TsT h) (bne_self_eq_false _) ?_
 rw [s24_1_j, s24_1_eq]
 exact TsT.up E (same_loop hT hN hd T.length 0 d g2 (by omega) (by omega) (by omega) x2 y2 (by omega) r1 (by omega) o2.row (by omega))
theorem l20D {D : Nat} {h : AHeap} {v : Value} {xs : List Int} (hD : 5004 ≤ D) (x : BR h v xs) (hx : xs.length ≤ 1048576) : ∃ s g, call Tp Ms D 20 [v] h = some (.string s, g) ∧ s.size ≤ 10000000000000 ∧ Fr h g := by
 obtain ⟨D, rfl⟩ : ∃ d, D = d + 1 := ⟨D - 1, by omega⟩
 obtain ⟨i, g1, k1, E1, w1⟩ := q69 (D := D) (by omega) x hx
 obtain ⟨s2, g2, k2, b2, f2, w2⟩ := q70 (D := D) (by omega) (x.fr (Fr.ext E1)) hx w1
 rw [c20, e20]
 exact ⟨s2, g2, eb k1 (eb k2 (eb rfl rfl)), by omega, (Fr.ext E1).trans f2⟩
theorem KidH.isl {h : AHeap} {kv : Value} {ks : List Int} (x : KidH h kv ks) : ISl h.size h kv ks := by
 rcases x with x | ⟨i, rt, rfl, ep, a⟩
 ·exact .inl x
 ·exact .inr (.inr ⟨i, _, rfl, a, rfl, rfl, (at?_obj a).2.1⟩)
theorem NodesH.ksl {h : AHeap} {nv : Value} {ns : List Kn} {rn : Option Nat} (x : NodesH h nv ns rn) : KSl h.size h nv ns := by
 rcases x with ⟨a, b, _⟩ | ⟨i, root, cells, rfl, _, ⟨ep, a⟩, hl, hx⟩
 ·exact .inl ⟨a, b⟩
 ·exact .inr (.inr ⟨i, _, rfl, a, (at?_obj a).2.1, hl, fun j n hn => let ⟨kv, y, z⟩ := hx j n hn; ⟨kv, y, z.isl⟩⟩)
def Kc (h h' : AHeap) : Prop := h.size ≤ h'.size ∧ ∀ j o, h.at? j = some o → o.elem ≠ 124 → o.elem ≠ 128 → h'.at? j = some o
theorem Kc.trans {h h1 h2 : AHeap} (x : Kc h h1) (y : Kc h1 h2) : Kc h h2 := ⟨Nat.le_trans x.1 y.1, fun j o a b c => y.2 j o (x.2 j o a b c) b c⟩
theorem Kc.ext {h h' : AHeap} (x : Ext h.size h h') : Kc h h' := ⟨x.size, fun j o a _ _ => x.at? (at?_obj a).2.1 a⟩
theorem Kc.pk {h h' : AHeap} (x : PK none h h') : Kc h h' := ⟨x.1, fun j o a b _ => x.2.1 j o a b fun _ => by simp⟩
theorem Kc.qk {h h' : AHeap} (x : QK none h h') : Kc h h' := ⟨x.1, fun j o a _ b => x.2.1 j o a b fun _ => by simp⟩
theorem KidH.kc {h h' : AHeap} {kv : Value} {ks : List Int} (x : KidH h kv ks) (k : Kc h h') : KidH h' kv ks := by
 rcases x with x | ⟨i, rt, e, ep, a⟩
 ·exact .inl x
 ·exact .inr ⟨i, rt, e, ep, k.2 i _ a (by show (3 : TypeId) ≠ 124; decide) (by show (3 : TypeId) ≠ 128; decide)⟩
theorem NodesH.kc {h h' : AHeap} {nv : Value} {ns : List Kn} {rn : Option Nat} (x : NodesH h nv ns rn) (k : Kc h h') : NodesH h' nv ns rn := by
 rcases x with x | ⟨i, root, cells, e1, e2, ⟨ep, a⟩, hl, hx⟩
 ·exact .inl x
 ·exact .inr ⟨i, root, cells, e1, e2, ⟨ep, k.2 i _ a (by show (48 : TypeId) ≠ 124; decide) (by show (48 : TypeId) ≠ 128; decide)⟩, hl, fun j n hn => let ⟨kv, y, z⟩ := hx j n hn; ⟨kv, y, z.kc k⟩⟩
theorem OwnR.kc {h h' : AHeap} {i rt : Nat} {e : TypeId} {cs : List Value} (x : OwnR h i rt e cs) (k : Kc h h') (h1 : e ≠ 124) (h2 : e ≠ 128) : OwnR h' i rt e cs := let ⟨ep, a⟩ := x; ⟨ep, k.2 i _ a h1 h2⟩
theorem tv_cells' {v : Value} (hv : isCell v = true) (n : Int) : aCells (trVal v n) = some [v, .int .i64 n] := by
 show (if (List.all [v, .int .i64 n] isCell) = true then some [v, .int .i64 n] else none) = _
 rw [if_pos (by show (isCell v && (true && true)) = true; rw [hv]; rfl)]
theorem putTr {P : Option (Value × AHeap) → Prop} {h : AHeap} {nv : Value} {top : Int} {K : Value → AHeap → Option (Value × AHeap)} (hv : isCell nv = true)
  (hk : ∀ h', Ext h.size h h' → OwnR h' h.size h.size 41 [nv, .int .i64 top] → P (K (ptr h.size 0) h')) :
  P (aNew h 41 [.slice none 0 0, .int .i64 0] fun p7 h8 => (aSt h8 p7 (trVal nv top) 2).bind fun h9 => K p7 h9) := by
 refine newR fun g E o z => ?_
 obtain ⟨h', a, b, _, o', _⟩ := stAll' (b := h.size) (m := 2) o (Nat.le_refl _) (tv_cells' hv top) rfl rfl
 exact pb a (hk h' (E.trans b) o')
theorem parse_fault {s : ByteArray} {D : Nat} {r : PRes} (e : sparseR D s = some r) (h : r.2.2.1 ≠ 0) : r.1 = [] := by
 unfold sparseR at e
 by_cases hc : (lexR s).2.1 ≠ 0
 ·rw [if_pos hc] at e; cases e; rfl
 rw [if_neg hc] at e
 unfold sparseC at e
 obtain ⟨l, e1, e⟩ := bnd e
 unfold finS at e
 obtain ⟨x, e2, e⟩ := bnd e
 by_cases h1 : x.2.code ≠ 0
 ·rw [if_pos h1] at e; cases e; rfl
 ·rw [if_neg h1] at e; cases e; exact absurd rfl h
theorem l4P {E : Nat} (hE : 1060000 < E) (hE2 : E ≤ 2000000) {h : AHeap} {v : Value} {xs : List Int} (x : BR h v xs) : Yes (call Tp Ms (E + 1) 4 [v] h) := by
 rw [c4, e4]
 refine pb (P := Yes) (q26 (by omega) x) (pb rfl ?_)
 by_cases hb : (xs.length : Int) > 1048576
 ·rw [decide_eq_true hb]; exact pct (P := Yes) rfl ⟨h, rfl⟩
 rw [decide_eq_false hb]
 refine pcf (P := Yes) rfl ?_
 obtain ⟨s, g0, k0, b0, F0⟩ := l20D (D := E) (by omega) x (by omega)
 refine pb (P := Yes) k0 (pb rfl ?_)
 obtain ⟨d, rfl⟩ : ∃ d, E = d + 22 := ⟨E - 22, by omega⟩
 obtain ⟨r, p1, p2, hl, hk⟩ := parse_both s (D := d + 21) (D' := d + 21) (by omega) (by omega) (by omega)
 obtain ⟨h1, nv1, rn1, c1', y1, k1, _⟩ := l28 (d := d) (by omega) (h := g0) (by omega) p2
 refine pb (P := Yes) c1' (pb rfl (pb rfl (pb rfl (pb rfl (pb rfl (putTr (nv := nv1) (top := r.2.1) y1.cell fun h2 E12 o1 => ?_))))))
 have y2 := y1.ext E12
 obtain ⟨h3, nv3, rn3, c3', y3, k3, _⟩ := q47 (d := d + 17) (by omega) (h := h2) p1
 have c3'' : call Tp Ms (d + 22) 22 [.string s] h2 = some (tval nv3 r, h3) := c3'
 have K23 : Kc h2 h3 := Kc.qk k3
 refine pb (P := Yes) c3'' (pb rfl (pb rfl (pb rfl (pb rfl (pb rfl (putTr (nv := nv3) (top := r.2.1) y3.cell fun h4 E34 o3 => ?_))))))
 have K24 : Kc h2 h4 := K23.trans (Kc.ext E34)
 have y4 := y2.kc K24
 have o4 := o1.kc K24 (by decide) (by decide)
 have z4 := y3.ext E34
 by_cases hc : r.2.2.1 = 0
 case neg =>
  have hn := parse_fault p1 hc
  refine pct (P := Yes) (by simp [hc]) (pct (by simp) (pct (by simp) (pb rfl (pb (ld2 o4.row).1 (pb y4.ksl.len (pb rfl ?_))))))
  rw [hn]
  exact ⟨h4, rfl⟩
 obtain ⟨ns, top, code, pl⟩ := r
 have hc' : code = 0 := hc
 subst hc'
 have hok := parse_tree p1
 have hl' : ns.length ≤ 9001 := hl
 refine pcf (P := Yes) rfl (pcf rfl (pb (ld2 o4.row).2.2 ?_))
 obtain ⟨h5, c5', E45⟩ := l22 (d := d + 22 - 3019) (by omega) (top := top) y4.ksl (Nat.le_refl _) (by omega) hk
 rw [show d + 22 - 3019 + 3010 + 9 = d + 22 by omega, hok] at c5'
 have o5 := o4.ext E45
 have p5 := o3.ext E45
 refine pb (P := Yes) c5' (pb rfl (pcf rfl (pb (ld2 o5.row).2.2 (pb (ld2 p5.row).2.2 ?_))))
 obtain ⟨h6, c6', E56⟩ := t24 (d := d + 21) (by omega) (top := top) (y4.ext E45).ksl (z4.ext E45).ksl (Nat.le_refl _) (by omega) hk
 refine pb (P := Yes) c6' (pb rfl ?_)
 rw [s4_0_j, s4_0_eq]
 refine pcf (P := Yes) rfl ?_
 rw [s4_1_j, s4_1_eq]
 obtain ⟨hx0, _⟩ := parse_live p1
 have hsz : s.size ≤ 3000 := by
  apply Decidable.byContradiction
  intro hh
  unfold lexR at hx0
  rw [if_pos (by omega)] at hx0
  cases hx0
 have w1 : IntKind.i64.wrap (2 * (s.size : Int)) = 2 * (s.size : Int) := wr (by omega) (by omega)
 have w2 : IntKind.i64.wrap (2 * (s.size : Int) + 1) = 2 * (s.size : Int) + 1 := wr (by omega) (by omega)
 rw [w1, w2]
 by_cases hbig : 2 * (s.size : Int) + 1 > 3000
 ·exact pct (P := Yes) (decide_eq_true hbig) ⟨h6, rfl⟩
 obtain ⟨ks, ns2, ks2, t1, t0, t2, t3, t4, t5⟩ := parse_twice (by omega) p1 (by omega)
 obtain ⟨r2, u1, u2, hl2, hk2⟩ := parse_both ((s ++ nlB) ++ s) (D := d + 21) (D' := d + 21) (by omega) (by omega) (by omega)
 have e2 : r2 = (ns2, (ns2.length : Int) - 1, 0, 0) := by rw [t2] at u1; cases u1; rfl
 subst e2
 have hs1 : (s ++ nlB).size = s.size + 1 := by rw [ByteArray.size_append]; rfl
 have hnl : nlB.size = 1 := rfl
 obtain ⟨h7, nv7, rn7, c7', y7, k7, _⟩ := l28 (d := d) (by omega) (h := h6) (by omega) u2
 have a1 : aBin .add (.string s) (.string ⟨#[10]⟩) = some (.string (s ++ nlB)) := sAdd (a := s) (b := nlB) (by omega)
 have a2 : aBin .add (.string (s ++ nlB)) (.string s) = some (.string ((s ++ nlB) ++ s)) := sAdd (by omega)
 refine pcf (P := Yes) (decide_eq_false hbig) (pb a1 (pb rfl (pb a2 (pb rfl (pb c7' (pb rfl (pb rfl (pb rfl (pb rfl (pb rfl (putTr (nv := nv7) (top := (ns2.length : Int) - 1) y7.cell fun h8 E78 o8 => ?_)))))))))))
 have K68 : Kc h6 h8 := (Kc.pk k7).trans (Kc.ext E78)
 have q8 := (p5.ext E56).kc K68 (by decide) (by decide)
 have z8 := ((z4.ext E45).ext E56).kc K68
 have y8 := y7.ext E78
 have hne : 0 < ns2.length := by
  apply Decidable.byContradiction
  intro hh
  have : ns2 = [] := List.length_eq_zero_iff.1 (by omega)
  subst this
  simp at t4
 have hl2' : ns2.length ≤ 9001 := hl2
 have w3 : IntKind.i64.wrap (2 * (ns.length : Int)) = 2 * (ns.length : Int) := wr (by omega) (by omega)
 have w4 : IntKind.i64.wrap (2 * (ns.length : Int) - 1) = 2 * (ns.length : Int) - 1 := wr (by omega) (by omega)
 refine pct (P := Yes) rfl (pb rfl (pb (ld2 o8.row).1 (pb y8.ksl.len (pb rfl (pb rfl (pb (ld2 q8.row).1 (pb z8.ksl.len (pb rfl ?_))))))))
 rw [w3, w4]
 have hlt2 : ns2.length - 1 < ns2.length := by omega
 have hlt1 : top.toNat < ns.length := (List.getElem?_eq_some_iff.1 t1).1
 obtain ⟨i2, kv2, v1, v2, v3⟩ := y8.ksl.at hlt2
 obtain ⟨i1, kv1, u3, u4, u5⟩ := z8.ksl.at hlt1
 rw [show ((ns2.length - 1 : Nat) : Int) = (ns2.length : Int) - 1 by omega] at v1
 rw [show ((top.toNat : Nat) : Int) = top by omega] at u3
 have g2 : ns2[ns2.length - 1] = ⟨21, E0, 0, ks2⟩ := by rw [List.getElem?_eq_getElem hlt2] at t4; exact Option.some.inj t4
 have g1 : ns[top.toNat] = ⟨21, E0, 0, ks⟩ := by rw [List.getElem?_eq_getElem hlt1] at t1; exact Option.some.inj t1
 have kl1 : ks.length ≤ 1048576 := by have := (hk _ (List.getElem_mem hlt1)).2; rw [g1] at this; exact this
 have L2 := v2.len
 have L1 := u4.len
 rw [g2] at L2; rw [g1] at L1
 have w5 : IntKind.i64.wrap (2 * (ks.length : Int)) = 2 * (ks.length : Int) := wr (by omega) (by omega)
 refine pct (P := Yes) (by rw [beq_iff_eq]; show (ns2.length : Int) = 2 * (ns.length : Int) - 1; omega) (pb rfl (pb (ld2 o8.row).1 (pb rfl (pb (ld2 o8.row).2.1 (pb rfl (pb v1 (pb rfl (pb (v3 h8 (Ext.refl _ _)).2.2.2.2 (pb L2 (pb rfl ?_))))))))))
 refine pb (P := Yes) rfl (pb (ld2 q8.row).1 (pb rfl (pb (ld2 q8.row).2.1 (pb rfl (pb u3 (pb rfl (pb (u5 h8 (Ext.refl _ _)).2.2.2.2 (pb L1 (pb rfl ?_)))))))))
 refine ⟨h8, ?_⟩
 show some (Value.bool ((ks2.length : Int) == IntKind.i64.wrap (2 * (ks.length : Int))), h8) = _
 rw [w5, show ((ks2.length : Int) == 2 * (ks.length : Int)) = true by rw [beq_iff_eq]; omega]
end Go.Proofs.YtajpnemfppaafaaGreat
