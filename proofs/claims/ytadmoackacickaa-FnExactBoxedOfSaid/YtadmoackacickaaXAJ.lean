import Derived.Test.YtadmoackacickaaXAI
import Derived.Test.YtadmoackacickaaXAD
import Derived.KernelRfl
import Derived.Test.YtadmoackacickaaProg
set_option linter.unusedSimpArgs false
set_option linter.unusedVariables false
/- What a walk knows of the heap: rows that are only read, rows of its own. -/
namespace Go.AM
open Go.AH
section
variable {P : Option (Value × AHeap) → Prop}
end
def OwnI (h : AHeap) (i rt : Nat) (e : TypeId) (cs : List Value) : Prop := ∃ ep, h.at? i = some ⟨rt, ep, false, e, cs⟩
theorem OwnI.row {h : AHeap} {i rt : Nat} {e : TypeId} {cs : List Value} (x : OwnI h i rt e cs) : Row h i cs := let ⟨_, a⟩ := x; ⟨_, a, rfl⟩
theorem OwnI.lt {h : AHeap} {i rt : Nat} {e : TypeId} {cs : List Value} (x : OwnI h i rt e cs) : rt ≤ i ∧ i < h.size := let ⟨_, a⟩ := x; ⟨(at?_obj a).2.2.1, (at?_obj a).2.1⟩
theorem OwnI.ext {h g : AHeap} {i rt : Nat} {e : TypeId} {cs : List Value} (x : OwnI h i rt e cs) (E : Ext h.size h g) : OwnI g i rt e cs := let ⟨ep, a⟩ := x; ⟨ep, E.at? (at?_obj a).2.1 a⟩
abbrev FRow := Nat × List Value
abbrev MRow := Nat × List (Value × Value)
def mEnt (l : List Int) : List (Value × Value) := l.map fun k => (.int .i64 k, .bool true)
instance : Coe (List Int) (List (Value × Value)) := ⟨mEnt⟩
structure ORow where
 i : Nat
 rt : Nat
 e : TypeId
 lv : Bool
 cs : List Value
structure Cx (b : Nat) (h : AHeap) (F : List FRow) (O : List ORow) (M : List MRow) : Prop where
 bh : b ≤ h.size
 fr : ∀ q ∈ F, Row h q.1 q.2 ∧ q.1 < b
 ow : ∀ q ∈ O, (q.lv = true → OwnI h q.i q.rt q.e q.cs ∧ b ≤ q.rt) ∧ (q.lv = false → q.cs = [])
 nd : O.Pairwise fun p q => p.lv = true → q.lv = true → p.rt ≠ q.rt
 ms : ∀ q ∈ M, h.map q.1 = some q.2 ∧ b ≤ q.1 ∧ q.1 < h.size
 md : M.Pairwise fun p q => p.1 ≠ q.1
section
variable {b : Nat} {h g : AHeap} {F : List FRow} {O : List ORow} {M : List MRow}
theorem Cx.ext (y : Cx b h F O M) (E : Ext h.size h g) : Cx b g F O M :=
 ⟨Nat.le_trans y.bh E.size, fun q hq => ⟨(y.fr q hq).1.ext E (Nat.lt_of_lt_of_le (y.fr q hq).2 y.bh), (y.fr q hq).2⟩, fun q hq => ⟨fun l => ⟨((y.ow q hq).1 l).1.ext E, ((y.ow q hq).1 l).2⟩, (y.ow q hq).2⟩, y.nd, fun q hq => ⟨(E.map _ (y.ms q hq).2.2).trans (y.ms q hq).1, (y.ms q hq).2.1, Nat.lt_of_lt_of_le (y.ms q hq).2.2 E.size⟩, y.md⟩
theorem Cx.add (y : Cx b h F O M) {g : AHeap} {i rt : Nat} {e : TypeId} {cs : List Value} {lv : Bool} (E : Ext h.size h g) (o : lv = true → OwnI g i rt e cs ∧ h.size ≤ rt) (z : lv = false → cs = []) : Cx b g F (⟨i, rt, e, lv, cs⟩ :: O) M := by
 have y' := y.ext E
 refine ⟨y'.bh, y'.fr, fun q hq => ?_, List.Pairwise.cons (fun q hq l1 l2 => ?_) y'.nd, y'.ms, y'.md⟩
 ·rcases List.mem_cons.1 hq with rfl | hq
  ·exact ⟨fun l => ⟨(o l).1, Nat.le_trans y.bh (o l).2⟩, z⟩
  ·exact y'.ow q hq
 ·have a := ((y.ow q hq).1 l2).1.lt
  have c := (o l1).2
  show rt ≠ q.rt
  omega
theorem Cx.new (y : Cx b h F O M) (e : TypeId) (cs : List Value) : Cx b (h.new e cs) F (⟨h.size, h.size, e, true, cs⟩ :: O) M :=
 y.add (Ext.new (Nat.le_refl h.size) e cs) (fun _ => ⟨⟨_, at?_new_same h e cs⟩, Nat.le_refl _⟩) (fun h => by cases h)
theorem Cx.start (h : AHeap) (hF : ∀ q ∈ F, Row h q.1 q.2 ∧ q.1 < h.size) : Cx h.size h F [] [] := ⟨Nat.le_refl _, hF, fun q hq => (by cases hq), .nil, fun q hq => (by cases hq), .nil⟩
theorem Cx.pick (y : Cx b h F O M) {O' : List ORow} (s : O'.Sublist O) : Cx b h F O' M := ⟨y.bh, y.fr, fun q hq => y.ow q (s.subset hq), y.nd.sublist s, y.ms, y.md⟩
theorem Cx.live (y : Cx b h F O M) {n k : Nat} {q : ORow} {v : Value} (e : O[n]? = some q) (hv : q.cs[k]? = some v) : OwnI h q.i q.rt q.e q.cs ∧ b ≤ q.rt := by
 have o := y.ow q (List.mem_of_getElem? e)
 cases hl : q.lv with
 | true => exact o.1 hl
 | false => rw [o.2 hl] at hv; cases hv
theorem Cx.ldO (y : Cx b h F O M) (n k : Nat) {i rt : Nat} {t : TypeId} {l : Bool} {cs : List Value} {v : Value} (e : O[n]? = some ⟨i, rt, t, l, cs⟩) (hv : cs[k]? = some v) : aLd1 h (ptr i k) = some v :=
 (y.live (q := ⟨i, rt, t, l, cs⟩) e hv).1.row.ld1 hv
theorem Cx.ldON (y : Cx b h F O M) (n : Nat) {i rt m : Nat} {t : TypeId} {cs : List Value} (e : O[n]? = some ⟨i, rt, t, true, cs⟩) (hm : m = cs.length) : aLdN h (ptr i 0) m = some (.agg cs.toArray) := by
 subst hm
 rw [((y.ow _ (List.mem_of_getElem? e)).1 rfl).1.row.ldN (off := 0) (by show 0 + cs.length ≤ cs.length; omega)]; simp
theorem Cx.turn (y : Cx b h F O M) (n : Nat) {i rt j : Nat} {t : TypeId} {cs ds : List Value} {g : AHeap} (e : O[n]? = some ⟨i, rt, t, true, cs⟩) (E : Ext b h g) (o : OwnI g j rt t ds)
  (k : ∀ l q, h.at? l = some q → q.root ≠ rt → g.at? l = some q) (km : g.map = h.map) : Cx b g F (O.set n ⟨j, rt, t, true, ds⟩) M := by
 have hlt := (List.getElem?_eq_some_iff.1 e).1
 have e1 : O[n] = ⟨i, rt, t, true, cs⟩ := by rw [List.getElem?_eq_getElem hlt] at e; exact Option.some.inj e
 have hb : b ≤ rt := ((y.ow _ (List.mem_of_getElem? e)).1 rfl).2
 have pw := List.pairwise_iff_getElem.1 y.nd
 refine ⟨Nat.le_trans y.bh E.size, fun q hq => ⟨(y.fr q hq).1.ext E (y.fr q hq).2, (y.fr q hq).2⟩, fun q hq => ?_, ?_, fun q hq => ⟨(congrFun km _).trans (y.ms q hq).1, (y.ms q hq).2.1, Nat.lt_of_lt_of_le (y.ms q hq).2.2 E.size⟩, y.md⟩
 ·rw [List.mem_iff_getElem?] at hq
  obtain ⟨m, hm⟩ := hq
  by_cases hmn : m = n
  ·subst hmn
   rw [List.getElem?_set_self hlt] at hm
   cases hm
   exact ⟨fun _ => ⟨o, hb⟩, fun h => by cases h⟩
  ·rw [List.getElem?_set_ne (fun h => hmn h.symm)] at hm
   have q0 := y.ow q (List.mem_of_getElem? hm)
   have hlk := (List.getElem?_eq_some_iff.1 hm).1
   have e2 : O[m] = q := by rw [List.getElem?_eq_getElem hlk] at hm; exact Option.some.inj hm
   refine ⟨fun l => ?_, q0.2⟩
   obtain ⟨⟨ep', a'⟩, hq'⟩ := q0.1 l
   have hne : q.rt ≠ rt := by
    rcases Nat.lt_or_gt_of_ne hmn with hl | hl
    ·have := pw m n hlk hlt hl
     rw [e1, e2] at this; exact this l rfl
    ·have := pw n m hlt hlk hl
     rw [e1, e2] at this; exact fun h => this rfl l h.symm
   exact ⟨⟨ep', k _ _ a' hne⟩, hq'⟩
 ·rw [List.pairwise_iff_getElem]
  intro m l hm hl hml
  rw [List.length_set] at hm hl
  have key : ∀ m (hm : m < O.length), ((O.set n ⟨j, rt, t, true, ds⟩)[m]'(by rw [List.length_set]; exact hm)).rt = (O[m]).rt ∧ ((O.set n ⟨j, rt, t, true, ds⟩)[m]'(by rw [List.length_set]; exact hm)).lv = (O[m]).lv := fun m hm => by
   rw [List.getElem_set]
   split
   ·next h => subst h; rw [e1]; exact ⟨rfl, rfl⟩
   ·exact ⟨rfl, rfl⟩
  rw [(key m hm).1, (key l hl).1, (key m hm).2, (key l hl).2]
  exact pw m l hm hl hml
theorem Cx.st (y : Cx b h F O M) (n : Nat) {i rt off m : Nat} {t : TypeId} {cs vs : List Value} {v : Value} (e : O[n]? = some ⟨i, rt, t, true, cs⟩) (hv : aCells v = some vs) (hl : vs.length = m) (hn : off + m ≤ cs.length) :
  ∃ g, aSt h (ptr i off) v m = some g ∧ Ext b h g ∧ Cx b g F (O.set n ⟨i, rt, t, true, splice cs off vs⟩) M ∧ g.size = h.size := by
 obtain ⟨⟨ep, a⟩, hb⟩ := (y.ow _ (List.mem_of_getElem? e)).1 rfl
 have ha : h.at? i = some ⟨rt, ep, false, t, cs⟩ := a
 have ho := at?_obj ha
 have E : Ext b h (h.put i ⟨rt, ep, false, t, cs⟩ (splice cs off vs)) := Ext.put (Nat.le_trans hb ho.2.2.1) hb _
 refine ⟨_, by simp [aSt, ptr, ha, hv, hl, hn], E, y.turn n e E ⟨_, at?_put_same ha _⟩ (fun l q hq hr => at?_put_other hq (fun h => ?_) _ (fun hh => hr hh.2)) rfl, rfl⟩
 subst h; rw [ha] at hq; cases hq; exact hr rfl
theorem at?_app_oth {o oj : AObj} {j : Nat} (hj : h.at? j = some oj) (k : Nat) (cs : List Value) (hf : oj.root ≠ o.root) : (h.app o k cs).at? j = some oj := by
 obtain ⟨h1, h2, h3, h4⟩ := at?_obj hj
 refine at?_mk ?_ ?_ h3 ?_
 ·show (if j = h.size then _ else h.obj j) = _
  rw [if_neg (by omega)]; exact h1
 ·show j < h.size + 1; omega
 ·show (if oj.elem = o.elem ∧ oj.root = o.root then _ else h.ep oj.elem oj.root) = _
  rw [if_neg (fun x => hf x.2)]; exact h4
end
section
variable {b : Nat} {h g : AHeap} {F : List FRow} {O : List ORow} {M : List MRow}
theorem Ext.newM (h : AHeap) : Ext h.size h h.newMap := ⟨by simp [AHeap.newMap], fun i hi => rfl, fun _ _ _ => rfl, fun _ _ _ => rfl, fun i hi => by simp [AHeap.newMap]; omega⟩
theorem Cx.newM (y : Cx b h F O M) : Cx b h.newMap F O ((h.size, mEnt []) :: M) := by
 have y' := y.ext (Ext.newM h)
 refine ⟨y'.bh, y'.fr, y'.ow, y'.nd, fun q hq => ?_, List.Pairwise.cons (fun q hq => ?_) y'.md⟩
 ·rcases List.mem_cons.1 hq with rfl | hq
  ·exact ⟨by simp [AHeap.newMap, mEnt], y.bh, by simp [AHeap.newMap]⟩
  ·exact y'.ms q hq
 ·have := (y.ms q hq).2.2
  show h.size ≠ q.1
  omega
theorem Cx.msetE (y : Cx b h F O M) (n : Nat) {i : Nat} {l l2 : List (Value × Value)} (e : M[n]? = some (i, l)) {key v : Value} (hv : isCell v = true) (hl2 : mset key v l = some l2) :
  ∃ g, aMset h (.map (some i)) key v = some g ∧ Ext b h g ∧ Cx b g F O (M.set n (i, l2)) := by
 have m := y.ms _ (List.mem_of_getElem? e)
 have hlt := (List.getElem?_eq_some_iff.1 e).1
 have e1 : M[n] = (i, l) := by rw [List.getElem?_eq_getElem hlt] at e; exact Option.some.inj e
 refine ⟨h.putMap i l2, ?_, ⟨Nat.le_refl _, fun _ _ => rfl, fun _ _ _ => rfl, fun _ _ _ => rfl, fun j hj => ?_⟩, y.bh, y.fr, y.ow, y.nd, fun q hq => ?_, ?_⟩
 ·show (if isCell v = true then (h.map i).bind _ else none) = _
  have m1 : h.map i = some l := m.1
  rw [if_pos hv, m1, oBs, hl2]; rfl
 ·have : b ≤ i := m.2.1
  show (if j = i then _ else h.map j) = _
  rw [if_neg (by omega)]
 ·rw [List.mem_iff_getElem?] at hq
  obtain ⟨p, hp⟩ := hq
  by_cases hpn : p = n
  ·subst hpn
   rw [List.getElem?_set_self hlt] at hp; cases hp
   exact ⟨by simp [AHeap.putMap], m.2⟩
  ·rw [List.getElem?_set_ne (fun h => hpn h.symm)] at hp
   have q0 := y.ms q (List.mem_of_getElem? hp)
   have hlk := (List.getElem?_eq_some_iff.1 hp).1
   have e2 : M[p] = q := by rw [List.getElem?_eq_getElem hlk] at hp; exact Option.some.inj hp
   have hne : q.1 ≠ i := by
    have pw := List.pairwise_iff_getElem.1 y.md
    rcases Nat.lt_or_gt_of_ne hpn with hl | hl
    ·have := pw p n hlk hlt hl
     rw [e1, e2] at this; exact this
    ·have := pw n p hlt hlk hl
     rw [e1, e2] at this; exact this.symm
   refine ⟨?_, q0.2⟩
   show (if q.1 = i then _ else h.map q.1) = _
   rw [if_neg hne]; exact q0.1
 ·rw [List.pairwise_iff_getElem]
  intro p l' hp hl hpl
  rw [List.length_set] at hp hl
  have key : ∀ p (hp : p < M.length), ((M.set n (i, l2))[p]'(by rw [List.length_set]; exact hp)).1 = (M[p]).1 := fun p hp => by
   rw [List.getElem_set]
   split
   ·next h => subst h; rw [e1]
   ·rfl
  rw [key p hp, key l' hl]
  exact List.pairwise_iff_getElem.1 y.md p l' hp hl hpl
theorem Cx.pickM (y : Cx b h F O M) {M' : List MRow} (s : M'.Sublist M) : Cx b h F O M' := ⟨y.bh, y.fr, y.ow, y.nd, fun q hq => y.ms q (s.subset hq), y.md.sublist s⟩
end
open Go.AH
def Rs (R : Value → AHeap → Prop) (o : Option (Value × AHeap)) : Prop := ∃ v g, o = some (v, g) ∧ R v g
section
variable {R : Value → AHeap → Prop}
theorem Rs.b {α : Type} {o : Option α} {k : α → Option (Value × AHeap)} {r : α} (e : o = some r) (x : Rs R (k r)) : Rs R (o.bind k) := by rw [e]; exact x
theorem Rs.ct {c : Bool} {x y : Option (Value × AHeap)} (e : c = true) (k : Rs R x) : Rs R (bif c then x else y) := by rw [e]; exact k
theorem Rs.cf {c : Bool} {x y : Option (Value × AHeap)} (e : c = false) (k : Rs R y) : Rs R (bif c then x else y) := by rw [e]; exact k
theorem Rs.fin {v : Value} {g : AHeap} (r : R v g) : Rs R (some (v, g)) := ⟨v, g, rfl, r⟩
theorem Rs.c {R' : Value → AHeap → Prop} {o : Option (Value × AHeap)} {k : Value × AHeap → Option (Value × AHeap)} (s : Rs R' o) (n : ∀ v g, R' v g → Rs R (k (v, g))) : Rs R (o.bind k) := by
 obtain ⟨v, g, rfl, r⟩ := s
 exact n v g r
theorem Rs.mono {R' : Value → AHeap → Prop} {o : Option (Value × AHeap)} (s : Rs R' o) (n : ∀ v g, R' v g → R v g) : Rs R o := by
 obtain ⟨v, g, e, r⟩ := s
 exact ⟨v, g, e, n v g r⟩
theorem Rs.of {o o' : Option (Value × AHeap)} (e : o = o') (s : Rs R o') : Rs R o := e ▸ s
theorem Rs.i {c : Prop} [Decidable c] {x y : Option (Value × AHeap)} (k1 : c → Rs R x) (k2 : ¬ c → Rs R y) : Rs R (bif decide c then x else y) := by
 by_cases h : c
 ·rw [decide_eq_true h]; exact k1 h
 ·rw [decide_eq_false h]; exact k2 h
end
section
variable {b : Nat} {h g : AHeap} {F : List FRow} {O : List ORow} {M : List MRow}
theorem Cx.nw (y : Cx b h F O M) (e : TypeId) (cs : List Value) : Ext b h (h.new e cs) := (Ext.new (Nat.le_refl h.size) e cs).mono y.bh
theorem Cx.perm (y : Cx b h F O M) {O' : List ORow} (p : List.Perm O O') : Cx b h F O' M :=
 ⟨y.bh, y.fr, fun r hr => y.ow r (p.mem_iff.2 hr), (p.pairwise_iff (fun {x z} hx l1 l2 he => hx l2 l1 he.symm)).1 y.nd, y.ms, y.md⟩
theorem Cx.permM (y : Cx b h F O M) {M' : List MRow} (p : List.Perm M M') : Cx b h F O M' :=
 ⟨y.bh, y.fr, y.ow, y.nd, fun r hr => y.ms r (p.mem_iff.2 hr), (p.pairwise_iff (fun {x z} hx he => hx he.symm)).1 y.md⟩
theorem Cx.row (y : Cx b h F O M) (n : Nat) {q : ORow} (e : O[n]? = some q) (hl : q.lv = true) : Row h q.i q.cs := ((y.ow _ (List.mem_of_getElem? e)).1 hl).1.row
theorem Cx.appT (y : Cx b h F O M) (n : Nat) {i rt n' m esz bytes : Nat} {t : TypeId} {cs ms : List Value} {x : Value} (e : O[n]? = some ⟨i, rt, t, true, cs⟩) (hsrc : aSrc h esz x = some (m, ms)) (hn : n' * esz ≤ cs.length)
  (h1 : n' + m ≤ most) (h2 : (n' + m) * bytes ≤ most) :
  ∃ j g, aApp h t esz bytes (slc i 0 n') x = some (slc j 0 (n' + m), g) ∧ Ext b h g ∧ Cx b g F (O.set n ⟨j, rt, t, true, cs.take (n' * esz) ++ ms⟩) M := by
 obtain ⟨⟨ep, a⟩, hb⟩ := (y.ow _ (List.mem_of_getElem? e)).1 rfl
 have ha : h.at? i = some ⟨rt, ep, false, t, cs⟩ := a
 have E : Ext b h (h.app ⟨rt, ep, false, t, cs⟩ (n' * esz) (cs.take (n' * esz) ++ ms)) := Ext.app y.bh hb _ _
 refine ⟨h.size, h.app ⟨rt, ep, false, t, cs⟩ (n' * esz) (cs.take (n' * esz) ++ ms), by simp [aApp, aAppG, slc, ha, hsrc, hn, h1, h2], E, y.turn n e E ⟨_, at?_app_same ha _ _⟩ (fun l q hq hr => at?_app_oth hq _ _ hr) rfl⟩
theorem Cx.setD (y : Cx b h F O M) (n : Nat) {q q' : ORow} (e : O[n]? = some q) (hq : q.lv = false) (E : Ext h.size h g) (o : OwnI g q'.i q'.rt q'.e q'.cs ∧ h.size ≤ q'.rt) (hl : q'.lv = true) : Cx b g F (O.set n q') M := by
 have hlt := (List.getElem?_eq_some_iff.1 e).1
 have e1 : O[n] = q := by rw [List.getElem?_eq_getElem hlt] at e; exact Option.some.inj e
 have y' := y.ext E
 have pw := List.pairwise_iff_getElem.1 y.nd
 have old : ∀ m (hm : m < O.length), m ≠ n → (O[m]).lv = true → (O[m]).rt < h.size := fun m hm _ l => by
  have := ((y.ow _ (List.getElem_mem hm)).1 l).1.lt
  omega
 refine ⟨y'.bh, y'.fr, fun r hr => ?_, ?_, y'.ms, y'.md⟩
 ·rw [List.mem_iff_getElem?] at hr
  obtain ⟨m, hm⟩ := hr
  by_cases c : m = n
  ·subst c
   rw [List.getElem?_set_self hlt] at hm
   cases hm
   exact ⟨fun _ => ⟨o.1, Nat.le_trans y.bh o.2⟩, fun h => by rw [hl] at h; cases h⟩
  ·rw [List.getElem?_set_ne (fun h => c h.symm)] at hm
   exact y'.ow r (List.mem_of_getElem? hm)
 ·rw [List.pairwise_iff_getElem]
  intro m l hm hl' hml l1 l2
  rw [List.length_set] at hm hl'
  rw [List.getElem_set, List.getElem_set] at *
  by_cases c1 : n = m
  ·rw [if_pos c1] at l1 ⊢
   rw [if_neg (by omega)] at l2 ⊢
   have := old l hl' (by omega) l2
   omega
  ·rw [if_neg c1] at l1 ⊢
   by_cases c2 : n = l
   ·rw [if_pos c2] at l2 ⊢
    have := old m hm (by omega) l1
    omega
   ·rw [if_neg c2] at l2 ⊢
    exact pw m l hm hl' hml l1 l2
end
section
variable {R : Value → AHeap → Prop} {b : Nat} {g : AHeap} {F : List FRow} {O : List ORow} {M : List MRow}
theorem Rs.ns {e : TypeId} {cells : List Value} {n : Nat} {k : Value → AHeap → Option (Value × AHeap)} (y : Cx b g F O M)
  (hk : ∀ p g', Ext b g g' → Cx b g' F (⟨p, p, e, true, cells⟩ :: O) M → Rs R (k (slc p 0 n) g')) : Rs R (aNewS g e cells n k) := hk _ _ (y.nw e cells) (y.new e cells)
theorem Rs.n {e : TypeId} {cells : List Value} {k : Value → AHeap → Option (Value × AHeap)} (y : Cx b g F O M)
  (hk : ∀ p g', Ext b g g' → Cx b g' F (⟨p, p, e, true, cells⟩ :: O) M → Rs R (k (ptr p 0) g')) : Rs R (aNew g e cells k) := hk _ _ (y.nw e cells) (y.new e cells)
theorem Rs.nM {k : Value → AHeap → Option (Value × AHeap)} (y : Cx b g F O M)
  (hk : ∀ p g', Ext b g g' → Cx b g' F O ((p, []) :: M) → Rs R (k (.map (some p)) g')) : Rs R (aNewM g k) := hk _ _ ((Ext.newM g).mono y.bh) y.newM
end
structure SR where
 i : Nat
 rt : Nat
 lv : Bool
def SR.val (r : SR) (n : Nat) : Value := if r.lv then slc r.i 0 n else .slice none 0 0
def SR.row (r : SR) (e : TypeId) (cs : List Value) : ORow := ⟨r.i, r.rt, e, r.lv, cs⟩
def SR.none : SR := ⟨0, 0, false⟩
theorem SR.live {r : SR} (h : r.lv = true) (n : Nat) : r.val n = slc r.i 0 n := if_pos h
theorem SR.dead {r : SR} (h : r.lv = false) (n : Nat) : r.val n = .slice .none 0 0 := if_neg (by rw [h]; decide)
theorem SR.cell (r : SR) (n : Nat) : isCell (r.val n) = true := by
 unfold SR.val; split <;> rfl
theorem SR.vb (r : SR) (n : Nat) : vbeq (r.val n) (r.val n) = true := by
 unfold SR.val; split <;> simp [vbeq, vbeq1, slc]
section
variable {b : Nat} {h g : AHeap} {F : List FRow} {O : List ORow} {M : List MRow}
theorem Cx.dead (y : Cx b h F O M) (n : Nat) {r : SR} {e : TypeId} {cs : List Value} (eq : O[n]? = some (r.row e cs)) (hl : r.lv = false) : cs = [] := (y.ow _ (List.mem_of_getElem? eq)).2 hl
theorem Cx.len (y : Cx b h F O M) (n : Nat) {r : SR} {e : TypeId} {cs : List Value} {k esz : Nat} (eq : O[n]? = some (r.row e cs)) (hn : k * esz ≤ cs.length) (hp : 0 < esz) : aLen (r.val k) = some (.int .i64 (k : Int)) := by
 unfold SR.val
 cases hl : r.lv with
 | true => rfl
 | false =>
  rw [y.dead n eq hl] at hn
  have : k = 0 := by
   rcases Nat.eq_zero_or_pos k with h | h
   ·exact h
   ·have := Nat.mul_pos h hp
    simp at hn; omega
  subst this; rfl
theorem Cx.ix (y : Cx b h F O M) (n : Nat) {r : SR} {e : TypeId} {cs : List Value} {k esz j : Nat} (eq : O[n]? = some (r.row e cs)) (hn : k * esz ≤ cs.length) (hp : 0 < esz) (hj : j < k) : aIdx (r.val k) (.int .i64 (j : Int)) esz = some (ptr r.i (j * esz)) ∧ r.lv = true := by
 cases hl : r.lv with
 | true =>
  rw [SR.live hl]
  refine ⟨?_, rfl⟩
  have h1 : (0 : Int) ≤ (j : Int) ∧ (j : Int) < (k : Int) := by omega
  simp only [aIdx, slc]
  rw [if_pos h1, Int.toNat_natCast, Nat.zero_add]
 | false =>
  exfalso
  rw [y.dead n eq hl] at hn
  have := Nat.mul_pos (show 0 < k by omega) hp
  simp at hn; omega
theorem Cx.ldS (y : Cx b h F O M) (n : Nat) {r : SR} {e : TypeId} {cs : List Value} {k : Nat} {v : Value} (eq : O[n]? = some (r.row e cs)) (hv : cs[k]? = some v) : aLd1 h (ptr r.i k) = some v := y.ldO n k eq hv
theorem Cx.apS (y : Cx b h F O M) (n : Nat) {r : SR} {n' m esz bytes : Nat} {t : TypeId} {cs ms : List Value} {x : Value} (e : O[n]? = some (r.row t cs)) (hsrc : aSrc h esz x = some (m, ms)) (hm : 0 < m) (hp : 0 < esz) (hn : n' * esz ≤ cs.length)
  (h1 : n' + m ≤ most) (h2 : (n' + m) * bytes ≤ most) :
  ∃ (r' : SR) (g : AHeap), aApp h t esz bytes (r.val n') x = some (r'.val (n' + m), g) ∧ r'.lv = true ∧ Ext b h g ∧ Cx b g F (O.set n (r'.row t (cs.take (n' * esz) ++ ms))) M := by
 cases hl : r.lv with
 | true =>
  have e' : O[n]? = some ⟨r.i, r.rt, t, true, cs⟩ := by rw [e]; unfold SR.row; rw [hl]
  obtain ⟨j, g, c, E, y'⟩ := y.appT n e' hsrc hn h1 h2
  rw [SR.live hl]
  exact ⟨⟨j, r.rt, true⟩, g, c, rfl, E, y'⟩
 | false =>
  have hcs := y.dead n e hl
  subst hcs
  have hz : n' = 0 := by
   rcases Nat.eq_zero_or_pos n' with h | h
   ·exact h
   ·have := Nat.mul_pos h hp
    simp at hn; omega
  subst hz
  rw [SR.dead hl]
  refine ⟨⟨h.size, h.size, true⟩, h.new t ms, ?_, rfl, (Ext.new (Nat.le_refl _) _ _).mono y.bh, ?_⟩
  ·show aAppG h t esz bytes (.slice none 0 0) (aSrc h esz x) = _
   rw [hsrc]
   show (if m = 0 then _ else if m ≤ most ∧ m * bytes ≤ most then _ else _) = _
   rw [if_neg (by omega), if_pos ⟨by omega, by rw [Nat.zero_add] at h2; exact h2⟩, Nat.zero_add]
   rfl
  ·refine y.setD n e hl (Ext.new (Nat.le_refl _) _ _) ⟨?_, Nat.le_refl _⟩ rfl
   have : OwnI (h.new t ms) h.size h.size t ms := ⟨_, at?_new_same h t ms⟩
   simpa [SR.row] using this
end
end Go.AM
namespace Go.Proofs.Ytadmoackacickaa
open Go Go.AH
noncomputable section
variable (hk : Hk (Value × AHeap)) (C : ACall) (N : Nat)
end
noncomputable section
variable (hk : Hk (Value × AHeap)) (C : ACall) (N : Nat)
def F13_0 : Nx (Value × AHeap) := evSt hk Tp C M13 N Try.f13 [1, 1, 1, 1, 1, 1, 1, 1, 1, 1, 1, 0, 1] []
def s13_0 (x1 x4 x6 : Value) (x42 : Bool) (h : AHeap) := hk 100015 (⟨69, [(1, x1), (4, x4), (6, x6), (42, .bool x42)]⟩) h (F13_0 hk C N)
def F13_1 : Nx (Value × AHeap) := evSt hk Tp C M13 N Try.f13 [1, 1, 1, 1, 1, 1, 1, 1, 1, 1, 1, 1] []
def s13_1 (x1 x4 x6 : Value) (h : AHeap) := hk 16 (⟨69, [(1, x1), (4, x4), (6, x6)]⟩) h (F13_1 hk C N)
theorem e13 (x0 : Value) (h : AHeap) : evFn hk Tp C M13 N Try.f13 [x0] h =
  (aCells x0).bind fun c1 => aNew h 30 c1 fun p2 h3 => (aLdN h3 p2 2).bind fun v4 => (C 19 [v4, .int .i64 1048576] h3).bind fun r5 => (asI .i64 r5.1).bind fun n6 => bif decide (n6 < 0) then some (.bool true, r5.2) else (aLdN r5.2 p2 2).bind fun v7 => (C 21 [v7] r5.2).bind fun r8 => (C 48 [r8.1] r8.2).bind fun r9 => (aLdN r9.2 p2 2).bind fun v10 => (C 21 [v10] r9.2).bind fun r11 => aNew r11.2 35 [.slice none 0 0, .int .i64 0] fun p12 h13 => (aSt h13 p12 r11.1 2).bind fun h14 => (aLdN h14 p12 2).bind fun v15 => (C 49 [v15] h14).bind fun r16 => (C 32 [r16.1, r9.1] r16.2).bind fun r17 => (asB r17.1).bind fun b18 => bif !b18 then some (.bool false, r17.2) else (aLdN r17.2 p12 2).bind fun v19 => (aLdN r17.2 p2 2).bind fun v20 => (C 21 [v20] r17.2).bind fun r21 => ((aLdN r21.2 p12 2).bind fun v22 => some (vbeq v22 v19)).bind fun b23 => bif b23 then (C 23 [v19, r21.1] r21.2).bind fun r24 => (asB r24.1).bind fun b25 => bif !b25 then some (.bool false, r24.2) else (aLdN r24.2 p12 2).bind fun v26 => (C 33 [v26, .int .i64 1] r24.2).bind fun r27 => (asI .i64 r27.1).bind fun n28 => bif decide (n28 < 0) then s13_0 hk C N p2 r9.1 r16.1 true r27.2 else (C 32 [r16.1, r9.1] r27.2).bind fun r29 => (asB r29.1).bind fun b30 => s13_0 hk C N p2 r9.1 r16.1 (!b30) r29.2 else none := by kernel_rfl
theorem s13_0_j (x1 x4 x6 : Value) (x42 : Bool) (h : AHeap) : s13_0 hk0 C N x1 x4 x6 x42 h = F13_0 hk0 C N (⟨69, [(1, x1), (4, x4), (6, x6), (42, .bool x42)]⟩) h := by delta s13_0; exact hk0_app _ _ _ _
theorem s13_0_eq (x1 x4 x6 : Value) (x42 : Bool) (h : AHeap) : F13_0 hk C N (⟨69, [(1, x1), (4, x4), (6, x6), (42, .bool x42)]⟩) h =
  bif x42 then some (.bool false, h) else s13_1 hk C N x1 x4 x6 h := by kernel_rfl
theorem s13_1_j (x1 x4 x6 : Value) (h : AHeap) : s13_1 hk0 C N x1 x4 x6 h = F13_1 hk0 C N (⟨69, [(1, x1), (4, x4), (6, x6)]⟩) h := by delta s13_1; exact hk0_app _ _ _ _
theorem s13_1_eq (x1 x4 x6 : Value) (h : AHeap) : F13_1 hk C N (⟨69, [(1, x1), (4, x4), (6, x6)]⟩) h =
  (C 34 [x6, .int .i64 1] h).bind fun r31 => (asI .i64 r31.1).bind fun n32 => (C 35 [x6, .int .i64 1] r31.2).bind fun r33 => (asI .i64 r33.1).bind fun n34 => bif decide (n34 < 0) then some (.bool false, r33.2) else bif n34 != n32 then some (.bool false, r33.2) else (aLdN r33.2 x1 2).bind fun v35 => (C 21 [v35] r33.2).bind fun r36 => (C 49 [r36.1] r36.2).bind fun r37 => (C 32 [r37.1, x4] r37.2).bind fun r38 => (asB r38.1).bind fun b39 => bif !b39 then some (.bool false, r38.2) else (C 35 [x6, .int .i64 1] r38.2).bind fun r40 => (asI .i64 r40.1).bind fun n41 => bif decide (n41 < 0) then some (.bool false, r40.2) else bif n41 != n32 then some (.bool false, r40.2) else some (.bool true, r40.2) := by kernel_rfl
theorem c13 (d : Nat) (args : List Value) (h : AHeap) : call Tp Ms (d + 1) 13 args h = evFn hk0 Tp (call Tp Ms d) M13 d Try.f13 args h := by kernel_rfl
def F48_0 (n1 : Nat) : Nx (Value × AHeap) := evSt hk Tp C M48 N Try.f48 [1, 1, 1, 1, 1, 0, 1, 2, 6] [n1]
def s48_0 (n1 : Nat) (x3 x7 : Value) (x8 : Int) (h : AHeap) := F48_0 hk C N n1 (⟨41, [(3, x3), (7, x7), (8, .int .i64 x8)]⟩) h
theorem e48 (x0 : Value) (h : AHeap) : evFn hk Tp C M48 N Try.f48 [x0] h =
  (aCells x0).bind fun c1 => aNew h 35 c1 fun p2 h3 => aNewS h3 3 [] 0 fun p4 h5 => (aLdN h5 p2 2).bind fun v6 => (C 84 [v6] h5).bind fun r7 => (aExt r7.1 0).bind fun v8 => (aExt r7.1 1).bind fun v9 => (asI .i64 v9).bind fun n10 => (aExt r7.1 2).bind fun v11 => (asI .i64 v11).bind fun n12 => aNew r7.2 119 [.slice none 0 0, .slice none 0 0] fun p13 h14 => (aSt h14 p13 v8 2).bind fun h15 => bif n10 != 0 then some (p4, h15) else (aOff p2 0).bind fun v16 => (aLd1 h15 v16).bind fun v17 => (aLen v17).bind fun v18 => (asI .i64 v18).bind fun n19 => (aMk h15 4 [.bool false] 1 (.int .i64 n19) (.int .i64 n19)).bind fun r20 => (aLdN r20.2 p2 2).bind fun v21 => (C 85 [v21, r20.1] r20.2).bind fun r22 => s48_0 hk C N N p4 r20.1 0 r22.2 := by kernel_rfl
theorem s48_0_eq (n1 : Nat) (x3 x7 : Value) (x8 : Int) (h : AHeap) : s48_0 hk C N (n1 + 1) x3 x7 x8 h =
  (aLen x7).bind fun v23 => (asI .i64 v23).bind fun n24 => bif decide (x8 < n24) then (aIdx x7 (.int .i64 x8) 1).bind fun v25 => (aLd1 h v25).bind fun v26 => (asB v26).bind fun b27 => bif b27 then aNewS h 3 [.int .i64 x8] 1 fun p28 h29 => (aApp h29 3 1 8 x3 p28).bind fun r30 => s48_0 hk C N n1 r30.1 x7 (IntKind.i64.wrap (x8 + 1)) r30.2 else s48_0 hk C N n1 x3 x7 (IntKind.i64.wrap (x8 + 1)) h else some (x3, h) := by kernel_rfl
theorem c48 (d : Nat) (args : List Value) (h : AHeap) : call Tp Ms (d + 1) 48 args h = evFn hk0 Tp (call Tp Ms d) M48 d Try.f48 args h := by kernel_rfl
def F84_0 : Nx (Value × AHeap) := evSt hk Tp C M84 N Try.f84 [1, 1, 1, 1, 1] []
def s84_0 (x2 x6 : Value) (h : AHeap) := hk 7 (⟨49, [(2, x2), (6, x6)]⟩) h (F84_0 hk C N)
theorem e84 (x0 : Value) (h : AHeap) : evFn hk Tp C M84 N Try.f84 [x0] h =
  (aCells x0).bind fun c1 => aNew h 35 c1 fun p2 h3 => aNew h3 119 [.slice none 0 0, .slice none 0 0] fun p4 h5 => (aLdN h5 p2 2).bind fun v6 => (C 20 [v6] h5).bind fun r7 => (asB r7.1).bind fun b8 => bif !b8 then (aSt r7.2 p4 (.agg (List.toArray [.slice none 0 0, .slice none 0 0])) 2).bind fun h9 => (aLdN h9 p4 2).bind fun v10 => bif List.all [v10, .int .i64 1, .int .i64 (-1)] isS2 then some (.tuple (List.toArray [v10, .int .i64 1, .int .i64 (-1)]), h9) else none else (aOff p2 0).bind fun v11 => (aLd1 r7.2 v11).bind fun v12 => (aLen v12).bind fun v13 => (asI .i64 v13).bind fun n14 => (aMk r7.2 4 [.bool false] 1 (.int .i64 n14) (.int .i64 n14)).bind fun r15 => (aLdN r15.2 p2 2).bind fun v16 => (C 85 [v16, r15.1] r15.2).bind fun r17 => (aNil r17.1).bind fun v18 => (aOff v18 6).bind fun v19 => (aLd1 r17.2 v19).bind fun v20 => (asI .i64 v20).bind fun n21 => bif n21 == 0 then (aLdN r17.2 p2 2).bind fun v22 => (C 85 [v22, r15.1] r17.2).bind fun r23 => s84_0 hk C N p4 r23.1 r23.2 else s84_0 hk C N p4 r17.1 r17.2 := by kernel_rfl
theorem s84_0_j (x2 x6 : Value) (h : AHeap) : s84_0 hk0 C N x2 x6 h = F84_0 hk0 C N (⟨49, [(2, x2), (6, x6)]⟩) h := by delta s84_0; exact hk0_app _ _ _ _
theorem s84_0_eq (x2 x6 : Value) (h : AHeap) : F84_0 hk C N (⟨49, [(2, x2), (6, x6)]⟩) h =
  (aNil x6).bind fun v24 => (aOff v24 6).bind fun v25 => (aLd1 h v25).bind fun v26 => (asI .i64 v26).bind fun n27 => bif n27 != 0 then (aNil x6).bind fun v28 => (aOff v28 6).bind fun v29 => (aLd1 h v29).bind fun v30 => (asI .i64 v30).bind fun n31 => (aNil x6).bind fun v32 => (aOff v32 7).bind fun v33 => (aLd1 h v33).bind fun v34 => (asI .i64 v34).bind fun n35 => (aSt h x2 (.agg (List.toArray [.slice none 0 0, .slice none 0 0])) 2).bind fun h36 => ((aLd1 h36 v29).bind fun v37 => (asI .i64 v37).bind fun n38 => some (vbeq (.int .i64 n38) (.int .i64 n31))).bind fun b39 => bif b39 then ((aLd1 h36 v33).bind fun v40 => (asI .i64 v40).bind fun n41 => some (vbeq (.int .i64 n41) (.int .i64 n35))).bind fun b42 => bif b42 then ((aLd1 h36 v33).bind fun v43 => (asI .i64 v43).bind fun n44 => some (vbeq (.int .i64 n44) (.int .i64 n35))).bind fun b45 => bif b45 then (aLdN h36 x2 2).bind fun v46 => bif List.all [v46, .int .i64 n31, .int .i64 n35] isS2 then some (.tuple (List.toArray [v46, .int .i64 n31, .int .i64 n35]), h36) else none else none else none else none else (aNil x6).bind fun v47 => (aOff v47 4).bind fun v48 => (aLd1 h v48).bind fun v49 => (aNil x6).bind fun v50 => (aOff v50 5).bind fun v51 => (aLd1 h v51).bind fun v52 => (aFill [.slice none 0 0, .slice none 0 0] [(0, 1, v49), (1, 1, v52)]).bind fun c53 => (aSt h x2 (.agg (List.toArray c53)) 2).bind fun h54 => (aLdN h54 x2 2).bind fun v55 => bif List.all [v55, .int .i64 0, .int .i64 (-1)] isS2 then some (.tuple (List.toArray [v55, .int .i64 0, .int .i64 (-1)]), h54) else none := by kernel_rfl
theorem c84 (d : Nat) (args : List Value) (h : AHeap) : call Tp Ms (d + 1) 84 args h = evFn hk0 Tp (call Tp Ms d) M84 d Try.f84 args h := by kernel_rfl
theorem e85 (x0 x1 : Value) (h : AHeap) : evFn hk Tp C M85 N Try.f85 [x0, x1] h =
  (aCells x0).bind fun c1 => aNew h 35 c1 fun p2 h3 => (aLdN h3 p2 2).bind fun v4 => (aOff p2 0).bind fun v5 => (aLd1 h3 v5).bind fun v6 => (aLen v6).bind fun v7 => (asI .i64 v7).bind fun n8 => (C 140 [v4, .int .i64 n8] h3).bind fun r9 => (asI .i64 r9.1).bind fun n10 => (aLdN r9.2 p2 2).bind fun v11 => (aMk r9.2 173 [.int .i64 0, .int .i64 0, .slice none 0 0, .slice none 0 0] 64 (.int .i64 n10) (.int .i64 n10)).bind fun r12 => ((aLdN r12.2 p2 2).bind fun v13 => some (vbeq v13 v11)).bind fun b14 => bif b14 then (aFill [.slice none 0 0, .int .i64 0, .slice none 0 0, .slice none 0 0, .slice none 0 0, .slice none 0 0, .int .i64 0, .int .i64 0] [(0, 2, v11), (3, 1, x1), (7, 1, .int .i64 (-1)), (4, 1, r12.1)]).bind fun c15 => (aCells (.agg (List.toArray c15))).bind fun c16 => aNew r12.2 167 c16 fun p17 h18 => (aOff p2 1).bind fun v19 => (aLd1 h18 v19).bind fun v20 => (asI .i64 v20).bind fun n21 => (C 141 [p17, .int .i64 n21, .int .i64 0] h18).bind fun r22 => some (p17, r22.2) else none := by kernel_rfl
theorem c85 (d : Nat) (args : List Value) (h : AHeap) : call Tp Ms (d + 1) 85 args h = evFn hk0 Tp (call Tp Ms d) M85 d Try.f85 args h := by kernel_rfl
def F140_0 (n1 : Nat) : Nx (Value × AHeap) := evSt hk Tp C M140 N Try.f140 [1, 1, 0, 1, 2, 6] [n1]
def s140_0 (n1 : Nat) (x1 : Int) (x2 : Value) (x5 x6 : Int) (h : AHeap) := F140_0 hk C N n1 (⟨22, [(1, .int .i64 x1), (2, x2), (5, .int .i64 x5), (6, .int .i64 x6)]⟩) h
theorem e140 (x0 : Value) (x1 : Int) (h : AHeap) : evFn hk Tp C M140 N Try.f140 [x0, .int .i64 x1] h =
  (aCells x0).bind fun c1 => aNew h 35 c1 fun p2 h3 => s140_0 hk C N N x1 p2 1 0 h3 := by kernel_rfl
theorem s140_0_eq (n1 : Nat) (x1 : Int) (x2 : Value) (x5 x6 : Int) (h : AHeap) : s140_0 hk C N (n1 + 1) x1 x2 x5 x6 h =
  bif decide (x6 < x1) then (aOff x2 0).bind fun v4 => (aLd1 h v4).bind fun v5 => (aIdx v5 (.int .i64 x6) 4).bind fun v6 => (aOff v6 0).bind fun v7 => (aLd1 h v7).bind fun v8 => (asI .i64 v8).bind fun n9 => bif n9 == 6 then s140_0 hk C N n1 x1 x2 (IntKind.i64.wrap (x5 + 1)) (IntKind.i64.wrap (x6 + 1)) h else s140_0 hk C N n1 x1 x2 x5 (IntKind.i64.wrap (x6 + 1)) h else some (.int .i64 x5, h) := by kernel_rfl
theorem c140 (d : Nat) (args : List Value) (h : AHeap) : call Tp Ms (d + 1) 140 args h = evFn hk0 Tp (call Tp Ms d) M140 d Try.f140 args h := by kernel_rfl
end
noncomputable section
variable (hk : Hk (Value × AHeap)) (C : ACall) (N : Nat)
def F141_0 (n1 : Nat) : Nx (Value × AHeap) := evSt hk Tp C M141 N Try.f141 [1, 1, 1, 0, 1, 4, 1, 1, 0, 1, 2, 6] [n1]
def s141_0 (n1 : Nat) (x0 : Value) (x1 x2 x6 x7 : Int) (x8 : Value) (x9 : Int) (h : AHeap) := F141_0 hk C N n1 (⟨163, [(0, x0), (1, .int .i64 x1), (2, .int .i64 x2), (6, .int .i64 x6), (7, .int .i64 x7), (8, x8), (9, .int .i64 x9)]⟩) h
def F141_4 : Nx (Value × AHeap) := evSt hk Tp C M141 N Try.f141 [1, 1, 1, 1] []
def s141_4 (x0 : Value) (x1 x2 x6 x7 : Int) (h : AHeap) := hk 16 (⟨163, [(0, x0), (1, .int .i64 x1), (2, .int .i64 x2), (6, .int .i64 x6), (7, .int .i64 x7)]⟩) h (F141_4 hk C N)
def F141_1 (n1 : Nat) : Nx (Value × AHeap) := evSt hk Tp C M141 N Try.f141 [1, 1, 1, 0, 1, 4, 1, 1, 0, 1, 2, 3, 1] [n1]
def s141_1 (n1 : Nat) (x0 : Value) (x1 x2 x6 x7 : Int) (x8 : Value) (x9 : Int) (h : AHeap) := hk 9 (⟨163, [(0, x0), (1, .int .i64 x1), (2, .int .i64 x2), (6, .int .i64 x6), (7, .int .i64 x7), (8, x8), (9, .int .i64 x9)]⟩) h (F141_1 hk C N n1)
def F141_2 (n1 : Nat) : Nx (Value × AHeap) := evSt hk Tp C M141 N Try.f141 [1, 1, 1, 0, 1, 4, 1, 1, 1, 1, 1, 2, 6] [n1]
def s141_2 (n1 : Nat) (x0 : Value) (x1 x2 x6 x7 : Int) (x8 : Value) (x10 : Int) (h : AHeap) := F141_2 hk C N n1 (⟨163, [(0, x0), (1, .int .i64 x1), (2, .int .i64 x2), (6, .int .i64 x6), (7, .int .i64 x7), (8, x8), (10, .int .i64 x10)]⟩) h
def F141_5 : Nx (Value × AHeap) := evSt hk Tp C M141 N Try.f141 [1, 1, 1, 1, 1, 1, 1, 1, 1, 0, 1] []
def s141_5 (x0 : Value) (x1 x2 x6 : Int) (x11 : Value) (x142 : Bool) (h : AHeap) := hk 100022 (⟨163, [(0, x0), (1, .int .i64 x1), (2, .int .i64 x2), (6, .int .i64 x6), (11, x11), (142, .bool x142)]⟩) h (F141_5 hk C N)
def F141_3 (n1 : Nat) : Nx (Value × AHeap) := evSt hk Tp C M141 N Try.f141 [1, 1, 1, 0, 1, 4, 1, 1, 1, 1, 1, 2, 3, 1] [n1]
def s141_3 (n1 : Nat) (x0 : Value) (x1 x2 x6 x7 : Int) (x8 : Value) (x10 : Int) (h : AHeap) := hk 14 (⟨163, [(0, x0), (1, .int .i64 x1), (2, .int .i64 x2), (6, .int .i64 x6), (7, .int .i64 x7), (8, x8), (10, .int .i64 x10)]⟩) h (F141_3 hk C N n1)
def F141_6 : Nx (Value × AHeap) := evSt hk Tp C M141 N Try.f141 [1, 1, 1, 1, 1, 1, 1, 1, 1, 1] []
def s141_6 (x0 : Value) (x2 x6 : Int) (x11 : Value) (h : AHeap) := hk 23 (⟨163, [(0, x0), (2, .int .i64 x2), (6, .int .i64 x6), (11, x11)]⟩) h (F141_6 hk C N)
theorem e141 (x0 : Value) (x1 x2 : Int) (h : AHeap) : evFn hk Tp C M141 N Try.f141 [x0, .int .i64 x1, .int .i64 x2] h =
  (aNil x0).bind fun v1 => (aOff v1 2).bind fun v2 => (aLd1 h v2).bind fun v3 => (aFill [.int .i64 0, .int .i64 0, .slice none 0 0, .slice none 0 0, .slice none 0 0, .slice none 0 0, .slice none 0 0, .slice none 0 0, .slice none 0 0] [(0, 9, (.agg (List.toArray [.int .i64 0, .int .i64 0, .slice none 0 0, .slice none 0 0, .slice none 0 0, .slice none 0 0, .slice none 0 0, .slice none 0 0, .slice none 0 0])))]).bind fun c4 => aNewS h 195 c4 1 fun p5 h6 => (aApp h6 195 9 184 v3 p5).bind fun r7 => (aNil x0).bind fun v8 => (aOff v8 2).bind fun v9 => (aSt r7.2 v9 r7.1 1).bind fun h10 => (aNil x0).bind fun v11 => (aOff v11 2).bind fun v12 => (aLd1 h10 v12).bind fun v13 => (aLen v13).bind fun v14 => (asI .i64 v14).bind fun n15 => (aNil x0).bind fun v16 => (aOff v16 0).bind fun v17 => (aOff v17 0).bind fun v18 => (aLd1 h10 v18).bind fun v19 => (aIdx v19 (.int .i64 x1) 4).bind fun v20 => (aOff v20 0).bind fun v21 => (aLd1 h10 v21).bind fun v22 => (asI .i64 v22).bind fun n23 => bif n23 == 6 then (aNil x0).bind fun v24 => (aOff v24 0).bind fun v25 => (aOff v25 0).bind fun v26 => (aLd1 h10 v26).bind fun v27 => (aIdx v27 (.int .i64 x1) 4).bind fun v28 => (aOff v28 3).bind fun v29 => (aLd1 h10 v29).bind fun v30 => (aLen v30).bind fun v31 => (asI .i64 v31).bind fun n32 => (aIdx v30 (.int .i64 (IntKind.i64.wrap (n32 - 1))) 1).bind fun v33 => (aLd1 h10 v33).bind fun v34 => (asI .i64 v34).bind fun n35 => s141_0 hk C N N x0 x1 x2 (IntKind.i64.wrap (n15 - 1)) n35 v30 0 h10 else s141_4 hk C N x0 x1 x2 (IntKind.i64.wrap (n15 - 1)) x1 h10 := by kernel_rfl
theorem s141_0_eq (n1 : Nat) (x0 : Value) (x1 x2 x6 x7 : Int) (x8 : Value) (x9 : Int) (h : AHeap) : s141_0 hk C N (n1 + 1) x0 x1 x2 x6 x7 x8 x9 h =
  (aLen x8).bind fun v36 => (asI .i64 v36).bind fun n37 => bif decide ((IntKind.i64.wrap (x9 + 1)) < n37) then (aNil x0).bind fun v38 => (aOff v38 6).bind fun v39 => (aLd1 h v39).bind fun v40 => (asI .i64 v40).bind fun n41 => bif n41 == 0 then s141_1 hk C N n1 x0 x1 x2 x6 x7 x8 x9 h else (aNil x0).bind fun v42 => (aOff v42 2).bind fun v43 => (aLd1 h v43).bind fun v44 => (aLen x8).bind fun v45 => (asI .i64 v45).bind fun n46 => (aIdx v44 (.int .i64 x6) 9).bind fun v47 => (aOff v47 0).bind fun v48 => (aOff v48 0).bind fun v49 => (aSt h v49 (.int .i64 (IntKind.i64.wrap (n46 - 1))) 1).bind fun h50 => s141_2 hk C N N x0 x1 x2 x6 x7 x8 0 h50 else (aNil x0).bind fun v51 => (aOff v51 2).bind fun v52 => (aLd1 h v52).bind fun v53 => (aLen x8).bind fun v54 => (asI .i64 v54).bind fun n55 => (aIdx v53 (.int .i64 x6) 9).bind fun v56 => (aOff v56 0).bind fun v57 => (aOff v57 0).bind fun v58 => (aSt h v58 (.int .i64 (IntKind.i64.wrap (n55 - 1))) 1).bind fun h59 => s141_2 hk C N N x0 x1 x2 x6 x7 x8 0 h59 := by kernel_rfl
theorem s141_4_j (x0 : Value) (x1 x2 x6 x7 : Int) (h : AHeap) : s141_4 hk0 C N x0 x1 x2 x6 x7 h = F141_4 hk0 C N (⟨163, [(0, x0), (1, .int .i64 x1), (2, .int .i64 x2), (6, .int .i64 x6), (7, .int .i64 x7)]⟩) h := by delta s141_4; exact hk0_app _ _ _ _
theorem s141_4_eq (x0 : Value) (x1 x2 x6 x7 : Int) (h : AHeap) : F141_4 hk C N (⟨163, [(0, x0), (1, .int .i64 x1), (2, .int .i64 x2), (6, .int .i64 x6), (7, .int .i64 x7)]⟩) h =
  (C 179 [x0, .int .i64 x7] h).bind fun r60 => (C 178 [x0, .int .i64 1, .int .i64 0] r60.2).bind fun r61 => (asI .i64 r61.1).bind fun n62 => (C 178 [x0, .int .i64 24, .int .i64 0] r61.2).bind fun r63 => (asI .i64 r63.1).bind fun n64 => (aNil x0).bind fun v65 => (aOff v65 2).bind fun v66 => (aLd1 r63.2 v66).bind fun v67 => (aIdx v67 (.int .i64 x6) 9).bind fun v68 => (aLdN r63.2 v68 9).bind fun v69 => aNew r63.2 195 [.int .i64 0, .int .i64 0, .slice none 0 0, .slice none 0 0, .slice none 0 0, .slice none 0 0, .slice none 0 0, .slice none 0 0, .slice none 0 0] fun p70 h71 => (aSt h71 p70 v69 9).bind fun h72 => (aOff p70 8).bind fun v73 => (aLd1 h72 v73).bind fun v74 => (aLen v74).bind fun v75 => (asI .i64 v75).bind fun n76 => (aOff p70 0).bind fun v77 => (aOff v77 1).bind fun v78 => (aSt h72 v78 (.int .i64 n76) 1).bind fun h79 => (aOff p70 0).bind fun v80 => (aOff v80 2).bind fun v81 => (aLd1 h79 v81).bind fun v82 => (aLen v82).bind fun v83 => (asI .i64 v83).bind fun n84 => bif decide (n84 > 12) then s141_5 hk C N x0 x1 x2 x6 p70 true h79 else (aOff p70 0).bind fun v85 => (aOff v85 3).bind fun v86 => (aLd1 h79 v86).bind fun v87 => (aLen v87).bind fun v88 => (asI .i64 v88).bind fun n89 => s141_5 hk C N x0 x1 x2 x6 p70 (decide (n89 > 4000)) h79 := by kernel_rfl
theorem s141_1_j (n1 : Nat) (x0 : Value) (x1 x2 x6 x7 : Int) (x8 : Value) (x9 : Int) (h : AHeap) : s141_1 hk0 C N n1 x0 x1 x2 x6 x7 x8 x9 h = F141_1 hk0 C N n1 (⟨163, [(0, x0), (1, .int .i64 x1), (2, .int .i64 x2), (6, .int .i64 x6), (7, .int .i64 x7), (8, x8), (9, .int .i64 x9)]⟩) h := by delta s141_1; exact hk0_app _ _ _ _
theorem s141_1_eq (n1 : Nat) (x0 : Value) (x1 x2 x6 x7 : Int) (x8 : Value) (x9 : Int) (h : AHeap) : F141_1 hk C N n1 (⟨163, [(0, x0), (1, .int .i64 x1), (2, .int .i64 x2), (6, .int .i64 x6), (7, .int .i64 x7), (8, x8), (9, .int .i64 x9)]⟩) h =
  (aIdx x8 (.int .i64 x9) 1).bind fun v90 => (aLd1 h v90).bind fun v91 => (asI .i64 v91).bind fun n92 => (C 177 [x0, .int .i64 n92] h).bind fun r93 => (asB r93.1).bind fun b94 => s141_0 hk C N n1 x0 x1 x2 x6 x7 x8 (IntKind.i64.wrap (x9 + 1)) r93.2 := by kernel_rfl
theorem s141_2_eq (n1 : Nat) (x0 : Value) (x1 x2 x6 x7 : Int) (x8 : Value) (x10 : Int) (h : AHeap) : s141_2 hk C N (n1 + 1) x0 x1 x2 x6 x7 x8 x10 h =
  (aLen x8).bind fun v95 => (asI .i64 v95).bind fun n96 => bif decide ((IntKind.i64.wrap (x10 + 1)) < n96) then (aNil x0).bind fun v97 => (aOff v97 6).bind fun v98 => (aLd1 h v98).bind fun v99 => (asI .i64 v99).bind fun n100 => bif n100 == 0 then s141_3 hk C N n1 x0 x1 x2 x6 x7 x8 x10 h else s141_4 hk C N x0 x1 x2 x6 x7 h else s141_4 hk C N x0 x1 x2 x6 x7 h := by kernel_rfl
theorem s141_5_j (x0 : Value) (x1 x2 x6 : Int) (x11 : Value) (x142 : Bool) (h : AHeap) : s141_5 hk0 C N x0 x1 x2 x6 x11 x142 h = F141_5 hk0 C N (⟨163, [(0, x0), (1, .int .i64 x1), (2, .int .i64 x2), (6, .int .i64 x6), (11, x11), (142, .bool x142)]⟩) h := by delta s141_5; exact hk0_app _ _ _ _
theorem s141_5_eq (x0 : Value) (x1 x2 x6 : Int) (x11 : Value) (x142 : Bool) (h : AHeap) : F141_5 hk C N (⟨163, [(0, x0), (1, .int .i64 x1), (2, .int .i64 x2), (6, .int .i64 x6), (11, x11), (142, .bool x142)]⟩) h =
  bif x142 then (C 180 [x0, .int .i64 3, .int .i64 x1] h).bind fun r101 => s141_6 hk C N x0 x2 x6 x11 r101.2 else s141_6 hk C N x0 x2 x6 x11 h := by kernel_rfl
theorem s141_3_j (n1 : Nat) (x0 : Value) (x1 x2 x6 x7 : Int) (x8 : Value) (x10 : Int) (h : AHeap) : s141_3 hk0 C N n1 x0 x1 x2 x6 x7 x8 x10 h = F141_3 hk0 C N n1 (⟨163, [(0, x0), (1, .int .i64 x1), (2, .int .i64 x2), (6, .int .i64 x6), (7, .int .i64 x7), (8, x8), (10, .int .i64 x10)]⟩) h := by delta s141_3; exact hk0_app _ _ _ _
theorem s141_3_eq (n1 : Nat) (x0 : Value) (x1 x2 x6 x7 : Int) (x8 : Value) (x10 : Int) (h : AHeap) : F141_3 hk C N n1 (⟨163, [(0, x0), (1, .int .i64 x1), (2, .int .i64 x2), (6, .int .i64 x6), (7, .int .i64 x7), (8, x8), (10, .int .i64 x10)]⟩) h =
  (aNil x0).bind fun v102 => (aOff v102 3).bind fun v103 => (aLd1 h v103).bind fun v104 => (aIdx x8 (.int .i64 x10) 1).bind fun v105 => (aLd1 h v105).bind fun v106 => (asI .i64 v106).bind fun n107 => (aIdx v104 (.int .i64 n107) 1).bind fun v108 => (aLd1 h v108).bind fun v109 => (asB v109).bind fun b110 => bif b110 then (C 178 [x0, .int .i64 11, .int .i64 x10] h).bind fun r111 => (asI .i64 r111.1).bind fun n112 => s141_2 hk C N n1 x0 x1 x2 x6 x7 x8 (IntKind.i64.wrap (x10 + 1)) r111.2 else s141_2 hk C N n1 x0 x1 x2 x6 x7 x8 (IntKind.i64.wrap (x10 + 1)) h := by kernel_rfl
theorem s141_6_j (x0 : Value) (x2 x6 : Int) (x11 : Value) (h : AHeap) : s141_6 hk0 C N x0 x2 x6 x11 h = F141_6 hk0 C N (⟨163, [(0, x0), (2, .int .i64 x2), (6, .int .i64 x6), (11, x11)]⟩) h := by delta s141_6; exact hk0_app _ _ _ _
theorem s141_6_eq (x0 : Value) (x2 x6 : Int) (x11 : Value) (h : AHeap) : F141_6 hk C N (⟨163, [(0, x0), (2, .int .i64 x2), (6, .int .i64 x6), (11, x11)]⟩) h =
  (aNil x0).bind fun v113 => (aOff v113 2).bind fun v114 => (aLd1 h v114).bind fun v115 => (aSub h 195 v115 none (some (.int .i64 x6)) 9).bind fun v116 => (aNil x0).bind fun v117 => (aOff v117 2).bind fun v118 => (aSt h v118 v116 1).bind fun h119 => (aNil x0).bind fun v120 => (aOff v120 4).bind fun v121 => (aLd1 h119 v121).bind fun v122 => (aOff x11 0).bind fun v123 => (aLdN h119 v123 4).bind fun v124 => (aIdx v122 (.int .i64 x2) 4).bind fun v125 => (aSt h119 v125 v124 4).bind fun h126 => some (.tuple (List.toArray []), h126) := by kernel_rfl
theorem c141 (d : Nat) (args : List Value) (h : AHeap) : call Tp Ms (d + 1) 141 args h = evFn hk0 Tp (call Tp Ms d) M141 d Try.f141 args h := by kernel_rfl
theorem e177 (x0 : Value) (x1 : Int) (h : AHeap) : evFn hk Tp C M177 N Try.f177 [x0, .int .i64 x1] h =
  (aNil x0).bind fun v1 => (aOff v1 2).bind fun v2 => (aLd1 h v2).bind fun v3 => (aLen v3).bind fun v4 => (asI .i64 v4).bind fun n5 => (aNil x0).bind fun v6 => (aOff v6 2).bind fun v7 => (aLd1 h v7).bind fun v8 => (aIdx v8 (.int .i64 (IntKind.i64.wrap (n5 - 1))) 9).bind fun v9 => (aOff v9 8).bind fun v10 => (aLd1 h v10).bind fun v11 => (aLen v11).bind fun v12 => (asI .i64 v12).bind fun n13 => bif decide (n13 ≥ 20) then (C 180 [x0, .int .i64 3, .int .i64 x1] h).bind fun r14 => some (.bool false, r14.2) else (aNil x0).bind fun v15 => (aOff v15 2).bind fun v16 => (aLd1 h v16).bind fun v17 => (aNil x0).bind fun v18 => (aOff v18 2).bind fun v19 => (aLd1 h v19).bind fun v20 => (aIdx v20 (.int .i64 (IntKind.i64.wrap (n5 - 1))) 9).bind fun v21 => (aOff v21 8).bind fun v22 => (aLd1 h v22).bind fun v23 => aNewS h 3 [.int .i64 x1] 1 fun p24 h25 => ((aLd1 h25 v16).bind fun v26 => some (vbeq v26 v17)).bind fun b27 => bif b27 then ((aLd1 h25 v19).bind fun v28 => some (vbeq v28 v20)).bind fun b29 => bif b29 then ((aLd1 h25 v22).bind fun v30 => some (vbeq v30 v23)).bind fun b31 => bif b31 then (aApp h25 3 1 8 v23 p24).bind fun r32 => ((aLd1 r32.2 v16).bind fun v33 => some (vbeq v33 v17)).bind fun b34 => bif b34 then (aIdx v17 (.int .i64 (IntKind.i64.wrap (n5 - 1))) 9).bind fun v35 => (aOff v35 8).bind fun v36 => (aSt r32.2 v36 r32.1 1).bind fun h37 => (aNil x0).bind fun v38 => (aOff v38 2).bind fun v39 => (aLd1 h37 v39).bind fun v40 => aNewS h37 9 [] 0 fun p41 h42 => (aNil x0).bind fun v43 => (aOff v43 2).bind fun v44 => (aLd1 h42 v44).bind fun v45 => (aIdx v45 (.int .i64 (IntKind.i64.wrap (n5 - 1))) 9).bind fun v46 => (aOff v46 4).bind fun v47 => (aLd1 h42 v47).bind fun v48 => (aNil x0).bind fun v49 => (aOff v49 0).bind fun v50 => (aOff v50 0).bind fun v51 => (aLd1 h42 v51).bind fun v52 => (aIdx v52 (.int .i64 x1) 4).bind fun v53 => (aOff v53 1).bind fun v54 => (aLd1 h42 v54).bind fun v55 => (asS v55).bind fun t56 => aNewS h42 9 [.string t56] 1 fun p57 h58 => (aApp h58 9 1 16 p41 v48).bind fun r59 => ((aLd1 r59.2 v39).bind fun v60 => some (vbeq v60 v40)).bind fun b61 => bif b61 then ((aLd1 r59.2 v51).bind fun v62 => some (vbeq v62 v52)).bind fun b63 => bif b63 then ((aLd1 r59.2 v54).bind fun v64 => (asS v64).bind fun t65 => some (vbeq (.string t65) (.string t56))).bind fun b66 => bif b66 then (aApp r59.2 9 1 16 r59.1 p57).bind fun r67 => ((aLd1 r67.2 v39).bind fun v68 => some (vbeq v68 v40)).bind fun b69 => bif b69 then (aIdx v40 (.int .i64 (IntKind.i64.wrap (n5 - 1))) 9).bind fun v70 => (aOff v70 4).bind fun v71 => (aSt r67.2 v71 r67.1 1).bind fun h72 => (aNil x0).bind fun v73 => (aOff v73 2).bind fun v74 => (aLd1 h72 v74).bind fun v75 => aNewS h72 3 [] 0 fun p76 h77 => (aNil x0).bind fun v78 => (aOff v78 2).bind fun v79 => (aLd1 h77 v79).bind fun v80 => (aIdx v80 (.int .i64 (IntKind.i64.wrap (n5 - 1))) 9).bind fun v81 => (aOff v81 5).bind fun v82 => (aLd1 h77 v82).bind fun v83 => aNewS h77 3 [.int .i64 x1] 1 fun p84 h85 => (aApp h85 3 1 8 p76 v83).bind fun r86 => ((aLd1 r86.2 v74).bind fun v87 => some (vbeq v87 v75)).bind fun b88 => bif b88 then (aApp r86.2 3 1 8 r86.1 p84).bind fun r89 => ((aLd1 r89.2 v74).bind fun v90 => some (vbeq v90 v75)).bind fun b91 => bif b91 then (aIdx v75 (.int .i64 (IntKind.i64.wrap (n5 - 1))) 9).bind fun v92 => (aOff v92 5).bind fun v93 => (aSt r89.2 v93 r89.1 1).bind fun h94 => some (.bool true, h94) else none else none else none else none else none else none else none else none else none else none := by kernel_rfl
theorem c177 (d : Nat) (args : List Value) (h : AHeap) : call Tp Ms (d + 1) 177 args h = evFn hk0 Tp (call Tp Ms d) M177 d Try.f177 args h := by kernel_rfl
theorem e178 (x0 : Value) (x1 x2 : Int) (h : AHeap) : evFn hk Tp C M178 N Try.f178 [x0, .int .i64 x1, .int .i64 x2] h =
  (aNil x0).bind fun v1 => (aOff v1 2).bind fun v2 => (aLd1 h v2).bind fun v3 => (aLen v3).bind fun v4 => (asI .i64 v4).bind fun n5 => (aNil x0).bind fun v6 => (aOff v6 2).bind fun v7 => (aLd1 h v7).bind fun v8 => (aNil x0).bind fun v9 => (aOff v9 2).bind fun v10 => (aLd1 h v10).bind fun v11 => (aIdx v11 (.int .i64 (IntKind.i64.wrap (n5 - 1))) 9).bind fun v12 => (aOff v12 0).bind fun v13 => (aOff v13 3).bind fun v14 => (aLd1 h v14).bind fun v15 => (aFill [.int .i64 0, .int .i64 0] [(0, 2, (.agg (List.toArray [.int .i64 x1, .int .i64 x2])))]).bind fun c16 => aNewS h 206 c16 1 fun p17 h18 => ((aLd1 h18 v7).bind fun v19 => some (vbeq v19 v8)).bind fun b20 => bif b20 then ((aLd1 h18 v10).bind fun v21 => some (vbeq v21 v11)).bind fun b22 => bif b22 then ((aLd1 h18 v14).bind fun v23 => some (vbeq v23 v15)).bind fun b24 => bif b24 then (aApp h18 206 2 16 v15 p17).bind fun r25 => ((aLd1 r25.2 v7).bind fun v26 => some (vbeq v26 v8)).bind fun b27 => bif b27 then (aIdx v8 (.int .i64 (IntKind.i64.wrap (n5 - 1))) 9).bind fun v28 => (aOff v28 0).bind fun v29 => (aOff v29 3).bind fun v30 => (aSt r25.2 v30 r25.1 1).bind fun h31 => (aNil x0).bind fun v32 => (aOff v32 2).bind fun v33 => (aLd1 h31 v33).bind fun v34 => (aIdx v34 (.int .i64 (IntKind.i64.wrap (n5 - 1))) 9).bind fun v35 => (aOff v35 0).bind fun v36 => (aOff v36 3).bind fun v37 => (aLd1 h31 v37).bind fun v38 => (aLen v38).bind fun v39 => (asI .i64 v39).bind fun n40 => some (.int .i64 (IntKind.i64.wrap (n40 - 1)), h31) else none else none else none else none := by kernel_rfl
theorem c178 (d : Nat) (args : List Value) (h : AHeap) : call Tp Ms (d + 1) 178 args h = evFn hk0 Tp (call Tp Ms d) M178 d Try.f178 args h := by kernel_rfl
def F179_0 (n1 : Nat) : Nx (Value × AHeap) := evSt hk Tp C M179 N Try.f179 [1, 1, 1, 0, 1, 2, 6] [n1]
def s179_0 (n1 : Nat) (x0 : Value) (x4 : Int) (x5 x6 x7 : Value) (x8 : Int) (h : AHeap) := F179_0 hk C N n1 (⟨76, [(0, x0), (4, .int .i64 x4), (5, x5), (6, x6), (7, x7), (8, .int .i64 x8)]⟩) h
def F179_1 (n1 : Nat) : Nx (Value × AHeap) := evSt hk Tp C M179 N Try.f179 [1, 1, 1, 0, 1, 2, 3, 1] [n1]
def s179_1 (n1 : Nat) (x0 : Value) (x4 : Int) (x5 x6 x7 : Value) (x8 : Int) (h : AHeap) := hk 6 (⟨76, [(0, x0), (4, .int .i64 x4), (5, x5), (6, x6), (7, x7), (8, .int .i64 x8)]⟩) h (F179_1 hk C N n1)
theorem e179 (x0 : Value) (x1 : Int) (h : AHeap) : evFn hk Tp C M179 N Try.f179 [x0, .int .i64 x1] h =
  (aNil x0).bind fun v1 => (aOff v1 2).bind fun v2 => (aLd1 h v2).bind fun v3 => (aLen v3).bind fun v4 => (asI .i64 v4).bind fun n5 => (aNil x0).bind fun v6 => (aOff v6 2).bind fun v7 => (aLd1 h v7).bind fun v8 => (aIdx v8 (.int .i64 (IntKind.i64.wrap (n5 - 1))) 9).bind fun v9 => (aOff v9 4).bind fun v10 => (aLd1 h v10).bind fun v11 => (aNil x0).bind fun v12 => (aOff v12 2).bind fun v13 => (aLd1 h v13).bind fun v14 => (aIdx v14 (.int .i64 (IntKind.i64.wrap (n5 - 1))) 9).bind fun v15 => (aOff v15 5).bind fun v16 => (aLd1 h v16).bind fun v17 => ((aLd1 h v13).bind fun v18 => some (vbeq v18 v14)).bind fun b19 => bif b19 then ((aLd1 h v16).bind fun v20 => some (vbeq v20 v17)).bind fun b21 => bif b21 then (aNil x0).bind fun v22 => (aOff v22 0).bind fun v23 => (aOff v23 0).bind fun v24 => (aLd1 h v24).bind fun v25 => (aIdx v25 (.int .i64 x1) 4).bind fun v26 => (aLdN h v26 4).bind fun v27 => aNew h 73 [.int .i64 0, .string ⟨#[]⟩, .int .i64 0, .slice none 0 0] fun p28 h29 => (aSt h29 p28 v27 4).bind fun h30 => s179_0 hk C N N x0 (IntKind.i64.wrap (n5 - 1)) v11 v17 p28 0 h30 else none else none := by kernel_rfl
theorem s179_0_eq (n1 : Nat) (x0 : Value) (x4 : Int) (x5 x6 x7 : Value) (x8 : Int) (h : AHeap) : s179_0 hk C N (n1 + 1) x0 x4 x5 x6 x7 x8 h =
  (aOff x7 3).bind fun v31 => (aLd1 h v31).bind fun v32 => (aLen v32).bind fun v33 => (asI .i64 v33).bind fun n34 => bif decide (x8 < n34) then (aNil x0).bind fun v35 => (aOff v35 6).bind fun v36 => (aLd1 h v36).bind fun v37 => (asI .i64 v37).bind fun n38 => bif n38 == 0 then s179_1 hk C N n1 x0 x4 x5 x6 x7 x8 h else (aNil x0).bind fun v39 => (aOff v39 2).bind fun v40 => (aLd1 h v40).bind fun v41 => (aIdx v41 (.int .i64 x4) 9).bind fun v42 => (aOff v42 4).bind fun v43 => (aSt h v43 x5 1).bind fun h44 => (aNil x0).bind fun v45 => (aOff v45 2).bind fun v46 => (aLd1 h44 v46).bind fun v47 => (aIdx v47 (.int .i64 x4) 9).bind fun v48 => (aOff v48 5).bind fun v49 => (aSt h44 v49 x6 1).bind fun h50 => some (.tuple (List.toArray []), h50) else (aNil x0).bind fun v51 => (aOff v51 2).bind fun v52 => (aLd1 h v52).bind fun v53 => (aIdx v53 (.int .i64 x4) 9).bind fun v54 => (aOff v54 4).bind fun v55 => (aSt h v55 x5 1).bind fun h56 => (aNil x0).bind fun v57 => (aOff v57 2).bind fun v58 => (aLd1 h56 v58).bind fun v59 => (aIdx v59 (.int .i64 x4) 9).bind fun v60 => (aOff v60 5).bind fun v61 => (aSt h56 v61 x6 1).bind fun h62 => some (.tuple (List.toArray []), h62) := by kernel_rfl
theorem s179_1_j (n1 : Nat) (x0 : Value) (x4 : Int) (x5 x6 x7 : Value) (x8 : Int) (h : AHeap) : s179_1 hk0 C N n1 x0 x4 x5 x6 x7 x8 h = F179_1 hk0 C N n1 (⟨76, [(0, x0), (4, .int .i64 x4), (5, x5), (6, x6), (7, x7), (8, .int .i64 x8)]⟩) h := by delta s179_1; exact hk0_app _ _ _ _
theorem s179_1_eq (n1 : Nat) (x0 : Value) (x4 : Int) (x5 x6 x7 : Value) (x8 : Int) (h : AHeap) : F179_1 hk C N n1 (⟨76, [(0, x0), (4, .int .i64 x4), (5, x5), (6, x6), (7, x7), (8, .int .i64 x8)]⟩) h =
  (aOff x7 3).bind fun v63 => (aLd1 h v63).bind fun v64 => (aIdx v64 (.int .i64 x8) 1).bind fun v65 => (aLd1 h v65).bind fun v66 => (asI .i64 v66).bind fun n67 => (C 199 [x0, .int .i64 n67] h).bind fun r68 => s179_0 hk C N n1 x0 x4 x5 x6 x7 (IntKind.i64.wrap (x8 + 1)) r68.2 := by kernel_rfl
theorem c179 (d : Nat) (args : List Value) (h : AHeap) : call Tp Ms (d + 1) 179 args h = evFn hk0 Tp (call Tp Ms d) M179 d Try.f179 args h := by kernel_rfl
theorem e180 (x0 : Value) (x1 x2 : Int) (h : AHeap) : evFn hk Tp C M180 N Try.f180 [x0, .int .i64 x1, .int .i64 x2] h =
  (aNil x0).bind fun v1 => (aOff v1 6).bind fun v2 => (aLd1 h v2).bind fun v3 => (asI .i64 v3).bind fun n4 => bif n4 == 0 then (aNil x0).bind fun v5 => (aOff v5 6).bind fun v6 => (aSt h v6 (.int .i64 x1) 1).bind fun h7 => (aNil x0).bind fun v8 => (aOff v8 7).bind fun v9 => (aSt h7 v9 (.int .i64 x2) 1).bind fun h10 => some (.tuple (List.toArray []), h10) else some (.tuple (List.toArray []), h) := by kernel_rfl
theorem c180 (d : Nat) (args : List Value) (h : AHeap) : call Tp Ms (d + 1) 180 args h = evFn hk0 Tp (call Tp Ms d) M180 d Try.f180 args h := by kernel_rfl
def F199_0 : Nx (Value × AHeap) := evSt hk Tp C M199 N Try.f199 [1, 1, 2, 1, 5, 1, 5, 1, 5, 1, 4, 1, 1] []
def s199_0 (x0 : Value) (x1 : Int) (h : AHeap) := hk 26 (⟨125, [(0, x0), (1, .int .i64 x1)]⟩) h (F199_0 hk C N)
def F199_1 (n1 : Nat) : Nx (Value × AHeap) := evSt hk Tp C M199 N Try.f199 [1, 1, 2, 1, 5, 1, 5, 1, 5, 1, 5, 0, 1, 2, 6] [n1]
def s199_1 (n1 : Nat) (x0 x4 : Value) (x8 : Int) (h : AHeap) := F199_1 hk C N n1 (⟨125, [(0, x0), (4, x4), (8, .int .i64 x8)]⟩) h
theorem e199 (x0 : Value) (x1 : Int) (h : AHeap) : evFn hk Tp C M199 N Try.f199 [x0, .int .i64 x1] h =
  (aNil x0).bind fun v1 => (aOff v1 0).bind fun v2 => (aOff v2 0).bind fun v3 => (aLd1 h v3).bind fun v4 => (aIdx v4 (.int .i64 x1) 4).bind fun v5 => (aLdN h v5 4).bind fun v6 => aNew h 73 [.int .i64 0, .string ⟨#[]⟩, .int .i64 0, .slice none 0 0] fun p7 h8 => (aSt h8 p7 v6 4).bind fun h9 => (aOff p7 0).bind fun v10 => (aLd1 h9 v10).bind fun v11 => (asI .i64 v11).bind fun n12 => bif n12 == 15 then (C 206 [x0, .int .i64 x1] h9).bind fun r13 => some (.tuple (List.toArray []), r13.2) else bif n12 == 17 then (aLdN h9 p7 4).bind fun v14 => (C 207 [x0, v14] h9).bind fun r15 => some (.tuple (List.toArray []), r15.2) else bif n12 == 18 then (C 208 [x0] h9).bind fun r16 => (asI .i64 r16.1).bind fun n17 => (aOff p7 3).bind fun v18 => (aLd1 r16.2 v18).bind fun v19 => (aIdx v19 (.int .i64 0) 1).bind fun v20 => (aLd1 r16.2 v20).bind fun v21 => (asI .i64 v21).bind fun n22 => (C 209 [x0, .int .i64 n22] r16.2).bind fun r23 => (C 178 [x0, .int .i64 19, .int .i64 0] r23.2).bind fun r24 => (asI .i64 r24.1).bind fun n25 => (aOff p7 3).bind fun v26 => (aLd1 r24.2 v26).bind fun v27 => (aIdx v27 (.int .i64 1) 1).bind fun v28 => (aLd1 r24.2 v28).bind fun v29 => (asI .i64 v29).bind fun n30 => (C 179 [x0, .int .i64 n30] r24.2).bind fun r31 => (C 178 [x0, .int .i64 18, .int .i64 n17] r31.2).bind fun r32 => (asI .i64 r32.1).bind fun n33 => (C 210 [x0, .int .i64 n25] r32.2).bind fun r34 => some (.tuple (List.toArray []), r34.2) else bif n12 == 14 then (aOff p7 3).bind fun v35 => (aLd1 h9 v35).bind fun v36 => (aIdx v36 (.int .i64 0) 1).bind fun v37 => (aLd1 h9 v37).bind fun v38 => (asI .i64 v38).bind fun n39 => (C 209 [x0, .int .i64 n39] h9).bind fun r40 => (aNil x0).bind fun v41 => (aOff v41 6).bind fun v42 => (aLd1 r40.2 v42).bind fun v43 => (asI .i64 v43).bind fun n44 => bif n44 != 0 then some (.tuple (List.toArray []), r40.2) else (C 177 [x0, .int .i64 x1] r40.2).bind fun r45 => (asB r45.1).bind fun b46 => bif !b46 then some (.tuple (List.toArray []), r45.2) else s199_0 hk C N x0 x1 r45.2 else s199_1 hk C N N x0 p7 0 h9 := by kernel_rfl
theorem s199_0_j (x0 : Value) (x1 : Int) (h : AHeap) : s199_0 hk0 C N x0 x1 h = F199_0 hk0 C N (⟨125, [(0, x0), (1, .int .i64 x1)]⟩) h := by delta s199_0; exact hk0_app _ _ _ _
theorem s199_0_eq (x0 : Value) (x1 : Int) (h : AHeap) : F199_0 hk C N (⟨125, [(0, x0), (1, .int .i64 x1)]⟩) h =
  (aNil x0).bind fun v47 => (aOff v47 2).bind fun v48 => (aLd1 h v48).bind fun v49 => (aNil x0).bind fun v50 => (aOff v50 2).bind fun v51 => (aLd1 h v51).bind fun v52 => (aLen v52).bind fun v53 => (asI .i64 v53).bind fun n54 => (aIdx v49 (.int .i64 (IntKind.i64.wrap (n54 - 1))) 9).bind fun v55 => (aLdN h v55 9).bind fun v56 => (C 211 [v56, .int .i64 x1] h).bind fun r57 => (asI .i64 r57.1).bind fun n58 => (C 178 [x0, .int .i64 8, .int .i64 n58] r57.2).bind fun r59 => (asI .i64 r59.1).bind fun n60 => (aNil x0).bind fun v61 => (aOff v61 3).bind fun v62 => (aLd1 r59.2 v62).bind fun v63 => (aIdx v63 (.int .i64 x1) 1).bind fun v64 => (aLd1 r59.2 v64).bind fun v65 => (asB v65).bind fun b66 => bif b66 then (C 178 [x0, .int .i64 11, .int .i64 n58] r59.2).bind fun r67 => (asI .i64 r67.1).bind fun n68 => some (.tuple (List.toArray []), r67.2) else some (.tuple (List.toArray []), r59.2) := by kernel_rfl
theorem s199_1_eq (n1 : Nat) (x0 x4 : Value) (x8 : Int) (h : AHeap) : s199_1 hk C N (n1 + 1) x0 x4 x8 h =
  (aOff x4 3).bind fun v69 => (aLd1 h v69).bind fun v70 => (aLen v70).bind fun v71 => (asI .i64 v71).bind fun n72 => bif decide (x8 < n72) then (aOff x4 3).bind fun v73 => (aLd1 h v73).bind fun v74 => (aIdx v74 (.int .i64 x8) 1).bind fun v75 => (aLd1 h v75).bind fun v76 => (asI .i64 v76).bind fun n77 => (C 209 [x0, .int .i64 n77] h).bind fun r78 => s199_1 hk C N n1 x0 x4 (IntKind.i64.wrap (x8 + 1)) r78.2 else (aOff x4 0).bind fun v79 => (aLd1 h v79).bind fun v80 => (asI .i64 v80).bind fun n81 => bif n81 == 16 then (C 178 [x0, .int .i64 15, .int .i64 0] h).bind fun r82 => (asI .i64 r82.1).bind fun n83 => some (.tuple (List.toArray []), r82.2) else bif n81 == 19 then (C 178 [x0, .int .i64 24, .int .i64 0] h).bind fun r84 => (asI .i64 r84.1).bind fun n85 => some (.tuple (List.toArray []), r84.2) else (C 178 [x0, .int .i64 25, .int .i64 0] h).bind fun r86 => (asI .i64 r86.1).bind fun n87 => some (.tuple (List.toArray []), r86.2) := by kernel_rfl
theorem c199 (d : Nat) (args : List Value) (h : AHeap) : call Tp Ms (d + 1) 199 args h = evFn hk0 Tp (call Tp Ms d) M199 d Try.f199 args h := by kernel_rfl
theorem e206 (x0 : Value) (x1 : Int) (h : AHeap) : evFn hk Tp C M206 N Try.f206 [x0, .int .i64 x1] h =
  (aNil x0).bind fun v1 => (aOff v1 0).bind fun v2 => (aOff v2 0).bind fun v3 => (aLd1 h v3).bind fun v4 => (aIdx v4 (.int .i64 x1) 4).bind fun v5 => (aLdN h v5 4).bind fun v6 => aNew h 73 [.int .i64 0, .string ⟨#[]⟩, .int .i64 0, .slice none 0 0] fun p7 h8 => (aSt h8 p7 v6 4).bind fun h9 => (aOff p7 3).bind fun v10 => (aLd1 h9 v10).bind fun v11 => (aIdx v11 (.int .i64 0) 1).bind fun v12 => (aLd1 h9 v12).bind fun v13 => (asI .i64 v13).bind fun n14 => (C 209 [x0, .int .i64 n14] h9).bind fun r15 => (aNil x0).bind fun v16 => (aOff v16 6).bind fun v17 => (aLd1 r15.2 v17).bind fun v18 => (asI .i64 v18).bind fun n19 => bif n19 != 0 then some (.tuple (List.toArray []), r15.2) else (aOff p7 1).bind fun v20 => (aLd1 r15.2 v20).bind fun v21 => (asS v21).bind fun t22 => (C 223 [x0, .string t22] r15.2).bind fun r23 => (aExt r23.1 0).bind fun v24 => (asI .i64 v24).bind fun n25 => (aExt r23.1 1).bind fun v26 => (asI .i64 v26).bind fun n27 => (aNil x0).bind fun v28 => (aOff v28 2).bind fun v29 => (aLd1 r23.2 v29).bind fun v30 => (aLen v30).bind fun v31 => (asI .i64 v31).bind fun n32 => bif decide (n25 < 0) then (C 180 [x0, .int .i64 2, .int .i64 x1] r23.2).bind fun r33 => some (.tuple (List.toArray []), r33.2) else bif decide (n27 < (IntKind.i64.wrap (n32 - 1))) then (aNil x0).bind fun v34 => (aOff v34 3).bind fun v35 => (aLd1 r23.2 v35).bind fun v36 => (aIdx v36 (.int .i64 n25) 1).bind fun v37 => (aSt r23.2 v37 (.bool true) 1).bind fun h38 => (C 224 [x0, .int .i64 (IntKind.i64.wrap (n32 - 1)), .int .i64 n25] h38).bind fun r39 => (asI .i64 r39.1).bind fun n40 => (C 178 [x0, .int .i64 10, .int .i64 n40] r39.2).bind fun r41 => (asI .i64 r41.1).bind fun n42 => some (.tuple (List.toArray []), r41.2) else (aNil x0).bind fun v43 => (aOff v43 3).bind fun v44 => (aLd1 r23.2 v44).bind fun v45 => (aIdx v45 (.int .i64 n25) 1).bind fun v46 => (aLd1 r23.2 v46).bind fun v47 => (asB v47).bind fun b48 => bif b48 then (aNil x0).bind fun v49 => (aOff v49 2).bind fun v50 => (aLd1 r23.2 v50).bind fun v51 => (aIdx v51 (.int .i64 (IntKind.i64.wrap (n32 - 1))) 9).bind fun v52 => (aLdN r23.2 v52 9).bind fun v53 => (C 211 [v53, .int .i64 n25] r23.2).bind fun r54 => (asI .i64 r54.1).bind fun n55 => (C 178 [x0, .int .i64 9, .int .i64 n55] r54.2).bind fun r56 => (asI .i64 r56.1).bind fun n57 => some (.tuple (List.toArray []), r56.2) else (aNil x0).bind fun v58 => (aOff v58 2).bind fun v59 => (aLd1 r23.2 v59).bind fun v60 => (aIdx v60 (.int .i64 (IntKind.i64.wrap (n32 - 1))) 9).bind fun v61 => (aLdN r23.2 v61 9).bind fun v62 => (C 211 [v62, .int .i64 n25] r23.2).bind fun r63 => (asI .i64 r63.1).bind fun n64 => (C 178 [x0, .int .i64 8, .int .i64 n64] r63.2).bind fun r65 => (asI .i64 r65.1).bind fun n66 => some (.tuple (List.toArray []), r65.2) := by kernel_rfl
theorem c206 (d : Nat) (args : List Value) (h : AHeap) : call Tp Ms (d + 1) 206 args h = evFn hk0 Tp (call Tp Ms d) M206 d Try.f206 args h := by kernel_rfl
theorem e207 (x0 x1 : Value) (h : AHeap) : evFn hk Tp C M207 N Try.f207 [x0, x1] h =
  (aCells x1).bind fun c1 => aNew h 73 c1 fun p2 h3 => (aOff p2 3).bind fun v4 => (aLd1 h3 v4).bind fun v5 => (aIdx v5 (.int .i64 0) 1).bind fun v6 => (aLd1 h3 v6).bind fun v7 => (asI .i64 v7).bind fun n8 => (C 209 [x0, .int .i64 n8] h3).bind fun r9 => (C 178 [x0, .int .i64 19, .int .i64 0] r9.2).bind fun r10 => (asI .i64 r10.1).bind fun n11 => (aOff p2 3).bind fun v12 => (aLd1 r10.2 v12).bind fun v13 => (aIdx v13 (.int .i64 1) 1).bind fun v14 => (aLd1 r10.2 v14).bind fun v15 => (asI .i64 v15).bind fun n16 => (C 179 [x0, .int .i64 n16] r10.2).bind fun r17 => (aOff p2 3).bind fun v18 => (aLd1 r17.2 v18).bind fun v19 => (aLen v19).bind fun v20 => (asI .i64 v20).bind fun n21 => bif n21 == 2 then (C 210 [x0, .int .i64 n11] r17.2).bind fun r22 => some (.tuple (List.toArray []), r22.2) else (C 178 [x0, .int .i64 18, .int .i64 0] r17.2).bind fun r23 => (asI .i64 r23.1).bind fun n24 => (C 210 [x0, .int .i64 n11] r23.2).bind fun r25 => (aOff p2 3).bind fun v26 => (aLd1 r25.2 v26).bind fun v27 => (aIdx v27 (.int .i64 2) 1).bind fun v28 => (aLd1 r25.2 v28).bind fun v29 => (asI .i64 v29).bind fun n30 => (C 179 [x0, .int .i64 n30] r25.2).bind fun r31 => (C 210 [x0, .int .i64 n24] r31.2).bind fun r32 => some (.tuple (List.toArray []), r32.2) := by kernel_rfl
theorem c207 (d : Nat) (args : List Value) (h : AHeap) : call Tp Ms (d + 1) 207 args h = evFn hk0 Tp (call Tp Ms d) M207 d Try.f207 args h := by kernel_rfl
theorem e208 (x0 : Value) (h : AHeap) : evFn hk Tp C M208 N Try.f208 [x0] h =
  (aNil x0).bind fun v1 => (aOff v1 2).bind fun v2 => (aLd1 h v2).bind fun v3 => (aNil x0).bind fun v4 => (aOff v4 2).bind fun v5 => (aLd1 h v5).bind fun v6 => (aLen v6).bind fun v7 => (asI .i64 v7).bind fun n8 => (aIdx v3 (.int .i64 (IntKind.i64.wrap (n8 - 1))) 9).bind fun v9 => (aOff v9 0).bind fun v10 => (aOff v10 3).bind fun v11 => (aLd1 h v11).bind fun v12 => (aLen v12).bind fun v13 => (asI .i64 v13).bind fun n14 => some (.int .i64 n14, h) := by kernel_rfl
theorem c208 (d : Nat) (args : List Value) (h : AHeap) : call Tp Ms (d + 1) 208 args h = evFn hk0 Tp (call Tp Ms d) M208 d Try.f208 args h := by kernel_rfl
def F209_0 : Nx (Value × AHeap) := evSt hk Tp C M209 N Try.f209 [1, 1, 0, 1, 2, 1, 5, 1, 5, 1, 5, 1, 5, 1, 5, 1, 5, 1, 5, 1] []
def s209_0 (x0 : Value) (x1 : Int) (x4 : Value) (x23 : Int) (x69 : Bool) (h : AHeap) := hk 100022 (⟨145, [(0, x0), (1, .int .i64 x1), (4, x4), (23, .int .i64 x23), (69, .bool x69)]⟩) h (F209_0 hk C N)
def F209_1 : Nx (Value × AHeap) := evSt hk Tp C M209 N Try.f209 [1, 1, 0, 1, 2, 1, 5, 1, 5, 1, 5, 1, 5, 1, 5, 1, 5, 1, 5, 1, 4, 1, 1, 1] []
def s209_1 (x0 x4 : Value) (x6 : Int) (h : AHeap) := hk 26 (⟨145, [(0, x0), (4, x4), (6, .int .i64 x6)]⟩) h (F209_1 hk C N)
def F209_2 : Nx (Value × AHeap) := evSt hk Tp C M209 N Try.f209 [1, 1, 1] []
def s209_2 (x0 : Value) (x1 : Int) (x4 : Value) (h : AHeap) := hk 31 (⟨145, [(0, x0), (1, .int .i64 x1), (4, x4)]⟩) h (F209_2 hk C N)
def F209_3 (n1 : Nat) : Nx (Value × AHeap) := evSt hk Tp C M209 N Try.f209 [1, 1, 1, 0, 1, 2, 6] [n1]
def s209_3 (n1 : Nat) (x0 : Value) (x1 : Int) (x4 : Value) (x8 : Int) (h : AHeap) := F209_3 hk C N n1 (⟨145, [(0, x0), (1, .int .i64 x1), (4, x4), (8, .int .i64 x8)]⟩) h
theorem e209 (x0 : Value) (x1 : Int) (h : AHeap) : evFn hk Tp C M209 N Try.f209 [x0, .int .i64 x1] h =
  (aNil x0).bind fun v1 => (aOff v1 6).bind fun v2 => (aLd1 h v2).bind fun v3 => (asI .i64 v3).bind fun n4 => bif n4 != 0 then some (.tuple (List.toArray []), h) else (aNil x0).bind fun v5 => (aOff v5 0).bind fun v6 => (aOff v6 0).bind fun v7 => (aLd1 h v7).bind fun v8 => (aIdx v8 (.int .i64 x1) 4).bind fun v9 => (aLdN h v9 4).bind fun v10 => aNew h 73 [.int .i64 0, .string ⟨#[]⟩, .int .i64 0, .slice none 0 0] fun p11 h12 => (aSt h12 p11 v10 4).bind fun h13 => (aOff p11 0).bind fun v14 => (aLd1 h13 v14).bind fun v15 => (asI .i64 v15).bind fun n16 => bif n16 == 1 then (C 178 [x0, .int .i64 1, .int .i64 0] h13).bind fun r17 => (asI .i64 r17.1).bind fun n18 => some (.tuple (List.toArray []), r17.2) else bif n16 == 2 then (aOff p11 2).bind fun v19 => (aLd1 h13 v19).bind fun v20 => (asI .i64 v20).bind fun n21 => (C 178 [x0, .int .i64 2, .int .i64 n21] h13).bind fun r22 => (asI .i64 r22.1).bind fun n23 => some (.tuple (List.toArray []), r22.2) else bif n16 == 3 then (aOff p11 2).bind fun v24 => (aLd1 h13 v24).bind fun v25 => (asI .i64 v25).bind fun n26 => (C 178 [x0, .int .i64 3, .int .i64 n26] h13).bind fun r27 => (asI .i64 r27.1).bind fun n28 => some (.tuple (List.toArray []), r27.2) else bif n16 == 4 then (aOff p11 1).bind fun v29 => (aLd1 h13 v29).bind fun v30 => (asS v30).bind fun t31 => (C 225 [x0, .string t31] h13).bind fun r32 => (asI .i64 r32.1).bind fun n33 => bif decide (n33 ≥ 255) then (C 180 [x0, .int .i64 3, .int .i64 x1] r32.2).bind fun r34 => some (.tuple (List.toArray []), r34.2) else (C 178 [x0, .int .i64 4, .int .i64 n33] r32.2).bind fun r35 => (asI .i64 r35.1).bind fun n36 => some (.tuple (List.toArray []), r35.2) else bif n16 == 5 then (C 226 [x0, .int .i64 x1] h13).bind fun r37 => some (.tuple (List.toArray []), r37.2) else bif n16 == 6 then (C 227 [x0, .int .i64 x1] h13).bind fun r38 => some (.tuple (List.toArray []), r38.2) else bif n16 == 7 then (aLdN h13 p11 4).bind fun v39 => (C 228 [x0, v39] h13).bind fun r40 => some (.tuple (List.toArray []), r40.2) else bif n16 == 12 then s209_0 hk C N x0 x1 p11 n16 (n16 == 12) h13 else s209_0 hk C N x0 x1 p11 n16 (n16 == 13) h13 := by kernel_rfl
theorem s209_0_j (x0 : Value) (x1 : Int) (x4 : Value) (x23 : Int) (x69 : Bool) (h : AHeap) : s209_0 hk0 C N x0 x1 x4 x23 x69 h = F209_0 hk0 C N (⟨145, [(0, x0), (1, .int .i64 x1), (4, x4), (23, .int .i64 x23), (69, .bool x69)]⟩) h := by delta s209_0; exact hk0_app _ _ _ _
theorem s209_0_eq (x0 : Value) (x1 : Int) (x4 : Value) (x23 : Int) (x69 : Bool) (h : AHeap) : F209_0 hk C N (⟨145, [(0, x0), (1, .int .i64 x1), (4, x4), (23, .int .i64 x23), (69, .bool x69)]⟩) h =
  bif x69 then (aOff x4 3).bind fun v41 => (aLd1 h v41).bind fun v42 => (aIdx v42 (.int .i64 0) 1).bind fun v43 => (aLd1 h v43).bind fun v44 => (asI .i64 v44).bind fun n45 => (C 209 [x0, .int .i64 n45] h).bind fun r46 => (aOff x4 0).bind fun v47 => (aLd1 r46.2 v47).bind fun v48 => (asI .i64 v48).bind fun n49 => bif n49 == 13 then s209_1 hk C N x0 x4 21 r46.2 else s209_1 hk C N x0 x4 20 r46.2 else bif x23 == 9 then (C 178 [x0, .int .i64 22, .int .i64 0] h).bind fun r50 => (asI .i64 r50.1).bind fun n51 => s209_2 hk C N x0 x1 x4 r50.2 else s209_2 hk C N x0 x1 x4 h := by kernel_rfl
theorem s209_1_j (x0 x4 : Value) (x6 : Int) (h : AHeap) : s209_1 hk0 C N x0 x4 x6 h = F209_1 hk0 C N (⟨145, [(0, x0), (4, x4), (6, .int .i64 x6)]⟩) h := by delta s209_1; exact hk0_app _ _ _ _
theorem s209_1_eq (x0 x4 : Value) (x6 : Int) (h : AHeap) : F209_1 hk C N (⟨145, [(0, x0), (4, x4), (6, .int .i64 x6)]⟩) h =
  (C 178 [x0, .int .i64 x6, .int .i64 0] h).bind fun r52 => (asI .i64 r52.1).bind fun n53 => (aOff x4 3).bind fun v54 => (aLd1 r52.2 v54).bind fun v55 => (aIdx v55 (.int .i64 1) 1).bind fun v56 => (aLd1 r52.2 v56).bind fun v57 => (asI .i64 v57).bind fun n58 => (C 209 [x0, .int .i64 n58] r52.2).bind fun r59 => (C 210 [x0, .int .i64 n53] r59.2).bind fun r60 => some (.tuple (List.toArray []), r60.2) := by kernel_rfl
theorem s209_2_j (x0 : Value) (x1 : Int) (x4 : Value) (h : AHeap) : s209_2 hk0 C N x0 x1 x4 h = F209_2 hk0 C N (⟨145, [(0, x0), (1, .int .i64 x1), (4, x4)]⟩) h := by delta s209_2; exact hk0_app _ _ _ _
theorem s209_2_eq (x0 : Value) (x1 : Int) (x4 : Value) (h : AHeap) : F209_2 hk C N (⟨145, [(0, x0), (1, .int .i64 x1), (4, x4)]⟩) h =
  s209_3 hk C N N x0 x1 x4 0 h := by kernel_rfl
theorem s209_3_eq (n1 : Nat) (x0 : Value) (x1 : Int) (x4 : Value) (x8 : Int) (h : AHeap) : s209_3 hk C N (n1 + 1) x0 x1 x4 x8 h =
  (aOff x4 3).bind fun v61 => (aLd1 h v61).bind fun v62 => (aLen v62).bind fun v63 => (asI .i64 v63).bind fun n64 => bif decide (x8 < n64) then (aOff x4 3).bind fun v65 => (aLd1 h v65).bind fun v66 => (aIdx v66 (.int .i64 x8) 1).bind fun v67 => (aLd1 h v67).bind fun v68 => (asI .i64 v68).bind fun n69 => (C 209 [x0, .int .i64 n69] h).bind fun r70 => s209_3 hk C N n1 x0 x1 x4 (IntKind.i64.wrap (x8 + 1)) r70.2 else (aOff x4 0).bind fun v71 => (aLd1 h v71).bind fun v72 => (asI .i64 v72).bind fun n73 => bif n73 == 8 then (C 178 [x0, .int .i64 14, .int .i64 0] h).bind fun r74 => (asI .i64 r74.1).bind fun n75 => some (.tuple (List.toArray []), r74.2) else bif n73 == 10 then (aOff x4 2).bind fun v76 => (aLd1 h v76).bind fun v77 => (asI .i64 v77).bind fun n78 => (C 178 [x0, .int .i64 16, .int .i64 n78] h).bind fun r79 => (asI .i64 r79.1).bind fun n80 => some (.tuple (List.toArray []), r79.2) else bif n73 == 11 then (aOff x4 2).bind fun v81 => (aLd1 h v81).bind fun v82 => (asI .i64 v82).bind fun n83 => (C 178 [x0, .int .i64 17, .int .i64 n83] h).bind fun r84 => (asI .i64 r84.1).bind fun n85 => some (.tuple (List.toArray []), r84.2) else bif n73 == 9 then (aOff x4 3).bind fun v86 => (aLd1 h v86).bind fun v87 => (aLen v87).bind fun v88 => (asI .i64 v88).bind fun n89 => bif decide ((IntKind.i64.wrap (n89 - 1)) > 40) then (C 180 [x0, .int .i64 3, .int .i64 x1] h).bind fun r90 => some (.tuple (List.toArray []), r90.2) else (aOff x4 3).bind fun v91 => (aLd1 h v91).bind fun v92 => (aLen v92).bind fun v93 => (asI .i64 v93).bind fun n94 => (C 178 [x0, .int .i64 23, .int .i64 (IntKind.i64.wrap (n94 - 1))] h).bind fun r95 => (asI .i64 r95.1).bind fun n96 => some (.tuple (List.toArray []), r95.2) else some (.tuple (List.toArray []), h) := by kernel_rfl
theorem c209 (d : Nat) (args : List Value) (h : AHeap) : call Tp Ms (d + 1) 209 args h = evFn hk0 Tp (call Tp Ms d) M209 d Try.f209 args h := by kernel_rfl
theorem e210 (x0 : Value) (x1 : Int) (h : AHeap) : evFn hk Tp C M210 N Try.f210 [x0, .int .i64 x1] h =
  (aNil x0).bind fun v1 => (aOff v1 2).bind fun v2 => (aLd1 h v2).bind fun v3 => (aNil x0).bind fun v4 => (aOff v4 2).bind fun v5 => (aLd1 h v5).bind fun v6 => (aLen v6).bind fun v7 => (asI .i64 v7).bind fun n8 => (aIdx v3 (.int .i64 (IntKind.i64.wrap (n8 - 1))) 9).bind fun v9 => (aOff v9 0).bind fun v10 => (aOff v10 3).bind fun v11 => (aLd1 h v11).bind fun v12 => (C 208 [x0] h).bind fun r13 => (asI .i64 r13.1).bind fun n14 => ((aLd1 r13.2 v2).bind fun v15 => some (vbeq v15 v3)).bind fun b16 => bif b16 then ((aLd1 r13.2 v5).bind fun v17 => some (vbeq v17 v6)).bind fun b18 => bif b18 then ((aLd1 r13.2 v11).bind fun v19 => some (vbeq v19 v12)).bind fun b20 => bif b20 then (aIdx v12 (.int .i64 x1) 2).bind fun v21 => (aOff v21 1).bind fun v22 => (aSt r13.2 v22 (.int .i64 n14) 1).bind fun h23 => some (.tuple (List.toArray []), h23) else none else none else none := by kernel_rfl
theorem c210 (d : Nat) (args : List Value) (h : AHeap) : call Tp Ms (d + 1) 210 args h = evFn hk0 Tp (call Tp Ms d) M210 d Try.f210 args h := by kernel_rfl
def F211_0 (n1 : Nat) : Nx (Value × AHeap) := evSt hk Tp C M211 N Try.f211 [1, 0, 1, 2, 6] [n1]
def s211_0 (n1 : Nat) (x1 : Int) (x2 : Value) (x5 : Int) (h : AHeap) := F211_0 hk C N n1 (⟨21, [(1, .int .i64 x1), (2, x2), (5, .int .i64 x5)]⟩) h
theorem e211 (x0 : Value) (x1 : Int) (h : AHeap) : evFn hk Tp C M211 N Try.f211 [x0, .int .i64 x1] h =
  (aCells x0).bind fun c1 => aNew h 195 c1 fun p2 h3 => s211_0 hk C N N x1 p2 0 h3 := by kernel_rfl
theorem s211_0_eq (n1 : Nat) (x1 : Int) (x2 : Value) (x5 : Int) (h : AHeap) : s211_0 hk C N (n1 + 1) x1 x2 x5 h =
  (aOff x2 8).bind fun v4 => (aLd1 h v4).bind fun v5 => (aLen v5).bind fun v6 => (asI .i64 v6).bind fun n7 => bif decide (x5 < n7) then (aOff x2 8).bind fun v8 => (aLd1 h v8).bind fun v9 => (aIdx v9 (.int .i64 x5) 1).bind fun v10 => (aLd1 h v10).bind fun v11 => (asI .i64 v11).bind fun n12 => bif n12 == x1 then some (.int .i64 x5, h) else s211_0 hk C N n1 x1 x2 (IntKind.i64.wrap (x5 + 1)) h else some (.int .i64 (-1), h) := by kernel_rfl
theorem c211 (d : Nat) (args : List Value) (h : AHeap) : call Tp Ms (d + 1) 211 args h = evFn hk0 Tp (call Tp Ms d) M211 d Try.f211 args h := by kernel_rfl
end
noncomputable section
variable (hk : Hk (Value × AHeap)) (C : ACall) (N : Nat)
def F223_0 (n1 : Nat) : Nx (Value × AHeap) := evSt hk Tp C M223 N Try.f223 [1, 0, 1, 2, 6] [n1]
def s223_0 (n1 : Nat) (x0 : Value) (x1 : ByteArray) (x6 : Int) (h : AHeap) := F223_0 hk C N n1 (⟨57, [(0, x0), (1, .string x1), (6, .int .i64 x6)]⟩) h
def F223_1 (n1 n2 : Nat) : Nx (Value × AHeap) := evSt hk Tp C M223 N Try.f223 [1, 0, 1, 2, 3, 1, 0, 2, 1, 2, 6] [n1, n2]
def s223_1 (n1 n2 : Nat) (x0 : Value) (x1 : ByteArray) (x6 x7 : Int) (h : AHeap) := F223_1 hk C N n1 n2 (⟨57, [(0, x0), (1, .string x1), (6, .int .i64 x6), (7, .int .i64 x7)]⟩) h
theorem e223 (x0 : Value) (x1 : ByteArray) (h : AHeap) : evFn hk Tp C M223 N Try.f223 [x0, .string x1] h =
  (aNil x0).bind fun v1 => (aOff v1 2).bind fun v2 => (aLd1 h v2).bind fun v3 => (aLen v3).bind fun v4 => (asI .i64 v4).bind fun n5 => s223_0 hk C N N x0 x1 (IntKind.i64.wrap (n5 - 1)) h := by kernel_rfl
theorem s223_0_eq (n1 : Nat) (x0 : Value) (x1 : ByteArray) (x6 : Int) (h : AHeap) : s223_0 hk C N (n1 + 1) x0 x1 x6 h =
  bif decide (x6 ≥ 0) then (aNil x0).bind fun v6 => (aOff v6 2).bind fun v7 => (aLd1 h v7).bind fun v8 => (aIdx v8 (.int .i64 x6) 9).bind fun v9 => (aOff v9 4).bind fun v10 => (aLd1 h v10).bind fun v11 => (aLen v11).bind fun v12 => (asI .i64 v12).bind fun n13 => s223_1 hk C N n1 N x0 x1 x6 (IntKind.i64.wrap (n13 - 1)) h else some (.tuple (List.toArray [.int .i64 (-1), .int .i64 (-1)]), h) := by kernel_rfl
theorem s223_1_eq (n1 n2 : Nat) (x0 : Value) (x1 : ByteArray) (x6 x7 : Int) (h : AHeap) : s223_1 hk C N n1 (n2 + 1) x0 x1 x6 x7 h =
  bif decide (x7 ≥ 0) then (aNil x0).bind fun v14 => (aOff v14 2).bind fun v15 => (aLd1 h v15).bind fun v16 => (aIdx v16 (.int .i64 x6) 9).bind fun v17 => (aOff v17 4).bind fun v18 => (aLd1 h v18).bind fun v19 => (aIdx v19 (.int .i64 x7) 1).bind fun v20 => (aLd1 h v20).bind fun v21 => (asS v21).bind fun t22 => bif t22.toList == x1.toList then (aNil x0).bind fun v23 => (aOff v23 2).bind fun v24 => (aLd1 h v24).bind fun v25 => (aIdx v25 (.int .i64 x6) 9).bind fun v26 => (aOff v26 5).bind fun v27 => (aLd1 h v27).bind fun v28 => (aIdx v28 (.int .i64 x7) 1).bind fun v29 => (aLd1 h v29).bind fun v30 => (asI .i64 v30).bind fun n31 => some (.tuple (List.toArray [.int .i64 n31, .int .i64 x6]), h) else s223_1 hk C N n1 n2 x0 x1 x6 (IntKind.i64.wrap (x7 - 1)) h else s223_0 hk C N n1 x0 x1 (IntKind.i64.wrap (x6 - 1)) h := by kernel_rfl
theorem c223 (d : Nat) (args : List Value) (h : AHeap) : call Tp Ms (d + 1) 223 args h = evFn hk0 Tp (call Tp Ms d) M223 d Try.f223 args h := by kernel_rfl
def F224_0 (n1 : Nat) : Nx (Value × AHeap) := evSt hk Tp C M224 N Try.f224 [1, 0, 1, 2, 6] [n1]
def s224_0 (n1 : Nat) (x0 : Value) (x1 x2 x7 : Int) (h : AHeap) := F224_0 hk C N n1 (⟨105, [(0, x0), (1, .int .i64 x1), (2, .int .i64 x2), (7, .int .i64 x7)]⟩) h
def F224_1 : Nx (Value × AHeap) := evSt hk Tp C M224 N Try.f224 [1, 1, 1, 1] []
def s224_1 (x0 : Value) (x1 x2 : Int) (x8 : Value) (h : AHeap) := hk 10 (⟨105, [(0, x0), (1, .int .i64 x1), (2, .int .i64 x2), (8, x8)]⟩) h (F224_1 hk C N)
theorem e224 (x0 : Value) (x1 x2 : Int) (h : AHeap) : evFn hk Tp C M224 N Try.f224 [x0, .int .i64 x1, .int .i64 x2] h =
  s224_0 hk C N N x0 x1 x2 0 h := by kernel_rfl
theorem s224_0_eq (n1 : Nat) (x0 : Value) (x1 x2 x7 : Int) (h : AHeap) : s224_0 hk C N (n1 + 1) x0 x1 x2 x7 h =
  (aNil x0).bind fun v1 => (aOff v1 2).bind fun v2 => (aLd1 h v2).bind fun v3 => (aIdx v3 (.int .i64 x1) 9).bind fun v4 => (aOff v4 6).bind fun v5 => (aLd1 h v5).bind fun v6 => (aLen v6).bind fun v7 => (asI .i64 v7).bind fun n8 => bif decide (x7 < n8) then (aNil x0).bind fun v9 => (aOff v9 2).bind fun v10 => (aLd1 h v10).bind fun v11 => (aIdx v11 (.int .i64 x1) 9).bind fun v12 => (aOff v12 6).bind fun v13 => (aLd1 h v13).bind fun v14 => (aIdx v14 (.int .i64 x7) 1).bind fun v15 => (aLd1 h v15).bind fun v16 => (asI .i64 v16).bind fun n17 => bif n17 == x2 then some (.int .i64 x7, h) else s224_0 hk C N n1 x0 x1 x2 (IntKind.i64.wrap (x7 + 1)) h else (aNil x0).bind fun v18 => (aOff v18 2).bind fun v19 => (aLd1 h v19).bind fun v20 => (aIdx v20 (.int .i64 (IntKind.i64.wrap (x1 - 1))) 9).bind fun v21 => (aLdN h v21 9).bind fun v22 => (C 211 [v22, .int .i64 x2] h).bind fun r23 => (asI .i64 r23.1).bind fun n24 => aNew r23.2 219 [.bool false, .int .i64 0] fun p25 h26 => (aSt h26 p25 (.agg (List.toArray [.bool true, .int .i64 n24])) 2).bind fun h27 => (aOff p25 1).bind fun v28 => (aLd1 h27 v28).bind fun v29 => (asI .i64 v29).bind fun n30 => bif decide (n30 < 0) then (aOff p25 0).bind fun v31 => (aSt h27 v31 (.bool false) 1).bind fun h32 => (C 224 [x0, .int .i64 (IntKind.i64.wrap (x1 - 1)), .int .i64 x2] h32).bind fun r33 => (asI .i64 r33.1).bind fun n34 => (aOff p25 1).bind fun v35 => (aSt r33.2 v35 (.int .i64 n34) 1).bind fun h36 => s224_1 hk C N x0 x1 x2 p25 h36 else s224_1 hk C N x0 x1 x2 p25 h27 := by kernel_rfl
theorem s224_1_j (x0 : Value) (x1 x2 : Int) (x8 : Value) (h : AHeap) : s224_1 hk0 C N x0 x1 x2 x8 h = F224_1 hk0 C N (⟨105, [(0, x0), (1, .int .i64 x1), (2, .int .i64 x2), (8, x8)]⟩) h := by delta s224_1; exact hk0_app _ _ _ _
theorem s224_1_eq (x0 : Value) (x1 x2 : Int) (x8 : Value) (h : AHeap) : F224_1 hk C N (⟨105, [(0, x0), (1, .int .i64 x1), (2, .int .i64 x2), (8, x8)]⟩) h =
  (aNil x0).bind fun v37 => (aOff v37 2).bind fun v38 => (aLd1 h v38).bind fun v39 => (aNil x0).bind fun v40 => (aOff v40 2).bind fun v41 => (aLd1 h v41).bind fun v42 => (aIdx v42 (.int .i64 x1) 9).bind fun v43 => (aOff v43 6).bind fun v44 => (aLd1 h v44).bind fun v45 => aNewS h 3 [.int .i64 x2] 1 fun p46 h47 => ((aLd1 h47 v38).bind fun v48 => some (vbeq v48 v39)).bind fun b49 => bif b49 then ((aLd1 h47 v41).bind fun v50 => some (vbeq v50 v42)).bind fun b51 => bif b51 then ((aLd1 h47 v44).bind fun v52 => some (vbeq v52 v45)).bind fun b53 => bif b53 then (aApp h47 3 1 8 v45 p46).bind fun r54 => ((aLd1 r54.2 v38).bind fun v55 => some (vbeq v55 v39)).bind fun b56 => bif b56 then (aIdx v39 (.int .i64 x1) 9).bind fun v57 => (aOff v57 6).bind fun v58 => (aSt r54.2 v58 r54.1 1).bind fun h59 => (aNil x0).bind fun v60 => (aOff v60 2).bind fun v61 => (aLd1 h59 v61).bind fun v62 => (aNil x0).bind fun v63 => (aOff v63 2).bind fun v64 => (aLd1 h59 v64).bind fun v65 => (aIdx v65 (.int .i64 x1) 9).bind fun v66 => (aOff v66 0).bind fun v67 => (aOff v67 2).bind fun v68 => (aLd1 h59 v68).bind fun v69 => (aLdN h59 x8 2).bind fun v70 => (aFill [.bool false, .int .i64 0] [(0, 2, v70)]).bind fun c71 => aNewS h59 219 c71 1 fun p72 h73 => ((aLd1 h73 v61).bind fun v74 => some (vbeq v74 v62)).bind fun b75 => bif b75 then ((aLd1 h73 v64).bind fun v76 => some (vbeq v76 v65)).bind fun b77 => bif b77 then ((aLd1 h73 v68).bind fun v78 => some (vbeq v78 v69)).bind fun b79 => bif b79 then (aApp h73 219 2 16 v69 p72).bind fun r80 => ((aLd1 r80.2 v61).bind fun v81 => some (vbeq v81 v62)).bind fun b82 => bif b82 then (aIdx v62 (.int .i64 x1) 9).bind fun v83 => (aOff v83 0).bind fun v84 => (aOff v84 2).bind fun v85 => (aSt r80.2 v85 r80.1 1).bind fun h86 => (aNil x0).bind fun v87 => (aOff v87 2).bind fun v88 => (aLd1 h86 v88).bind fun v89 => (aIdx v89 (.int .i64 x1) 9).bind fun v90 => (aOff v90 6).bind fun v91 => (aLd1 h86 v91).bind fun v92 => (aLen v92).bind fun v93 => (asI .i64 v93).bind fun n94 => some (.int .i64 (IntKind.i64.wrap (n94 - 1)), h86) else none else none else none else none else none else none else none else none := by kernel_rfl
theorem c224 (d : Nat) (args : List Value) (h : AHeap) : call Tp Ms (d + 1) 224 args h = evFn hk0 Tp (call Tp Ms d) M224 d Try.f224 args h := by kernel_rfl
def F225_0 (n1 : Nat) : Nx (Value × AHeap) := evSt hk Tp C M225 N Try.f225 [1, 0, 1, 2, 6] [n1]
def s225_0 (n1 : Nat) (x0 : Value) (x1 : ByteArray) (x5 : Int) (h : AHeap) := F225_0 hk C N n1 (⟨41, [(0, x0), (1, .string x1), (5, .int .i64 x5)]⟩) h
theorem e225 (x0 : Value) (x1 : ByteArray) (h : AHeap) : evFn hk Tp C M225 N Try.f225 [x0, .string x1] h =
  s225_0 hk C N N x0 x1 0 h := by kernel_rfl
theorem s225_0_eq (n1 : Nat) (x0 : Value) (x1 : ByteArray) (x5 : Int) (h : AHeap) : s225_0 hk C N (n1 + 1) x0 x1 x5 h =
  (aNil x0).bind fun v1 => (aOff v1 5).bind fun v2 => (aLd1 h v2).bind fun v3 => (aLen v3).bind fun v4 => (asI .i64 v4).bind fun n5 => bif decide (x5 < n5) then (aNil x0).bind fun v6 => (aOff v6 5).bind fun v7 => (aLd1 h v7).bind fun v8 => (aIdx v8 (.int .i64 x5) 1).bind fun v9 => (aLd1 h v9).bind fun v10 => (asS v10).bind fun t11 => bif t11.toList == x1.toList then some (.int .i64 x5, h) else s225_0 hk C N n1 x0 x1 (IntKind.i64.wrap (x5 + 1)) h else (aNil x0).bind fun v12 => (aOff v12 5).bind fun v13 => (aLd1 h v13).bind fun v14 => aNewS h 9 [.string x1] 1 fun p15 h16 => (aApp h16 9 1 16 v14 p15).bind fun r17 => (aNil x0).bind fun v18 => (aOff v18 5).bind fun v19 => (aSt r17.2 v19 r17.1 1).bind fun h20 => (aNil x0).bind fun v21 => (aOff v21 5).bind fun v22 => (aLd1 h20 v22).bind fun v23 => (aLen v23).bind fun v24 => (asI .i64 v24).bind fun n25 => some (.int .i64 (IntKind.i64.wrap (n25 - 1)), h20) := by kernel_rfl
theorem c225 (d : Nat) (args : List Value) (h : AHeap) : call Tp Ms (d + 1) 225 args h = evFn hk0 Tp (call Tp Ms d) M225 d Try.f225 args h := by kernel_rfl
def F226_0 : Nx (Value × AHeap) := evSt hk Tp C M226 N Try.f226 [1, 1, 1, 2, 1] []
def s226_0 (x0 : Value) (x1 : Int) (x4 : ByteArray) (x5 x6 x7 : Int) (x40 : Bool) (h : AHeap) := hk 100005 (⟨93, [(0, x0), (1, .int .i64 x1), (4, .string x4), (5, .int .i64 x5), (6, .int .i64 x6), (7, .int .i64 x7), (40, .bool x40)]⟩) h (F226_0 hk C N)
theorem e226 (x0 : Value) (x1 : Int) (h : AHeap) : evFn hk Tp C M226 N Try.f226 [x0, .int .i64 x1] h =
  (aNil x0).bind fun v1 => (aOff v1 0).bind fun v2 => (aOff v2 0).bind fun v3 => (aLd1 h v3).bind fun v4 => (aIdx v4 (.int .i64 x1) 4).bind fun v5 => (aOff v5 1).bind fun v6 => (aLd1 h v6).bind fun v7 => (asS v7).bind fun t8 => (C 223 [x0, .string t8] h).bind fun r9 => (aExt r9.1 0).bind fun v10 => (asI .i64 v10).bind fun n11 => (aExt r9.1 1).bind fun v12 => (asI .i64 v12).bind fun n13 => (aNil x0).bind fun v14 => (aOff v14 2).bind fun v15 => (aLd1 r9.2 v15).bind fun v16 => (aLen v16).bind fun v17 => (asI .i64 v17).bind fun n18 => bif decide (n11 < 0) then (C 235 [.string t8] r9.2).bind fun r19 => (asI .i64 r19.1).bind fun n20 => s226_0 hk C N x0 x1 t8 n11 n13 (IntKind.i64.wrap (n18 - 1)) (decide (n20 > 0)) r19.2 else s226_0 hk C N x0 x1 t8 n11 n13 (IntKind.i64.wrap (n18 - 1)) false r9.2 := by kernel_rfl
theorem s226_0_j (x0 : Value) (x1 : Int) (x4 : ByteArray) (x5 x6 x7 : Int) (x40 : Bool) (h : AHeap) : s226_0 hk0 C N x0 x1 x4 x5 x6 x7 x40 h = F226_0 hk0 C N (⟨93, [(0, x0), (1, .int .i64 x1), (4, .string x4), (5, .int .i64 x5), (6, .int .i64 x6), (7, .int .i64 x7), (40, .bool x40)]⟩) h := by delta s226_0; exact hk0_app _ _ _ _
theorem s226_0_eq (x0 : Value) (x1 : Int) (x4 : ByteArray) (x5 x6 x7 : Int) (x40 : Bool) (h : AHeap) : F226_0 hk C N (⟨93, [(0, x0), (1, .int .i64 x1), (4, .string x4), (5, .int .i64 x5), (6, .int .i64 x6), (7, .int .i64 x7), (40, .bool x40)]⟩) h =
  bif x40 then (C 235 [.string x4] h).bind fun r21 => (asI .i64 r21.1).bind fun n22 => (C 178 [x0, .int .i64 27, .int .i64 n22] r21.2).bind fun r23 => (asI .i64 r23.1).bind fun n24 => some (.tuple (List.toArray []), r23.2) else bif decide (x5 < 0) then (C 180 [x0, .int .i64 2, .int .i64 x1] h).bind fun r25 => some (.tuple (List.toArray []), r25.2) else bif decide (x6 < x7) then (aNil x0).bind fun v26 => (aOff v26 3).bind fun v27 => (aLd1 h v27).bind fun v28 => (aIdx v28 (.int .i64 x5) 1).bind fun v29 => (aSt h v29 (.bool true) 1).bind fun h30 => (C 224 [x0, .int .i64 x7, .int .i64 x5] h30).bind fun r31 => (asI .i64 r31.1).bind fun n32 => (C 178 [x0, .int .i64 7, .int .i64 n32] r31.2).bind fun r33 => (asI .i64 r33.1).bind fun n34 => some (.tuple (List.toArray []), r33.2) else (aNil x0).bind fun v35 => (aOff v35 3).bind fun v36 => (aLd1 h v36).bind fun v37 => (aIdx v37 (.int .i64 x5) 1).bind fun v38 => (aLd1 h v38).bind fun v39 => (asB v39).bind fun b40 => bif b40 then (aNil x0).bind fun v41 => (aOff v41 2).bind fun v42 => (aLd1 h v42).bind fun v43 => (aIdx v43 (.int .i64 x7) 9).bind fun v44 => (aLdN h v44 9).bind fun v45 => (C 211 [v45, .int .i64 x5] h).bind fun r46 => (asI .i64 r46.1).bind fun n47 => (C 178 [x0, .int .i64 6, .int .i64 n47] r46.2).bind fun r48 => (asI .i64 r48.1).bind fun n49 => some (.tuple (List.toArray []), r48.2) else (aNil x0).bind fun v50 => (aOff v50 2).bind fun v51 => (aLd1 h v51).bind fun v52 => (aIdx v52 (.int .i64 x7) 9).bind fun v53 => (aLdN h v53 9).bind fun v54 => (C 211 [v54, .int .i64 x5] h).bind fun r55 => (asI .i64 r55.1).bind fun n56 => (C 178 [x0, .int .i64 5, .int .i64 n56] r55.2).bind fun r57 => (asI .i64 r57.1).bind fun n58 => some (.tuple (List.toArray []), r57.2) := by kernel_rfl
theorem c226 (d : Nat) (args : List Value) (h : AHeap) : call Tp Ms (d + 1) 226 args h = evFn hk0 Tp (call Tp Ms d) M226 d Try.f226 args h := by kernel_rfl
theorem e227 (x0 : Value) (x1 : Int) (h : AHeap) : evFn hk Tp C M227 N Try.f227 [x0, .int .i64 x1] h =
  (aNil x0).bind fun v1 => (aOff v1 0).bind fun v2 => (aLdN h v2 2).bind fun v3 => (C 140 [v3, .int .i64 x1] h).bind fun r4 => (asI .i64 r4.1).bind fun n5 => bif decide (n5 ≥ 100) then (C 180 [x0, .int .i64 3, .int .i64 x1] r4.2).bind fun r6 => some (.tuple (List.toArray []), r6.2) else (C 141 [x0, .int .i64 x1, .int .i64 n5] r4.2).bind fun r7 => (aNil x0).bind fun v8 => (aOff v8 6).bind fun v9 => (aLd1 r7.2 v9).bind fun v10 => (asI .i64 v10).bind fun n11 => bif n11 == 0 then (C 178 [x0, .int .i64 12, .int .i64 n5] r7.2).bind fun r12 => (asI .i64 r12.1).bind fun n13 => some (.tuple (List.toArray []), r12.2) else some (.tuple (List.toArray []), r7.2) := by kernel_rfl
theorem c227 (d : Nat) (args : List Value) (h : AHeap) : call Tp Ms (d + 1) 227 args h = evFn hk0 Tp (call Tp Ms d) M227 d Try.f227 args h := by kernel_rfl
def F228_0 (n1 : Nat) : Nx (Value × AHeap) := evSt hk Tp C M228 N Try.f228 [1, 1, 1, 1, 2, 6] [n1]
def s228_0 (n1 : Nat) (x0 x3 : Value) (x4 x5 : Int) (h : AHeap) := F228_0 hk C N n1 (⟨55, [(0, x0), (3, x3), (4, .int .i64 x4), (5, .int .i64 x5)]⟩) h
def F228_1 (n1 : Nat) : Nx (Value × AHeap) := evSt hk Tp C M228 N Try.f228 [1, 1, 1, 1, 2, 3, 1, 0, 2, 1, 1, 1] [n1]
def s228_1 (n1 : Nat) (x0 x3 : Value) (x4 x5 : Int) (x6 : Value) (h : AHeap) := hk 11 (⟨55, [(0, x0), (3, x3), (4, .int .i64 x4), (5, .int .i64 x5), (6, x6)]⟩) h (F228_1 hk C N n1)
def F228_2 (n1 n2 : Nat) : Nx (Value × AHeap) := evSt hk Tp C M228 N Try.f228 [1, 1, 1, 1, 2, 3, 1, 0, 2, 1, 1, 1, 0, 1, 2, 6] [n1, n2]
def s228_2 (n1 n2 : Nat) (x0 x3 : Value) (x4 x5 : Int) (x6 : Value) (x7 : Int) (h : AHeap) := F228_2 hk C N n1 n2 (⟨55, [(0, x0), (3, x3), (4, .int .i64 x4), (5, .int .i64 x5), (6, x6), (7, .int .i64 x7)]⟩) h
theorem e228 (x0 x1 : Value) (h : AHeap) : evFn hk Tp C M228 N Try.f228 [x0, x1] h =
  (aCells x1).bind fun c1 => aNew h 73 c1 fun p2 h3 => (C 178 [x0, .int .i64 13, .int .i64 0] h3).bind fun r4 => (asI .i64 r4.1).bind fun n5 => s228_0 hk C N N x0 p2 0 0 r4.2 := by kernel_rfl
theorem s228_0_eq (n1 : Nat) (x0 x3 : Value) (x4 x5 : Int) (h : AHeap) : s228_0 hk C N (n1 + 1) x0 x3 x4 x5 h =
  (aOff x3 3).bind fun v6 => (aLd1 h v6).bind fun v7 => (aLen v7).bind fun v8 => (asI .i64 v8).bind fun n9 => bif decide (x5 < n9) then (aNil x0).bind fun v10 => (aOff v10 0).bind fun v11 => (aOff v11 0).bind fun v12 => (aLd1 h v12).bind fun v13 => (aOff x3 3).bind fun v14 => (aLd1 h v14).bind fun v15 => (aIdx v15 (.int .i64 x5) 1).bind fun v16 => (aLd1 h v16).bind fun v17 => (asI .i64 v17).bind fun n18 => (aIdx v13 (.int .i64 n18) 4).bind fun v19 => (aLdN h v19 4).bind fun v20 => aNew h 73 [.int .i64 0, .string ⟨#[]⟩, .int .i64 0, .slice none 0 0] fun p21 h22 => ((aLd1 h22 v12).bind fun v23 => some (vbeq v23 v13)).bind fun b24 => bif b24 then ((aLd1 h22 v14).bind fun v25 => some (vbeq v25 v15)).bind fun b26 => bif b26 then ((aLd1 h22 v16).bind fun v27 => (asI .i64 v27).bind fun n28 => some (vbeq (.int .i64 n28) (.int .i64 n18))).bind fun b29 => bif b29 then ((aLdN h22 v19 4).bind fun v30 => some (vbeq v30 v20)).bind fun b31 => bif b31 then (aSt h22 p21 v20 4).bind fun h32 => (C 178 [x0, .int .i64 26, .int .i64 0] h32).bind fun r33 => (asI .i64 r33.1).bind fun n34 => (aOff p21 0).bind fun v35 => (aLd1 r33.2 v35).bind fun v36 => (asI .i64 v36).bind fun n37 => bif n37 == 23 then (C 178 [x0, .int .i64 3, .int .i64 (IntKind.i64.wrap (x4 + 1))] r33.2).bind fun r38 => (asI .i64 r38.1).bind fun n39 => s228_1 hk C N n1 x0 x3 (IntKind.i64.wrap (x4 + 1)) x5 p21 r38.2 else s228_1 hk C N n1 x0 x3 x4 x5 p21 r33.2 else none else none else none else none else some (.tuple (List.toArray []), h) := by kernel_rfl
theorem s228_1_j (n1 : Nat) (x0 x3 : Value) (x4 x5 : Int) (x6 : Value) (h : AHeap) : s228_1 hk0 C N n1 x0 x3 x4 x5 x6 h = F228_1 hk0 C N n1 (⟨55, [(0, x0), (3, x3), (4, .int .i64 x4), (5, .int .i64 x5), (6, x6)]⟩) h := by delta s228_1; exact hk0_app _ _ _ _
theorem s228_1_eq (n1 : Nat) (x0 x3 : Value) (x4 x5 : Int) (x6 : Value) (h : AHeap) : F228_1 hk C N n1 (⟨55, [(0, x0), (3, x3), (4, .int .i64 x4), (5, .int .i64 x5), (6, x6)]⟩) h =
  s228_2 hk C N n1 N x0 x3 x4 x5 x6 0 h := by kernel_rfl
theorem s228_2_eq (n1 n2 : Nat) (x0 x3 : Value) (x4 x5 : Int) (x6 : Value) (x7 : Int) (h : AHeap) : s228_2 hk C N n1 (n2 + 1) x0 x3 x4 x5 x6 x7 h =
  (aOff x6 3).bind fun v40 => (aLd1 h v40).bind fun v41 => (aLen v41).bind fun v42 => (asI .i64 v42).bind fun n43 => bif decide (x7 < n43) then (aOff x6 3).bind fun v44 => (aLd1 h v44).bind fun v45 => (aIdx v45 (.int .i64 x7) 1).bind fun v46 => (aLd1 h v46).bind fun v47 => (asI .i64 v47).bind fun n48 => (C 209 [x0, .int .i64 n48] h).bind fun r49 => s228_2 hk C N n1 n2 x0 x3 x4 x5 x6 (IntKind.i64.wrap (x7 + 1)) r49.2 else (C 178 [x0, .int .i64 15, .int .i64 0] h).bind fun r50 => (asI .i64 r50.1).bind fun n51 => s228_0 hk C N n1 x0 x3 x4 (IntKind.i64.wrap (x5 + 1)) r50.2 := by kernel_rfl
theorem c228 (d : Nat) (args : List Value) (h : AHeap) : call Tp Ms (d + 1) 228 args h = evFn hk0 Tp (call Tp Ms d) M228 d Try.f228 args h := by kernel_rfl
def F235_0 (n1 : Nat) : Nx (Value × AHeap) := evSt hk Tp C M235 N Try.f235 [1, 1, 0, 1, 2, 6] [n1]
def s235_0 (n1 : Nat) (x0 : ByteArray) (x3 : Value) (x4 : Int) (h : AHeap) := F235_0 hk C N n1 (⟨19, [(0, .string x0), (3, x3), (4, .int .i64 x4)]⟩) h
theorem e235 (x0 : ByteArray) (h : AHeap) : evFn hk Tp C M235 N Try.f235 [.string x0] h =
  (C 240 [] h).bind fun r1 => s235_0 hk C N N x0 r1.1 1 r1.2 := by kernel_rfl
theorem s235_0_eq (n1 : Nat) (x0 : ByteArray) (x3 : Value) (x4 : Int) (h : AHeap) : s235_0 hk C N (n1 + 1) x0 x3 x4 h =
  (aLen x3).bind fun v2 => (asI .i64 v2).bind fun n3 => bif decide (x4 < n3) then (aIdx x3 (.int .i64 x4) 1).bind fun v4 => (aLd1 h v4).bind fun v5 => (asS v5).bind fun t6 => bif t6.toList == x0.toList then some (.int .i64 x4, h) else s235_0 hk C N n1 x0 x3 (IntKind.i64.wrap (x4 + 1)) h else some (.int .i64 0, h) := by kernel_rfl
theorem c235 (d : Nat) (args : List Value) (h : AHeap) : call Tp Ms (d + 1) 235 args h = evFn hk0 Tp (call Tp Ms d) M235 d Try.f235 args h := by kernel_rfl
theorem e240 (h : AHeap) : evFn hk Tp C M240 N Try.f240 [] h =
  aNewS h 9 [.string ⟨#[]⟩, .string (⟨#[112, 114, 105, 110, 116]⟩), .string (⟨#[116, 111, 115, 116, 114]⟩), .string (⟨#[116, 121, 112, 101]⟩), .string (⟨#[110, 101, 120, 116]⟩), .string (⟨#[112, 99, 97, 108, 108]⟩), .string (⟨#[101, 114, 114, 111, 114]⟩), .string (⟨#[102, 97, 105, 108, 101, 100]⟩), .string (⟨#[99, 111]⟩), .string (⟨#[114, 101, 115, 117, 109, 101]⟩), .string (⟨#[121, 105, 101, 108, 100]⟩), .string (⟨#[115, 116, 97, 116, 101]⟩)] 12 fun p1 h2 => some (p1, h2) := by kernel_rfl
theorem c240 (d : Nat) (args : List Value) (h : AHeap) : call Tp Ms (d + 1) 240 args h = evFn hk0 Tp (call Tp Ms d) M240 d Try.f240 args h := by kernel_rfl
def F49_0 (n1 : Nat) : Nx (Value × AHeap) := evSt hk Tp C M49 N Try.f49 [1, 1, 1, 1, 1, 0, 1, 2, 6] [n1]
def s49_0 (n1 : Nat) (x3 x4 : Value) (x20 x21 : Int) (h : AHeap) := F49_0 hk C N n1 (⟨40, [(3, x3), (4, x4), (20, .int .i64 x20), (21, .int .i64 x21)]⟩) h
theorem e49 (x0 : Value) (h : AHeap) : evFn hk Tp C M49 N Try.f49 [x0] h =
  (aCells x0).bind fun c1 => aNew h 35 c1 fun p2 h3 => aNewS h3 3 [] 0 fun p4 h5 => (aLdN h5 p2 2).bind fun v6 => (C 22 [v6] h5).bind fun r7 => (asB r7.1).bind fun b8 => bif !b8 then some (p4, r7.2) else (C 86 [p2] r7.2).bind fun r9 => (aNil r9.1).bind fun v10 => (aOff v10 5).bind fun v11 => (aLd1 r9.2 v11).bind fun v12 => (asI .i64 v12).bind fun n13 => bif n13 != 0 then some (p4, r9.2) else (aOff p2 0).bind fun v14 => (aLd1 r9.2 v14).bind fun v15 => (aLen v15).bind fun v16 => (asI .i64 v16).bind fun n17 => s49_0 hk C N N p4 r9.1 n17 0 r9.2 := by kernel_rfl
theorem s49_0_eq (n1 : Nat) (x3 x4 : Value) (x20 x21 : Int) (h : AHeap) : s49_0 hk C N (n1 + 1) x3 x4 x20 x21 h =
  bif decide (x21 < x20) then (aNil x4).bind fun v18 => (aOff v18 1).bind fun v19 => (aLd1 h v19).bind fun v20 => (aNil v20).bind fun v21 => (aOff v21 2).bind fun v22 => (aLd1 h v22).bind fun v23 => (aIdx v23 (.int .i64 x21) 1).bind fun v24 => (aLd1 h v24).bind fun v25 => (asB v25).bind fun b26 => bif b26 then aNewS h 3 [.int .i64 x21] 1 fun p27 h28 => (aApp h28 3 1 8 x3 p27).bind fun r29 => s49_0 hk C N n1 r29.1 x4 x20 (IntKind.i64.wrap (x21 + 1)) r29.2 else s49_0 hk C N n1 x3 x4 x20 (IntKind.i64.wrap (x21 + 1)) h else some (x3, h) := by kernel_rfl
theorem c49 (d : Nat) (args : List Value) (h : AHeap) : call Tp Ms (d + 1) 49 args h = evFn hk0 Tp (call Tp Ms d) M49 d Try.f49 args h := by kernel_rfl
def F86_0 (n1 : Nat) : Nx (Value × AHeap) := evSt hk Tp C M86 N Try.f86 [1, 1, 1, 0, 1, 2, 6] [n1]
def s86_0 (n1 : Nat) (x0 x3 : Value) (x4 : Int) (x17 : Value) (x18 x19 : Int) (h : AHeap) := F86_0 hk C N n1 (⟨58, [(0, x0), (3, x3), (4, .int .i64 x4), (17, x17), (18, .int .i64 x18), (19, .int .i64 x19)]⟩) h
theorem e86 (x0 : Value) (h : AHeap) : evFn hk Tp C M86 N Try.f86 [x0] h =
  (C 74 [x0] h).bind fun r1 => aNewM r1.2 fun p2 h3 => (aFill [.pointer none, .pointer none, .map none, .slice none 0 0, .slice none 0 0, .int .i64 0, .int .i64 0] [(0, 1, x0), (1, 1, r1.1), (2, 1, p2), (6, 1, .int .i64 (-1))]).bind fun c4 => (aCells (.agg (List.toArray c4))).bind fun c5 => aNew h3 128 c5 fun p6 h7 => (aNil x0).bind fun v8 => (aOff v8 0).bind fun v9 => (aLd1 h7 v9).bind fun v10 => (aLen v10).bind fun v11 => (asI .i64 v11).bind fun n12 => s86_0 hk C N N x0 p6 1 v10 n12 0 h7 := by kernel_rfl
theorem s86_0_eq (n1 : Nat) (x0 x3 : Value) (x4 : Int) (x17 : Value) (x18 x19 : Int) (h : AHeap) : s86_0 hk C N (n1 + 1) x0 x3 x4 x17 x18 x19 h =
  bif decide (x19 < x18) then (aIdx x17 (.int .i64 x19) 4).bind fun v13 => (aLdN h v13 4).bind fun v14 => aNew h 73 [.int .i64 0, .string ⟨#[]⟩, .int .i64 0, .slice none 0 0] fun p15 h16 => (aSt h16 p15 v14 4).bind fun h17 => (aOff p15 0).bind fun v18 => (aLd1 h17 v18).bind fun v19 => (asI .i64 v19).bind fun n20 => bif n20 == 6 then (aNil x3).bind fun v21 => (aOff v21 2).bind fun v22 => (aLd1 h17 v22).bind fun v23 => (aMset h17 v23 (.int .i64 x19) (.int .i64 x4)).bind fun h24 => s86_0 hk C N n1 x0 x3 (IntKind.i64.wrap (x4 + 1)) x17 x18 (IntKind.i64.wrap (x19 + 1)) h24 else s86_0 hk C N n1 x0 x3 x4 x17 x18 (IntKind.i64.wrap (x19 + 1)) h17 else (aMk h 173 [.int .i64 0, .int .i64 0, .slice none 0 0, .slice none 0 0] 64 (.int .i64 (if 100 < x4 then 100 else x4)) (.int .i64 (if 100 < x4 then 100 else x4))).bind fun r25 => (aNil x3).bind fun v26 => (aOff v26 3).bind fun v27 => (aOff v27 0).bind fun v28 => (aSt r25.2 v28 r25.1 1).bind fun h29 => aNewM h29 fun p30 h31 => (aFill [.pointer none, .pointer none, .int .i64 0, .int .i64 0, .int .i64 0, .slice none 0 0, .slice none 0 0, .map none, .slice none 0 0] [(0, 1, x3), (2, 1, .int .i64 (-1)), (7, 1, p30)]).bind fun c32 => (aCells (.agg (List.toArray c32))).bind fun c33 => aNew h31 175 c33 fun p34 h35 => (aNil x0).bind fun v36 => (aOff v36 1).bind fun v37 => (aLd1 h35 v37).bind fun v38 => (asI .i64 v38).bind fun n39 => (aNil x0).bind fun v40 => (aOff v40 1).bind fun v41 => (aLd1 h35 v41).bind fun v42 => (asI .i64 v42).bind fun n43 => (C 142 [p34, .int .i64 n39, (.slice none 0 0), .int .i64 n43] h35).bind fun r44 => some (x3, r44.2) := by kernel_rfl
theorem c86 (d : Nat) (args : List Value) (h : AHeap) : call Tp Ms (d + 1) 86 args h = evFn hk0 Tp (call Tp Ms d) M86 d Try.f86 args h := by kernel_rfl
def F142_0 (n1 : Nat) : Nx (Value × AHeap) := evSt hk Tp C M142 N Try.f142 [0, 1, 2, 6] [n1]
def s142_0 (n1 : Nat) (x0 : Value) (x1 : Int) (x2 : Value) (x3 : Int) (x12 : Value) (x13 x14 : Int) (h : AHeap) := F142_0 hk C N n1 (⟨125, [(0, x0), (1, .int .i64 x1), (2, x2), (3, .int .i64 x3), (12, x12), (13, .int .i64 x13), (14, .int .i64 x14)]⟩) h
def F142_1 (n1 : Nat) : Nx (Value × AHeap) := evSt hk Tp C M142 N Try.f142 [1, 1, 0, 1, 2, 6] [n1]
def s142_1 (n1 : Nat) (x0 : Value) (x1 x3 : Int) (x28 : Value) (x29 x30 : Int) (h : AHeap) := F142_1 hk C N n1 (⟨125, [(0, x0), (1, .int .i64 x1), (3, .int .i64 x3), (28, x28), (29, .int .i64 x29), (30, .int .i64 x30)]⟩) h
def F142_2 (n1 : Nat) : Nx (Value × AHeap) := evSt hk Tp C M142 N Try.f142 [1, 1, 0, 1, 2, 3, 1, 1, 0, 2, 1, 1] [n1]
def s142_2 (n1 : Nat) (x0 : Value) (x1 x3 x11 : Int) (x28 : Value) (x29 x30 : Int) (x56 : Bool) (h : AHeap) := hk 100010 (⟨125, [(0, x0), (1, .int .i64 x1), (3, .int .i64 x3), (11, .int .i64 x11), (28, x28), (29, .int .i64 x29), (30, .int .i64 x30), (56, .bool x56)]⟩) h (F142_2 hk C N n1)
def F142_3 : Nx (Value × AHeap) := evSt hk Tp C M142 N Try.f142 [1, 1, 1, 1, 1, 1, 0, 1] []
def s142_3 (x0 : Value) (x1 : Int) (x88 : Bool) (h : AHeap) := hk 100016 (⟨125, [(0, x0), (1, .int .i64 x1), (88, .bool x88)]⟩) h (F142_3 hk C N)
def F142_4 : Nx (Value × AHeap) := evSt hk Tp C M142 N Try.f142 [1, 1, 1, 1, 1, 1, 1] []
def s142_4 (x0 : Value) (x1 : Int) (h : AHeap) := hk 17 (⟨125, [(0, x0), (1, .int .i64 x1)]⟩) h (F142_4 hk C N)
theorem e142 (x0 : Value) (x1 : Int) (x2 : Value) (x3 : Int) (h : AHeap) : evFn hk Tp C M142 N Try.f142 [x0, .int .i64 x1, x2, .int .i64 x3] h =
  (aLen x2).bind fun v1 => (asI .i64 v1).bind fun n2 => s142_0 hk C N N x0 x1 x2 x3 x2 n2 0 h := by kernel_rfl
theorem s142_0_eq (n1 : Nat) (x0 : Value) (x1 : Int) (x2 : Value) (x3 : Int) (x12 : Value) (x13 x14 : Int) (h : AHeap) : s142_0 hk C N (n1 + 1) x0 x1 x2 x3 x12 x13 x14 h =
  bif decide (x14 < x13) then (aIdx x12 (.int .i64 x14) 1).bind fun v3 => (aLd1 h v3).bind fun v4 => (asI .i64 v4).bind fun n5 => (C 181 [x0, .int .i64 n5] h).bind fun r6 => s142_0 hk C N n1 x0 x1 x2 x3 x12 x13 (IntKind.i64.wrap (x14 + 1)) r6.2 else (aLen x2).bind fun v7 => (asI .i64 v7).bind fun n8 => (aNil x0).bind fun v9 => (aOff v9 3).bind fun v10 => (aOff v10 0).bind fun v11 => (aSt h v11 (.int .i64 n8) 1).bind fun h12 => (aLen x2).bind fun v13 => (asI .i64 v13).bind fun n14 => s142_1 hk C N N x0 x1 x3 x2 n14 0 h12 := by kernel_rfl
theorem s142_1_eq (n1 : Nat) (x0 : Value) (x1 x3 : Int) (x28 : Value) (x29 x30 : Int) (h : AHeap) : s142_1 hk C N (n1 + 1) x0 x1 x3 x28 x29 x30 h =
  bif decide (x30 < x29) then (aIdx x28 (.int .i64 x30) 1).bind fun v15 => (aLd1 h v15).bind fun v16 => (asI .i64 v16).bind fun n17 => (aNil x0).bind fun v18 => (aOff v18 0).bind fun v19 => (aLd1 h v19).bind fun v20 => (aNil v20).bind fun v21 => (aOff v21 1).bind fun v22 => (aLd1 h v22).bind fun v23 => (aNil v23).bind fun v24 => (aOff v24 2).bind fun v25 => (aLd1 h v25).bind fun v26 => (aIdx v26 (.int .i64 n17) 1).bind fun v27 => (aLd1 h v27).bind fun v28 => (asB v28).bind fun b29 => bif b29 then (aNil x0).bind fun v30 => (aOff v30 0).bind fun v31 => (aLd1 h v31).bind fun v32 => (aNil v32).bind fun v33 => (aOff v33 5).bind fun v34 => (aLd1 h v34).bind fun v35 => (asI .i64 v35).bind fun n36 => s142_2 hk C N n1 x0 x1 x3 n17 x28 x29 x30 (n36 == 0) h else s142_2 hk C N n1 x0 x1 x3 n17 x28 x29 x30 false h else (C 183 [x0, .int .i64 x3] h).bind fun r37 => (C 182 [x0, .int .i64 1, .int .i64 0] r37.2).bind fun r38 => (asI .i64 r38.1).bind fun n39 => (C 182 [x0, .int .i64 24, .int .i64 0] r38.2).bind fun r40 => (asI .i64 r40.1).bind fun n41 => (aNil x0).bind fun v42 => (aOff v42 3).bind fun v43 => (aOff v43 2).bind fun v44 => (aLd1 r40.2 v44).bind fun v45 => (aLen v45).bind fun v46 => (asI .i64 v46).bind fun n47 => bif decide (n47 > 12) then s142_3 hk C N x0 x1 true r40.2 else (aNil x0).bind fun v48 => (aOff v48 3).bind fun v49 => (aOff v49 3).bind fun v50 => (aLd1 r40.2 v50).bind fun v51 => (aLen v51).bind fun v52 => (asI .i64 v52).bind fun n53 => s142_3 hk C N x0 x1 (decide (n53 > 4000)) r40.2 := by kernel_rfl
theorem s142_2_j (n1 : Nat) (x0 : Value) (x1 x3 x11 : Int) (x28 : Value) (x29 x30 : Int) (x56 : Bool) (h : AHeap) : s142_2 hk0 C N n1 x0 x1 x3 x11 x28 x29 x30 x56 h = F142_2 hk0 C N n1 (⟨125, [(0, x0), (1, .int .i64 x1), (3, .int .i64 x3), (11, .int .i64 x11), (28, x28), (29, .int .i64 x29), (30, .int .i64 x30), (56, .bool x56)]⟩) h := by delta s142_2; exact hk0_app _ _ _ _
theorem s142_2_eq (n1 : Nat) (x0 : Value) (x1 x3 x11 : Int) (x28 : Value) (x29 x30 : Int) (x56 : Bool) (h : AHeap) : F142_2 hk C N n1 (⟨125, [(0, x0), (1, .int .i64 x1), (3, .int .i64 x3), (11, .int .i64 x11), (28, x28), (29, .int .i64 x29), (30, .int .i64 x30), (56, .bool x56)]⟩) h =
  bif x56 then (aNil x0).bind fun v54 => (aOff v54 7).bind fun v55 => (aLd1 h v55).bind fun v56 => (aMget h v56 (.int .i64 x11) (.int .i64 0) false).bind fun v57 => (asI .i64 v57).bind fun n58 => (C 182 [x0, .int .i64 11, .int .i64 n58] h).bind fun r59 => (asI .i64 r59.1).bind fun n60 => s142_1 hk C N n1 x0 x1 x3 x28 x29 (IntKind.i64.wrap (x30 + 1)) r59.2 else s142_1 hk C N n1 x0 x1 x3 x28 x29 (IntKind.i64.wrap (x30 + 1)) h := by kernel_rfl
theorem s142_3_j (x0 : Value) (x1 : Int) (x88 : Bool) (h : AHeap) : s142_3 hk0 C N x0 x1 x88 h = F142_3 hk0 C N (⟨125, [(0, x0), (1, .int .i64 x1), (88, .bool x88)]⟩) h := by delta s142_3; exact hk0_app _ _ _ _
theorem s142_3_eq (x0 : Value) (x1 : Int) (x88 : Bool) (h : AHeap) : F142_3 hk C N (⟨125, [(0, x0), (1, .int .i64 x1), (88, .bool x88)]⟩) h =
  bif x88 then (aNil x0).bind fun v61 => (aOff v61 0).bind fun v62 => (aLd1 h v62).bind fun v63 => (C 184 [v63, .int .i64 3, .int .i64 x1] h).bind fun r64 => s142_4 hk C N x0 x1 r64.2 else s142_4 hk C N x0 x1 h := by kernel_rfl
theorem s142_4_j (x0 : Value) (x1 : Int) (h : AHeap) : s142_4 hk0 C N x0 x1 h = F142_4 hk0 C N (⟨125, [(0, x0), (1, .int .i64 x1)]⟩) h := by delta s142_4; exact hk0_app _ _ _ _
theorem s142_4_eq (x0 : Value) (x1 : Int) (h : AHeap) : F142_4 hk C N (⟨125, [(0, x0), (1, .int .i64 x1)]⟩) h =
  (aNil x0).bind fun v65 => (aOff v65 0).bind fun v66 => (aLd1 h v66).bind fun v67 => (aNil v67).bind fun v68 => (aOff v68 5).bind fun v69 => (aLd1 h v69).bind fun v70 => (asI .i64 v70).bind fun n71 => bif n71 == 0 then (aNil x0).bind fun v72 => (aOff v72 0).bind fun v73 => (aLd1 h v73).bind fun v74 => (aNil v74).bind fun v75 => (aOff v75 3).bind fun v76 => (aOff v76 0).bind fun v77 => (aLd1 h v77).bind fun v78 => (aNil x0).bind fun v79 => (aOff v79 0).bind fun v80 => (aLd1 h v80).bind fun v81 => (aNil v81).bind fun v82 => (aOff v82 2).bind fun v83 => (aLd1 h v83).bind fun v84 => (aMget h v84 (.int .i64 x1) (.int .i64 0) false).bind fun v85 => (asI .i64 v85).bind fun n86 => (aNil x0).bind fun v87 => (aOff v87 3).bind fun v88 => (aLdN h v88 4).bind fun v89 => (aIdx v78 (.int .i64 n86) 4).bind fun v90 => (aSt h v90 v89 4).bind fun h91 => some (.tuple (List.toArray []), h91) else some (.tuple (List.toArray []), h) := by kernel_rfl
theorem c142 (d : Nat) (args : List Value) (h : AHeap) : call Tp Ms (d + 1) 142 args h = evFn hk0 Tp (call Tp Ms d) M142 d Try.f142 args h := by kernel_rfl
theorem e181 (x0 : Value) (x1 : Int) (h : AHeap) : evFn hk Tp C M181 N Try.f181 [x0, .int .i64 x1] h =
  (aNil x0).bind fun v1 => (aOff v1 3).bind fun v2 => (aOff v2 1).bind fun v3 => (aLd1 h v3).bind fun v4 => (asI .i64 v4).bind fun n5 => bif n5 == 20 then (aNil x0).bind fun v6 => (aOff v6 0).bind fun v7 => (aLd1 h v7).bind fun v8 => (C 184 [v8, .int .i64 3, .int .i64 x1] h).bind fun r9 => some (.tuple (List.toArray []), r9.2) else (aNil x0).bind fun v10 => (aOff v10 7).bind fun v11 => (aLd1 h v11).bind fun v12 => (aNil x0).bind fun v13 => (aOff v13 3).bind fun v14 => (aOff v14 1).bind fun v15 => (aLd1 h v15).bind fun v16 => (asI .i64 v16).bind fun n17 => (aMset h v12 (.int .i64 x1) (.int .i64 n17)).bind fun h18 => (aNil x0).bind fun v19 => (aOff v19 3).bind fun v20 => (aOff v20 1).bind fun v21 => (aLd1 h18 v21).bind fun v22 => (asI .i64 v22).bind fun n23 => (aNil x0).bind fun v24 => (aOff v24 3).bind fun v25 => (aOff v25 1).bind fun v26 => (aSt h18 v26 (.int .i64 (IntKind.i64.wrap (n23 + 1))) 1).bind fun h27 => some (.tuple (List.toArray []), h27) := by kernel_rfl
theorem c181 (d : Nat) (args : List Value) (h : AHeap) : call Tp Ms (d + 1) 181 args h = evFn hk0 Tp (call Tp Ms d) M181 d Try.f181 args h := by kernel_rfl
end
end Go.Proofs.Ytadmoackacickaa
