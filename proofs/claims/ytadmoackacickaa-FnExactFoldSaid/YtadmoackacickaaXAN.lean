import Derived.Test.YtadmoackacickaaXAM
import Derived.Test.YtadmoackacickaaXAJ
/- Fold: the program's reckoning of a node. -/
set_option linter.unusedSimpArgs false
namespace Go.Proofs.Ytadmoackacickaa
open Go Go.AH

theorem kv_cells {n : Kn} {kv : Value} (hv : isCell kv = true) : aCells (knVal n kv) = some (knCells n kv) := by
  have e : (List.all (List.toArray (knCells n kv)).toList isCell) = true := by
    show (true && (true && (true && (isCell kv && true)))) = true
    rw [hv]; rfl
  show (if (List.all (List.toArray (knCells n kv)).toList isCell) = true then some (List.toArray (knCells n kv)).toList else none) = _
  rw [if_pos e]
theorem kv_vbeq {n : Kn} {kv : Value} (hv : vbeq1 kv kv = true) : vbeq (knVal n kv) (knVal n kv) = true := by
  show (vbeq1 (.int .i64 n.k) (.int .i64 n.k) && (vbeq1 (.string n.t) (.string n.t) && (vbeq1 (.int .i64 n.i) (.int .i64 n.i) && (vbeq1 kv kv && true)))) = true
  rw [hv, show vbeq1 (.string n.t) (.string n.t) = true from vbeq_str n.t]; simp [vbeq1]
theorem ptr_vbeq (r i : Nat) : vbeq (ptr r i) (ptr r i) = true := by simp [vbeq, vbeq1, ptr]
/-- All cells of a row are written. -/
theorem stAll {b : Nat} {h : AHeap} {r rt m : Nat} {e : TypeId} {cs vs : List Value} {v : Value} (o : OwnR h r rt e cs) (hb : b ≤ rt) (hv : aCells v = some vs) (hl : vs.length = m) (hc : cs.length = m) :
    ∃ h', aSt h (ptr r 0) v m = some h' ∧ Ext b h h' ∧ Ks e rt h h' ∧ OwnR h' r rt e vs ∧ h'.size = h.size := by
  obtain ⟨ep, ha⟩ := o
  have hsp : splice cs 0 vs = vs := by unfold splice; simp [show cs.length ≤ vs.length by omega]
  refine ⟨h.put r ⟨rt, ep, false, e, cs⟩ vs, ?_, Ext.put (Nat.le_trans hb (at?_obj ha).2.2.1) hb _, fun k o hk hf => ?_, ⟨_, at?_put_same ha _⟩, rfl⟩
  · have : 0 + m ≤ cs.length := by omega
    simp [aSt, ptr, ha, hv, hl, hsp, show m ≤ cs.length by omega]
  · refine at?_put_other hk (fun e' => ?_) _ (fun x => hf.elim (fun f => f x.1) fun f => f x.2)
    subst e'; rw [ha] at hk; cases hk
    exact hf.elim (fun f => f rfl) fun f => f rfl
section
variable {S : Nat → Prop} {T : List Kn} {h : AHeap} {x i : Nat} {n : Kn}
theorem RP'.self {g : AHeap} {r : RT} (t : PT S T h x r) (e : Ext h.size h g) : RP' S T h r (some (ptr x 0, g)) := ⟨x, g, rfl, e, t.keep (KP.ext e)⟩
theorem f125_1 {C : ACall} {M p22 p24 : Nat} {g : AHeap} {a b : Kn} {kva kvb sl kv : Value} (t : PT S T h x (.o i)) (r : RowE h x 155 (knCells n kv ++ [sl])) (E : Ext h.size h g) (r22 : RowE g p22 73 (knCells a kva)) (r24 : RowE g p24 73 (knCells b kvb))
    (ta : a.t.size ≤ 1048576) (tb : b.t.size ≤ 1048576) (hS : ∀ r, h.size ≤ r → S r) :
    RP' S T h (if n.i = 6 ∧ a.k = 4 ∧ b.k = 4 ∧ lenOk a b = true then .c ⟨4, a.t ++ b.t, 0, []⟩ else .o i) (s125_1 hk0 C M (ptr x 0) (ptr p22 0) (ptr p24 0) g) := by
  have rx := r.ext' E
  obtain ⟨a0, a1, _⟩ := ld4 r22.row
  obtain ⟨b0, b1, _⟩ := ld4 r24.row
  have no : RP' S T h (.o i) (s125_2 hk0 C M (ptr x 0) (ptr p22 0) (ptr p24 0) false g) := by
    rw [s125_2_j, s125_2_eq]
    exact pcf (P := RP' S T h _) rfl (RP'.self t E)
  rw [s125_1_j, s125_1_eq]
  refine pb (P := RP' S T h _) rfl (pb a0 (pb rfl ?_))
  by_cases ka : a.k = 4
  · refine pct (P := RP' S T h _) (by simp [ka]) (pb rfl (pb b0 (pb rfl ?_)))
    by_cases kb : b.k = 4
    · refine pct (P := RP' S T h _) (by simp [kb]) (pb rfl (pb rfl (pb rfl (pb (ld5 rx.row).2.2.1 (pb rfl ?_)))))
      by_cases k6 : n.i = 6
      · refine pct (P := RP' S T h _) (by simp [k6]) (pb rfl (pb a1 (pb rfl (pb rfl (pb b1 (pb rfl ?_))))))
        show RP' S T h _ (s125_2 hk0 C M (ptr x 0) (ptr p22 0) (ptr p24 0) (lenOk a b) g)
        cases hl : lenOk a b with
        | false => rw [if_neg (fun e => by cases e.2.2.2)]; exact no
        | true =>
          rw [if_pos ⟨k6, ka, kb, rfl⟩, s125_2_j, s125_2_eq]
          refine pct (P := RP' S T h _) rfl (pb rfl (pb a1 (pb rfl (pb rfl (pb b1 (pb rfl (pb (sAdd (by omega)) (pb rfl (pb rfl (pb rfl ?_))))))))))
          exact ⟨g.size, g.new 155 (knC ⟨4, a.t ++ b.t, 0, []⟩ ++ [.slice none 0 0]), rfl, Ext.tr E (Ext.new (Nat.le_refl _) _ _), newC rfl (hS _ E.size)⟩
      · rw [if_neg (fun e => k6 e.1)]; exact pcf (P := RP' S T h _) (by simp [k6]) no
    · rw [if_neg (fun e => kb e.2.2.1)]; exact pcf (P := RP' S T h _) (by simp [kb]) no
  · rw [if_neg (fun e => ka e.2.1)]; exact pcf (P := RP' S T h _) (by simp [ka]) no
theorem l125 {d : Nat} (K : Tg T) (hn : T[i]? = some n) (t : PT S T h x (.o i)) (hS : ∀ r, h.size ≤ r → S r) : RP' S T h (foldN T n i (RR T)) (call Try.prog Ms (d + 3) 125 [ptr x 0] h) := by
  have hil : i < T.length := (List.getElem?_eq_some_iff.1 hn).1
  have G := K.good _ _ hn
  have okk : ∀ k : Int, 0 ≤ k → k < i → RtOk T i (RR T k) := fun k k0 k1 => by
    have z := RR_ok K k.toNat (by omega)
    rw [show ((k.toNat : Nat) : Int) = k by omega] at z
    exact z.mono (by omega)
  cases t with
  | o _ j n' kv sl ps hn' hv hl hs hr hk =>
  rw [hn] at hn'
  cases hn'
  have t : PT S T h x (.o i) := .o x i n kv sl ps hn hv hl hs hr hk
  have hr' := hr
  have hr := hr.rowE
  obtain ⟨f0, f1, f2, f3, f4, f5⟩ := ld5 hr.row
  have kid : ∀ m, m < n.ks.length → ∃ r, aIdx sl (.int .i64 (m : Int)) 1 = some (ptr r m) ∧ aLd1 h (ptr r m) = some (ptr (ps.getD m 0) 0) ∧ PT S T h (ps.getD m 0) (RR T (n.kd m)) := fun m hm => by
    obtain ⟨r, a, b⟩ := hs.at (m := m) (by omega)
    exact ⟨r, a, b, hk m hm⟩
  rw [c125, e125]
  refine pb (P := RP' S T h _) rfl (pb rfl (pb rfl (pb f0 (pb rfl ?_))))
  by_cases k10 : n.k = 10
  · have htwo := G.two (.inl k10)
    obtain ⟨k0a, k0b⟩ := G.kd0 (.inl k10)
    obtain ⟨k1a, k1b⟩ := G.kd1 (.inl k10)
    obtain ⟨q0, i0, l0, t0⟩ := kid 0 (by omega)
    obtain ⟨q1, i1, l1, t1⟩ := kid 1 (by omega)
    obtain ⟨kva, sla, va, ra⟩ := t0.row
    obtain ⟨kvb, slb, vb, rb⟩ := t1.row
    have ta := (okk _ k0a k0b).txt K hil
    have tb := (okk _ k1a k1b).txt K hil
    have hf : foldN T n i (RR T) = (match binC n.i ((RR T (n.kd 0)).nd T) ((RR T (n.kd 1)).nd T) with | some c => .c c | none => .o i) := by
      unfold foldN; rw [if_pos k10]
      cases binC n.i ((RR T (n.kd 0)).nd T) ((RR T (n.kd 1)).nd T) <;> rfl
    rw [hf]
    generalize (RR T (n.kd 0)).nd T = a at ra ta ⊢
    generalize (RR T (n.kd 1)).nd T = b at rb tb ⊢
    refine pct (P := RP' S T h _) (by simp [k10]) (pb rfl (pb rfl (pb f4 (pb i0 (pb l0 (pb rfl (pb rfl (pb (ld5 ra.row).2.2.2.2.2 (pb rfl (pb rfl (pb f4 (pb i1 (pb l1 (pb rfl (pb rfl (pb (ld5 rb.row).2.2.2.2.2 ?_))))))))))))))))
    refine new_step (P := RP' S T h _) fun p22 h1 x1 o1 e22 => new_step (P := RP' S T h _) fun p24 h2 x2 o2 e24 => ?_
    have s1 := x1.size
    have r22 := own_root o1 e22
    have r24 := own_root o2 e24
    have l22 := r22.lt
    obtain ⟨h3, c3, x3, k3, o3, s3⟩ := stAll (b := h.size) (r22.ext x2) (by omega) (kv_cells (n := a) va.1) rfl rfl
    have r24' := r24.ks k3 (.inr (by omega))
    have E3 : Ext h.size h h3 := (Ext.tr x1 x2).trans x3
    obtain ⟨h4, c4, x4, k4, o4, s4⟩ := stAll (b := h.size) r24' (by omega) (kv_cells (n := b) vb.1) rfl rfl
    have o3' := o3.ks k4 (.inr (by omega))
    have E4 : Ext h.size h h4 := E3.trans x4
    have q22 : RowE h4 p22 73 (knCells a kva) := let ⟨ep, z⟩ := o3'; ⟨_, z, rfl, rfl⟩
    have q24 : RowE h4 p24 73 (knCells b kvb) := let ⟨ep, z⟩ := o4; ⟨_, z, rfl, rfl⟩
    refine pb (P := RP' S T h _) c3 (pb (ag1 (ldX1 f4 E3)) (pct hs.vb (pb (ag1 (ldX1 l1 E3)) (pct (ptr_vbeq _ _) (pb (ag1 (ldX (ld5 rb.row).2.2.2.2.2 E3)) (pct (kv_vbeq vb.2) (pb c4 ?_)))))))
    have f1 := fun (g : AHeap) (E : Ext h4.size h4 g) => f125_1 (C := call Try.prog Ms (d + 2)) (M := d + 2) t hr (Ext.trans E4 (E.mono E4.size)) (q22.ext' E) (q24.ext' E) ta tb hS
    unfold binC
    refine pb (P := RP' S T h _) rfl (pb (ld4 q22.row).1 (pb rfl ?_))
    by_cases k3 : a.k = 3
    · refine pct (P := RP' S T h _) (by simp [k3]) (pb rfl (pb (ld4 q24.row).1 (pb rfl ?_)))
      rw [s125_0_j, s125_0_eq]
      by_cases k3' : b.k = 3
      · rw [if_pos ⟨k3, k3'⟩]
        have rx4 := hr.ext' E4
        obtain ⟨v, g, c5, x5, m5⟩ := l165 (S := S) (T := T) (d := d) n.i a.i b.i h4 (fun r hr => hS r (Nat.le_trans E4.size hr))
        refine pct (P := RP' S T h _) (by simp [k3']) (pb rfl (pb rfl (pb rfl (pb (ld5 rx4.row).2.2.1 (pb rfl (pb rfl (pb (ld4 q22.row).2.2.1 (pb rfl (pb rfl (pb (ld4 q24.row).2.2.1 (pb rfl (pb c5 ?_))))))))))))
        cases hA : arC n.i a.i b.i with
        | some c =>
          rw [hA] at m5
          obtain ⟨y, rfl, ty⟩ := m5
          exact pb rfl (pb rfl (pct rfl ⟨y, g, rfl, E4.trans (x5.mono E4.size), ty⟩))
        | none =>
          rw [hA] at m5
          subst m5
          refine pb (P := RP' S T h _) rfl (pb rfl (pcf rfl ?_))
          have := f1 g x5
          rw [if_neg (fun e => by omega)] at this
          exact this
      · rw [if_neg (fun e => k3' e.2)]
        refine pcf (P := RP' S T h _) (by simp [k3']) ?_
        have := f1 h4 (Ext.refl _ _)
        rw [if_neg (fun e => by omega)] at this
        rw [if_neg (fun e => by omega)]
        exact this
    · rw [if_neg (fun e => k3 e.1)]
      refine pcf (P := RP' S T h _) (by simp [k3]) ?_
      rw [s125_0_j, s125_0_eq]
      refine pcf (P := RP' S T h _) rfl ?_
      have := f1 h4 (Ext.refl _ _)
      by_cases hh : n.i = 6 ∧ a.k = 4 ∧ b.k = 4 ∧ lenOk a b = true
      · rw [if_pos hh] at this ⊢; exact this
      · rw [if_neg hh] at this ⊢; exact this
  · refine pcf (P := RP' S T h _) (by simp [k10]) ?_
    have self : foldN T n i (RR T) = .o i → RP' S T h (foldN T n i (RR T)) (some (ptr x 0, h)) := fun e => by rw [e]; exact RP'.self t (Ext.refl _ _)
    by_cases k11 : n.k = 11
    · obtain ⟨k0a, k0b⟩ := G.kd0 (.inr (.inl k11))
      obtain ⟨q0, i0, l0, t0⟩ := kid 0 (by rw [G.one k11]; decide)
      have hts := tru_same K (okk _ k0a k0b) hil
      refine pct (P := RP' S T h _) (by simp [k11]) (pb rfl (pb rfl (pb rfl (pb f2 (pb rfl ?_)))))
      by_cases k2 : n.i = 2
      · refine pct (P := RP' S T h _) (by simp [k2]) (pb rfl (pb rfl (pb f4 (pb i0 (pb l0 (pb (l166 (d := d) t0) (pb rfl ?_)))))))
        rw [s125_3_j, s125_3_eq]
        cases hC : isC ((RR T (n.kd 0)).nd T).k with
        | true =>
          have hf : foldN T n i (RR T) = .c (boolK (!tru ((RR T (n.kd 0)).nd T))) := by unfold foldN; rw [if_neg k10, if_pos k11, if_pos ⟨k2, hC⟩]
          obtain ⟨y, g, c5, x5, ty⟩ := l167 (S := S) (T := T) (d := d + 1) (!tru ((RR T (n.kd 0)).nd T)) h hS
          have c4 : call Try.prog Ms (d + 2) 168 [ptr (ps.getD 0 0) 0] h = _ := l168 (d := d + 1) t0
          rw [hts] at c4
          refine pct (P := RP' S T h _) rfl (pb rfl (pb rfl (pb f4 (pb i0 (pb l0 (pb c4 (pb rfl (pb c5 ?_))))))))
          rw [hf]
          exact ⟨y, g, rfl, x5, ty⟩
        | false =>
          refine pcf (P := RP' S T h _) rfl (self ?_)
          unfold foldN; rw [if_neg k10, if_pos k11, if_neg (fun e => by rw [hC] at e; cases e.2)]
      · refine pcf (P := RP' S T h _) (by simp [k2]) ?_
        rw [s125_3_j, s125_3_eq]
        refine pcf (P := RP' S T h _) rfl (self ?_)
        unfold foldN; rw [if_neg k10, if_pos k11, if_neg (fun e => k2 e.1)]
    · refine pcf (P := RP' S T h _) (by simp [k11]) ?_
      rw [orB n.k 12 13 (fun t => s125_4 hk0 (call Try.prog Ms (d + 2)) (d + 2) (ptr x 0) t h), s125_4_j, s125_4_eq]
      by_cases k12 : n.k = 12 ∨ n.k = 13
      · have htwo := G.two (.inr k12)
        obtain ⟨k0a, k0b⟩ := G.kd0 (by omega)
        obtain ⟨q0, i0, l0, t0⟩ := kid 0 (by omega)
        obtain ⟨q1, i1, l1, t1⟩ := kid 1 (by omega)
        have hts := tru_same K (okk _ k0a k0b) hil
        refine pct (P := RP' S T h _) (decide_eq_true k12) (pb rfl (pb rfl (pb f4 (pb i0 (pb l0 (pb (l166 (d := d) t0) (pb rfl ?_)))))))
        cases hC : isC ((RR T (n.kd 0)).nd T).k with
        | true =>
          have hf : foldN T n i (RR T) = if tru ((RR T (n.kd 0)).nd T) = (n.k == 13) then RR T (n.kd 0) else RR T (n.kd 1) := by unfold foldN; rw [if_neg k10, if_neg k11, if_pos ⟨k12, hC⟩]
          have c4 : call Try.prog Ms (d + 2) 168 [ptr (ps.getD 0 0) 0] h = _ := l168 (d := d + 1) t0
          rw [hts] at c4
          refine pct (P := RP' S T h _) rfl (pb rfl (pb rfl (pb rfl (pb f0 (pb rfl (pb c4 (pb rfl (pb (ag2 f0) (pct (vbI _ _) ?_)))))))))
          rw [hf]
          by_cases ht : tru ((RR T (n.kd 0)).nd T) = (n.k == 13)
          · rw [if_pos ht]
            exact pct (P := RP' S T h _) (by rw [ht]; exact beq_self_eq_true _) (RP'.self t0 (Ext.refl _ _))
          · rw [if_neg ht]
            exact pcf (P := RP' S T h _) (by simpa using ht) (pb rfl (pb rfl (pb f4 (pb i1 (pb l1 (RP'.self t1 (Ext.refl _ _)))))))
        | false =>
          refine pcf (P := RP' S T h _) rfl (self ?_)
          unfold foldN; rw [if_neg k10, if_neg k11, if_neg (fun e => by rw [hC] at e; cases e.2)]
      · refine pcf (P := RP' S T h _) (decide_eq_false k12) (self ?_)
        unfold foldN; rw [if_neg k10, if_neg k11, if_neg (fun e => k12 e.1)]
end
end Go.Proofs.Ytadmoackacickaa
/- Fold: the program's tree of pointers is made. -/
set_option linter.unusedSimpArgs false
namespace Go.Proofs.Ytadmoackacickaa
open Go Go.AH

/-- A slice of one family: none yet, or a row of one's own. -/
def GZ (e : TypeId) (h : AHeap) (sl : Value) (cs : List Value) (rk p : Nat) : Prop := (sl = .slice none 0 0 ∧ cs = [] ∧ rk = p) ∨ ∃ r, sl = slc r 0 cs.length ∧ OwnR h r rk e cs
section
variable {e : TypeId} {h g : AHeap} {sl : Value} {cs : List Value} {rk p b : Nat}
theorem GZ.vb (x : GZ e h sl cs rk p) : vbeq sl sl = true := by
  rcases x with ⟨rfl, _⟩ | ⟨r, rfl, _⟩
  · rfl
  · simp [vbeq, vbeq1, slc]
theorem GZ.cell (x : GZ e h sl cs rk p) : isCell sl = true := by
  rcases x with ⟨rfl, _⟩ | ⟨r, rfl, _⟩ <;> rfl
theorem GZ.keep (x : GZ e h sl cs rk p) (k : ∀ j o, h.at? j = some o → o.elem = e → o.root = rk → g.at? j = some o) : GZ e g sl cs rk p := by
  rcases x with x | ⟨r, h1, ep, a⟩
  · exact .inl x
  · exact .inr ⟨r, h1, ep, k r _ a rfl rfl⟩
theorem GZ.push (x : GZ e h sl cs rk p) (hb : b ≤ rk) (hbs : b ≤ h.size) (hl : cs.length ≤ 2000000) (v : Value) :
    ∃ sl' g rk', aApp (h.new e [v]) e 1 8 sl (slc h.size 0 1) = some (sl', g) ∧ GZ e g sl' (cs ++ [v]) rk' p ∧ (rk' = rk ∨ h.size ≤ rk') ∧ (rk' = rk ∨ rk' < g.size) ∧ Ext b h g ∧ h.size ≤ g.size ∧ ∀ j o, h.at? j = some o → ¬ (o.elem = e ∧ o.root = rk) → g.at? j = some o := by
  have e1 := Ext.new (Nat.le_refl h.size) e [v]
  have w := (Own.new (b := 0) (Nat.zero_le h.size) e [v]).row
  have hS : (h.new e [v]).size = h.size + 1 := rfl
  have hsrc : aSrc (h.new e [v]) 1 (slc h.size 0 1) = some (1, [v]) := w.src (n := 1) (esz := 1) (by show 0 + 1 * 1 ≤ 1; omega)
  have x1 : GZ e (h.new e [v]) sl cs rk p := x.keep fun j o a _ _ => e1.at? (at?_obj a).2.1 a
  have k1 : ∀ j o, h.at? j = some o → (h.new e [v]).at? j = some o := fun j o a => e1.at? (at?_obj a).2.1 a
  generalize h.new e [v] = g1 at e1 w hS hsrc x1 k1 ⊢
  rcases x1 with ⟨rfl, rfl, rfl⟩ | ⟨r, rfl, o⟩
  · have e2 := Ext.new (Nat.le_refl g1.size) e [v]
    have q1 : (1 : Nat) ≤ most ∧ 1 * 8 ≤ most := by unfold most; omega
    have : aApp g1 e 1 8 (.slice none 0 0) (slc h.size 0 1) = ((some (1, [v])).bind fun my : Nat × List Value => if my.1 = 0 then some (.slice none 0 0, g1) else if my.1 ≤ most ∧ my.1 * 8 ≤ most then some (slc g1.size 0 my.1, g1.new e my.2) else none) := by rw [← hsrc]; rfl
    refine ⟨slc g1.size 0 1, g1.new e [v], g1.size, ?_, .inr ⟨g1.size, rfl, OwnR.new _ _ _⟩, .inr (by omega), .inr (by show g1.size < g1.size + 1; omega), (Ext.tr e1 e2).mono hbs, (Ext.tr e1 e2).size, fun j o a _ => e2.at? (by have := (at?_obj a).2.1; omega) (k1 j o a)⟩
    rw [this, Option.bind_some, if_neg (show ¬ (1:Nat) = 0 by decide), if_pos q1]
  · obtain ⟨g2, c2, e2, o2, s2, k2⟩ := o.app (n := cs.length) (bytes := 8) (esz := 1) hb (by omega) hsrc (by simp) (by show cs.length + 1 ≤ 140737488355328; omega) (by show (cs.length + 1) * 8 ≤ 140737488355328; omega)
    refine ⟨_, g2, rk, c2, .inr ⟨g1.size, by simp, o2⟩, .inl rfl, .inl rfl, (e1.mono hbs).trans e2, by omega, fun j ob a hk => k2 j ob (k1 j ob a) ?_⟩
    by_cases he : ob.elem = e
    · exact .inr fun z => hk ⟨he, z⟩
    · exact .inl he
end
theorem PT.bound {S : Nat → Prop} {T : List Kn} {h : AHeap} {x : Nat} {r : RT} (t : PT S T h x r) : PT (fun r => S r ∧ r < h.size) T h x r := by
  have hr : ∀ {i e cs}, RowS S h i e cs → RowS (fun r => S r ∧ r < h.size) h i e cs := fun ⟨ob, a, b, c2, d⟩ => ⟨ob, a, b, c2, d, by have := at?_obj a; omega⟩
  have hp : ∀ {v ps}, PS S h v ps → PS (fun r => S r ∧ r < h.size) h v ps := fun x => by
    rcases x with x | ⟨r, a, b⟩
    · exact .inl x
    · exact .inr ⟨r, a, hr b⟩
  induction t with
  | c x n kv sl hn hv hs hr' => exact .c x n kv sl hn hv (hp hs) (hr hr')
  | o x j n kv sl ps hn hv hl hs hr' _ ih => exact .o x j n kv sl ps hn hv hl (hp hs) (hr hr') ih
section
variable {b p2 : Nat} {nv : Value} {top : Int} {T : List Kn}
def BdOk (b p2 : Nat) (nv : Value) (top : Int) (T : List Kn) (e : Nat) (k : Int) : Prop :=
  ∀ h, KSl b h nv T → RowE h p2 35 [nv, .int .i64 top] → b ≤ h.size → RP' (fun r => h.size ≤ r) T h (RR T k) (call Try.prog Ms e 78 [ptr p2 0, .int .i64 k] h)
def ptrs (ps : List Nat) : List Value := ps.map fun x => ptr x 0
theorem b78_loop {d M p8 i : Nat} {n : Kn} {kv : Value} {h0 : AHeap} (K : Tg T) (hn : T[i]? = some n) (hl : n.ks.length ≤ 1048576) (hF : ∀ k ∈ n.ks, BdOk b p2 nv top T (d + 3) k) (hb : b ≤ h0.size) (hp8 : h0.size ≤ p8) (is : ISl b h0 kv n.ks) :
    ∀ (q j m : Nat) (h : AHeap) (sl : Value) (ps : List Nat) (rk : Nat), n.ks.length - j = q → j ≤ n.ks.length → q < m → ps.length = j → Ext h0.size h0 h → KSl b h nv T → RowE h p2 35 [nv, .int .i64 top] →
      OwnR h p8 p8 155 (knCells n kv ++ [sl]) → GZ 105 h sl (ptrs ps) rk p8 → h0.size ≤ rk → rk < h.size → (∀ m, m < j → PT (fun r => h0.size ≤ r ∧ r ≠ p8 ∧ r ≠ rk) T h (ps.getD m 0) (RR T (n.ks.getD m 0))) →
      RP' (fun r => h0.size ≤ r) T h0 (RR T (i : Int)) (s78_0 hk0 (call Try.prog Ms (d + 3)) M m (ptr p2 0) (ptr p8 0) kv (n.ks.length : Int) (j : Int) h) := by
  intro q
  induction q with
  | zero =>
    intro j m h sl ps rk hq hj hm hps E ksl r2 o8 gz hrk hrk2 hpt
    obtain ⟨m, rfl⟩ : ∃ q, m = q + 1 := ⟨m - 1, by omega⟩
    have hjl : j = n.ks.length := by omega
    rw [s78_0_eq]
    refine pcf (P := RP' _ T h0 _) (decide_eq_false (by omega)) ?_
    have is' := is.ext (E.mono hb)
    have row : RowS (fun r => h0.size ≤ r) h p8 155 (knCells n kv ++ [sl]) := let ⟨ep, a⟩ := o8; ⟨_, a, rfl, rfl, hp8⟩
    have psS : PS (fun r => h0.size ≤ r) h sl ps := by
      rcases gz with ⟨a, b', _⟩ | ⟨r, a, ep, b'⟩
      · exact .inl ⟨a, by simpa [ptrs] using b'⟩
      · exact .inr ⟨r, by rw [a]; simp [ptrs], _, b', rfl, rfl, hrk⟩
    have t : PT (fun r => h0.size ≤ r) T h p8 (.o i) := .o p8 i n kv sl ps hn ⟨is'.cell.1, vbeq1_self kv is'.cell.1 is'.cell.2⟩ (by omega) psS row (fun m hm => (hpt m (by omega)).mono fun r z => z.1)
    obtain ⟨x, g, c, e, t'⟩ := l125 (d := d) K hn t (fun r hr => Nat.le_trans E.size hr)
    rw [RR_eq K hn]
    exact ⟨x, g, eb c rfl, E.trans (e.mono E.size), t'⟩
  | succ q ih =>
    intro j m h sl ps rk hq hj hm hps E ksl r2 o8 gz hrk hrk2 hpt
    obtain ⟨m, rfl⟩ : ∃ q, m = q + 1 := ⟨m - 1, by omega⟩
    have hlt : j < n.ks.length := by omega
    have wj : IntKind.i64.wrap ((j : Int) + 1) = ((j + 1 : Nat) : Int) := by rw [wr (by omega) (by omega)]; omega
    have hbh : b ≤ h.size := Nat.le_trans hb E.size
    have is' := is.ext (E.mono hb)
    obtain ⟨y, g1, c1, e1, t1⟩ := hF (n.kd j) (kd_mem hlt) h ksl r2 hbh
    have s1 := e1.size
    have o8l := o8.lt
    have o81 := o8.ext e1
    have gz1 : GZ 105 g1 sl (ptrs ps) rk p8 := gz.keep fun j o a _ _ => e1.at? (at?_obj a).2.1 a
    have x2 := Ext.new (Nat.le_refl g1.size) 105 [ptr y 0]
    have o82 := o81.ext x2
    obtain ⟨sl', g2, rk', c2, gz2, q1, q2, e2, s2, k2⟩ := gz1.push (b := h0.size) hrk (Nat.le_trans E.size s1) (by simp [ptrs]; omega) (ptr y 0)
    have o82' : OwnR g2 p8 p8 155 (knCells n kv ++ [sl]) := let ⟨ep, a⟩ := o81; ⟨ep, k2 p8 _ a fun z => absurd z.1 (show ¬ (155 : TypeId) = 105 by decide)⟩
    obtain ⟨g3, c3, e3, k3, o83, s3⟩ := stOwn o82' (b := h0.size) hp8 (j := 4) (v := sl') (by show 4 < 5; decide) gz2.cell
    have hset : (knCells n kv ++ [sl]).set 4 sl' = knCells n kv ++ [sl'] := rfl
    rw [hset] at o83
    have f4 : ∀ g sl, OwnR g p8 p8 155 (knCells n kv ++ [sl]) → aLd1 g (ptr p8 4) = some sl := fun g sl o => (ld5 o.row).2.2.2.2.1
    have E3 : Ext h0.size h0 g3 := ((E.trans (e1.mono E.size)).trans e2).trans e3
    have r23 : RowE g3 p2 35 [nv, .int .i64 top] := let ⟨ob, a, z1, z2⟩ := r2.ext' e1; ⟨ob, k3 p2 ob (k2 p2 ob a fun z => by rw [z1] at z; exact absurd z.1 (by decide)) (.inl (by rw [z1]; decide)), z1, z2⟩
    have gz3 : GZ 105 g3 sl' (ptrs (ps ++ [y])) rk' p8 := by
      have : ptrs (ps ++ [y]) = ptrs ps ++ [ptr y 0] := by simp [ptrs]
      rw [this]
      exact gz2.keep fun j o a he _ => k3 j o a (.inl (by rw [he]; decide))
    have lift : ∀ x r, PT (fun r => h0.size ≤ r ∧ r ≠ p8 ∧ r ≠ rk) T g1 x r → PT (fun r => h0.size ≤ r ∧ r ≠ p8 ∧ r ≠ rk') T g3 x r := fun x r t => by
      have t2 := t.bound.keep (g := g2) fun j o a _ z => k2 j o a fun w => z.1.2.2 w.2
      have t3 := t2.keep (g := g3) fun j o a _ z => k3 j o a (.inr z.1.2.1)
      exact t3.mono fun r z => ⟨z.1.1, z.1.2.1, by
        rcases q1 with q1 | q1
        · rw [q1]; exact z.1.2.2
        · have := z.2; omega⟩
    rw [s78_0_eq]
    refine pct (P := RP' _ T h0 _) (decide_eq_true (by omega)) (pb (is'.ird.at' j hlt).1 (pb ((is'.ird.at' j hlt).2 h (LF.refl _)) (pb rfl (pb rfl (pb rfl (pb (f4 h sl o8) (pb c1 (pb (ag1 (f4 g1 sl o81)) (pct gz.vb (pb rfl ?_))))))))))
    show RP' _ T h0 _ (((aLd1 (g1.new 105 [ptr y 0]) (ptr p8 4)).bind fun v28 => some (vbeq v28 sl)).bind _)
    refine pb (P := RP' _ T h0 _) (ag1 (f4 _ sl o82)) (pct gz.vb (pb c2 (pb rfl (pb rfl (pb c3 ?_)))))
    rw [wj]
    refine ih (j + 1) m g3 sl' (ps ++ [y]) rk' (by omega) (by omega) (by omega) (by simp [hps]) E3 (ksl.ext ((e1.mono hbh).trans ((e2.mono hb).trans (e3.mono hb)))) r23 o83 gz3 ?_ ?_ ?_
    · rcases q1 with q1 | q1
      · omega
      · have := E.size; omega
    · rcases q2 with q2 | q2 <;> omega
    · intro m' hm'
      by_cases hmj : m' < j
      · have : (ps ++ [y]).getD m' 0 = ps.getD m' 0 := by simp [List.getD, List.getElem?_append_left (show m' < ps.length by omega)]
        rw [this]
        exact lift _ _ ((hpt m' hmj).keep (KP.ext e1))
      · have hm2 : m' = j := by omega
        subst hm2
        have : (ps ++ [y]).getD m' 0 = y := by subst hps; simp [List.getD]
        rw [this]
        exact lift _ _ (t1.mono fun r z => ⟨Nat.le_trans E.size z, by omega, by omega⟩)
theorem l78 {d : Nat} (hd : 1048577 < d) (K : Tg T) : ∀ (i e : Nat), d + i + 5 ≤ e → i < T.length → BdOk b p2 nv top T e (i : Int) := by
  intro i
  induction i using Nat.strongRecOn with
  | _ i ih =>
    intro e he hi h ksl r2 hb
    obtain ⟨e, rfl⟩ : ∃ q, e = q + 4 := ⟨e - 4, by omega⟩
    have hget : T[i]? = some T[i] := by simp [hi]
    have G := K.good _ _ hget
    have hkl := (K.txt _ (List.getElem_mem hi)).2
    obtain ⟨q, kv, q1, is, q2⟩ := ksl.at hi
    have hF : ∀ k ∈ T[i].ks, BdOk b p2 nv top T (e + 3) k := fun k hk => by
      have := G.rng k hk
      have z := ih k.toNat (by omega) (e + 3) (by omega) (by omega)
      rw [show ((k.toNat : Nat) : Int) = k by omega] at z
      exact z
    rw [c78, e78]
    refine pb (P := RP' _ T h _) rfl (pb rfl (pb (ld2 r2.row).1 (pb q1 (pb (q2 h (Ext.refl _ _)).1 ?_))))
    refine pb (P := RP' _ T h _) (v := knCells T[i] kv ++ [.slice none 0 0]) ?_ (pb (v := knCells T[i] kv ++ [.slice none 0 0]) ?_ ?_)
    · show ((aCells (knVal T[i] kv)).bind _) = _
      rw [kn_aCells is]; rfl
    · show (if (List.all (List.toArray (knCells T[i] kv ++ [.slice none 0 0])).toList isCell) = true then some (List.toArray (knCells T[i] kv ++ [.slice none 0 0])).toList else none) = _
      have e : (List.all (List.toArray (knCells T[i] kv ++ [.slice none 0 0])).toList isCell) = true := by
        show (true && (true && (true && (isCell kv && (true && true))))) = true
        rw [is.cell.1]; rfl
      rw [if_pos e]
    · refine new_step (P := RP' _ T h _) fun p8 h1 x1 o1 e1 => ?_
      have o8 := own_root o1 e1
      have hs := x1.size
      have o8l := o8.lt
      refine pb (P := RP' _ T h _) rfl (pb rfl (pb rfl (pb (ld5 o8.row).2.2.2.1 (pb is.len (pb rfl ?_)))))
      exact b78_loop (d := e) (M := e + 3) K hget hkl hF hb (by omega) is T[i].ks.length 0 (e + 3) h1 (.slice none 0 0) [] p8 (by omega) (by omega) (by omega) rfl x1 (ksl.ext (x1.mono hb)) (r2.ext' x1) o8 (.inl ⟨rfl, rfl, rfl⟩) (by omega) (by omega) (fun m hm => by omega)
end
end Go.Proofs.Ytadmoackacickaa
/- Fold: the program's nodes, one behind the other; its Fold. -/
set_option linter.unusedSimpArgs false
namespace Go.Proofs.Ytadmoackacickaa
open Go Go.AH

theorem ints_app (ix : List Int) (z : Int) : ints ix ++ [.int .i64 z] = ints (ix ++ [z]) := by simp [ints]
section
variable {b p : Nat} {T : List Kn} {t0 : Value}
def FtOk (b p : Nat) (T : List Kn) (t0 : Value) (e : Nat) (x : Nat) (r : RT) : Prop :=
  ∀ (S : Nat → Prop) (h : AHeap) (v : Value) (ns : List Kn) (rts : List Nat) (rn : Nat), PT S T h x r → OwnR h p p 35 [v, t0] → NS b p h v ns rts rn → b ≤ h.size → ns.length + (FL T r ns.length).length ≤ 100000 →
    FQ 35 [t0] b p rn rts h (ns ++ FL T r ns.length) (call Try.prog Ms e 77 [ptr p 0, ptr x 0] h)
/-- What holds while the kids are put. -/
structure LJ (b p p4 rn0 : Nat) (t0 : Value) (n : Kn) (rts0 : List Nat) (h0 h : AHeap) (v : Value) (cur : List Kn) (kv : Value) (rt : Nat) (ix : List Int) (rts : List Nat) (rn : Nat) : Prop where
  hb : b ≤ h0.size
  ext : Ext b h0 h
  k2 : K2 35 p rn0 h0 h
  rnn : rn = rn0 ∨ h0.size ≤ rn
  op : OwnR h p p 35 [v, t0]
  bp : b ≤ p
  ns : NS b p h v cur rts rn
  rtn : ∀ q ∈ rts, q ∈ rts0 ∨ h0.size ≤ q
  o4 : OwnR h p4 p4 73 (knCells n kv)
  p4r : p4 ≠ rn
  p4b : h0.size ≤ p4
  gz : GZ 3 h kv (ints ix) rt p4
  rtb : h0.size ≤ rt
  rts_ : rt < h.size
  rtd : rt ∉ rts
variable {p4 rn0 : Nat} {n : Kn} {rts0 : List Nat} {h0 h : AHeap} {v : Value} {cur : List Kn} {kv : Value} {rt : Nat} {ix : List Int} {rts : List Nat} {rn : Nat}
theorem f77_end {C : ACall} {M m : Nat} {L : Int} {sl : Value} (x : LJ b p p4 rn0 t0 n rts0 h0 h v cur kv rt ix rts rn) (hc : cur.length ≤ 100000) :
    FQ 35 [t0] b p rn0 rts0 h0 (cur ++ [{ n with ks := ix }]) (s77_0 hk0 C M (m + 1) (ptr p 0) (ptr p4 0) sl L L h) := by
  have sz := x.ext.size
  have hb := Nat.le_trans x.hb sz
  have hcs : knCells n kv = knCells { n with ks := ix } kv := rfl
  have zz : KZ h kv ({ n with ks := ix } : Kn).ks rt := by
    rcases x.gz with ⟨a, b', _⟩ | ⟨r, a, o⟩
    · exact .inl ⟨a, by simpa [ints] using b'⟩
    · exact .inr ⟨r, by rw [a]; simp [ints], o⟩
  obtain ⟨v', g2, g3, rn', c2, c3, o3, n3, e3, k3, q3, nx⟩ := bput x.op (by decide) (by decide) x.bp x.ns zz x.rtd (by have := x.rtb; have := x.hb; omega) x.rts_ (Nat.le_trans hc (by decide))
  refine ⟨g3, v', rts ++ [rt], rn', ?_, x.ext.trans e3, x.k2.trans k3 x.rnn, ?_, o3, n3, ?_, nx⟩
  · have hlen : (((cur ++ [({ n with ks := ix } : Kn)]).length : Int) - 1) = (cur.length : Int) := by simp
    have w : IntKind.i64.wrap (((cur ++ [({ n with ks := ix } : Kn)]).length : Int) - 1) = (((cur ++ [({ n with ks := ix } : Kn)]).length : Int) - 1) := by rw [hlen]; exact wr (by omega) (by omega)
    have f1 : aLd1 h (ptr p 0) = some v := x.op.row.ld1 rfl
    have ex := Ext.new (Nat.le_refl h.size) 73 (knCells { n with ks := ix } kv)
    have f2 : aLd1 (h.new 73 (knCells { n with ks := ix } kv)) (ptr p 0) = some v := (x.op.ext ex).row.ld1 rfl
    have hfill : aFill [.int .i64 0, .string ⟨#[]⟩, .int .i64 0, .slice none 0 0] [(0, 4, .agg (List.toArray [.int .i64 n.k, .string n.t, .int .i64 n.i, kv]))] = some (knCells { n with ks := ix } kv) := by
      show ((aCells (knVal n kv)).bind _) = _
      rw [kv_cells x.gz.cell]; rfl
    rw [s77_0_eq]
    refine ecf (decide_eq_false (by omega)) (eb rfl (eb rfl (eb f1 (eb (ld4 x.o4.row).2.2.2.2 (eb hfill ?_)))))
    show ((aLd1 (h.new 73 (knCells { n with ks := ix } kv)) (ptr p 0)).bind fun v161 => some (vbeq v161 v)).bind _ = _
    refine eb (ag1 f2) (ect x.ns.vb (eb c2 (eb rfl (eb rfl (eb c3 (eb rfl (eb rfl (eb (o3.row.ld1 rfl) (eb n3.len (eb rfl ?_))))))))))
    rw [w]
  · rcases q3 with q3 | q3
    · rw [q3]; exact x.rnn
    · exact .inr (by omega)
  · intro q hq
    rcases List.mem_append.1 hq with hq | hq
    · exact x.rtn q hq
    · rw [List.mem_singleton.1 hq]; exact .inr x.rtb
theorem f77_loop {e M : Nat} {sl : Value} {ps : List Nat} {S : Nat → Prop} {N : List Kn} (hps : ps.length = n.ks.length) (hl : n.ks.length ≤ 1048576) (hF : ∀ m, m < n.ks.length → FtOk b p T t0 e (ps.getD m 0) (RR T (n.ks.getD m 0))) (hlen : N.length ≤ 100000) :
    ∀ (q j m : Nat) (h : AHeap) (v : Value) (cur : List Kn) (kv : Value) (rt : Nat) (ix : List Int) (rts : List Nat) (rn : Nat), n.ks.length - j = q → j ≤ n.ks.length → q < m →
      LJ b p p4 rn0 t0 n rts0 h0 h v cur kv rt ix rts rn → PS S h sl ps → (∀ m, m < n.ks.length → PT S T h (ps.getD m 0) (RR T (n.ks.getD m 0))) → ix.length = j →
      N = cur ++ (flK (fun k b => FL T (RR T k) b) (n.ks.drop j) cur.length).1 ++ [{ n with ks := ix ++ (flK (fun k b => FL T (RR T k) b) (n.ks.drop j) cur.length).2 }] →
      FQ 35 [t0] b p rn0 rts0 h0 N (s77_0 hk0 (call Try.prog Ms e) M m (ptr p 0) (ptr p4 0) sl (n.ks.length : Int) (j : Int) h) := by
  intro q
  induction q with
  | zero =>
    intro j m h v cur kv rt ix rts rn hq hj hm x hs hpt hix hN
    obtain ⟨m, rfl⟩ : ∃ q, m = q + 1 := ⟨m - 1, by omega⟩
    have hjl : j = n.ks.length := by omega
    subst hjl
    rw [List.drop_eq_nil_of_le (Nat.le_refl _), flK, List.append_nil, List.append_nil] at hN
    rw [hN]
    exact f77_end x (by rw [hN] at hlen; simp at hlen; omega)
  | succ q ih =>
    intro j m h v cur kv rt ix rts rn hq hj hm x hs hpt hix hN
    obtain ⟨m, rfl⟩ : ∃ q, m = q + 1 := ⟨m - 1, by omega⟩
    have hlt : j < n.ks.length := by omega
    have wj : IntKind.i64.wrap ((j : Int) + 1) = ((j + 1 : Nat) : Int) := by rw [wr (by omega) (by omega)]; omega
    have sz := x.ext.size
    have hb := Nat.le_trans x.hb sz
    rw [drop_get hlt, flK] at hN
    have hkd : n.ks.getD j 0 = n.kd j := rfl
    rw [hkd] at hN
    have hbd : cur.length + (FL T (RR T (n.kd j)) cur.length).length ≤ 100000 := by
      have := congrArg List.length hN
      simp only [List.length_append] at this
      omega
    obtain ⟨r, i1, i2⟩ := hs.at (m := j) (by omega)
    obtain ⟨g1, v', rts', rn', c1, e1, k1, q1, o1, n1, t1, nx⟩ := hF j hlt S h v cur rts rn (hpt j hlt) x.op x.ns hb hbd
    obtain ⟨z, hz⟩ : ∃ z : Int, (((cur ++ FL T (RR T (n.kd j)) cur.length).length : Int) - 1) = z := ⟨_, rfl⟩
    have hc1 : call Try.prog Ms e 77 [ptr p 0, ptr (ps.getD j 0) 0] h = some (.int .i64 z, g1) := by rw [← hz]; exact c1
    have s1 := k1.1
    have o4l := x.o4.lt
    have gz1 : GZ 3 g1 kv (ints ix) rt p4 := x.gz.keep fun j o a he _ => k1.2 j o a (fun z => by rw [he] at z; exact absurd z.1 (by decide)) (fun z => by rw [he] at z; exact absurd z.1 (by decide))
    have o41 : OwnR g1 p4 p4 73 (knCells n kv) := k1.own x.o4 (.inl (by decide)) (.inr x.p4r)
    obtain ⟨kv', g2, rt', c2, gz2, r1, r2, e2, s2, k2⟩ := gz1.push (b := b) (by have := x.rtb; have := x.hb; omega) (by omega) (by simp [ints]; omega) (.int .i64 z)
    have o42 : OwnR g2 p4 p4 73 (knCells n kv) := let ⟨ep, a⟩ := o41; ⟨ep, k2 p4 _ a fun z => absurd z.1 (show ¬ (73 : TypeId) = 3 by decide)⟩
    obtain ⟨g3, c3, e3, k3, o43, s3⟩ := stOwn o42 (b := b) (by have := x.p4b; have := x.hb; omega) (j := 3) (v := kv') (by show 3 < 4; decide) gz2.cell
    have hset : (knCells n kv).set 3 kv' = knCells n kv' := rfl
    rw [hset] at o43
    have hrt : rt ∉ rts' := fun hq => by
      rcases t1 rt hq with w | w
      · exact x.rtd w
      · have := x.rts_; omega
    have hp4n : p4 ≠ rn' := by
      rcases q1 with q1 | q1
      · rw [q1]; exact x.p4r
      · omega
    have keepall : ∀ j o, h.at? j = some o → ¬ (o.elem = 35 ∧ o.root = p) → ¬ (o.elem = 73 ∧ o.root = rn) → ¬ (o.elem = 3 ∧ o.root = rt) → ¬ (o.elem = 73 ∧ o.root = p4) → g3.at? j = some o := fun j o a u1 u2 u3 u4 =>
      k3 j o (k2 j o (k1.2 j o a u1 u2) u3) (by
        by_cases he : o.elem = 73
        · exact .inr fun w => u4 ⟨he, w⟩
        · exact .inl he)
    have y : LJ b p p4 rn0 t0 n rts0 h0 g3 v' (cur ++ FL T (RR T (n.kd j)) cur.length) kv' rt' (ix ++ [z]) rts' rn' := by
      refine { x with ext := x.ext.trans ((e1.trans e2).trans e3), k2 := ?_, rnn := ?_, op := ?_, ns := ?_, rtn := ?_, o4 := o43, p4r := hp4n, gz := ?_, rtb := ?_, rts_ := ?_, rtd := ?_ }
      · have w := x.k2.trans k1 x.rnn
        refine ⟨by omega, fun j o a u1 u2 => k3 j o (k2 j o (w.2 j o a u1 u2) fun v => ?_) (.inr fun v => ?_)⟩
        · have := at?_obj a; have := x.rtb; omega
        · have := at?_obj a; have := x.p4b; omega
      · rcases q1 with q1 | q1
        · rw [q1]; exact x.rnn
        · exact .inr (by omega)
      · exact let ⟨ep, a⟩ := o1; ⟨ep, k3 p _ (k2 p _ a fun z => absurd z.1 (show ¬ (35 : TypeId) = 3 by decide)) (.inl (show (35 : TypeId) ≠ 73 by decide))⟩
      · have n2 := n1.keep (g := g2) s2 fun j o a he => k2 j o a (by
          rcases he with he | he
          · exact fun w => by rw [he.1] at w; exact absurd w.1 (by decide)
          · exact fun w => hrt (w.2 ▸ he.2))
        exact n2.keep (by omega) fun j o a he => k3 j o a (by
          rcases he with he | he
          · exact .inr (by rw [he.2]; exact Ne.symm hp4n)
          · exact .inl (by rw [he.1]; decide))
      · intro q hq
        rcases t1 q hq with w | w
        · exact x.rtn q w
        · exact .inr (by omega)
      · rw [← ints_app]
        exact gz2.keep fun j o a he _ => k3 j o a (.inl (by rw [he]; decide))
      · rcases r1 with r1 | r1
        · rw [r1]; exact x.rtb
        · omega
      · rcases r2 with r2 | r2
        · rw [r2]; have := x.rts_; omega
        · omega
      · intro hq
        rcases r1 with r1 | r1
        · exact hrt (r1 ▸ hq)
        · rcases n1.lt (by have := o1.lt; omega) with ⟨_, w⟩
          have := w _ hq; omega
    have kp : KP S h g3 := fun j o a he _ => keepall j o a (fun w => by rw [w.1] at he; revert he; decide) (fun w => by rw [w.1] at he; revert he; decide) (fun w => by rw [w.1] at he; revert he; decide) (fun w => by rw [w.1] at he; revert he; decide)
    rw [s77_0_eq]
    refine pct (decide_eq_true (by omega)) (pb i1 (pb i2 (pb hc1 (pb rfl (pb rfl (pb (ld4 o41.row).2.2.2.1 ?_))))))
    show FQ 35 [t0] b p rn0 rts0 h0 N ((aApp (g1.new 3 [.int .i64 z]) 3 1 8 kv (slc g1.size 0 1)).bind _)
    refine pb c2 (pb rfl (pb c3 ?_))
    rw [wj]
    refine ih (j + 1) m g3 v' _ kv' rt' (ix ++ [z]) rts' rn' (by omega) (by omega) (by omega) y (hs.keep kp) (fun m hm => (hpt m hm).keep kp) (by simp [hix]) ?_
    rw [hN]
    have hz2 : (((cur.length + (FL T (RR T (n.kd j)) cur.length).length : Nat) : Int) - 1) = z := by rw [← hz, List.length_append]
    simp only [List.append_assoc, List.length_append, hz2]
    rfl
end
end Go.Proofs.Ytadmoackacickaa
/- The program's Fold. -/
set_option linter.unusedSimpArgs false
namespace Go.Proofs.Ytadmoackacickaa
open Go Go.AH

theorem l77 {d b p : Nat} {T : List Kn} {t0 : Value} (hd : 1048577 < d) (K : Tg T) (hbp : b ≤ p) : ∀ (i e x : Nat) (r : RT), d + i + 5 ≤ e → RtOk T i r → i < T.length → FtOk b p T t0 e x r := by
  intro i
  induction i using Nat.strongRecOn with
  | _ i ih =>
    intro e x r he hr hi S h v ns rts rn t op nsx hb hlen
    obtain ⟨e, rfl⟩ : ∃ q, e = q + 1 := ⟨e - 1, by omega⟩
    have hps := op.lt
    have nlt := nsx.lt hps.2
    have main : ∀ (n : Kn) (kv sl : Value) (ps : List Nat), (isCell kv = true ∧ vbeq1 kv kv = true) → ps.length = n.ks.length → n.ks.length ≤ 1048576 → PS S h sl ps → RowS S h x 155 (knCells n kv ++ [sl]) → (∀ m, m < n.ks.length → PT S T h (ps.getD m 0) (RR T (n.ks.getD m 0))) →
        (∀ m, m < n.ks.length → FtOk b p T t0 e (ps.getD m 0) (RR T (n.ks.getD m 0))) → FL T r ns.length = (flK (fun k b => FL T (RR T k) b) n.ks ns.length).1 ++ [{ n with ks := (flK (fun k b => FL T (RR T k) b) n.ks ns.length).2 }] →
        FQ 35 [t0] b p rn rts h (ns ++ FL T r ns.length) (call Try.prog Ms (e + 1) 77 [ptr p 0, ptr x 0] h) := by
      intro n kv sl ps hv hl hkl hs hrow hpt hF hFL
      have row := hrow.rowE
      rw [c77, e77]
      refine pb rfl (pb rfl (pb (ld5 row.row).2.2.2.2.2 ?_))
      refine newSt_step (kv_cells (n := n) hv.1) rfl rfl fun p4 h1 x1 o1 e4 => ?_
      have o4 := own_root o1 e4
      have s1 := x1.size
      have o4l := o4.lt
      obtain ⟨h2, c2, x2, k2, o42, s2⟩ := stOwn o4 (b := h.size) (by omega) (j := 3) (v := .slice none 0 0) (by show 3 < 4; decide) rfl
      have E2 : Ext h.size h h2 := x1.trans x2
      have hset : (knCells n kv).set 3 (.slice none 0 0) = knCells n (.slice none 0 0) := rfl
      rw [hset] at o42
      have li : LJ b p p4 rn t0 n rts h h2 v ns (.slice none 0 0) p4 [] rts rn :=
        { hb := hb, ext := E2.mono hb, k2 := K2.ext E2, rnn := .inl rfl, op := op.ext E2, bp := hbp, ns := nsx.ext E2, rtn := fun q hq => .inl hq, o4 := o42, p4r := by have := nlt.1; omega, p4b := by omega, gz := .inl ⟨rfl, rfl, rfl⟩,
          rtb := by omega, rts_ := by omega, rtd := fun hq => by have := nlt.2 _ hq; omega }
      refine pb rfl (pb c2 (pb rfl (pb rfl (pb (ldX1 (ld5 row.row).2.2.2.2.1 E2) (pb hs.len (pb rfl ?_))))))
      rw [hl]
      exact f77_loop (M := e) hl hkl hF (by rw [List.length_append]; exact hlen) n.ks.length 0 e h2 v ns _ p4 [] rts rn (by omega) (by omega) (by omega) li (hs.keep (KP.ext E2)) (fun m hm => (hpt m hm).keep (KP.ext E2)) rfl (by rw [hFL, List.append_assoc]; rfl)
    cases t with
    | c _ n kv sl hn hv hs hr' =>
      refine main n kv sl [] hv (by rw [hn]; rfl) (by rw [hn]; decide) hs hr' (fun m hm => by rw [hn] at hm; exact absurd hm (Nat.not_lt_zero _)) (fun m hm => by rw [hn] at hm; exact absurd hm (Nat.not_lt_zero _)) ?_
      rw [FL_c, hn]; rfl
    | o _ j n kv sl ps hn hv hl hs hr' hk =>
      have hj : j ≤ i := hr
      have hjl : j < T.length := by omega
      obtain ⟨_, hnj⟩ := List.getElem?_eq_some_iff.1 hn
      have hmem : n ∈ T := by rw [← hnj]; exact List.getElem_mem hjl
      refine main n kv sl ps hv hl (K.txt _ hmem).2 hs hr' hk (fun m hm => ?_) (FL_o K hn _)
      have hkm : n.ks.getD m 0 ∈ n.ks := kd_mem hm
      have hkr := (K.good _ _ hn).rng _ hkm
      have z := RR_ok K (n.ks.getD m 0).toNat (by omega)
      rw [show (((n.ks.getD m 0).toNat : Nat) : Int) = n.ks.getD m 0 by omega] at z
      exact ih (n.ks.getD m 0).toNat (by omega) e _ _ (by omega) z (by omega)
theorem l43 {d : Nat} (hd : 1048577 < d) {nv : Value} {T : List Kn} {top : Int} {h : AHeap} (x : KSe h.size h nv T) (hb : T.length ≤ 1048576) (hN : ∀ n ∈ T, n.t.size ≤ 1048576 ∧ n.ks.length ≤ 1048576) :
    FA (foldL T top) (foldTop T top) (specOk T top) h (call Try.prog Ms (d + 13010 + 8) 43 [trVal nv top] h) := by
  have hcall : call Try.prog Ms (d + 13010 + 8) 43 [trVal nv top] h = evFn hk0 Try.prog (call Try.prog Ms (d + 13010 + 7)) M43 (d + 13010 + 7) Try.f43 [trVal nv top] h := c43 _ _ _
  rw [hcall, e43]
  refine pb (tr_aCells x.ksl top) (new_step fun p2 h1 x1 o1 _ => new_step fun p4 h2 x2 o2 e4 => ?_)
  have X2 := Ext.tr x1 x2
  have r2 := (Own.rowE o1).ext' x2
  have L2 := (SF.ext X2).lf
  have ks2 := (x.lf L2).mono L2.1
  obtain ⟨h3, c3, x3⟩ := l22 (d := d + 9998) (by omega) (top := top) ks2.ksl (Nat.le_refl _) hb hN
  rw [← ok_same] at c3
  have c3' : call Try.prog Ms (d + 13010 + 7) 22 [trVal nv top] h2 = some (.bool (specOk T top), h3) := by rw [show d + 13010 + 7 = d + 9998 + 3010 + 9 by omega]; exact c3
  have X3 := Ext.tr X2 x3
  have sx1 := x1.size
  have sx2 := x2.size
  have o2' : Own h.size h3 p4 35 [.slice none 0 0, .int .i64 0] := Own.mono (Own.ext o2 x3 o2.lt.2) sx1
  refine pb (ld2 r2.row).2.2 (pb c3' (pb rfl ?_))
  unfold foldTop foldL
  cases hok : specOk T top with
  | false =>
    obtain ⟨g, c, e, o, _⟩ := Own.stN o2' (v := .agg (List.toArray [.slice none 0 0, .int .i64 0])) (vs := [.slice none 0 0, .int .i64 0]) rfl rfl rfl
    exact ⟨.slice none 0 0, g, [], 0, 0, ect rfl (eb c (eb (ld2 (Own.rowE o).row).2.2 rfl)), X3.trans e, .inl ⟨rfl, rfl, rfl, rfl⟩, .inl rfl⟩
  | true =>
    have R := right_of hok
    have hT := R.top
    subst hT
    have K := R.tg hN
    have hpos := R.pos
    have hlen := R.len
    have r3 := r2.ext' x3
    have L3 := (SF.ext x3).lf
    have ks3 := (ks2.lf L3).mono L3.1
    refine pcf rfl (newSt_step (vs := [.slice none 0 0, .int .i64 0]) rfl rfl rfl fun p11 h4 x4 o4 e11 => ?_)
    have e11 : p11 = h3.size := e11
    have x4 : Ext h3.size h3 h4 := x4
    have o11 := own_root o4 e11
    have r4 := r3.ext' x4
    have X4 := Ext.tr X3 x4
    have s3 := x3.size
    have s4 := x4.size
    have ksl4 := (ks3.ksl.ext x4).mono x4.size
    obtain ⟨y, h5, c5, x5, t5⟩ := l78 (d := d) (b := h4.size) (p2 := p2) (nv := nv) (top := (T.length : Int) - 1) hd K (T.length - 1) (d + 13010 + 7) (by omega) (by omega) h4 ksl4 r4 (Nat.le_refl _)
    have htop : ((T.length - 1 : Nat) : Int) = (T.length : Int) - 1 := by omega
    rw [htop] at c5 t5
    have rok := RR_ok K (T.length - 1) (by omega)
    rw [htop] at rok
    have hnum : 0 ≤ numP T (T.length + 1) ((T.length : Int) - 1) 0 := by rw [R.num]; omega
    have fb := fl_bound K (T.length + 1) ((T.length : Int) - 1) 0 (by omega) (by omega) (by omega) hnum 0
    have w := l77 (d := d) (b := h3.size) (p := p11) (t0 := .int .i64 0) hd K (by omega) (T.length - 1) (d + 13010 + 7) y _ (by omega) rok (by omega) _ h5 (.slice none 0 0) [] [] p11 t5 (o11.ext x5) (.inl ⟨rfl, rfl, rfl, rfl⟩) (by have := x5.size; omega) (by show 0 + (FL T _ 0).length ≤ _; omega)
    obtain ⟨g5, v5, rts, rn, c6, e5, k5, q5, o5, n5, t6, nx⟩ := w
    rw [List.nil_append] at c6 n5 nx
    have E5 : Ext h3.size h3 g5 := x4.trans ((x5.mono x4.size).trans e5)
    obtain ⟨g6, c7, e6, k6, o6, s6⟩ := stOwn o5 (b := h3.size) (by omega) (j := 1) (v := .int .i64 (((foldT T).length : Int) - 1)) (by show 1 < 2; decide) rfl
    have o6' : OwnR g6 p11 p11 35 [v5, .int .i64 (((foldT T).length : Int) - 1)] := o6
    have p4o : Own h.size g6 p4 35 [.slice none 0 0, .int .i64 0] := Own.ext (Own.ext o2' E5 (by have := o2'.lt; omega)) e6 (by have := o2'.lt; omega)
    obtain ⟨g7, c8, e7, o7, s7, q7⟩ := Own.stX p4o (off := 0) (n := 2) (tv_cells n5.cell (((foldT T).length : Int) - 1)) rfl (by show 0 + 2 ≤ 2; omega)
    have r7 : RowE g7 p4 35 [v5, .int .i64 (((foldT T).length : Int) - 1)] := Own.rowE o7
    have kk : ∀ j o, g5.at? j = some o → o.elem = 73 ∨ o.elem = 3 → g7.at? j = some o := fun j o a he => q7 j o (k6 j o a (.inl (by rcases he with he | he <;> (rw [he]; decide)))) (by rcases he with he | he <;> (rw [he]; decide))
    refine ⟨v5, g7, rts, rn, p11, ?_, X3.trans ((E5.mono X3.size).trans ((e6.mono X3.size).trans e7)), ?_, .inr (nx.keep fun j o a he _ _ => kk j o a (.inl he))⟩
    · exact eb rfl (eb (ld2 r4.row).2.1 (eb rfl (eb c5 (eb c6 (eb rfl (eb rfl (eb c7 (eb (ld2 o6'.row).2.2 (eb c8 (eb (ld2 r7.row).2.2 rfl))))))))))
    · exact (n5.lo X3.size).keep (by omega) fun j o a he => kk j o a (by rcases he with he | he; exact .inl he.1; exact .inr he.1)
end Go.Proofs.Ytadmoackacickaa
/- impl's SizesOf. -/
set_option linter.unusedSimpArgs false
namespace Go.Proofs.Ytadmoackacickaa
open Go Go.AH

theorem ldR {h : AHeap} {r rt : Nat} {ys : List Int} (o : OwnR h r rt 3 (ints ys)) {k v : Int} (h0 : 0 ≤ k) (hk : ys[k.toNat]? = some v) : aIdx (slc r 0 ys.length) (.int .i64 k) 1 = some (ptr r k.toNat) ∧ aLd1 h (ptr r k.toNat) = some (.int .i64 v) :=
  ld3 (o.own (Nat.le_refl rt)) h0 hk
theorem size_in {C : ACall} {N n1 b r rs ro p6 iN L : Nat} {nv kv : Value} {n : Kn} {F : Int → Int} (hiN : iN < L) (hL : L ≤ 3000) (hl : n.ks.length ≤ 1048576) (hr : ∀ k ∈ n.ks, 0 ≤ k ∧ k < iN) (hne : rs ≠ ro) (hbs : b ≤ rs) (hbo : b ≤ ro) :
    ∀ (k j m : Nat) (a : Int) (ys xs : List Int) (io : Nat) (h : AHeap), n.ks.length - j = k → j ≤ n.ks.length → k < m → ys.length = L → b ≤ h.size → OwnR h r rs 3 (ints ys) → OwnR h io ro 3 (ints xs) → xs.length ≤ 1000000 → (∀ h', Ext b h h' → ISl b h' kv n.ks) → RowE h p6 73 (knCells n kv) → ys[iN]? = some a → (∀ k ∈ n.ks, ys[k.toNat]? = some (F k)) →
      ∃ io' h', s31_1 hk0 C N n1 m (slc io 0 xs.length) (slc r 0 L) (iN : Int) (ptr p6 0) nv (L : Int) (iN : Int) kv (n.ks.length : Int) (j : Int) h =
          s31_0 hk0 C N n1 (slc io' 0 (xs ++ (if n.k = 6 then [(n.ks.drop j).foldl (szStep F) a] else [])).length) (slc r 0 L) nv (L : Int) ((iN + 1 : Nat) : Int) h' ∧ Ext b h h' ∧
        OwnR h' r rs 3 (ints (ys.set iN ((n.ks.drop j).foldl (szStep F) a))) ∧ OwnR h' io' ro 3 (ints (xs ++ (if n.k = 6 then [(n.ks.drop j).foldl (szStep F) a] else []))) := by
  intro k
  induction k with
  | zero =>
    intro j m a ys xs io h hk hj hm hy hb o q hx hkv r6 ha hF
    obtain ⟨m, rfl⟩ : ∃ q, m = q + 1 := ⟨m - 1, by omega⟩
    have : ¬ ((j : Int) < (n.ks.length : Int)) := by omega
    obtain ⟨b0, _, _⟩ := nodeRow r6.row
    obtain ⟨i1, i2⟩ := ldR o (k := (iN : Int)) (by omega) ha
    rw [hy] at i1
    have i1' : aIdx (slc r 0 L) (.int .i64 (iN : Int)) 1 = some (ptr r iN) := i1
    have i2' : aLd1 h (ptr r iN) = some (.int .i64 a) := i2
    have w : IntKind.i64.wrap ((iN : Int) + 1) = ((iN + 1 : Nat) : Int) := by rw [wr (by omega) (by omega)]; omega
    have hset : ys.set iN a = ys := List.ext_getElem? fun i => by
      by_cases he : i = iN
      · subst he; rw [List.getElem?_set_self (by omega), ha]
      · rw [List.getElem?_set_ne (by omega)]
    rw [List.drop_eq_nil_of_le (by omega), List.foldl_nil, hset]
    by_cases h6 : n.k = 6
    · obtain ⟨i', h', t, x, kk, o'⟩ := appR q hbo hb (by omega) a
      refine ⟨i', h', ?_, x, o.keep kk (.inr hne), ?_⟩
      · rw [s31_1_eq, decide_eq_false this, cond_false]
        simp only [aOff_ptr, Nat.zero_add, Option.bind_some, b0, asI, if_true, h6]
        rw [show ((6 : Int) == 6) = true from rfl, cond_true]
        simp only [i1', i2', Option.bind_some, asI, if_true, aNewS]
        rw [t, Option.bind_some, w]
      · rw [if_pos h6]; exact o'
    · refine ⟨io, h, ?_, Ext.refl _ _, o, ?_⟩
      · rw [s31_1_eq, decide_eq_false this, cond_false]
        simp only [aOff_ptr, Nat.zero_add, Option.bind_some, b0, asI, if_true]
        rw [beq_eq_false_iff_ne.2 h6, cond_false, w, if_neg h6, List.append_nil]
      · rw [if_neg h6, List.append_nil]; exact q
  | succ k ih =>
    intro j m a ys xs io h hk hj hm hy hb o q hx hkv r6 ha hF
    obtain ⟨m, rfl⟩ : ∃ q, m = q + 1 := ⟨m - 1, by omega⟩
    have hlt : j < n.ks.length := by omega
    have hI : ((j : Int) < (n.ks.length : Int)) := by omega
    have y := hkv h (Ext.refl _ _)
    obtain ⟨p, e1, e2⟩ := y.at hlt
    have hmem := List.getElem_mem hlt
    have hk' := hr _ hmem
    obtain ⟨i1, i2⟩ := ldR o (k := (iN : Int)) (by omega) ha
    obtain ⟨g1, g2⟩ := ldR o hk'.1 (hF _ hmem)
    rw [hy] at i1 g1
    have i1' : aIdx (slc r 0 L) (.int .i64 (iN : Int)) 1 = some (ptr r iN) := i1
    have i2' : aLd1 h (ptr r iN) = some (.int .i64 a) := i2
    have wj : IntKind.i64.wrap ((j : Int) + 1) = ((j + 1 : Nat) : Int) := by rw [wr (by omega) (by omega)]; omega
    obtain ⟨h2, t2, x2, k2, o2, s2⟩ := stR o hbs (j := iN) (by omega) (szStep F a n.ks[j])
    have t2' : aSt h (ptr r iN) (.int .i64 (IntKind.i64.wrap (a + F n.ks[j]))) 1 = some h2 := t2
    obtain ⟨io', h3, c3, x3, o3, q3⟩ := ih (j + 1) m (szStep F a n.ks[j]) (ys.set iN (szStep F a n.ks[j])) xs io h2 (by omega) (by omega) (by omega) (by simp [hy]) (by omega) o2 (q.keep k2 (.inr (fun e => hne e.symm))) hx (fun h' e => hkv h' (x2.trans e)) (r6.keepR (by decide) k2)
      (List.getElem?_set_self (by omega)) (fun k hk => by
        have := hr k hk
        rw [List.getElem?_set_ne (by omega)]; exact hF k hk)
    rw [List.drop_eq_getElem_cons hlt, List.foldl_cons]
    rw [List.set_set] at o3
    refine ⟨io', h3, ?_, x2.trans x3, o3, q3⟩
    rw [s31_1_eq, decide_eq_true hI, cond_true, e1, Option.bind_some, e2, Option.bind_some]
    simp only [asI, if_true, Option.bind_some, i1', i2', g1, g2, t2', wj, c3]
theorem size_out {C : ACall} {N b c r rs ro : Nat} {nv : Value} {T : List Kn} (hT : T.length ≤ 3000) (hN : ∀ n ∈ T, n.t.size ≤ 1048576 ∧ n.ks.length ≤ 1048576) (hNN : 1048577 < N) (hG : Ranges T) (hcb : c ≤ b) (hne : rs ≠ ro) (hbs : b ≤ rs) (hbo : b ≤ ro) :
    ∀ (k j m : Nat) (ys xs : List Int) (io : Nat) (h : AHeap), T.length - j = k → j ≤ T.length → k < m → ys.length = T.length → xs.length ≤ j → b ≤ h.size → OwnR h r rs 3 (ints ys) → OwnR h io ro 3 (ints xs) → KSl c h nv T →
      (∀ i, i < j → ys[i]? = some (PF T (i + 1) i).1) →
      ∃ io' h', s31_0 hk0 C N m (slc io 0 xs.length) (slc r 0 T.length) nv (T.length : Int) (j : Int) h = some (slc io' 0 (xs ++ szFrom T k j).length, h') ∧ Ext b h h' ∧ OwnR h' io' ro 3 (ints (xs ++ szFrom T k j)) := by
  intro k
  induction k with
  | zero =>
    intro j m ys xs io h hk hj hm hy hx hb o q x hlo
    obtain ⟨m, rfl⟩ : ∃ q, m = q + 1 := ⟨m - 1, by omega⟩
    have : ¬ ((j : Int) < (T.length : Int)) := by omega
    refine ⟨io, h, ?_, Ext.refl _ _, by rw [szFrom, List.append_nil]; exact q⟩
    rw [s31_0_eq, decide_eq_false this, cond_false, szFrom, List.append_nil]
  | succ k ih =>
    intro j m ys xs io h hk hj hm hy hx hb o q x hlo
    obtain ⟨m, rfl⟩ : ∃ q, m = q + 1 := ⟨m - 1, by omega⟩
    have hlt : j < T.length := by omega
    have hI : ((j : Int) < (T.length : Int)) := by omega
    have hn : T[j]? = some T[j] := by simp [hlt]
    obtain ⟨id, kv, g1, g2, g3⟩ := x.at hlt
    obtain ⟨g4, _⟩ := g3 h (Ext.refl _ _)
    have e1 := Ext.new (Nat.le_refl h.size) 73 [.int .i64 0, .string ⟨#[]⟩, .int .i64 0, .slice none 0 0]
    have q1 := Own.new (Nat.le_refl h.size) 73 [.int .i64 0, .string ⟨#[]⟩, .int .i64 0, .slice none 0 0]
    have s1 : (h.new 73 [.int .i64 0, .string ⟨#[]⟩, .int .i64 0, .slice none 0 0]).size = h.size + 1 := rfl
    rw [s31_0_eq, decide_eq_true hI, cond_true, g1, Option.bind_some, g4, Option.bind_some]
    simp only [aNew]
    generalize h.new 73 [.int .i64 0, .string ⟨#[]⟩, .int .i64 0, .slice none 0 0] = h1 at e1 q1 s1 ⊢
    obtain ⟨h2, t2, x2, q2, s2⟩ := Own.stN q1 (n := 4) (v := knVal T[j] kv) (kn_aCells g2) rfl rfl
    have E2 : Ext h.size h h2 := e1.trans x2
    have r6 : RowE h2 h.size 73 (knCells T[j] kv) := Own.rowE q2
    have K2 : ∀ rt, Kr rt h h2 := fun rt => Kr.ext E2
    have hlt1 := o.lt
    have o2 : OwnR h2 r rs 3 (ints ys) := o.keep (K2 (rs + 1)) (.inr (by omega))
    have qq2 : OwnR h2 io ro 3 (ints xs) := q.keep (K2 (ro + 1)) (.inr (by omega))
    obtain ⟨h3, t3, x3, k3, o3, s3⟩ := stR o2 hbs (j := j) (by omega) 1
    have qq3 := qq2.keep k3 (.inr (fun e => hne e.symm))
    have E3 : Ext b h h3 := (E2.mono hb).trans x3
    have r63 := r6.keepR (by decide) k3
    have y3 : ISl b h3 kv T[j].ks := (g2.mono hcb).ext E3
    obtain ⟨_, b3, _⟩ := nodeRow r63.row
    have hrg := hG j _ hn
    have hix : aIdx (slc r 0 T.length) (.int .i64 (j : Int)) 1 = some (ptr r j) := by simp [aIdx, slc, hlt]
    obtain ⟨io4, h4, c4, x4, o4, q4⟩ := size_in (C := C) (N := N) (n1 := m) (nv := nv) (F := fun k => (PF T (k.toNat + 1) k).1) hlt hT (hN _ (List.getElem_mem hlt)).2 hrg hne hbs hbo T[j].ks.length 0 N 1 (ys.set j 1) xs io h3 (by omega) (by omega) (by have := (hN _ (List.getElem_mem hlt)).2; omega) (by simp [hy]) (by omega) o3 qq3 (by omega) (fun h' e => y3.ext e) r63 (List.getElem?_set_self (by omega)) (fun k hk => by
      have := hrg k hk
      rw [List.getElem?_set_ne (by omega), hlo k.toNat (by omega), show ((k.toNat : Nat) : Int) = k by omega])
    rw [t2, Option.bind_some]
    simp only [hix, Option.bind_some, t3, aOff_ptr, Nat.zero_add, b3, y3.len, asI, if_true]
    have hval : (T[j].ks.drop 0).foldl (szStep fun k => (PF T (k.toNat + 1) k).1) 1 = (PF T (j + 1) j).1 := by rw [PF_eq hG hn]; rfl
    rw [hval] at c4 o4 q4
    rw [List.set_set] at o4
    have c4' : s31_1 hk0 C N m N (slc io 0 xs.length) (slc r 0 T.length) (j : Int) (ptr h.size 0) nv (T.length : Int) (j : Int) kv (T[j].ks.length : Int) 0 h3 = _ := c4
    rw [c4']
    have hlen : (xs ++ (if T[j].k = 6 then [(PF T (j + 1) j).1] else [])).length ≤ j + 1 := by
      rw [List.length_append]
      have : (if T[j].k = 6 then [(PF T (j + 1) j).1] else [] : List Int).length ≤ 1 := by
        split
        · exact Nat.le_refl _
        · exact Nat.zero_le _
      omega
    obtain ⟨io5, h5, c5, x5, q5⟩ := ih (j + 1) m (ys.set j (PF T (j + 1) j).1) _ io4 h4 (by omega) (by omega) (by omega) (by simp [hy]) hlen (Nat.le_trans hb (E3.trans x4).size) o4 q4 (x.ext ((E3.trans x4).mono hcb)) (fun i hi => by
      by_cases he : i = j
      · subst he; rw [List.getElem?_set_self (by omega)]
      · rw [List.getElem?_set_ne (by omega)]; exact hlo i (by omega))
    refine ⟨io5, h5, ?_, (E3.trans x4).trans x5, ?_⟩
    · rw [c5, szFrom, hn, List.append_assoc]
    · rw [szFrom, hn, ← List.append_assoc]; exact q5
theorem l31 {d c : Nat} (hd : 1048577 < d) {nv : Value} {T : List Kn} {top : Int} {h : AHeap} (x : KSl c h nv T) (hc : c ≤ h.size) (hb : T.length ≤ 1048576) (hN : ∀ n ∈ T, n.t.size ≤ 1048576 ∧ n.ks.length ≤ 1048576) :
    ∃ v h', call Try.prog Ms (d + 3010 + 10) 31 [trVal nv top] h = some (v, h') ∧ Ext h.size h h' ∧ IOwn h.size h' v (sizesP T top) := by
  have e1 := Ext.new (Nat.le_refl h.size) 35 [nv, .int .i64 top]
  have r1 := RowE.new h 35 [nv, .int .i64 top]
  have s1 : (h.new 35 [nv, .int .i64 top]).size = h.size + 1 := rfl
  have hcall : call Try.prog Ms (d + 3010 + 10) 31 [trVal nv top] h = evFn hk0 Try.prog (call Try.prog Ms (d + 3010 + 9)) M31 (d + 3010 + 9) Try.f31 [trVal nv top] h := c31 (d + 3010 + 9) _ _
  rw [hcall, e31, tr_aCells x, Option.bind_some]
  simp only [aNew]
  have x1 := x.ext (e1.mono hc)
  generalize h.new 35 [nv, .int .i64 top] = h1 at e1 r1 s1 x1 ⊢
  have e2 := Ext.new (Nat.le_refl h1.size) 3 ([] : List Value)
  have i2 : OwnR (h1.new 3 []) h1.size h1.size 3 (ints []) := OwnR.new h1 3 (ints [])
  have s2 : (h1.new 3 []).size = h1.size + 1 := rfl
  simp only [aNewS]
  have x2 := x1.ext (e2.mono (by omega))
  have r2 := r1.keep3 (by decide) (Keep3.ext e2)
  generalize h1.new 3 [] = h2 at e2 i2 s2 x2 r2 ⊢
  obtain ⟨_, _, aN⟩ := ld2 r2.row
  have aN' : aLdN h2 (ptr h.size 0) 2 = some (trVal nv top) := aN
  obtain ⟨h3, c3, x3⟩ := l22 hd (top := top) x2 (by omega) hb hN
  have s3 := x3.size
  have i3 := i2.keep (Kr.ext x3 (root := h1.size + 1)) (.inr (by omega))
  have r3 := r2.keep3 (by decide) (Keep3.ext x3)
  have xx3 := x2.ext (x3.mono (by omega))
  obtain ⟨d0, _, _⟩ := ld2 r3.row
  have E3 : Ext h.size h h3 := e1.trans ((e2.mono (by omega)).trans (x3.mono (by omega)))
  rw [aN', Option.bind_some, c3, Option.bind_some]
  simp only [asB, Option.bind_some]
  unfold sizesP
  rw [ok_same]
  cases hok : implOk T top with
  | false => exact ⟨_, h3, rfl, E3, h1.size, rfl, i3.own (by omega)⟩
  | true =>
    obtain ⟨o1, o2, o3, o4⟩ := ok_spec (T := T) (top := top) (by rw [ok_same]; exact hok)
    have e4 := Ext.new (Nat.le_refl h3.size) 3 (ints (List.replicate T.length 0))
    have q4 := OwnR.new h3 3 (ints (List.replicate T.length 0))
    have s4 : (h3.new 3 (ints (List.replicate T.length 0))).size = h3.size + 1 := rfl
    rw [Bool.not_true, cond_false]
    simp only [aOff_ptr, Nat.zero_add, Option.bind_some, d0, x.len, asI, if_true]
    rw [mk_some _ _ _ _ _ (by omega) (by omega), Option.bind_some, rep_ints]
    have r4 := r3.keep3 (by decide) (Keep3.ext e4)
    have i4 := i3.keep (Kr.ext e4 (root := h1.size + 1)) (.inr (by omega))
    have xx4 := xx3.ext (e4.mono (by omega))
    generalize h3.new 3 (ints (List.replicate T.length 0)) = h4 at e4 q4 s4 r4 i4 xx4 ⊢
    obtain ⟨b0, _, _⟩ := ld2 r4.row
    simp only [b0, Option.bind_some, x.len, asI, if_true]
    obtain ⟨io5, h5, c5, x5, q5⟩ := size_out (C := call Try.prog Ms (d + 3010 + 9)) (N := d + 3010 + 9) (b := h1.size) (c := c) (r := h3.size) (rs := h3.size) (ro := h1.size) (nv := nv) o1 hN (by omega) o4 (by omega) (by omega) (by omega) (Nat.le_refl _) T.length 0 (d + 3010 + 9) (List.replicate T.length 0) [] h1.size h4 (by omega) (by omega) (by omega) (by simp) (Nat.zero_le _) (by omega) q4 i4 xx4 (fun i hi => by omega)
    refine ⟨_, h5, c5, E3.trans ((e4.mono (by omega)).trans (x5.mono (by omega))), ?_⟩
    exact ⟨io5, rfl, q5.own (by omega)⟩
end Go.Proofs.Ytadmoackacickaa
/- Marks on ints and on trees. -/
set_option linter.unusedSimpArgs false
namespace Go.Proofs.Ytadmoackacickaa
open Go Go.AH

/-- Each is one more than the one ahead. -/
def Mk (k : Int) (ys : List Int) : Prop := ∀ i, i < ys.length → ys[i]? = some (k + i)
theorem mark_ints {C : ACall} {N b r rt L : Nat} {k0 : Int} (hb : b ≤ rt) (hL : L ≤ 100000000) (h0 : 0 ≤ k0) (h1 : k0 ≤ 4000000000000000000) : ∀ (k j m : Nat) (ys : List Int) (h : AHeap), L - j = k → j ≤ L → k < m → ys.length = L → OwnR h r rt 3 (ints ys) → (∀ i, i < j → ys[i]? = some (k0 + i)) →
    ∃ h' ys', s34_0 hk0 C N m (slc r 0 L) (k0 + j) (j : Int) h = some (.int .i64 (k0 + L), h') ∧ Ext b h h' ∧ Kr rt h h' ∧ OwnR h' r rt 3 (ints ys') ∧ ys'.length = L ∧ Mk k0 ys' ∧ h'.size = h.size := by
  intro k
  induction k with
  | zero =>
    intro j m ys h hk hj hm hy o hlo
    obtain ⟨m, rfl⟩ : ∃ q, m = q + 1 := ⟨m - 1, by omega⟩
    have : ¬ ((j : Int) < (L : Int)) := by omega
    have hlen : aLen (slc r 0 L) = some (.int .i64 (L : Int)) := rfl
    refine ⟨h, ys, ?_, Ext.refl _ _, Kr.refl _ _, o, hy, fun i hi => hlo i (by omega), rfl⟩
    rw [s34_0_eq, hlen, Option.bind_some]
    simp only [asI, if_true, Option.bind_some, decide_eq_false this, cond_false]
    rw [show j = L by omega]
  | succ k ih =>
    intro j m ys h hk hj hm hy o hlo
    obtain ⟨m, rfl⟩ : ∃ q, m = q + 1 := ⟨m - 1, by omega⟩
    have hlt : j < L := by omega
    have hI : ((j : Int) < (L : Int)) := by omega
    have hlen : aLen (slc r 0 L) = some (.int .i64 (L : Int)) := rfl
    have hix : aIdx (slc r 0 L) (.int .i64 (j : Int)) 1 = some (ptr r j) := by simp [aIdx, slc, hlt]
    obtain ⟨h2, t2, x2, k2, o2, s2⟩ := stR o hb (j := j) (by omega) (k0 + j)
    have wj : IntKind.i64.wrap ((j : Int) + 1) = ((j + 1 : Nat) : Int) := by rw [wr (by omega) (by omega)]; omega
    have wk : IntKind.i64.wrap (k0 + (j : Int) + 1) = k0 + ((j + 1 : Nat) : Int) := by rw [wr (by omega) (by omega)]; omega
    obtain ⟨h3, ys', c3, x3, k3, o3, l3, m3, s3⟩ := ih (j + 1) m (ys.set j (k0 + j)) h2 (by omega) (by omega) (by omega) (by simp [hy]) o2 (fun i hi => by
      by_cases he : i = j
      · subst he; rw [List.getElem?_set_self (by omega)]
      · rw [List.getElem?_set_ne (by omega)]; exact hlo i (by omega))
    refine ⟨h3, ys', ?_, x2.trans x3, k2.trans k3, o3, l3, m3, by omega⟩
    rw [s34_0_eq, hlen, Option.bind_some]
    simp only [asI, if_true, Option.bind_some, decide_eq_true hI, cond_true, hix, t2, wj, wk, c3]
theorem l34 {d b r rt : Nat} (hd : 1048577 < d) {ys : List Int} {k0 : Int} {h : AHeap} (hb : b ≤ rt) (hL : ys.length ≤ 1048576) (h0 : 0 ≤ k0) (h1 : k0 ≤ 4000000000000000000) (o : OwnR h r rt 3 (ints ys)) :
    ∃ h' ys', call Try.prog Ms (d + 1) 34 [slc r 0 ys.length, .int .i64 k0] h = some (.int .i64 (k0 + ys.length), h') ∧ Ext b h h' ∧ Kr rt h h' ∧ OwnR h' r rt 3 (ints ys') ∧ ys'.length = ys.length ∧ Mk k0 ys' ∧ h'.size = h.size := by
  obtain ⟨h', ys', c, x⟩ := mark_ints (C := call Try.prog Ms d) (N := d) hb (by omega) h0 h1 ys.length 0 d ys h (by omega) (by omega) (by omega) rfl o (fun i hi => by omega)
  refine ⟨h', ys', ?_, x⟩
  rw [c34, e34]
  have c' : s34_0 hk0 (call Try.prog Ms d) d d (slc r 0 ys.length) (k0 + 0) 0 h = _ := c
  rw [Int.add_zero] at c'
  exact c'
theorem held_ints {C : ACall} {N c : Nat} {v : Value} {ys : List Int} {k0 : Int} (hL : ys.length ≤ 1048576) (h0 : 0 ≤ k0) (h1 : k0 ≤ 4000000000000000000) {h : AHeap} (x : ISl c h v ys) (hm : Mk k0 ys) : ∀ (k j m : Nat), ys.length - j = k → j ≤ ys.length → k < m →
    s35_0 hk0 C N m v (k0 + j) (j : Int) h = some (.int .i64 (k0 + ys.length), h) := by
  intro k
  induction k with
  | zero =>
    intro j m hk hj hm'
    obtain ⟨m, rfl⟩ : ∃ q, m = q + 1 := ⟨m - 1, by omega⟩
    have : ¬ ((j : Int) < (ys.length : Int)) := by omega
    rw [s35_0_eq, x.len, Option.bind_some]
    simp only [asI, if_true, Option.bind_some, decide_eq_false this, cond_false]
    rw [show j = ys.length by omega]
  | succ k ih =>
    intro j m hk hj hm'
    obtain ⟨m, rfl⟩ : ∃ q, m = q + 1 := ⟨m - 1, by omega⟩
    have hlt : j < ys.length := by omega
    have hI : ((j : Int) < (ys.length : Int)) := by omega
    obtain ⟨p, e1, e2⟩ := x.at hlt
    have hv : ys[j] = k0 + j := by
      have := hm j hlt
      rw [List.getElem?_eq_getElem hlt] at this
      simpa using this
    have wj : IntKind.i64.wrap ((j : Int) + 1) = ((j + 1 : Nat) : Int) := by rw [wr (by omega) (by omega)]; omega
    have wk : IntKind.i64.wrap (k0 + (j : Int) + 1) = k0 + ((j + 1 : Nat) : Int) := by rw [wr (by omega) (by omega)]; omega
    rw [s35_0_eq, x.len, Option.bind_some]
    simp only [asI, if_true, Option.bind_some, decide_eq_true hI, cond_true, e1, e2, hv, wj, wk]
    rw [bne_self_eq_false, cond_false]
    exact ih (j + 1) m (by omega) (by omega) (by omega)
theorem l35 {d c : Nat} (hd : 1048577 < d) {v : Value} {ys : List Int} {k0 : Int} {h : AHeap} (hL : ys.length ≤ 1048576) (h0 : 0 ≤ k0) (h1 : k0 ≤ 4000000000000000000) (x : ISl c h v ys) (hm : Mk k0 ys) :
    call Try.prog Ms (d + 1) 35 [v, .int .i64 k0] h = some (.int .i64 (k0 + ys.length), h) := by
  have c := held_ints (C := call Try.prog Ms d) (N := d) hL h0 h1 x hm ys.length 0 d (by omega) (by omega) (by omega)
  rw [c35, e35]
  have c' : s35_0 hk0 (call Try.prog Ms d) d d v (k0 + 0) 0 h = _ := c
  rw [Int.add_zero] at c'
  exact c'
/-- All rows whose root is B or behind it are as they were. -/
def Up (B : Nat) (h h' : AHeap) : Prop := ∀ j o, h.at? j = some o → B ≤ o.root → h'.at? j = some o
theorem Up.refl (B : Nat) (h : AHeap) : Up B h h := fun _ _ h _ => h
theorem Up.trans {B : Nat} {h h' h'' : AHeap} (x : Up B h h') (y : Up B h' h'') : Up B h h'' := fun j o a b => y j o (x j o a b) b
theorem Up.ext {B : Nat} {h h' : AHeap} (x : Ext h.size h h') : Up B h h' := fun j o a _ => x.at? (at?_obj a).2.1 a
theorem Up.kr {B rt : Nat} {h h' : AHeap} (x : Kr rt h h') (hr : rt < B) : Up B h h' := fun j o a b => x j o a (.inr (by omega))
/-- A node's kids, in a row of their own below B. -/
def KidR (b B : Nat) (h : AHeap) (kv : Value) (L : Nat) : Prop := ∃ i ys, kv = slc i 0 L ∧ OwnR h i i 3 (ints ys) ∧ ys.length = L ∧ b ≤ i ∧ i < B
theorem KidR.ext {b B : Nat} {h h' : AHeap} {kv : Value} {L : Nat} (x : KidR b B h kv L) (e : Ext h.size h h') : KidR b B h' kv L := let ⟨i, ys, h1, h2, h3⟩ := x; ⟨i, ys, h1, h2.keep (Kr.ext e (root := i + 1)) (.inr (by omega)), h3⟩
/-- Nodes in memory of their own, from a place on. -/
def NodesR (b B : Nat) (h : AHeap) (r rn : Nat) (ns : List Kn) (j : Nat) (cells : List Value) : Prop :=
  OwnR h r rn 73 cells ∧ b ≤ rn ∧ rn < B ∧ cells.length = ns.length * 4 ∧ ∀ (i : Nat) (n : Kn), j ≤ i → ns[i]? = some n → ∃ kv, cells[i * 4 + 3]? = some kv ∧ KidR b B h kv n.ks.length
theorem st73 {b B : Nat} {h : AHeap} {r rn i : Nat} {cells : List Value} (o : OwnR h r rn 73 cells) (hb : b ≤ rn) (hB : rn < B) (hi : i < cells.length) {v : Value} (hv : aCells v = some [v]) :
    ∃ h', aSt h (ptr r i) v 1 = some h' ∧ Ext b h h' ∧ OwnR h' r rn 73 (cells.set i v) ∧ h'.size = h.size ∧ Up B h h' ∧ (∀ j o, h.at? j = some o → o.elem ≠ 73 → h'.at? j = some o) := by
  obtain ⟨ep, h1⟩ := o
  have hi' := at?_obj h1
  have hsp : splice cells i [v] = cells.set i v := by
    unfold splice
    rw [List.set_eq_take_append_cons_drop, if_pos hi]; simp
  have hne : ∀ k o, h.at? k = some o → (o.elem ≠ 73 ∨ o.root ≠ rn) → (h.put r ⟨rn, ep, false, 73, cells⟩ (splice cells i [v])).at? k = some o := fun k o ho hk =>
    at?_put_other ho (fun e => by subst e; rw [h1] at ho; cases ho; rcases hk with a | a <;> exact a rfl) _ (fun hh => hk.elim (fun a => a hh.1) (fun a => a hh.2))
  refine ⟨h.put r ⟨rn, ep, false, 73, cells⟩ (splice cells i [v]), by simp [aSt, ptr, h1, hv]; omega, Ext.put (Nat.le_trans hb hi'.2.2.1) hb _, ⟨h.ep 73 rn + 1, ?_⟩, rfl, fun k o ho hk => hne k o ho (.inr (by omega)), fun k o ho hk => hne k o ho (.inl hk)⟩
  rw [← hsp]; exact at?_put_same h1 _
theorem KidR.keep {b B : Nat} {h h' : AHeap} {kv : Value} {L : Nat} (x : KidR b B h kv L) (k : ∀ j o, h.at? j = some o → o.elem ≠ 73 → h'.at? j = some o) : KidR b B h' kv L :=
  let ⟨i, ys, h1, ⟨ep, h2⟩, h3⟩ := x; ⟨i, ys, h1, ⟨ep, k i _ h2 (by show (3 : TypeId) ≠ 73; decide)⟩, h3⟩
theorem mark_nodes {d b B r rn : Nat} (hd : 1048577 < d) {ns : List Kn} (hl : ns.length ≤ 1048576) (hN : ∀ n ∈ ns, n.t.size ≤ 1048576 ∧ n.ks.length ≤ 1048576) :
    ∀ (k j m : Nat) (k0 : Int) (cells : List Value) (h : AHeap), ns.length - j = k → j ≤ ns.length → k < m → 0 ≤ k0 → k0 + (k : Int) * 2000000 ≤ 100000000000000000 → b ≤ h.size → B ≤ h.size → NodesR b B h r rn ns j cells →
      ∃ h' k1, s68_0 hk0 (call Try.prog Ms (d + 1)) (d + 1) m (slc r 0 ns.length) k0 (j : Int) h = some (.int .i64 k1, h') ∧ 0 ≤ k1 ∧ Ext b h h' ∧ Up B h h' := by
  intro k
  induction k with
  | zero =>
    intro j m k0 cells h hk hj hm h0 h1 hb hB o
    obtain ⟨m, rfl⟩ : ∃ q, m = q + 1 := ⟨m - 1, by omega⟩
    have : ¬ ((j : Int) < (ns.length : Int)) := by omega
    have hlen : aLen (slc r 0 ns.length) = some (.int .i64 (ns.length : Int)) := rfl
    refine ⟨h, k0, ?_, h0, Ext.refl _ _, Up.refl _ _⟩
    rw [s68_0_eq, hlen, Option.bind_some]
    simp only [asI, if_true, Option.bind_some, decide_eq_false this, cond_false]
  | succ k ih =>
    intro j m k0 cells h hk hj hm h0 h1 hb hB o
    obtain ⟨m, rfl⟩ : ∃ q, m = q + 1 := ⟨m - 1, by omega⟩
    have hlt : j < ns.length := by omega
    have hI : ((j : Int) < (ns.length : Int)) := by omega
    have hlen : aLen (slc r 0 ns.length) = some (.int .i64 (ns.length : Int)) := rfl
    have hix : aIdx (slc r 0 ns.length) (.int .i64 (j : Int)) 4 = some (ptr r (j * 4)) := by simp [aIdx, slc, hlt]
    have hn : ns[j]? = some ns[j] := by simp [hlt]
    have hok := hN ns[j] (List.getElem_mem hlt)
    obtain ⟨o1, o2, o3, o4, o5⟩ := o
    obtain ⟨kv, g1, g2⟩ := o5 j _ (Nat.le_refl _) hn
    obtain ⟨h2, t2, x2, q2, s2, u2, f2⟩ := st73 o1 o2 o3 (i := j * 4) (by omega) (v := .int .i64 k0) rfl
    have w1 : IntKind.i64.wrap (k0 + 1) = k0 + 1 := wr (by omega) (by omega)
    have w2 : IntKind.i64.wrap (k0 + 1 + 1) = k0 + 2 := by rw [wr (by omega) (by omega)]; omega
    have w3 : IntKind.i64.wrap (k0 + 2 + 1) = k0 + 3 := by rw [wr (by omega) (by omega)]; omega
    obtain ⟨h3, c3, x3⟩ := l55 (d := d) (by omega) (x := k0 + 1) (Int.lt_of_le_of_lt (b := 100000000000000001) (by omega) (by decide)) h2
    have s3 := x3.size
    have q3 := q2.keep (Kr.ext x3 (root := rn + 1)) (.inl (by decide))
    obtain ⟨h4, t4, x4, q4, s4, u4, f4⟩ := st73 q3 o2 o3 (i := j * 4 + 1) (by simp; omega) (v := .string (markT (k0 + 1))) rfl
    obtain ⟨h5, t5, x5, q5, s5, u5, f5⟩ := st73 q4 o2 o3 (i := j * 4 + 2) (by simp; omega) (v := .int .i64 (k0 + 2)) rfl
    have hkv : (((cells.set (j * 4) (Value.int .i64 k0)).set (j * 4 + 1) (.string (markT (k0 + 1)))).set (j * 4 + 2) (.int .i64 (k0 + 2)))[j * 4 + 3]? = some kv := by
      rw [List.getElem?_set_ne (by omega), List.getElem?_set_ne (by omega), List.getElem?_set_ne (by omega)]; exact g1
    have ld : aLd1 h5 (ptr r (j * 4 + 3)) = some kv := q5.row.ld1 hkv
    have kid := fun L (kv : Value) (z : KidR b B h kv L) => (((z.keep f2).ext x3).keep f4).keep f5
    obtain ⟨id, ys, z1, z2, z3, z4, z5⟩ := kid _ _ g2
    obtain ⟨h6, ys', c6, x6, k6, q6, l6, m6, s6⟩ := l34 (d := d) hd (b := b) (k0 := k0 + 3) z4 (by rw [z3]; exact hok.2) (by omega) (by omega) z2
    rw [z3, ← z1] at c6
    have U6 : Up B h h6 := u2.trans ((Up.ext x3).trans (u4.trans (u5.trans (Up.kr k6 z5))))
    have E6 : Ext b h h6 := x2.trans ((x3.mono (by omega)).trans (x4.trans (x5.trans x6)))
    have n6 : NodesR b B h6 r rn ns (j + 1) (((cells.set (j * 4) (Value.int .i64 k0)).set (j * 4 + 1) (.string (markT (k0 + 1)))).set (j * 4 + 2) (.int .i64 (k0 + 2))) := by
      refine ⟨q5.keep k6 (.inl (by decide)), o2, o3, by simp; exact o4, fun i n hi hn' => ?_⟩
      obtain ⟨kv', y1, y2⟩ := o5 i n (by omega) hn'
      refine ⟨kv', by rw [List.getElem?_set_ne (by omega), List.getElem?_set_ne (by omega), List.getElem?_set_ne (by omega)]; exact y1, ?_⟩
      obtain ⟨id', zs, v1, v2, v3, v4, v5⟩ := kid _ _ y2
      by_cases he : id' = id
      · subst he
        have hlen' : ys'.length = zs.length := by
          obtain ⟨ep, v2'⟩ := v2
          obtain ⟨ep', z2'⟩ := z2
          have := congrArg AObj.cells (Option.some.inj (v2'.symm.trans z2'))
          simp only at this
          have := congrArg List.length this
          simp [ints] at this
          omega
        exact ⟨id', ys', v1, q6, by omega, v4, v5⟩
      · exact ⟨id', zs, v1, v2.keep k6 (.inr he), v3, v4, v5⟩
    have wj : IntKind.i64.wrap ((j : Int) + 1) = ((j + 1 : Nat) : Int) := by rw [wr (by omega) (by omega)]; omega
    obtain ⟨h7, k1, c7, b7, x7, u7⟩ := ih (j + 1) m (k0 + 3 + ns[j].ks.length) _ h6 (by omega) (by omega) (by omega) (by omega) (by have := hok.2; omega) (by omega) (by omega) n6
    refine ⟨h7, k1, ?_, b7, E6.trans x7, U6.trans u7⟩
    rw [s68_0_eq, hlen, Option.bind_some]
    simp only [asI, if_true, Option.bind_some, decide_eq_true hI, cond_true, hix, aOff_ptr, Nat.add_zero, t2, w1]
    rw [c3, Option.bind_some]
    simp only [asS, Option.bind_some, t4, w2, t5, ld, w3]
    rw [c6, Option.bind_some]
    simp only [asI, if_true, Option.bind_some, wj]
    exact c7
end Go.Proofs.Ytadmoackacickaa
/- FnExactSizesOf, as the small evaluator runs it. -/
set_option linter.unusedSimpArgs false
namespace Go.Proofs.Ytadmoackacickaa
open Go Go.AH

theorem NodesR.ext {b B : Nat} {h h' : AHeap} {r rn j : Nat} {ns : List Kn} {cells : List Value} (x : NodesR b B h r rn ns j cells) (e : Ext h.size h h') : NodesR b B h' r rn ns j cells :=
  ⟨x.1.keep (Kr.ext e (root := rn + 1)) (.inr (by omega)), x.2.1, x.2.2.1, x.2.2.2.1, fun i n hi hn => let ⟨kv, a, c⟩ := x.2.2.2.2 i n hi hn; ⟨kv, a, c.ext e⟩⟩
theorem KOwn.nodes {b : Nat} {h : AHeap} {v : Value} {ns : List Kn} (x : KOwn b h v ns) : ∃ r rn cells, v = slc r 0 ns.length ∧ NodesR b h.size h r rn ns 0 cells := by
  obtain ⟨r, cells, h1, h2, h3, h4⟩ := x
  obtain ⟨rn, ep, z1, z2⟩ := h2
  have hz := at?_obj z1
  refine ⟨r, rn, cells, h1, ⟨ep, z1⟩, z2, Nat.lt_of_le_of_lt hz.2.2.1 hz.2.1, h3, fun i n _ hn => ?_⟩
  obtain ⟨kv, a, id, c1, ⟨rt, ep', c2, c3⟩, c4⟩ := h4 i n (List.getElem?_eq_some_iff.1 hn).1 hn
  have hc := at?_obj c2
  have e : rt = id := Nat.le_antisymm hc.2.2.1 c3
  subst e
  exact ⟨kv, drop_take_get (c := 3) a (by omega), rt, n.ks, c1, ⟨ep', c2⟩, rfl, c4, hc.2.1⟩
theorem l33 {d b B c r rn : Nat} (hd : 1048577 < d) {ns : List Kn} {top : Int} {cells : List Value} {h : AHeap} (x : KSl c h (slc r 0 ns.length) ns) (hb : b ≤ h.size) (hB : B ≤ h.size) (hl : ns.length ≤ 1048576) (hN : ∀ n ∈ ns, n.t.size ≤ 1048576 ∧ n.ks.length ≤ 1048576) (o : NodesR b B h r rn ns 0 cells) :
    ∃ h' k1, call Try.prog Ms (d + 3) 33 [trVal (slc r 0 ns.length) top, .int .i64 1] h = some (.int .i64 k1, h') ∧ 0 ≤ k1 ∧ Ext b h h' ∧ Up B h h' := by
  have e1 := Ext.new (Nat.le_refl h.size) 35 [slc r 0 ns.length, .int .i64 top]
  have r1 := (Own.new (b := h.size) (Nat.le_refl _) 35 [slc r 0 ns.length, .int .i64 top]).row
  have s1 : (h.new 35 [slc r 0 ns.length, .int .i64 top]).size = h.size + 1 := rfl
  rw [c33, e33, tr_aCells x, Option.bind_some]
  simp only [aNew]
  have o1 := o.ext e1
  generalize h.new 35 [slc r 0 ns.length, .int .i64 top] = h1 at e1 r1 s1 o1 ⊢
  obtain ⟨a0, _, _⟩ := ld2 r1
  obtain ⟨h2, k1, c2, b2, x2, u2⟩ := mark_nodes hd hl hN ns.length 0 (d + 1) 1 cells h1 (by omega) (by omega) (by omega) (by omega) (by omega) (by omega) (by omega) o1
  have c2' : call Try.prog Ms (d + 2) 68 [slc r 0 ns.length, .int .i64 1] h1 = some (.int .i64 k1, h2) := by
    have hcall : call Try.prog Ms (d + 2) 68 [slc r 0 ns.length, .int .i64 1] h1 = evFn hk0 Try.prog (call Try.prog Ms (d + 1)) M68 (d + 1) Try.f68 [slc r 0 ns.length, .int .i64 1] h1 := c68 (d + 1) _ _
    rw [hcall, e68]
    exact c2
  refine ⟨h2, k1, ?_, b2, (e1.mono hb).trans x2, (Up.ext e1).trans u2⟩
  simp only [aOff_ptr, Nat.zero_add, Option.bind_some, a0]
  rw [c2', Option.bind_some]
  simp only [asI, if_true, Option.bind_some]
theorem g7_1 {d c p2 : Nat} (hd : 1048577 < d) {nv wv : Value} {T : List Kn} {top : Int} {S ys : List Int} {gi rt bg : Nat} {h : AHeap} (hS : S = sizesP T top) (hSl : S.length ≤ 1048576) (hT : T.length ≤ 1048576) (hK : ∀ n ∈ T, n.t.size ≤ 1048576 ∧ n.ks.length ≤ 1048576)
    (x : KSl c h nv T) (hcb : c ≤ bg) (hb : bg ≤ h.size) (rp : Row h p2 [nv, .int .i64 top]) (hp : p2 < bg) (w : ISl bg h wv S) (g : OwnR h gi rt 3 (ints ys)) (hg : bg ≤ rt) (hys : ys.length = S.length) :
    ∃ h', s7_1 hk0 (call Try.prog Ms (d + 3010 + 10)) (d + 3010 + 10) (ptr p2 0) wv (slc gi 0 S.length) h = some (.bool true, h') := by
  obtain ⟨h2, zs, c2, x2, k2, g2, l2, m2, s2⟩ := l34 (d := d + 3010 + 9) (by omega) (k0 := 1) hg (by omega) (by omega) (by omega) g
  rw [hys] at c2
  have c2' : call Try.prog Ms (d + 3010 + 10) 34 [slc gi 0 S.length, .int .i64 1] h = _ := c2
  have hz : zs.length = S.length := by omega
  have glt := g2.lt
  have gI : ∀ hh, OwnR hh gi rt 3 (ints zs) → ISl (gi + 1) hh (slc gi 0 S.length) zs := fun hh o => by
    obtain ⟨ep, a⟩ := o
    exact .inr (.inr ⟨gi, _, by rw [hz], a, rfl, rfl, by omega⟩)
  have c3 := l35 (d := d + 3010 + 9) (by omega) (k0 := 1) (by omega) (by omega) (by omega) (gI h2 g2) m2
  have c3' : call Try.prog Ms (d + 3010 + 10) 35 [slc gi 0 S.length, .int .i64 1] h2 = _ := c3
  have r2 := rp.ext x2 hp
  have xx2 := x.ext (x2.mono hcb)
  obtain ⟨_, _, aN⟩ := ld2 r2
  have aN' : aLdN h2 (ptr p2 0) 2 = some (trVal nv top) := aN
  obtain ⟨nd, h4, c4, x4, k4⟩ := l21 (d := d + 3010 + 6) (by omega) (top := top) xx2 (by omega) hT hK
  have c4' : call Try.prog Ms (d + 3010 + 10) 21 [trVal nv top] h2 = _ := c4
  have s4 := x4.size
  obtain ⟨gv, h5, c5, x5, i5⟩ := l31 hd (top := top) k4.ksl (Nat.le_refl _) hT hK
  have s5 := x5.size
  have E : Ext bg h h5 := x2.trans ((x4.mono (by omega)).trans (x5.mono (by omega)))
  have w5 := w.ext E
  rw [← hS] at i5
  have c6 := l32 (d := d + 3010 + 9) (by omega) hSl i5.isl w5
  have c6' : call Try.prog Ms (d + 3010 + 10) 32 [gv, wv] h5 = _ := c6
  have g5 := (g2.keep (Kr.ext x4 (root := rt + 1)) (.inr (by omega))).keep (Kr.ext x5 (root := rt + 1)) (.inr (by omega))
  have c7 := l35 (d := d + 3010 + 9) (by omega) (k0 := 1) (by omega) (by omega) (by omega) (gI h5 g5) m2
  have c7' : call Try.prog Ms (d + 3010 + 10) 35 [slc gi 0 S.length, .int .i64 1] h5 = _ := c7
  rw [hz] at c3' c7'
  have hneg : decide ((1 : Int) + (S.length : Int) < 0) = false := by simp; omega
  refine ⟨h5, ?_⟩
  rw [s7_1_j, s7_1_eq, c2', Option.bind_some]
  simp only [asI, if_true, Option.bind_some]
  rw [c3', Option.bind_some]
  simp only [asI, if_true, Option.bind_some, hneg, cond_false]
  rw [bne_self_eq_false, cond_false, aN', Option.bind_some, c4', Option.bind_some, c5, Option.bind_some, c6', Option.bind_some]
  simp only [asB, Option.bind_some, Bool.not_true, cond_false]
  rw [c7', Option.bind_some]
  simp only [asI, if_true, Option.bind_some, hneg, cond_false]
  rw [bne_self_eq_false, cond_false]
theorem l7 {d : Nat} (hd : 1048577 < d) {nv : Value} {T : List Kn} {top : Int} {h : AHeap} (x : KSl h.size h nv T) (hb : T.length ≤ bigT) (hN : ∀ n ∈ T, okK n) :
    ∃ h', call Try.prog Ms (d + 3010 + 11) 7 [trVal nv top] h = some (.bool true, h') := by
  have e1 := Ext.new (Nat.le_refl h.size) 30 [nv, .int .i64 top]
  have r1 := (Own.new (b := h.size) (Nat.le_refl _) 30 [nv, .int .i64 top]).row
  have s1 : (h.new 30 [nv, .int .i64 top]).size = h.size + 1 := rfl
  have hcall : call Try.prog Ms (d + 3010 + 11) 7 [trVal nv top] h = evFn hk0 Try.prog (call Try.prog Ms (d + 3010 + 10)) M7 (d + 3010 + 10) Try.f7 [trVal nv top] h := c7 (d + 3010 + 10) _ _
  rw [hcall, e7, tr_aCells x, Option.bind_some]
  simp only [aNew]
  have x1 := (x.ext e1).mono (show h.size ≤ (h.new 30 [nv, .int .i64 top]).size by omega)
  generalize h.new 30 [nv, .int .i64 top] = h1 at e1 r1 s1 x1 ⊢
  obtain ⟨_, _, aN⟩ := ld2 r1
  have aN' : aLdN h1 (ptr h.size 0) 2 = some (trVal nv top) := aN
  obtain ⟨h2, c2, e2⟩ := l19 (d := d + 3010 + 6) (by omega) (top := top) x1 (Nat.le_refl _) hN hb
  have c2' : call Try.prog Ms (d + 3010 + 10) 19 [trVal nv top, .int .i64 1048576] h1 = _ := c2
  rw [aN', Option.bind_some, c2', Option.bind_some]
  simp only [asI, if_true, Option.bind_some]
  by_cases hs : szT T 1048576 < 0
  · rw [if_pos hs, decide_eq_true (show (-1 : Int) < 0 by decide), cond_true]; exact ⟨h2, rfl⟩
  rw [if_neg hs, decide_eq_false hs, cond_false]
  obtain ⟨hT, hK⟩ := szT_ok (ns := T) (by omega)
  have s2 := e2.size
  have r2 := r1.ext e2 (by omega)
  have x2 := (x1.ext e2).mono s2
  obtain ⟨_, _, b2⟩ := ld2 r2
  have b2' : aLdN h2 (ptr h.size 0) 2 = some (trVal nv top) := b2
  obtain ⟨na, h3, c3, e3, k3⟩ := l21 (d := d + 3010 + 6) (by omega) (top := top) x2 (Nat.le_refl _) hT hK
  have c3' : call Try.prog Ms (d + 3010 + 10) 21 [trVal nv top] h2 = _ := c3
  have s3 := e3.size
  obtain ⟨wv, h4, c4', e4, i4⟩ := l30 (d := d + 1) (by omega) (top := top) k3.ksl (Nat.le_refl _) hT hK
  rw [show d + 1 + 3010 + 9 = d + 3010 + 10 by omega] at c4'
  have s4 := e4.size
  have r4 := (r2.ext e3 (by omega)).ext e4 (by omega)
  obtain ⟨_, _, d4⟩ := ld2 r4
  have d4' : aLdN h4 (ptr h.size 0) 2 = some (trVal nv top) := d4
  have x4 := (((x2.ext e3).mono s3).ext e4).mono s4
  have hSl : (sizesP T top).length ≤ 1048576 := by
    unfold sizesP
    split
    · exact Nat.le_trans (szFrom_len _ _ _) hT
    · exact Nat.zero_le _
  have w4 : ISl h4.size h4 wv (sizesP T top) := i4.isl
  rw [b2', Option.bind_some, c3', Option.bind_some, c4', Option.bind_some, d4', Option.bind_some]
  obtain ⟨nb, h5, c5, e5, k5⟩ := l21 (d := d + 3010 + 6) (by omega) (top := top) x4 (Nat.le_refl _) hT hK
  have c5' : call Try.prog Ms (d + 3010 + 10) 21 [trVal nv top] h4 = _ := c5
  have s5 := e5.size
  rw [c5', Option.bind_some]
  have e6 := Ext.new (Nat.le_refl h5.size) 35 [.slice none 0 0, .int .i64 0]
  have o6 := Own.new (Nat.le_refl h5.size) 35 [.slice none 0 0, .int .i64 0]
  have s6 : (h5.new 35 [.slice none 0 0, .int .i64 0]).size = h5.size + 1 := rfl
  have k6 := k5.ext e6
  generalize h5.new 35 [.slice none 0 0, .int .i64 0] = h6 at e6 o6 s6 k6 ⊢
  obtain ⟨h7, t7, e7', o7, s7, q7⟩ := Own.stX o6 (off := 0) (n := 2) (v := trVal nb top) (tr_aCells k6.ksl top) rfl (by show 0 + 2 ≤ 2; omega)
  have k7 := k6.keep (e := 35) (by decide) (by decide) q7
  have r7 : Row h7 h5.size [nb, .int .i64 top] := o7.row
  obtain ⟨_, _, a7⟩ := ld2 r7
  have a7' : aLdN h7 (ptr h5.size 0) 2 = some (trVal nb top) := a7
  obtain ⟨rb, rn, cells, hnb, n7⟩ := k7.nodes
  obtain ⟨gv, h8, c8, e8, i8⟩ := l31 hd (top := top) k7.ksl (Nat.le_refl _) hT hK
  have s8 := e8.size
  have E57 : Ext h5.size h5 h7 := e6.trans e7'
  have E48 : Ext h4.size h4 h8 := e5.trans ((E57.mono s5).trans (e8.mono (by omega)))
  have w8 := w4.ext E48
  have cc8 := l32 (d := d + 3010 + 9) (by omega) hSl i8.isl w8
  have cc8' : call Try.prog Ms (d + 3010 + 10) 32 [gv, wv] h8 = _ := cc8
  have r8 := r7.ext e8 (by omega)
  obtain ⟨_, _, a8⟩ := ld2 r8
  have a8' : aLdN h8 (ptr h5.size 0) 2 = some (trVal nb top) := a8
  have r18 := r4.ext E48 (by omega)
  obtain ⟨_, _, d8⟩ := ld2 r18
  have d8' : aLdN h8 (ptr h.size 0) 2 = some (trVal nv top) := d8
  have x8 : KSl h4.size h8 nv T := x4.ext E48
  have k8 := k7.ext e8
  obtain ⟨nc, h9, c9, e9, k9⟩ := l21 (d := d + 3010 + 6) (by omega) (top := top) x8 (by omega) hT hK
  have c9' : call Try.prog Ms (d + 3010 + 10) 21 [trVal nv top] h8 = _ := c9
  have s9 := e9.size
  have r9 := r8.ext e9 (by omega)
  obtain ⟨_, _, a9⟩ := ld2 r9
  have a9' : aLdN h9 (ptr h5.size 0) 2 = some (trVal nb top) := a9
  obtain ⟨h10, c10, e10⟩ := l23 (d := d + 3010 + 6) (by omega) (top := top) (k8.ext e9).ksl k9.ksl (Nat.le_refl _) hT hK
  have c10' : call Try.prog Ms (d + 3010 + 10) 23 [trVal nb top, trVal nc top] h9 = _ := c10
  have s10 := e10.size
  have r10 := r9.ext e10 (by omega)
  obtain ⟨_, _, a10⟩ := ld2 r10
  have a10' : aLdN h10 (ptr h5.size 0) 2 = some (trVal nb top) := a10
  have n10 := ((n7.ext e8).ext e9).ext e10
  have kk10 := ((k8.ext e9).ext e10).ksl
  rw [hnb] at kk10
  obtain ⟨h11, k1, c11, b11, e11, u11⟩ := l33 (d := d + 3010 + 7) (by omega) (top := top) kk10 (by omega) (by omega) hT hK n10
  rw [← hnb] at c11
  have c11' : call Try.prog Ms (d + 3010 + 10) 33 [trVal nb top, .int .i64 1] h10 = _ := c11
  have E411 : Ext h4.size h4 h11 := E48.trans ((e9.mono (by omega)).trans ((e10.mono (by omega)).trans e11))
  obtain ⟨gi, hgv, gr, gep, ga, gb⟩ := (i8.ext e9).ext e10
  have g11 : OwnR h11 gi gr 3 (ints (sizesP T top)) := ⟨gep, u11 gi _ ga gb⟩
  have gI : ISl h11.size h11 gv (sizesP T top) := by
    obtain ⟨ep, a⟩ := g11
    exact .inr (.inr ⟨gi, _, hgv, a, rfl, rfl, (at?_obj a).2.1⟩)
  have w11 := w4.ext E411
  have cc11 := l32 (d := d + 3010 + 9) (by omega) hSl gI w11
  have cc11' : call Try.prog Ms (d + 3010 + 10) 32 [gv, wv] h11 = _ := cc11
  have r11 := r4.ext E411 (by omega)
  obtain ⟨h12, c12⟩ := g7_1 hd (bg := h4.size) rfl hSl hT hK (x4.ext E411) (Nat.le_refl _) E411.size r11 (by omega) w11 g11 (by omega) rfl
  rw [← hgv] at c12
  refine ⟨h12, ?_⟩
  have hneg : decide (k1 < 0) = false := by simp; omega
  rw [t7, Option.bind_some, a7', Option.bind_some, c8, Option.bind_some, cc8', Option.bind_some]
  simp only [asB, Option.bind_some, Bool.not_true, cond_false]
  rw [a8', Option.bind_some, d8', Option.bind_some, c9', Option.bind_some]
  simp only [a9', Option.bind_some, tr_vbeq (k8.ext e9).ksl, cond_true]
  rw [c10', Option.bind_some]
  simp only [asB, Option.bind_some, Bool.not_true, cond_false]
  rw [a10', Option.bind_some, c11', Option.bind_some]
  simp only [asI, if_true, Option.bind_some, hneg, cond_false]
  rw [cc11', Option.bind_some]
  change (Option.some true).bind (fun b30 => s7_0 hk0 (call Try.prog Ms (d + 3010 + 10)) (d + 3010 + 10) (ptr h.size 0) wv gv (!b30) h11) = _
  rw [Option.bind_some, Bool.not_true, s7_0_j, s7_0_eq, cond_false, c12]
end Go.Proofs.Ytadmoackacickaa
/- Fold: marks on nodes, and that they hold. -/
set_option linter.unusedSimpArgs false
namespace Go.Proofs.Ytadmoackacickaa
open Go Go.AH

def kL (ns : List Kn) (i : Nat) : Nat := ((ns[i]?.map fun n => n.ks.length)).getD 0
/-- The mark that a node begins with. -/
def fM (ns : List Kn) : Nat → Int
  | 0 => 1
  | i + 1 => fM ns i + 3 + (kL ns i : Int)
theorem kL_get {ns : List Kn} {i : Nat} {n : Kn} (h : ns[i]? = some n) : kL ns i = n.ks.length := by unfold kL; rw [h]; rfl
theorem fM_le {ns : List Kn} (hk : ∀ n ∈ ns, n.ks.length ≤ 1048576) : ∀ i : Nat, 1 ≤ fM ns i ∧ fM ns i ≤ 1 + (i : Int) * 2000000
  | 0 => ⟨by show (1:Int) ≤ 1; decide, by show (1:Int) ≤ 1 + 0 * 2000000; decide⟩
  | i + 1 => by
    have := fM_le hk i
    have h2 : kL ns i ≤ 1048576 := by
      cases e : ns[i]? with
      | none => unfold kL; rw [e]; exact Nat.zero_le _
      | some n => rw [kL_get e]; exact hk n (List.mem_of_getElem? e)
    rw [fM]; omega
/-- A node that is marked. -/
def MkN (h : AHeap) (cells : List Value) (i : Nat) (f : Int) (L : Nat) (rt : Nat) : Prop := ∃ kv ys, cells[i * 4]? = some (.int .i64 f) ∧ cells[i * 4 + 1]? = some (.string (markT (f + 1))) ∧ cells[i * 4 + 2]? = some (.int .i64 (f + 2)) ∧ cells[i * 4 + 3]? = some kv ∧ KZ h kv ys rt ∧ ys.length = L ∧ Mk (f + 3) ys
theorem MkN.keep {h g : AHeap} {cells : List Value} {i L rt : Nat} {f : Int} (x : MkN h cells i f L rt) (k : ∀ j o, h.at? j = some o → o.elem = 3 → o.root = rt → g.at? j = some o) : MkN g cells i f L rt := by
  obtain ⟨kv, ys, a, b, c, d, e, f⟩ := x
  exact ⟨kv, ys, a, b, c, d, e.keep k, f⟩
theorem MkN.set {h : AHeap} {cells : List Value} {i L rt q : Nat} {f : Int} {v : Value} (x : MkN h cells i f L rt) (hq : i * 4 + 4 ≤ q) : MkN h (cells.set q v) i f L rt := by
  obtain ⟨kv, ys, a, b, c, d, e⟩ := x
  refine ⟨kv, ys, ?_, ?_, ?_, ?_, e⟩ <;> rw [List.getElem?_set_ne (by omega)] <;> assumption
/-- Nodes, the first j of them marked. -/
def MS (h : AHeap) (r rn : Nat) (ns : List Kn) (rts : List Nat) (j : Nat) (cells : List Value) : Prop :=
  OwnR h r rn 73 cells ∧ ns.length * 4 ≤ cells.length ∧ (∀ i n, ns[i]? = some n → i < j → MkN h cells i (fM ns i) n.ks.length (rts.getD i 0)) ∧
    (∀ i n, ns[i]? = some n → j ≤ i → ∃ kv, cells[i * 4 + 3]? = some kv ∧ KZ h kv n.ks (rts.getD i 0))
theorem l34n {d : Nat} (hd : 0 < d) (k0 : Int) (h : AHeap) : call Try.prog Ms (d + 1) 34 [.slice none 0 0, .int .i64 k0] h = some (.int .i64 k0, h) := by
  obtain ⟨d, rfl⟩ : ∃ q, d = q + 1 := ⟨d - 1, by omega⟩
  rw [c34, e34, s34_0_eq]
  exact eb rfl (eb rfl (ecf rfl rfl))
theorem markF {d b r rn : Nat} (hd : 1048577 < d) {ns : List Kn} {rts : List Nat} (hl : ns.length ≤ 3000) (hk : ∀ n ∈ ns, n.ks.length ≤ 1048576) (hrl : rts.length = ns.length) (hnd : rts.Nodup) (hrb : ∀ q ∈ rts, b ≤ q) (hrn : b ≤ rn) :
    ∀ (k j m : Nat) (cells : List Value) (h : AHeap), ns.length - j = k → j ≤ ns.length → k < m → b ≤ h.size → MS h r rn ns rts j cells →
      ∃ g cells', s68_0 hk0 (call Try.prog Ms (d + 1)) (d + 1) m (slc r 0 ns.length) (fM ns j) (j : Int) h = some (.int .i64 (fM ns ns.length), g) ∧ Ext b h g ∧ MS g r rn ns rts ns.length cells' ∧ ∀ j o, h.at? j = some o → o.elem ≠ 73 → o.elem ≠ 3 → g.at? j = some o := by
  intro k
  induction k with
  | zero =>
    intro j m cells h hk' hj hm hb o
    obtain ⟨m, rfl⟩ : ∃ q, m = q + 1 := ⟨m - 1, by omega⟩
    have hjl : j = ns.length := by omega
    subst hjl
    refine ⟨h, cells, ?_, Ext.refl _ _, o, fun _ _ a _ _ => a⟩
    rw [s68_0_eq]
    exact eb rfl (eb rfl (ecf (decide_eq_false (by omega)) rfl))
  | succ k ih =>
    intro j m cells h hk' hj hm hb o
    obtain ⟨m, rfl⟩ : ∃ q, m = q + 1 := ⟨m - 1, by omega⟩
    have hlt : j < ns.length := by omega
    have hn : ns[j]? = some ns[j] := by simp [hlt]
    have hkj := hk ns[j] (List.getElem_mem hlt)
    have fb := fM_le hk j
    have hix : aIdx (slc r 0 ns.length) (.int .i64 (j : Int)) 4 = some (ptr r (j * 4)) := by simp [aIdx, slc, hlt]
    have wj : IntKind.i64.wrap ((j : Int) + 1) = ((j + 1 : Nat) : Int) := by rw [wr (by omega) (by omega)]; omega
    generalize hf : fM ns j = f at fb ⊢
    have w1 : IntKind.i64.wrap (f + 1) = f + 1 := wr (by omega) (by omega)
    have w2 : IntKind.i64.wrap (f + 1 + 1) = f + 2 := by rw [wr (by omega) (by omega)]; omega
    have w3 : IntKind.i64.wrap (f + 2 + 1) = f + 3 := by rw [wr (by omega) (by omega)]; omega
    obtain ⟨o1, o2, o3, o4⟩ := o
    obtain ⟨kv, g1, g2⟩ := o4 j _ hn (Nat.le_refl _)
    obtain ⟨h2, t2, x2, k2, q2, s2⟩ := stOwn o1 hrn (j := j * 4) (v := .int .i64 f) (by omega) rfl
    obtain ⟨h3, t3, x3⟩ := l55 (d := d) (by omega) (x := f + 1) (Int.lt_of_le_of_lt (b := 100000000000) (by omega) (by decide)) h2
    obtain ⟨h4, t4, x4, k4, q4, s4⟩ := stOwn (q2.ext x3) hrn (j := j * 4 + 1) (v := .string (markT (f + 1))) (by simp; omega) rfl
    obtain ⟨h5, t5, x5, k5, q5, s5⟩ := stOwn q4 hrn (j := j * 4 + 2) (v := .int .i64 (f + 2)) (by simp; omega) rfl
    have s3 := x3.size
    have X5 : Ext b h h5 := ((x2.trans (x3.mono (by omega))).trans x4).trans x5
    have kz5 : ∀ {kv ks rt}, KZ h kv ks rt → KZ h5 kv ks rt := fun z => (((z.keep (g := h2) fun j o a he _ => k2 j o a (.inl (by rw [he]; decide))).keep (g := h3) fun j o a _ _ => x3.at? (at?_obj a).2.1 a).keep (g := h4) fun j o a he _ => k4 j o a (.inl (by rw [he]; decide))).keep fun j o a he _ => k5 j o a (.inl (by rw [he]; decide))
    generalize hc5 : ((cells.set (j * 4) (.int .i64 f)).set (j * 4 + 1) (.string (markT (f + 1)))).set (j * 4 + 2) (.int .i64 (f + 2)) = cells5 at q5
    have l5 : cells5.length = cells.length := by rw [← hc5]; simp
    have c0 : cells5[j * 4]? = some (.int .i64 f) := by rw [← hc5]; simp [List.getElem?_set] <;> omega
    have c1 : cells5[j * 4 + 1]? = some (.string (markT (f + 1))) := by rw [← hc5]; simp [List.getElem?_set] <;> omega
    have c2 : cells5[j * 4 + 2]? = some (.int .i64 (f + 2)) := by rw [← hc5]; simp [List.getElem?_set] <;> omega
    have c3 : cells5[j * 4 + 3]? = some kv := by rw [← hc5]; simp [List.getElem?_set, g1]
    have far : ∀ q, (q < j * 4 ∨ j * 4 + 3 ≤ q) → cells5[q]? = cells[q]? := fun q hq => by
      rw [← hc5, List.getElem?_set_ne (by omega), List.getElem?_set_ne (by omega), List.getElem?_set_ne (by omega)]
    have hrtj : rts.getD j 0 ∈ rts := getD_mem (by omega)
    -- the kids
    obtain ⟨h6, ys, t6, x6, k6, z6, l6, m6⟩ : ∃ h6 ys, call Try.prog Ms (d + 1) 34 [kv, .int .i64 (f + 3)] h5 = some (.int .i64 (f + 3 + (ns[j].ks.length : Int)), h6) ∧ Ext b h5 h6 ∧ (∀ q o, h5.at? q = some o → (o.elem ≠ 3 ∨ o.root ≠ rts.getD j 0) → h6.at? q = some o) ∧ KZ h6 kv ys (rts.getD j 0) ∧ ys.length = ns[j].ks.length ∧ Mk (f + 3) ys := by
      rcases kz5 g2 with ⟨e1, e2⟩ | ⟨id, e1, e2⟩
      · refine ⟨h5, [], ?_, Ext.refl _ _, fun _ _ a _ => a, .inl ⟨e1, rfl⟩, by rw [e2], fun i hi => absurd hi (Nat.not_lt_zero _)⟩
        rw [e1, e2, l34n (by omega)]; simp
      · obtain ⟨h6, ys, a, b1, c, d1, e, f1, _⟩ := l34 (d := d) hd (k0 := f + 3) (hrb _ hrtj) (by omega) (by omega) (by omega) e2
        refine ⟨h6, ys, by rw [e1]; exact a, b1, c, .inr ⟨id, by rw [e1, e], d1⟩, e, f1⟩
    have nz : ∀ i, i < ns.length → i ≠ j → rts.getD i 0 ≠ rts.getD j 0 := fun i hi hij e => by
      have hi' : i < rts.length := by omega
      have hj' : j < rts.length := by omega
      have ei : rts.getD i 0 = rts[i] := by simp [hi']
      have ej : rts.getD j 0 = rts[j] := by simp [hj']
      rw [ei, ej] at e
      have pw := List.pairwise_iff_getElem.1 hnd
      rcases Nat.lt_or_gt_of_ne hij with h | h
      · exact pw i j hi' hj' h e
      · exact pw j i hj' hi' h e.symm
    have ms : MS h6 r rn ns rts (j + 1) cells5 := by
      refine ⟨let ⟨ep, a⟩ := q5; ⟨ep, k6 r _ a (.inl (show (73 : TypeId) ≠ 3 by decide))⟩, by omega, fun i n hi hij => ?_, fun i n hi hij => ?_⟩
      · have hil : i < ns.length := (List.getElem?_eq_some_iff.1 hi).1
        by_cases hj' : i = j
        · subst hj'
          rw [hn] at hi
          cases hi
          rw [hf]
          exact ⟨kv, ys, c0, c1, c2, c3, z6, l6, m6⟩
        · obtain ⟨kv', ys', a0, a1, a2, a3, a4, a5⟩ := o3 i n hi (by omega)
          refine ⟨kv', ys', ?_, ?_, ?_, ?_, (kz5 a4).keep fun q o a he hr => k6 q o a (.inr (by rw [hr]; exact nz i hil hj')), a5⟩ <;> rw [far _ (by omega)] <;> assumption
      · have hil : i < ns.length := (List.getElem?_eq_some_iff.1 hi).1
        obtain ⟨kv', a0, a1⟩ := o4 i n hi (by omega)
        exact ⟨kv', by rw [far _ (by omega)]; exact a0, (kz5 a1).keep fun q o a he hr => k6 q o a (.inr (by rw [hr]; exact nz i hil (by omega)))⟩
    have hfn : fM ns (j + 1) = f + 3 + (ns[j].ks.length : Int) := by rw [fM, kL_get hn, hf]
    have s6 := x6.size
    obtain ⟨g, cells', t7, x7, m7, u7⟩ := ih (j + 1) m cells5 h6 (by omega) (by omega) (by omega) (by omega) ms
    refine ⟨g, cells', ?_, (X5.trans x6).trans x7, m7, fun q o a e1 e2 => u7 q o (k6 q o (k5 q o (k4 q o (x3.at? (by have := (at?_obj a).2.1; omega) (k2 q o a (.inl e1))) (.inl e1)) (.inl e1)) (.inl e2)) e1 e2⟩
    rw [hfn] at t7
    rw [s68_0_eq]
    refine eb rfl (eb rfl (ect (decide_eq_true (by omega)) (eb hix (eb rfl (eb t2 ?_)))))
    rw [w1]
    refine eb t3 (eb rfl (eb hix (eb rfl (eb t4 (eb hix (eb rfl ?_))))))
    rw [w2]
    refine eb t5 (eb hix (eb rfl (eb (q5.row.ld1 c3) ?_)))
    rw [w3]
    refine eb t6 (eb rfl ?_)
    rw [wj]; exact t7
/-- Marks that hold. -/
def Hd (h : AHeap) (v : Value) (ns : List Kn) : Prop := (v = .slice none 0 0 ∧ ns = []) ∨ ∃ r rn rts cells, v = slc r 0 ns.length ∧ MS h r rn ns rts ns.length cells
theorem Hd.ext {h g : AHeap} {v : Value} {ns : List Kn} (x : Hd h v ns) (e : Ext h.size h g) : Hd g v ns := by
  rcases x with x | ⟨r, rn, rts, cells, h1, h2, h3, h4, h5⟩
  · exact .inl x
  · exact .inr ⟨r, rn, rts, cells, h1, h2.ext e, h3, fun i n hi hj => (h4 i n hi hj).keep fun j o a _ _ => e.at? (at?_obj a).2.1 a, fun i n hi hj => absurd (List.getElem?_eq_some_iff.1 hi).1 (by omega)⟩
theorem l33F {d b p : Nat} (hd : 1048577 < d) {v : Value} {ns : List Kn} {rts : List Nat} {rn : Nat} {tp : Int} {h : AHeap} (x : NS b p h v ns rts rn) (hb : b ≤ h.size) (hl : ns.length ≤ 3000) (hk : ∀ n ∈ ns, n.ks.length ≤ 1048576) :
    ∃ g, call Try.prog Ms (d + 3) 33 [trVal v tp, .int .i64 1] h = some (.int .i64 (fM ns ns.length), g) ∧ Ext b h g ∧ Hd g v ns ∧ ∀ j o, h.at? j = some o → o.elem ≠ 73 → o.elem ≠ 3 → g.at? j = some o := by
  have e1 := Ext.new (Nat.le_refl h.size) 35 [v, .int .i64 tp]
  have r1 := RowE.new h 35 [v, .int .i64 tp]
  have x1 := x.ext e1
  have s1 : (h.new 35 [v, .int .i64 tp]).size = h.size + 1 := rfl
  rw [c33, e33, tv_cells x.cell tp, Option.bind_some]
  simp only [aNew]
  suffices S : ∃ g, call Try.prog Ms (d + 2) 68 [v, .int .i64 1] (h.new 35 [v, .int .i64 tp]) = some (.int .i64 (fM ns ns.length), g) ∧ Ext b (h.new 35 [v, .int .i64 tp]) g ∧ Hd g v ns ∧ ∀ j o, (h.new 35 [v, .int .i64 tp]).at? j = some o → o.elem ≠ 73 → o.elem ≠ 3 → g.at? j = some o by
    obtain ⟨g, c, e, hh, u⟩ := S
    exact ⟨g, eb rfl (eb (ld2 r1.row).1 (eb c (eb rfl rfl))), (e1.mono hb).trans e, hh, fun j o a => u j o (e1.at? (at?_obj a).2.1 a)⟩
  generalize h.new 35 [v, .int .i64 tp] = h1 at e1 r1 x1 s1 ⊢
  rw [c68, e68]
  rcases x1 with ⟨rfl, rfl, _⟩ | ⟨h1', h2, h3, h4, h5, r, cells, rfl, o, h8, h9⟩
  · refine ⟨h1, ?_, Ext.refl _ _, .inl ⟨rfl, rfl⟩, fun _ _ a _ _ => a⟩
    rw [s68_0_eq]
    exact eb rfl (eb rfl (ecf rfl rfl))
  · have ms : MS h1 r rn ns rts 0 cells := ⟨o, h8, fun i n _ hi => absurd hi (Nat.not_lt_zero _), fun i n hi _ => let ⟨kv, a, z⟩ := h9 i n hi; ⟨kv, (drop4 a).2.2.2, z⟩⟩
    obtain ⟨g, cells', c, e, m, u⟩ := markF (d := d) hd hl hk h3 h4 (fun q hq => (h5 q hq).1) h1' ns.length 0 (d + 1) cells h1 (by omega) (by omega) (by omega) (by omega) ms
    exact ⟨g, c, e, .inr ⟨r, rn, rts, cells', rfl, m⟩, u⟩
theorem l79 {d : Nat} (hd : 1048577 < d) {v : Value} {ns : List Kn} (hl : ns.length ≤ 3000) (hk : ∀ n ∈ ns, n.ks.length ≤ 1048576) : ∀ (k j m : Nat) (h : AHeap), ns.length - j = k → j ≤ ns.length → k < m → Hd h v ns →
    ∃ g, s79_0 hk0 (call Try.prog Ms (d + 1)) (d + 1) m v (fM ns j) (j : Int) h = some (.int .i64 (fM ns ns.length), g) ∧ Ext h.size h g := by
  intro k
  induction k with
  | zero =>
    intro j m h hk' hj hm x
    obtain ⟨m, rfl⟩ : ∃ q, m = q + 1 := ⟨m - 1, by omega⟩
    have hjl : j = ns.length := by omega
    subst hjl
    refine ⟨h, ?_, Ext.refl _ _⟩
    rw [s79_0_eq]
    have hlen : aLen v = some (.int .i64 (ns.length : Int)) := by
      rcases x with ⟨rfl, rfl⟩ | ⟨r, rn, rts, cells, rfl, _⟩ <;> rfl
    exact eb hlen (eb rfl (ecf (decide_eq_false (by omega)) rfl))
  | succ k ih =>
    intro j m h hk' hj hm x
    obtain ⟨m, rfl⟩ : ∃ q, m = q + 1 := ⟨m - 1, by omega⟩
    have hlt : j < ns.length := by omega
    have hn : ns[j]? = some ns[j] := by simp [hlt]
    have fb := fM_le hk j
    have hkj := hk ns[j] (List.getElem_mem hlt)
    rcases x with ⟨rfl, rfl⟩ | ⟨r, rn, rts, cells, rfl, ms⟩
    · simp at hlt
    have hx : Hd h (slc r 0 ns.length) ns := .inr ⟨r, rn, rts, cells, rfl, ms⟩
    obtain ⟨kv, ys, a0, a1, a2, a3, a4, a5, a6⟩ := ms.2.2.1 j _ hn hlt
    have hfn : fM ns (j + 1) = fM ns j + 3 + (ns[j].ks.length : Int) := by rw [fM, kL_get hn]
    generalize fM ns j = f at fb a0 a1 a2 a6 hfn ⊢
    have w1 : IntKind.i64.wrap (f + 1) = f + 1 := wr (by omega) (by omega)
    have w2 : IntKind.i64.wrap (f + 1 + 1) = f + 2 := by rw [wr (by omega) (by omega)]; omega
    have w3 : IntKind.i64.wrap (f + 2 + 1) = f + 3 := by rw [wr (by omega) (by omega)]; omega
    have wj : IntKind.i64.wrap ((j : Int) + 1) = ((j + 1 : Nat) : Int) := by rw [wr (by omega) (by omega)]; omega
    have hix : aIdx (slc r 0 ns.length) (.int .i64 (j : Int)) 4 = some (ptr r (j * 4)) := by simp [aIdx, slc, hlt]
    obtain ⟨h2, c2, x2⟩ := l55 (d := d) (by omega) (x := f + 1) (Int.lt_of_le_of_lt (b := 100000000000) (by omega) (by decide)) h
    have row := ms.1.row
    have row2 := (ms.1.ext x2).row
    have z2 : ISl h2.size h2 kv ys := (a4.keep fun j o a _ _ => x2.at? (at?_obj a).2.1 a).isl
    have c3 := l35 (d := d) hd (k0 := f + 3) (by omega) (by omega) (by omega) z2 a6
    obtain ⟨g, c4, x4⟩ := ih (j + 1) m h2 (by omega) (by omega) (by omega) (hx.ext x2)
    rw [hfn] at c4
    rw [a5] at c3
    refine ⟨g, ?_, Ext.tr x2 x4⟩
    rw [s79_0_eq]
    refine eb rfl (eb rfl (ect (decide_eq_true (by omega)) (eb hix (eb rfl (eb (row.ld1 a0) (eb rfl (ecf (bne_self_eq_false _) (eb hix (eb rfl (eb (row.ld1 a1) (eb rfl ?_)))))))))))
    rw [w1]
    refine eb c2 (eb rfl (eb (ag2s (row2.ld1 a1)) (ect (vbeq_str _) (ecf (by simp) (eb hix (eb rfl (eb (row2.ld1 a2) (eb rfl ?_))))))))
    rw [w2]
    refine ecf (bne_self_eq_false _) (eb hix (eb rfl (eb (row2.ld1 a3) ?_)))
    rw [w3]
    refine eb c3 (eb rfl (ecf (decide_eq_false (by omega)) ?_))
    rw [wj]; exact c4
theorem l44 {d : Nat} (hd : 1048577 < d) {v : Value} {ns : List Kn} {tp : Int} {h : AHeap} (hv : isCell v = true) (hl : ns.length ≤ 3000) (hk : ∀ n ∈ ns, n.ks.length ≤ 1048576) (x : Hd h v ns) :
    ∃ g, call Try.prog Ms (d + 3) 44 [trVal v tp, .int .i64 1] h = some (.int .i64 (fM ns ns.length), g) ∧ Ext h.size h g := by
  have e1 := Ext.new (Nat.le_refl h.size) 35 [v, .int .i64 tp]
  have r1 := RowE.new h 35 [v, .int .i64 tp]
  have fb := fM_le hk ns.length
  obtain ⟨g, c, e⟩ := l79 hd hl hk ns.length 0 (d + 1) _ (by omega) (by omega) (by omega) (x.ext e1)
  refine ⟨g, ?_, Ext.tr e1 e⟩
  rw [c44, e44, tv_cells hv tp, Option.bind_some]
  simp only [aNew]
  have c' : call Try.prog Ms (d + 2) 79 [v, .int .i64 1] (h.new 35 [v, .int .i64 tp]) = some (.int .i64 (fM ns ns.length), g) := by rw [c79, e79]; exact c
  exact eb rfl (eb (ld2 r1.row).1 (eb c' (eb rfl (ecf (decide_eq_false (by omega)) rfl))))
end Go.Proofs.Ytadmoackacickaa
