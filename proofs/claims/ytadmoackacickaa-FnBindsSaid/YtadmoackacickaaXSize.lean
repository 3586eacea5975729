import Derived.Test.YtadmoackacickaaXNest
/- SizesOf: frames; the reference's; impl's loops. -/
set_option linter.unusedSimpArgs false
namespace Go.Proofs.Ytadmoackacickaa
open Go Go.AH

/-- A row that may be written, with its root. -/
def OwnR (h : AHeap) (i root : Nat) (e : TypeId) (cs : List Value) : Prop := ∃ ep, h.at? i = some ⟨root, ep, false, e, cs⟩
/-- All rows are as they were but ints of a root. -/
def Kr (root : Nat) (h h' : AHeap) : Prop := ∀ j o, h.at? j = some o → (o.elem ≠ 3 ∨ o.root ≠ root) → h'.at? j = some o
theorem Kr.refl (root : Nat) (h : AHeap) : Kr root h h := fun _ _ h _ => h
theorem Kr.trans {root : Nat} {h h' h'' : AHeap} (x : Kr root h h') (y : Kr root h' h'') : Kr root h h'' := fun j o a b => y j o (x j o a b) b
theorem Kr.ext {root : Nat} {h h' : AHeap} (x : Ext h.size h h') : Kr root h h' := fun j o a _ => x.at? (at?_obj a).2.1 a
theorem OwnR.own {h : AHeap} {i root b : Nat} {e : TypeId} {cs : List Value} (x : OwnR h i root e cs) (hb : b ≤ root) : Own b h i e cs := let ⟨ep, a⟩ := x; ⟨root, ep, a, hb⟩
theorem OwnR.lt {h : AHeap} {i root : Nat} {e : TypeId} {cs : List Value} (x : OwnR h i root e cs) : root ≤ i ∧ i < h.size := let ⟨_, a⟩ := x; ⟨(at?_obj a).2.2.1, (at?_obj a).2.1⟩
theorem OwnR.keep {h h' : AHeap} {i root rt : Nat} {e : TypeId} {cs : List Value} (x : OwnR h i root e cs) (k : Kr rt h h') (hr : e ≠ 3 ∨ root ≠ rt) : OwnR h' i root e cs := let ⟨ep, a⟩ := x; ⟨ep, k i _ a hr⟩
theorem OwnR.new (h : AHeap) (e : TypeId) (cs : List Value) : OwnR (h.new e cs) h.size h.size e cs := ⟨_, at?_new_same h e cs⟩
theorem OwnR.row {h : AHeap} {i root : Nat} {e : TypeId} {cs : List Value} (x : OwnR h i root e cs) : Row h i cs := let ⟨_, a⟩ := x; ⟨_, a, rfl⟩
theorem RowE.keepR {h h' : AHeap} {i rt : Nat} {e : TypeId} {cs : List Value} (x : RowE h i e cs) (he : e ≠ 3) (k : Kr rt h h') : RowE h' i e cs := let ⟨o, a, b, c⟩ := x; ⟨o, k i o a (.inl (by rw [b]; exact he)), b, c⟩
theorem stR {b : Nat} {h : AHeap} {r rt j : Nat} {ys : List Int} (o : OwnR h r rt 3 (ints ys)) (hb : b ≤ rt) (hj : j < ys.length) (v : Int) :
    ∃ h', aSt h (ptr r j) (.int .i64 v) 1 = some h' ∧ Ext b h h' ∧ Kr rt h h' ∧ OwnR h' r rt 3 (ints (ys.set j v)) ∧ h'.size = h.size := by
  obtain ⟨ep, h1⟩ := o
  have hi := at?_obj h1
  have hfit : j + 1 ≤ (ints ys).length := by simp [ints]; omega
  refine ⟨h.put r ⟨rt, ep, false, 3, ints ys⟩ (splice (ints ys) j [.int .i64 v]), by simp [aSt, ptr, h1, aCells_int, hfit], Ext.put (Nat.le_trans hb hi.2.2.1) hb _, fun k o ho hk => ?_, ⟨h.ep 3 rt + 1, ?_⟩, rfl⟩
  · exact at?_put_other ho (fun e => by subst e; rw [h1] at ho; cases ho; rcases hk with a | a <;> exact a rfl) _ (fun hh => hk.elim (fun a => a hh.1) (fun a => a hh.2))
  · rw [← ints_splice ys hj]; exact at?_put_same h1 _
theorem OwnR.app {b : Nat} {h : AHeap} {i n m esz bytes rt : Nat} {e : TypeId} {cs ms : List Value} {x : Value} (o : OwnR h i rt e cs) (hb : b ≤ rt) (hbs : b ≤ h.size) (hsrc : aSrc h esz x = some (m, ms)) (hn : n * esz = cs.length)
    (h1 : n + m ≤ most) (h2 : (n + m) * bytes ≤ most) :
    ∃ h', aApp h e esz bytes (slc i 0 n) x = some (slc h.size 0 (n + m), h') ∧ Ext b h h' ∧ OwnR h' h.size rt e (cs ++ ms) ∧ h'.size = h.size + 1 ∧ ∀ j o', h.at? j = some o' → (o'.elem ≠ e ∨ o'.root ≠ rt) → h'.at? j = some o' := by
  obtain ⟨ep, ha⟩ := o
  refine ⟨h.app ⟨rt, ep, false, e, cs⟩ (n * esz) (cs ++ ms), ?_, Ext.app hbs hb _ _, ⟨_, at?_app_same ha _ _⟩, rfl, fun j o' ho hk => at?_app_old ho _ (fun hh => hk.elim (fun a => absurd hh.1 a) (fun a => absurd hh.2 a))⟩
  simp [aApp, aAppG, slc, ha, hsrc, hn, h1, h2]
theorem appR {b : Nat} {h : AHeap} {i rt : Nat} {xs : List Int} (o : OwnR h i rt 3 (ints xs)) (hb : b ≤ rt) (hbs : b ≤ h.size) (hl : xs.length ≤ 2000000) (y : Int) :
    ∃ i' h', aApp (h.new 3 [.int .i64 y]) 3 1 8 (slc i 0 xs.length) (slc h.size 0 1) = some (slc i' 0 (xs ++ [y]).length, h') ∧ Ext b h h' ∧ Kr rt h h' ∧ OwnR h' i' rt 3 (ints (xs ++ [y])) := by
  have e := Ext.new (Nat.le_refl h.size) 3 [Value.int .i64 y]
  have w := (Own.new (b := 0) (Nat.zero_le h.size) 3 [Value.int .i64 y]).row
  have hS : (h.new 3 [Value.int .i64 y]).size = h.size + 1 := rfl
  have hsrc : aSrc (h.new 3 [Value.int .i64 y]) 1 (slc h.size 0 1) = some (1, [Value.int .i64 y]) := w.src (n := 1) (esz := 1) (by show 0 + 1 * 1 ≤ 1; omega)
  have o1 := o.keep (Kr.ext e (root := rt + 1)) (.inr (by omega))
  obtain ⟨h', t, x, o', s', k⟩ := o1.app (n := xs.length) (bytes := 8) (esz := 1) hb (by omega) hsrc (by simp [ints]) (by show xs.length + 1 ≤ 140737488355328; omega) (by show (xs.length + 1) * 8 ≤ 140737488355328; omega)
  refine ⟨(h.new 3 [.int .i64 y]).size, h', by simpa using t, (e.mono hbs).trans x, fun j ob ho hk => k j ob (e.at? (at?_obj ho).2.1 ho) hk, ?_⟩
  rw [show ints (xs ++ [y]) = ints xs ++ [.int .i64 y] by simp [ints]]
  exact o'
/-- The sizes of a tree's functions. -/
def szFrom (T : List Kn) : Nat → Nat → List Int
  | 0, _ => []
  | k + 1, j => (match T[j]? with | some n => if n.k = 6 then [(PF T (j + 1) j).1] else [] | none => []) ++ szFrom T k (j + 1)
def sizesP (T : List Kn) (top : Int) : List Int := if specOk T top = true then szFrom T T.length 0 else []
theorem szFrom_len (T : List Kn) : ∀ k j, (szFrom T k j).length ≤ k
  | 0, _ => Nat.le_refl _
  | k + 1, j => by
    have := szFrom_len T k (j + 1)
    rw [szFrom, List.length_append]
    have : (match T[j]? with | some n => if n.k = 6 then [(PF T (j + 1) j).1] else [] | none => [] : List Int).length ≤ 1 := by
      cases T[j]? with
      | none => exact Nat.zero_le _
      | some n =>
        show (if n.k = 6 then [(PF T (j + 1) j).1] else [] : List Int).length ≤ 1
        split
        · exact Nat.le_refl _
        · exact Nat.zero_le _
    omega
theorem spec_sizes {d b c p2 : Nat} (hd : 1048577 < d) {nv : Value} {T : List Kn} {top : Int} (hT : T.length ≤ 3000) (hN : ∀ n ∈ T, n.t.size ≤ 1048576 ∧ n.ks.length ≤ 1048576) (hG : Ranges T) (hcb : c ≤ b) (hp2 : p2 < b) :
    ∀ (k j m : Nat) (v : Value) (xs : List Int) (h : AHeap), T.length - j = k → j ≤ T.length → k < m → b ≤ h.size → IOwn b h v xs → xs.length ≤ j → KSl c h nv T → Row h p2 [nv, .int .i64 top] →
      ∃ v' h', s30_0 hk0 (call Try.prog Ms (d + 3010 + 8)) (d + 3010 + 8) m (ptr p2 0) v (j : Int) h = some (v', h') ∧ Ext b h h' ∧ IOwn b h' v' (xs ++ szFrom T k j) := by
  intro k
  induction k with
  | zero =>
    intro j m v xs h hk hj hm hb o hx x rp
    obtain ⟨m, rfl⟩ : ∃ q, m = q + 1 := ⟨m - 1, by omega⟩
    have : ¬ ((j : Int) < (T.length : Int)) := by omega
    obtain ⟨a0, _, _⟩ := ld2 rp
    refine ⟨v, h, ?_, Ext.refl _ _, by rw [szFrom, List.append_nil]; exact o⟩
    rw [s30_0_eq]
    simp only [aOff_ptr, Nat.zero_add, Option.bind_some, a0, x.len, asI, if_true, decide_eq_false this, cond_false]
  | succ k ih =>
    intro j m v xs h hk hj hm hb o hx x rp
    obtain ⟨m, rfl⟩ : ∃ q, m = q + 1 := ⟨m - 1, by omega⟩
    have hlt : j < T.length := by omega
    have hI : ((j : Int) < (T.length : Int)) := by omega
    have hn : T[j]? = some T[j] := by simp [hlt]
    obtain ⟨a0, _, aN⟩ := ld2 rp
    have aN' : aLdN h (ptr p2 0) 2 = some (trVal nv top) := aN
    obtain ⟨id, kv, g1, g2, g3⟩ := x.at hlt
    obtain ⟨_, g4, _⟩ := g3 h (Ext.refl _ _)
    have wj : IntKind.i64.wrap ((j : Int) + 1) = ((j + 1 : Nat) : Int) := by rw [wr (by omega) (by omega)]; omega
    rw [s30_0_eq, szFrom, hn]
    simp only [aOff_ptr, Nat.zero_add, Nat.add_zero, Option.bind_some, a0, x.len, asI, if_true, decide_eq_true hI, cond_true, g1, g4]
    by_cases h6 : T[j].k = 6
    · obtain ⟨h2, c2, x2⟩ := l62 hd (nv := nv) (top := top) hT hN hG (j + 1) (d + 3010 + 7) (j : Int) h (by omega) (by omega) (by omega) (by omega) x (Nat.le_trans hcb hb)
      have c2' : call Try.prog Ms (d + 3010 + 8) 62 [trVal nv top, .int .i64 (j : Int)] h = _ := c2
      have t0 : ∀ a b : Int, aExt (two a b) 0 = some (.int .i64 a) := fun _ _ => rfl
      have t1 : ∀ a b : Int, aExt (two a b) 1 = some (.int .i64 b) := fun _ _ => rfl
      have s2 := x2.size
      obtain ⟨v3, h3, c3, x3, o3⟩ := (o.ext x2).push (by omega) (by omega) (PF T (j + 1) j).1
      have E3 := (x2.mono hb).trans x3
      obtain ⟨v4, h4, c4, x4, o4⟩ := ih (j + 1) m v3 (xs ++ [(PF T (j + 1) j).1]) h3 (by omega) (by omega) (by omega) (by have := x3.size; omega) o3 (by simp; omega) (x.ext (E3.mono hcb)) (rp.ext E3 hp2)
      refine ⟨v4, h4, ?_, E3.trans x4, ?_⟩
      · rw [h6, show ((6 : Int) == 6) = true from rfl, cond_true, aN', Option.bind_some, c2', Option.bind_some]
        simp only [t0, t1, Option.bind_some, asI, if_true, aNewS]
        rw [c3, Option.bind_some, wj, c4]
      · rw [if_pos h6, ← List.append_assoc]; exact o4
    · obtain ⟨v4, h4, c4, x4, o4⟩ := ih (j + 1) m v xs h (by omega) (by omega) (by omega) hb o (by omega) x rp
      refine ⟨v4, h4, ?_, x4, ?_⟩
      · rw [beq_eq_false_iff_ne.2 h6, cond_false, wj, c4]
      · rw [if_neg h6, List.nil_append]; exact o4
theorem l30 {d c : Nat} (hd : 1048577 < d) {nv : Value} {T : List Kn} {top : Int} {h : AHeap} (x : KSl c h nv T) (hc : c ≤ h.size) (hb : T.length ≤ 1048576) (hN : ∀ n ∈ T, n.t.size ≤ 1048576 ∧ n.ks.length ≤ 1048576) :
    ∃ v h', call Try.prog Ms (d + 3010 + 9) 30 [trVal nv top] h = some (v, h') ∧ Ext h.size h h' ∧ IOwn h.size h' v (sizesP T top) := by
  have e1 := Ext.new (Nat.le_refl h.size) 35 [nv, .int .i64 top]
  have r1 := (Own.new (b := h.size) (Nat.le_refl _) 35 [nv, .int .i64 top]).row
  have s1 : (h.new 35 [nv, .int .i64 top]).size = h.size + 1 := rfl
  have hcall : call Try.prog Ms (d + 3010 + 9) 30 [trVal nv top] h = evFn hk0 Try.prog (call Try.prog Ms (d + 3010 + 8)) M30 (d + 3010 + 8) Try.f30 [trVal nv top] h := c30 (d + 3010 + 8) _ _
  rw [hcall, e30, tr_aCells x, Option.bind_some]
  simp only [aNew]
  have x1 := x.ext (e1.mono hc)
  generalize h.new 35 [nv, .int .i64 top] = h1 at e1 r1 s1 x1 ⊢
  have e2 := Ext.new (Nat.le_refl h1.size) 3 ([] : List Value)
  have i2 : IOwn h1.size (h1.new 3 []) (slc h1.size 0 0) [] := IOwn.newS (Nat.le_refl h1.size) []
  have s2 : (h1.new 3 []).size = h1.size + 1 := rfl
  simp only [aNewS]
  have x2 := x1.ext (e2.mono (by omega))
  have r2 := r1.ext e2 (by omega)
  generalize h1.new 3 [] = h2 at e2 i2 s2 x2 r2 ⊢
  obtain ⟨_, _, aN⟩ := ld2 r2
  have aN' : aLdN h2 (ptr h.size 0) 2 = some (trVal nv top) := aN
  obtain ⟨h3, c3', x3⟩ := l20 (d := d + 1) (by omega) (top := top) x2 (by omega) hb hN
  rw [show d + 1 + 3010 + 7 = d + 3010 + 8 by omega] at c3'
  have s3 := x3.size
  have i3 := i2.ext x3
  have r3 := r2.ext x3 (by omega)
  have xx3 := x2.ext (x3.mono (by omega))
  rw [aN', Option.bind_some, c3', Option.bind_some]
  simp only [asB, Option.bind_some]
  unfold sizesP
  cases hok : specOk T top with
  | false => exact ⟨_, h3, rfl, e1.trans ((e2.mono (by omega)).trans (x3.mono (by omega))), i3.mono (by omega)⟩
  | true =>
    obtain ⟨o1, o2, o3, o4⟩ := ok_spec hok
    obtain ⟨v4, h4, c4, x4, i4⟩ := spec_sizes (b := h1.size) (c := c) (p2 := h.size) hd (nv := nv) (top := top) o1 hN o4 (by omega) (by omega) T.length 0 (d + 3010 + 8) _ [] h3 (by omega) (by omega) (by omega) (by omega) i3 (Nat.zero_le _) xx3 r3
    refine ⟨v4, h4, ?_, e1.trans ((e2.mono (by omega)).trans ((x3.mono (by omega)).trans (x4.mono (by omega)))), (by simpa using i4.mono (by omega))⟩
    rw [Bool.not_true, cond_false]
    exact c4
end Go.Proofs.Ytadmoackacickaa
