import Derived.Test.YtadmoackacickaaXTreeD
/- Sizes and nests of nodes: the reference's. -/
set_option linter.unusedSimpArgs false
namespace Go.Proofs.Ytadmoackacickaa
open Go Go.AH

def W64 (x : Int) : Int := IntKind.i64.wrap x
def szStep (F : Int → Int) (a k : Int) : Int := W64 (a + F k)
def neStep (F : Int → Int) (a k : Int) : Int := if F k > a then F k else a
def neEnd (k m : Int) : Int := if k = 6 then W64 (m + 1) else m
/-- The size and the nest of a node. -/
def PF (T : List Kn) : Nat → Int → Int × Int
  | 0, _ => (0, 0)
  | f + 1, i => match T[i.toNat]? with
    | some n => (n.ks.foldl (szStep fun k => (PF T f k).1) 1, neEnd n.k (n.ks.foldl (neStep fun k => (PF T f k).2) 0))
    | none => (0, 0)
theorem foldl_same {F G : Int → Int} (step : (Int → Int) → Int → Int → Int) (hs : ∀ (a k : Int), F k = G k → step F a k = step G a k) : ∀ (ks : List Int) (a : Int), (∀ k ∈ ks, F k = G k) → ks.foldl (step F) a = ks.foldl (step G) a
  | [], _, _ => rfl
  | k :: ks, a, h => by
    rw [List.foldl_cons, List.foldl_cons, hs a k (h k (by simp))]
    exact foldl_same step hs ks _ fun x hx => h x (by simp [hx])
theorem sz_same {F G : Int → Int} (ks : List Int) (a : Int) (h : ∀ k ∈ ks, F k = G k) : ks.foldl (szStep F) a = ks.foldl (szStep G) a := foldl_same szStep (fun a k e => by unfold szStep; rw [e]) ks a h
theorem ne_same {F G : Int → Int} (ks : List Int) (a : Int) (h : ∀ k ∈ ks, F k = G k) : ks.foldl (neStep F) a = ks.foldl (neStep G) a := foldl_same neStep (fun a k e => by unfold neStep; rw [e]) ks a h
def Ranges (T : List Kn) : Prop := ∀ (j : Nat) (n : Kn), T[j]? = some n → ∀ k ∈ n.ks, 0 ≤ k ∧ k < j
theorem PF_fuel {T : List Kn} (hG : Ranges T) : ∀ (f g : Nat) (i : Int), 0 ≤ i → i < f → i < g → PF T f i = PF T g i := by
  intro f
  induction f with
  | zero => intro g i h0 h1; omega
  | succ f ih =>
    intro g i h0 h1 h2
    obtain ⟨g, rfl⟩ : ∃ q, g = q + 1 := ⟨g - 1, by omega⟩
    unfold PF
    cases hT : T[i.toNat]? with
    | none => rfl
    | some n =>
      have hk : ∀ k ∈ n.ks, PF T f k = PF T g k := fun k hk => by
        have := hG i.toNat n hT k hk
        exact ih g k this.1 (by omega) (by omega)
      show (n.ks.foldl (szStep fun k => (PF T f k).1) 1, neEnd n.k (n.ks.foldl (neStep fun k => (PF T f k).2) 0)) = (n.ks.foldl (szStep fun k => (PF T g k).1) 1, neEnd n.k (n.ks.foldl (neStep fun k => (PF T g k).2) 0))
      rw [sz_same n.ks 1 (fun k h => by rw [hk k h]), ne_same n.ks 0 (fun k h => by rw [hk k h])]
def two (a b : Int) : Value := .tuple (List.toArray [.int .i64 a, .int .i64 b])
theorem size_loop {D N c : Nat} {nv : Value} {T : List Kn} {top : Int} {F : Int → Int × Int} {n : Kn} {kv : Value} {p q : Nat} (hl : n.ks.length ≤ 1048576)
    (hF : ∀ (k : Int) (h : AHeap), k ∈ n.ks → KSl c h nv T → c ≤ h.size → ∃ h', call Try.prog Ms D 62 [trVal nv top, .int .i64 k] h = some (two (F k).1 (F k).2, h') ∧ Ext h.size h h') :
    ∀ (k j m : Nat) (a b : Int) (h : AHeap), n.ks.length - j = k → j ≤ n.ks.length → k < m → KSl c h nv T → c ≤ h.size → ISl c h kv n.ks → Row h p [nv, .int .i64 top] → p < h.size → Row h q (knCells n kv) → q < h.size →
      ∃ h', s62_0 hk0 (call Try.prog Ms D) N m (ptr p 0) (ptr q 0) a b (j : Int) h = some (two ((n.ks.drop j).foldl (szStep fun k => (F k).1) a) (neEnd n.k ((n.ks.drop j).foldl (neStep fun k => (F k).2) b)), h') ∧ Ext h.size h h' := by
  intro k
  induction k with
  | zero =>
    intro j m a b h hk hj hm x hc y rp hp rq hq
    obtain ⟨m, rfl⟩ : ∃ q, m = q + 1 := ⟨m - 1, by omega⟩
    have : ¬ ((j : Int) < (n.ks.length : Int)) := by omega
    obtain ⟨b0, b3, _⟩ := nodeRow rq
    refine ⟨h, ?_, Ext.refl _ _⟩
    rw [s62_0_eq, List.drop_eq_nil_of_le (by omega)]
    simp only [aOff_ptr, Nat.zero_add, Option.bind_some, b3, y.len, asI, if_true, decide_eq_false this, cond_false, b0, List.foldl_nil]
    unfold neEnd
    by_cases h6 : n.k = 6
    · rw [h6, show ((6 : Int) == 6) = true from rfl, cond_true, if_pos rfl]; rfl
    · rw [beq_eq_false_iff_ne.2 h6, cond_false, if_neg h6]; rfl
  | succ k ih =>
    intro j m a b h hk hj hm x hc y rp hp rq hq
    obtain ⟨m, rfl⟩ : ∃ q, m = q + 1 := ⟨m - 1, by omega⟩
    have hlt : j < n.ks.length := by omega
    have hI : ((j : Int) < (n.ks.length : Int)) := by omega
    obtain ⟨b0, b3, _⟩ := nodeRow rq
    obtain ⟨_, _, pN⟩ := ld2 rp
    have pN' : aLdN h (ptr p 0) 2 = some (trVal nv top) := pN
    obtain ⟨pk, e1, e2⟩ := y.at hlt
    have wj : IntKind.i64.wrap ((j : Int) + 1) = ((j + 1 : Nat) : Int) := by rw [wr (by omega) (by omega)]; omega
    obtain ⟨h2, c2, x2⟩ := hF n.ks[j] h (List.getElem_mem hlt) x hc
    have s2 := x2.size
    have t0 : ∀ a b : Int, aExt (two a b) 0 = some (.int .i64 a) := fun _ _ => rfl
    have t1 : ∀ a b : Int, aExt (two a b) 1 = some (.int .i64 b) := fun _ _ => rfl
    have go := fun b' => ih (j + 1) m (IntKind.i64.wrap (a + (F n.ks[j]).1)) b' h2 (by omega) (by omega) (by omega) (x.ext (x2.mono hc)) (by omega) (y.ext (x2.mono hc)) (rp.ext x2 hp) (by omega) (rq.ext x2 hq) (by omega)
    rw [s62_0_eq, List.drop_eq_getElem_cons hlt, List.foldl_cons, List.foldl_cons]
    simp only [aOff_ptr, Nat.zero_add, Option.bind_some, b3, y.len, asI, if_true, decide_eq_true hI, cond_true, pN', e1, e2]
    rw [c2, Option.bind_some]
    simp only [t0, t1, Option.bind_some, asI, if_true, wj]
    by_cases hg : (F n.ks[j]).2 > b
    · obtain ⟨h3, c3, x3⟩ := go (F n.ks[j]).2
      refine ⟨h3, ?_, x2.trans (x3.mono s2)⟩
      rw [decide_eq_true hg, cond_true, c3]
      unfold szStep neStep
      rw [if_pos hg]; rfl
    · obtain ⟨h3, c3, x3⟩ := go b
      refine ⟨h3, ?_, x2.trans (x3.mono s2)⟩
      rw [decide_eq_false hg, cond_false, c3]
      unfold szStep neStep
      rw [if_neg hg]; rfl
theorem l62 {d c : Nat} (hd : 1048577 < d) {nv : Value} {T : List Kn} {top : Int} (hT : T.length ≤ 3000) (hN : ∀ n ∈ T, n.t.size ≤ 1048576 ∧ n.ks.length ≤ 1048576) (hG : Ranges T) :
    ∀ (f e : Nat) (i : Int) (h : AHeap), d + f ≤ e → 0 ≤ i → i < f → i < T.length → KSl c h nv T → c ≤ h.size →
      ∃ h', call Try.prog Ms (e + 1) 62 [trVal nv top, .int .i64 i] h = some (two (PF T f i).1 (PF T f i).2, h') ∧ Ext h.size h h' := by
  intro f
  induction f with
  | zero => intro e i h _ h0 h1; omega
  | succ f ih =>
    intro e i h he h0 hif hit x hc
    obtain ⟨e, rfl⟩ : ∃ q, e = q + 1 := ⟨e - 1, by omega⟩
    obtain ⟨iN, rfl⟩ : ∃ iN : Nat, i = (iN : Int) := ⟨i.toNat, by omega⟩
    have hi : iN < T.length := by omega
    have hTi : T[(iN : Int).toNat]? = some T[iN] := by simp [hi]
    have hTi' : T[iN]? = some T[iN] := by simp [hi]
    have hok := hN T[iN] (List.getElem_mem hi)
    have e1 := Ext.new (Nat.le_refl h.size) 35 [nv, .int .i64 top]
    have r1 := (Own.new (b := h.size) (Nat.le_refl _) 35 [nv, .int .i64 top]).row
    have s1 : (h.new 35 [nv, .int .i64 top]).size = h.size + 1 := rfl
    rw [c62, e62, tr_aCells x, Option.bind_some]
    simp only [aNew]
    have x1 := x.ext (e1.mono hc)
    generalize h.new 35 [nv, .int .i64 top] = h1 at e1 r1 s1 x1 ⊢
    obtain ⟨a0, _, _⟩ := ld2 r1
    obtain ⟨id, kv, g1, g2, g3⟩ := x1.at hi
    obtain ⟨g4, _⟩ := g3 h1 (Ext.refl _ _)
    have e2 := Ext.new (Nat.le_refl h1.size) 73 [.int .i64 0, .string ⟨#[]⟩, .int .i64 0, .slice none 0 0]
    have o2 := Own.new (Nat.le_refl h1.size) 73 [.int .i64 0, .string ⟨#[]⟩, .int .i64 0, .slice none 0 0]
    have s2 : (h1.new 73 [.int .i64 0, .string ⟨#[]⟩, .int .i64 0, .slice none 0 0]).size = h1.size + 1 := rfl
    simp only [aOff_ptr, Nat.zero_add, Option.bind_some, a0, g1, g4]
    generalize h1.new 73 [.int .i64 0, .string ⟨#[]⟩, .int .i64 0, .slice none 0 0] = h2 at e2 o2 s2 ⊢
    obtain ⟨h3, t3, x3, o3, s3⟩ := Own.stN o2 (n := 4) (v := knVal T[iN] kv) (kn_aCells g2) rfl rfl
    have E3 : Ext h1.size h1 h3 := e2.trans x3
    have r3 : Row h3 h1.size (knCells T[iN] kv) := o3.row
    obtain ⟨h4, c4, x4⟩ := size_loop (D := e + 1) (N := e + 1) (c := c) (nv := nv) (T := T) (top := top) (F := PF T f) (n := T[iN]) (kv := kv) (p := h.size) (q := h1.size) hok.2 (fun k h' hk xx hcc => by
      have := hG iN _ hTi' k hk
      exact ih e k h' (by omega) this.1 (by omega) (by omega) xx hcc) T[iN].ks.length 0 (e + 1) 1 0 h3 (by omega) (by omega) (by omega) (x1.ext (E3.mono (by omega))) (by omega) (g2.ext (E3.mono (by omega))) (r1.ext E3 (by omega)) (by omega) r3 (by omega)
    refine ⟨h4, ?_, e1.trans ((E3.mono (by omega)).trans (x4.mono (by omega)))⟩
    rw [t3, Option.bind_some]
    unfold PF
    rw [hTi]
    exact c4
theorem ok_spec {T : List Kn} {top : Int} (h : specOk T top = true) : T.length ≤ 3000 ∧ top = (T.length : Int) - 1 ∧ 0 < T.length ∧ Ranges T := by
  have h2 : implOk T top = true := by rw [← ok_same]; exact h
  unfold implOk at h2
  by_cases hc : T.length > 3000 ∨ T.length = 0 ∨ top ≠ (T.length : Int) - 1 ∨ kd T ((T.length : Int) - 1) ≠ 21
  · rw [if_pos hc] at h2; cases h2
  · rw [if_neg hc, Bool.and_eq_true] at h2
    refine ⟨?_, ?_, ?_, ok_ranges h2.1⟩
    · by_cases e : T.length > 3000
      · exact absurd (.inl e) hc
      · omega
    · by_cases e : top = (T.length : Int) - 1
      · exact e
      · exact absurd (.inr (.inr (.inl e))) hc
    · by_cases e : T.length = 0
      · exact absurd (.inr (.inl e)) hc
      · omega
/-- What both say of a tree's nest. -/
def nestP (T : List Kn) (top : Int) : Int := if specOk T top = true then (PF T (T.length + 1) top).2 else -1
theorem l24 {d c : Nat} (hd : 1048577 < d) {nv : Value} {T : List Kn} {top : Int} {h : AHeap} (x : KSl c h nv T) (hc : c ≤ h.size) (hb : T.length ≤ 1048576) (hN : ∀ n ∈ T, n.t.size ≤ 1048576 ∧ n.ks.length ≤ 1048576) :
    ∃ h', call Try.prog Ms (d + 3010 + 8) 24 [trVal nv top] h = some (.int .i64 (nestP T top), h') ∧ Ext h.size h h' := by
  have e1 := Ext.new (Nat.le_refl h.size) 35 [nv, .int .i64 top]
  have r1 := (Own.new (b := h.size) (Nat.le_refl _) 35 [nv, .int .i64 top]).row
  have s1 : (h.new 35 [nv, .int .i64 top]).size = h.size + 1 := rfl
  have hcall : call Try.prog Ms (d + 3010 + 8) 24 [trVal nv top] h = evFn hk0 Try.prog (call Try.prog Ms (d + 3010 + 7)) M24 (d + 3010 + 7) Try.f24 [trVal nv top] h := c24 (d + 3010 + 7) _ _
  rw [hcall, e24, tr_aCells x, Option.bind_some]
  simp only [aNew]
  have x1 := x.ext (e1.mono hc)
  generalize h.new 35 [nv, .int .i64 top] = h1 at e1 r1 s1 x1 ⊢
  obtain ⟨_, _, aN⟩ := ld2 r1
  have aN' : aLdN h1 (ptr h.size 0) 2 = some (trVal nv top) := aN
  obtain ⟨h2, c2, x2⟩ := l20 hd (top := top) x1 (by omega) hb hN
  have s2 := x2.size
  have r2 := r1.ext x2 (by omega)
  obtain ⟨_, b1, bN⟩ := ld2 r2
  have bN' : aLdN h2 (ptr h.size 0) 2 = some (trVal nv top) := bN
  rw [aN', Option.bind_some, c2, Option.bind_some]
  simp only [asB, Option.bind_some]
  unfold nestP
  cases hok : specOk T top with
  | false => exact ⟨h2, rfl, e1.trans (x2.mono (by omega))⟩
  | true =>
    obtain ⟨o1, o2, o3, o4⟩ := ok_spec hok
    obtain ⟨h3, c3, x3⟩ := l62 hd (nv := nv) (top := top) o1 hN o4 (T.length + 1) (d + 3010 + 6) top h2 (by omega) (by omega) (by omega) (by omega) (x1.ext (x2.mono (by omega))) (by omega)
    have c3' : call Try.prog Ms (d + 3010 + 7) 62 [trVal nv top, .int .i64 top] h2 = _ := c3
    refine ⟨h3, ?_, e1.trans ((x2.mono (by omega)).trans (x3.mono (by omega)))⟩
    rw [Bool.not_true, cond_false, bN', Option.bind_some]
    simp only [aOff_ptr, Nat.zero_add, Option.bind_some, b1, asI, if_true]
    rw [c3', Option.bind_some]
    rfl
end Go.Proofs.Ytadmoackacickaa
/- impl's NestOf. -/
set_option linter.unusedSimpArgs false
namespace Go.Proofs.Ytadmoackacickaa
open Go Go.AH

theorem ints_splice (ys : List Int) {j : Nat} (hj : j < ys.length) (v : Int) : splice (ints ys) j [.int .i64 v] = ints (ys.set j v) := by
  rw [← ints_set]; unfold splice
  rw [List.set_eq_take_append_cons_drop, if_pos (by simp [ints]; omega)]; simp
/-- All rows but those of ints are as they were. -/
def Keep3 (h h' : AHeap) : Prop := ∀ j o, h.at? j = some o → o.elem ≠ 3 → h'.at? j = some o
theorem Keep3.refl (h : AHeap) : Keep3 h h := fun _ _ h _ => h
theorem Keep3.trans {h h' h'' : AHeap} (x : Keep3 h h') (y : Keep3 h' h'') : Keep3 h h'' := fun j o a b => y j o (x j o a b) b
theorem Keep3.ext {h h' : AHeap} (x : Ext h.size h h') : Keep3 h h' := fun j o a _ => x.at? (at?_obj a).2.1 a
theorem RowE.keep3 {h h' : AHeap} {i : Nat} {e : TypeId} {cs : List Value} (x : RowE h i e cs) (he : e ≠ 3) (k : Keep3 h h') : RowE h' i e cs := let ⟨o, a, b, c⟩ := x; ⟨o, k i o a (by rw [b]; exact he), b, c⟩
theorem st3 {b : Nat} {h : AHeap} {r j : Nat} {ys : List Int} (o : Own b h r 3 (ints ys)) (hj : j < ys.length) (v : Int) :
    ∃ h', aSt h (ptr r j) (.int .i64 v) 1 = some h' ∧ Ext b h h' ∧ Keep3 h h' ∧ Own b h' r 3 (ints (ys.set j v)) ∧ h'.size = h.size := by
  obtain ⟨h', t, x, o', s, k⟩ := Own.stX o (off := j) (n := 1) (v := .int .i64 v) rfl rfl (by simp [ints]; omega)
  rw [ints_splice ys hj] at o'
  exact ⟨h', t, x, k, o', s⟩
theorem ld3 {b : Nat} {h : AHeap} {r : Nat} {ys : List Int} (o : Own b h r 3 (ints ys)) {k v : Int} (h0 : 0 ≤ k) (hk : ys[k.toNat]? = some v) : aIdx (slc r 0 ys.length) (.int .i64 k) 1 = some (ptr r k.toNat) ∧ aLd1 h (ptr r k.toNat) = some (.int .i64 v) := by
  have hlt := (List.getElem?_eq_some_iff.1 hk).1
  refine ⟨by simp [aIdx, slc]; omega, o.row.ld1 ?_⟩
  show (ys.map (Value.int .i64))[k.toNat]? = _
  rw [List.getElem?_map, hk]; rfl
theorem nest_in {C : ACall} {N n1 b r p5 iN L : Nat} {tv nv kv : Value} {n : Kn} {F : Int → Int} (hiN : iN < L) (hL : L ≤ 3000) (hl : n.ks.length ≤ 1048576) (hr : ∀ k ∈ n.ks, 0 ≤ k ∧ k < iN) :
    ∀ (k j m : Nat) (a : Int) (ys : List Int) (h : AHeap), n.ks.length - j = k → j ≤ n.ks.length → k < m → ys.length = L → Own b h r 3 (ints ys) → (∀ h', Ext b h h' → ISl b h' kv n.ks) → RowE h p5 73 (knCells n kv) → ys[iN]? = some a → (∀ k ∈ n.ks, ys[k.toNat]? = some (F k)) →
      ∃ h', s25_1 hk0 C N n1 m tv (slc r 0 L) (iN : Int) (ptr p5 0) nv (L : Int) (iN : Int) kv (n.ks.length : Int) (j : Int) h = s25_0 hk0 C N n1 tv (slc r 0 L) nv (L : Int) ((iN + 1 : Nat) : Int) h' ∧ Ext b h h' ∧ Keep3 h h' ∧
        Own b h' r 3 (ints (ys.set iN (neEnd n.k ((n.ks.drop j).foldl (neStep F) a)))) := by
  intro k
  induction k with
  | zero =>
    intro j m a ys h hk hj hm hy o hkv r5 ha hF
    obtain ⟨m, rfl⟩ : ∃ q, m = q + 1 := ⟨m - 1, by omega⟩
    have : ¬ ((j : Int) < (n.ks.length : Int)) := by omega
    obtain ⟨b0, _, _⟩ := nodeRow r5.row
    obtain ⟨i1, i2⟩ := ld3 o (k := (iN : Int)) (by omega) ha
    rw [hy] at i1
    by_cases h6 : n.k = 6
    · obtain ⟨h2, t2, x2, k2, o2, s2⟩ := st3 o (j := iN) (by omega) (IntKind.i64.wrap (a + 1))
      have i1' : aIdx (slc r 0 L) (.int .i64 (iN : Int)) 1 = some (ptr r iN) := i1
      have i2' : aLd1 h (ptr r iN) = some (.int .i64 a) := i2
      have w := show IntKind.i64.wrap ((iN : Int) + 1) = ((iN + 1 : Nat) : Int) from by
        rw [wr (by omega) (by omega)]; omega
      refine ⟨h2, ?_, x2, k2, ?_⟩
      · rw [s25_1_eq, decide_eq_false this, cond_false]
        simp only [aOff_ptr, Nat.zero_add, Option.bind_some, b0, asI, if_true, h6]
        rw [show ((6 : Int) == 6) = true from rfl, cond_true]
        simp only [i1', i2', Option.bind_some, asI, if_true, t2, w]
      · rw [List.drop_eq_nil_of_le (by omega), List.foldl_nil]
        unfold neEnd
        rw [if_pos h6]; exact o2
    · have w := show IntKind.i64.wrap ((iN : Int) + 1) = ((iN + 1 : Nat) : Int) from by
        rw [wr (by omega) (by omega)]; omega
      refine ⟨h, ?_, Ext.refl _ _, Keep3.refl _, ?_⟩
      · rw [s25_1_eq, decide_eq_false this, cond_false]
        simp only [aOff_ptr, Nat.zero_add, Option.bind_some, b0, asI, if_true]
        rw [beq_eq_false_iff_ne.2 h6, cond_false, w]
      · rw [List.drop_eq_nil_of_le (by omega), List.foldl_nil]
        unfold neEnd
        rw [if_neg h6]
        have : ys.set iN a = ys := List.ext_getElem? fun i => by
          by_cases he : i = iN
          · subst he; rw [List.getElem?_set_self (by omega), ha]
          · rw [List.getElem?_set_ne (by omega)]
        rw [this]; exact o
  | succ k ih =>
    intro j m a ys h hk hj hm hy o hkv r5 ha hF
    obtain ⟨m, rfl⟩ : ∃ q, m = q + 1 := ⟨m - 1, by omega⟩
    have hlt : j < n.ks.length := by omega
    have hI : ((j : Int) < (n.ks.length : Int)) := by omega
    have y := hkv h (Ext.refl _ _)
    obtain ⟨p, e1, e2⟩ := y.at hlt
    have hmem := List.getElem_mem hlt
    have hk' := hr _ hmem
    obtain ⟨i1, i2⟩ := ld3 o (k := (iN : Int)) (by omega) ha
    obtain ⟨g1, g2⟩ := ld3 o hk'.1 (hF _ hmem)
    rw [hy] at i1 g1
    have i1' : aIdx (slc r 0 L) (.int .i64 (iN : Int)) 1 = some (ptr r iN) := i1
    have i2' : aLd1 h (ptr r iN) = some (.int .i64 a) := i2
    have wj : IntKind.i64.wrap ((j : Int) + 1) = ((j + 1 : Nat) : Int) := by rw [wr (by omega) (by omega)]; omega
    obtain ⟨h2, t2, x2, k2, o2, s2⟩ := st3 o (j := iN) (by omega) (neStep F a n.ks[j])
    have t2' : aSt h (ptr r iN) (.int .i64 (if F n.ks[j] > a then F n.ks[j] else a)) 1 = some h2 := t2
    obtain ⟨h3, c3, x3, k3, o3⟩ := ih (j + 1) m (neStep F a n.ks[j]) (ys.set iN (neStep F a n.ks[j])) h2 (by omega) (by omega) (by omega) (by simp [hy]) o2 (fun h' e => hkv h' (x2.trans e)) (r5.keep3 (by decide) k2)
      (List.getElem?_set_self (by omega)) (fun k hk => by
        have := hr k hk
        rw [List.getElem?_set_ne (by omega)]; exact hF k hk)
    refine ⟨h3, ?_, x2.trans x3, k2.trans k3, ?_⟩
    · rw [s25_1_eq, decide_eq_true hI, cond_true, e1, Option.bind_some, e2, Option.bind_some]
      simp only [asI, if_true, Option.bind_some, i1', i2', g1, g2, t2', wj, c3]
    · rw [List.drop_eq_getElem_cons hlt, List.foldl_cons]
      rw [List.set_set] at o3
      exact o3
end Go.Proofs.Ytadmoackacickaa
/- NestOf: both say the same. -/
set_option linter.unusedSimpArgs false
namespace Go.Proofs.Ytadmoackacickaa
open Go Go.AH

theorem PF_eq {T : List Kn} (hG : Ranges T) {j : Nat} {n : Kn} (hn : T[j]? = some n) :
    PF T (j + 1) (j : Int) = (n.ks.foldl (szStep fun k => (PF T (k.toNat + 1) k).1) 1, neEnd n.k (n.ks.foldl (neStep fun k => (PF T (k.toNat + 1) k).2) 0)) := by
  have hn' : T[(j : Int).toNat]? = some n := hn
  have hk : ∀ k ∈ n.ks, PF T j k = PF T (k.toNat + 1) k := fun k hk => by
    have := hG j n hn k hk
    exact PF_fuel hG _ _ k this.1 (by omega) (by omega)
  have e0 : PF T (j + 1) (j : Int) = (n.ks.foldl (szStep fun k => (PF T j k).1) 1, neEnd n.k (n.ks.foldl (neStep fun k => (PF T j k).2) 0)) := by
    show (match T[(j : Int).toNat]? with
      | some n => (n.ks.foldl (szStep fun k => (PF T j k).1) 1, neEnd n.k (n.ks.foldl (neStep fun k => (PF T j k).2) 0))
      | none => (0, 0)) = _
    rw [hn']
  rw [e0]
  rw [sz_same n.ks 1 (fun k h => by rw [hk k h]), ne_same n.ks 0 (fun k h => by rw [hk k h])]
theorem nest_out {C : ACall} {N b c r p2 : Nat} {nv : Value} {T : List Kn} {top : Int} (hT : T.length ≤ 3000) (hN : ∀ n ∈ T, n.t.size ≤ 1048576 ∧ n.ks.length ≤ 1048576) (hNN : 1048577 < N) (hG : Ranges T) (ht0 : 0 ≤ top) (ht1 : top < T.length) (hcb : c ≤ b) :
    ∀ (k j m : Nat) (ys : List Int) (h : AHeap), T.length - j = k → j ≤ T.length → k < m → ys.length = T.length → b ≤ h.size → Own b h r 3 (ints ys) → KSl c h nv T → RowE h p2 35 [nv, .int .i64 top] →
      (∀ i, i < j → ys[i]? = some (PF T (i + 1) i).2) → (∀ i, j ≤ i → i < T.length → ys[i]? = some 0) →
      ∃ h', s25_0 hk0 C N m (ptr p2 0) (slc r 0 T.length) nv (T.length : Int) (j : Int) h = some (.int .i64 (PF T (top.toNat + 1) top).2, h') ∧ Ext b h h' := by
  intro k
  induction k with
  | zero =>
    intro j m ys h hk hj hm hy hb o x rp hlo hhi
    obtain ⟨m, rfl⟩ : ∃ q, m = q + 1 := ⟨m - 1, by omega⟩
    have : ¬ ((j : Int) < (T.length : Int)) := by omega
    obtain ⟨_, a1, _⟩ := ld2 rp.row
    have htop : ys[top.toNat]? = some (PF T (top.toNat + 1) top).2 := by
      have := hlo top.toNat (by omega)
      rw [this, show ((top.toNat : Nat) : Int) = top by omega]
    obtain ⟨g1, g2⟩ := ld3 o ht0 htop
    rw [hy] at g1
    refine ⟨h, ?_, Ext.refl _ _⟩
    rw [s25_0_eq, decide_eq_false this, cond_false]
    simp only [aOff_ptr, Nat.zero_add, Option.bind_some, a1, asI, if_true, g1, g2]
  | succ k ih =>
    intro j m ys h hk hj hm hy hb o x rp hlo hhi
    obtain ⟨m, rfl⟩ : ∃ q, m = q + 1 := ⟨m - 1, by omega⟩
    have hlt : j < T.length := by omega
    have hI : ((j : Int) < (T.length : Int)) := by omega
    have hn : T[j]? = some T[j] := by simp [hlt]
    obtain ⟨id, kv, g1, g2, g3⟩ := x.at hlt
    obtain ⟨g4, _⟩ := g3 h (Ext.refl _ _)
    have e1 := Ext.new (Nat.le_refl h.size) 73 [.int .i64 0, .string ⟨#[]⟩, .int .i64 0, .slice none 0 0]
    have q1 := Own.new (Nat.le_refl h.size) 73 [.int .i64 0, .string ⟨#[]⟩, .int .i64 0, .slice none 0 0]
    have s1 : (h.new 73 [.int .i64 0, .string ⟨#[]⟩, .int .i64 0, .slice none 0 0]).size = h.size + 1 := rfl
    rw [s25_0_eq, decide_eq_true hI, cond_true, g1, Option.bind_some, g4, Option.bind_some]
    simp only [aNew]
    generalize h.new 73 [.int .i64 0, .string ⟨#[]⟩, .int .i64 0, .slice none 0 0] = h1 at e1 q1 s1 ⊢
    obtain ⟨h2, t2, x2, q2, s2⟩ := Own.stN q1 (n := 4) (v := knVal T[j] kv) (kn_aCells g2) rfl rfl
    have E2 : Ext h.size h h2 := e1.trans x2
    have r5 : RowE h2 h.size 73 (knCells T[j] kv) := Own.rowE q2
    have o2 := o.ext E2 o.lt.2
    have y2 : ISl b h2 kv T[j].ks := (g2.mono hcb).ext (E2.mono hb)
    obtain ⟨_, b3, _⟩ := nodeRow r5.row
    have hrg := hG j _ hn
    have wj : IntKind.i64.wrap ((j : Int) + 1) = ((j + 1 : Nat) : Int) := by rw [wr (by omega) (by omega)]; omega
    obtain ⟨h3, c3, x3, k3, o3⟩ := nest_in (C := C) (N := N) (n1 := m) (tv := ptr p2 0) (nv := nv) (F := fun k => (PF T (k.toNat + 1) k).2) hlt hT (hN _ (List.getElem_mem hlt)).2 hrg T[j].ks.length 0 N 0 ys h2 (by omega) (by omega) (by have := (hN _ (List.getElem_mem hlt)).2; omega) hy o2 (fun h' e => y2.ext e) r5 (hhi j (by omega) hlt) (fun k hk => by
      have := hrg k hk
      rw [hlo k.toNat (by omega), show ((k.toNat : Nat) : Int) = k by omega])
    rw [t2, Option.bind_some]
    simp only [aOff_ptr, Nat.zero_add, b3, Option.bind_some, y2.len, asI, if_true]
    have hval : neEnd T[j].k ((T[j].ks.drop 0).foldl (neStep fun k => (PF T (k.toNat + 1) k).2) 0) = (PF T (j + 1) j).2 := by rw [PF_eq hG hn]; rfl
    rw [hval] at o3
    have c3' : s25_1 hk0 C N m N (ptr p2 0) (slc r 0 T.length) (j : Int) (ptr h.size 0) nv (T.length : Int) (j : Int) kv (T[j].ks.length : Int) 0 h2 = _ := c3
    rw [c3']
    have E3 : Ext b h h3 := (E2.mono hb).trans x3
    obtain ⟨h4, c4, x4⟩ := ih (j + 1) m (ys.set j (PF T (j + 1) j).2) h3 (by omega) (by omega) (by omega) (by simp [hy]) (Nat.le_trans hb E3.size) o3 (x.ext (E3.mono hcb)) (rp.keep3 (by decide) ((Keep3.ext E2).trans k3)) (fun i hi => by
      by_cases he : i = j
      · subst he; rw [List.getElem?_set_self (by omega)]
      · rw [List.getElem?_set_ne (by omega)]; exact hlo i (by omega)) (fun i h1 h2' => by
      rw [List.getElem?_set_ne (by omega)]; exact hhi i (by omega) h2')
    exact ⟨h4, c4, E3.trans x4⟩
theorem l25 {d c : Nat} (hd : 1048577 < d) {nv : Value} {T : List Kn} {top : Int} {h : AHeap} (x : KSl c h nv T) (hc : c ≤ h.size) (hb : T.length ≤ 1048576) (hN : ∀ n ∈ T, n.t.size ≤ 1048576 ∧ n.ks.length ≤ 1048576) :
    ∃ h', call Try.prog Ms (d + 3010 + 10) 25 [trVal nv top] h = some (.int .i64 (nestP T top), h') ∧ Ext h.size h h' := by
  have e1 := Ext.new (Nat.le_refl h.size) 35 [nv, .int .i64 top]
  have r1 := RowE.new h 35 [nv, .int .i64 top]
  have s1 : (h.new 35 [nv, .int .i64 top]).size = h.size + 1 := rfl
  have hcall : call Try.prog Ms (d + 3010 + 10) 25 [trVal nv top] h = evFn hk0 Try.prog (call Try.prog Ms (d + 3010 + 9)) M25 (d + 3010 + 9) Try.f25 [trVal nv top] h := c25 (d + 3010 + 9) _ _
  rw [hcall, e25, tr_aCells x, Option.bind_some]
  simp only [aNew]
  have x1 := x.ext (e1.mono hc)
  generalize h.new 35 [nv, .int .i64 top] = h1 at e1 r1 s1 x1 ⊢
  obtain ⟨_, _, aN⟩ := ld2 r1.row
  have aN' : aLdN h1 (ptr h.size 0) 2 = some (trVal nv top) := aN
  obtain ⟨h2, c2, x2⟩ := l22 hd (top := top) x1 (by omega) hb hN
  have s2 := x2.size
  have r2 := r1.keep3 (by decide) (Keep3.ext x2)
  obtain ⟨b0, _, _⟩ := ld2 r2.row
  have xx2 := x1.ext (x2.mono (by omega))
  rw [aN', Option.bind_some, c2, Option.bind_some]
  simp only [asB, Option.bind_some]
  unfold nestP
  rw [ok_same]
  cases hok : implOk T top with
  | false => exact ⟨h2, rfl, e1.trans (x2.mono (by omega))⟩
  | true =>
    obtain ⟨o1, o2, o3, o4⟩ := ok_spec (T := T) (top := top) (by rw [ok_same]; exact hok)
    have e3 := Ext.new (Nat.le_refl h2.size) 3 (ints (List.replicate T.length 0))
    have q3 := Own.new (Nat.le_refl h2.size) 3 (ints (List.replicate T.length 0))
    have s3 : (h2.new 3 (ints (List.replicate T.length 0))).size = h2.size + 1 := rfl
    rw [Bool.not_true, cond_false]
    simp only [aOff_ptr, Nat.zero_add, Option.bind_some, b0, x.len, asI, if_true]
    rw [mk_some _ _ _ _ _ (by omega) (by omega), Option.bind_some, rep_ints]
    have r3 := r2.keep3 (by decide) (Keep3.ext e3)
    have xx3 := xx2.ext (e3.mono (by omega))
    generalize h2.new 3 (ints (List.replicate T.length 0)) = h3 at e3 q3 s3 r3 xx3 ⊢
    obtain ⟨d0, _, _⟩ := ld2 r3.row
    simp only [d0, Option.bind_some, x.len, asI, if_true]
    obtain ⟨h4, c4, x4⟩ := nest_out (C := call Try.prog Ms (d + 3010 + 9)) (N := d + 3010 + 9) (b := h2.size) (r := h2.size) (p2 := h.size) (nv := nv) (top := top) o1 hN (by omega) o4 (by omega) (by omega) (show c ≤ h2.size by omega) T.length 0 (d + 3010 + 9) (List.replicate T.length 0) h3 (by omega) (by omega) (by omega) (by simp) (by omega) q3 xx3 r3 (fun i hi => by omega) (fun i _ hi => by rw [List.getElem?_replicate, if_pos hi])
    refine ⟨h4, ?_, e1.trans ((x2.mono (by omega)).trans ((e3.mono (by omega)).trans (x4.mono (by omega))))⟩
    have hT : top.toNat + 1 = T.length := by omega
    rw [PF_fuel o4 (T.length + 1) (top.toNat + 1) top (by omega) (by omega) (by omega)]
    exact c4
end Go.Proofs.Ytadmoackacickaa
