import Derived.Test.YtadmoackacickaaXAI
import Derived.Test.YtadmoackacickaaXAD
import Derived.KernelRfl
import Derived.Test.YtadmoackacickaaProg
/- FnExactTreeOk, as the small evaluator runs it. -/
set_option linter.unusedSimpArgs false
namespace Go.Proofs.Ytadmoackacickaa
open Go Go.AH

theorem l4 {d : Nat} (hd : 1048577 < d) {nv : Value} {T : List Kn} {top : Int} {h : AHeap} (x : KSl h.size h nv T) (hb : T.length ≤ bigT) (hN : ∀ n ∈ T, okK n) :
    ∃ h', call Try.prog Ms (d + 3010 + 10) 4 [trVal nv top] h = some (.bool true, h') := by
  have e1 := Ext.new (Nat.le_refl h.size) 30 [nv, .int .i64 top]
  have r1 := (Own.new (b := h.size) (Nat.le_refl _) 30 [nv, .int .i64 top]).row
  have s1 : (h.new 30 [nv, .int .i64 top]).size = h.size + 1 := rfl
  have hcall : call Try.prog Ms (d + 3010 + 10) 4 [trVal nv top] h = evFn hk0 Try.prog (call Try.prog Ms (d + 3010 + 9)) M4 (d + 3010 + 9) Try.f4 [trVal nv top] h := c4 (d + 3010 + 9) _ _
  rw [hcall, e4, tr_aCells x, Option.bind_some]
  simp only [aNew]
  have x1 := (x.ext e1).mono (show h.size ≤ (h.new 30 [nv, .int .i64 top]).size by omega)
  generalize h.new 30 [nv, .int .i64 top] = h1 at e1 r1 s1 x1 ⊢
  obtain ⟨_, _, aN⟩ := ld2 r1
  have aN' : aLdN h1 (ptr h.size 0) 2 = some (trVal nv top) := aN
  obtain ⟨h2, c2, e2⟩ := l19 (d := d + 3010 + 5) (by omega) (top := top) x1 (Nat.le_refl _) hN hb
  have c2' : call Try.prog Ms (d + 3010 + 9) 19 [trVal nv top, .int .i64 1048576] h1 = _ := c2
  rw [aN', Option.bind_some, c2', Option.bind_some]
  simp only [asI, if_true, Option.bind_some]
  by_cases hs : szT T 1048576 < 0
  · rw [if_pos hs, decide_eq_true (show (-1 : Int) < 0 by decide), cond_true]; exact ⟨h2, rfl⟩
  rw [if_neg hs, decide_eq_false hs, cond_false]
  obtain ⟨hT, hK⟩ := szT_ok (ns := T) (by omega)
  have s2 := e2.size
  have r2 := r1.ext e2 (by omega)
  have x2 := (x1.ext e2).mono s2
  obtain ⟨_, _, b2⟩ := ld2 r2
  have b2' : aLdN h2 (ptr h.size 0) 2 = some (trVal nv top) := b2
  obtain ⟨na, h3, c3, e3, k3⟩ := l21 (d := d + 3010 + 5) (by omega) (top := top) x2 (Nat.le_refl _) hT hK
  have c3' : call Try.prog Ms (d + 3010 + 9) 21 [trVal nv top] h2 = _ := c3
  have s3 := e3.size
  obtain ⟨h4, c4', e4⟩ := l20 (d := d + 2) (by omega) (top := top) k3.ksl (Nat.le_refl _) hT hK
  rw [show d + 2 + 3010 + 7 = d + 3010 + 9 by omega] at c4'
  have s4 := e4.size
  have r4 := (r2.ext e3 (by omega)).ext e4 (by omega)
  obtain ⟨_, _, d4⟩ := ld2 r4
  have d4' : aLdN h4 (ptr h.size 0) 2 = some (trVal nv top) := d4
  have x4 := (((x2.ext e3).mono s3).ext e4).mono s4
  rw [b2', Option.bind_some, c3', Option.bind_some, c4', Option.bind_some]
  simp only [asB, Option.bind_some]
  obtain ⟨nb, h5, c5, e5, k5⟩ := l21 (d := d + 3010 + 5) (by omega) (top := top) x4 (Nat.le_refl _) hT hK
  have c5' : call Try.prog Ms (d + 3010 + 9) 21 [trVal nv top] h4 = _ := c5
  have s5 := e5.size
  rw [d4', Option.bind_some, c5', Option.bind_some]
  have e6 := Ext.new (Nat.le_refl h5.size) 35 [.slice none 0 0, .int .i64 0]
  have o6 := Own.new (Nat.le_refl h5.size) 35 [.slice none 0 0, .int .i64 0]
  have s6 : (h5.new 35 [.slice none 0 0, .int .i64 0]).size = h5.size + 1 := rfl
  simp only [aNew]
  have k6 := k5.ext e6
  generalize h5.new 35 [.slice none 0 0, .int .i64 0] = h6 at e6 o6 s6 k6 ⊢
  obtain ⟨h7, t7, e7, o7, s7, q7⟩ := Own.stX o6 (off := 0) (n := 2) (v := trVal nb top) (tr_aCells k6.ksl top) rfl (by show 0 + 2 ≤ 2; omega)
  have k7 := k6.keep (e := 35) (by decide) (by decide) q7
  have r7 : Row h7 h5.size [nb, .int .i64 top] := o7.row
  obtain ⟨_, _, a7⟩ := ld2 r7
  have a7' : aLdN h7 (ptr h5.size 0) 2 = some (trVal nb top) := a7
  obtain ⟨h8, c8, e8⟩ := l22 hd (top := top) k7.ksl (Nat.le_refl _) hT hK
  have c8' : call Try.prog Ms (d + 3010 + 9) 22 [trVal nb top] h7 = _ := c8
  have s8 := e8.size
  have r8 := r7.ext e8 (by omega)
  obtain ⟨_, _, a8⟩ := ld2 r8
  have a8' : aLdN h8 (ptr h5.size 0) 2 = some (trVal nb top) := a8
  have r18 := (((r4.ext e5 (by omega)).ext e6 (by omega)).ext (e7.mono (show h5.size ≤ h5.size by omega)) (by omega)).ext e8 (by omega)
  obtain ⟨_, _, d8⟩ := ld2 r18
  have d8' : aLdN h8 (ptr h.size 0) 2 = some (trVal nv top) := d8
  have x8 : KSl h4.size h8 nv T := ((((x4.ext e5).ext (e6.mono s5)).ext (e7.mono s5)).ext (e8.mono (by omega)))
  have k8 := k7.ext e8
  obtain ⟨nc, h9, c9, e9, k9⟩ := l21 (d := d + 3010 + 5) (by omega) (top := top) x8 (by omega) hT hK
  have c9' : call Try.prog Ms (d + 3010 + 9) 21 [trVal nv top] h8 = _ := c9
  have s9 := e9.size
  have r9 := r8.ext e9 (by omega)
  obtain ⟨_, _, a9⟩ := ld2 r9
  have a9' : aLdN h9 (ptr h5.size 0) 2 = some (trVal nb top) := a9
  obtain ⟨h10, c10, e10⟩ := l23 (d := d + 3010 + 5) (by omega) (top := top) (k8.ext e9).ksl k9.ksl (Nat.le_refl _) hT hK
  have c10' : call Try.prog Ms (d + 3010 + 9) 23 [trVal nb top, trVal nc top] h9 = _ := c10
  refine ⟨h10, ?_⟩
  rw [t7, Option.bind_some, a7', Option.bind_some, c8', Option.bind_some, ok_same]
  simp only [asB, Option.bind_some]
  rw [beq_self_eq_true, Bool.not_true, cond_false, a8', Option.bind_some, d8', Option.bind_some, c9', Option.bind_some]
  simp only [a9', Option.bind_some, tr_vbeq (k8.ext e9).ksl, cond_true]
  rw [c10', Option.bind_some]
  rfl
end Go.Proofs.Ytadmoackacickaa
/- Sizes and nests of nodes: the reference's. -/
set_option linter.unusedSimpArgs false
namespace Go.Proofs.Ytadmoackacickaa
open Go Go.AH

def W64 (x : Int) : Int := IntKind.i64.wrap x
def szStep (F : Int → Int) (a k : Int) : Int := W64 (a + F k)
def neStep (F : Int → Int) (a k : Int) : Int := if F k > a then F k else a
def neEnd (k m : Int) : Int := if k = 6 then W64 (m + 1) else m
/-- The size and the nest of a node. -/
def PF (T : List Kn) : Nat → Int → Int × Int
  | 0, _ => (0, 0)
  | f + 1, i => match T[i.toNat]? with
    | some n => (n.ks.foldl (szStep fun k => (PF T f k).1) 1, neEnd n.k (n.ks.foldl (neStep fun k => (PF T f k).2) 0))
    | none => (0, 0)
theorem foldl_same {F G : Int → Int} (step : (Int → Int) → Int → Int → Int) (hs : ∀ (a k : Int), F k = G k → step F a k = step G a k) : ∀ (ks : List Int) (a : Int), (∀ k ∈ ks, F k = G k) → ks.foldl (step F) a = ks.foldl (step G) a
  | [], _, _ => rfl
  | k :: ks, a, h => by
    rw [List.foldl_cons, List.foldl_cons, hs a k (h k (by simp))]
    exact foldl_same step hs ks _ fun x hx => h x (by simp [hx])
theorem sz_same {F G : Int → Int} (ks : List Int) (a : Int) (h : ∀ k ∈ ks, F k = G k) : ks.foldl (szStep F) a = ks.foldl (szStep G) a := foldl_same szStep (fun a k e => by unfold szStep; rw [e]) ks a h
theorem ne_same {F G : Int → Int} (ks : List Int) (a : Int) (h : ∀ k ∈ ks, F k = G k) : ks.foldl (neStep F) a = ks.foldl (neStep G) a := foldl_same neStep (fun a k e => by unfold neStep; rw [e]) ks a h
def Ranges (T : List Kn) : Prop := ∀ (j : Nat) (n : Kn), T[j]? = some n → ∀ k ∈ n.ks, 0 ≤ k ∧ k < j
theorem PF_fuel {T : List Kn} (hG : Ranges T) : ∀ (f g : Nat) (i : Int), 0 ≤ i → i < f → i < g → PF T f i = PF T g i := by
  intro f
  induction f with
  | zero => intro g i h0 h1; omega
  | succ f ih =>
    intro g i h0 h1 h2
    obtain ⟨g, rfl⟩ : ∃ q, g = q + 1 := ⟨g - 1, by omega⟩
    unfold PF
    cases hT : T[i.toNat]? with
    | none => rfl
    | some n =>
      have hk : ∀ k ∈ n.ks, PF T f k = PF T g k := fun k hk => by
        have := hG i.toNat n hT k hk
        exact ih g k this.1 (by omega) (by omega)
      show (n.ks.foldl (szStep fun k => (PF T f k).1) 1, neEnd n.k (n.ks.foldl (neStep fun k => (PF T f k).2) 0)) = (n.ks.foldl (szStep fun k => (PF T g k).1) 1, neEnd n.k (n.ks.foldl (neStep fun k => (PF T g k).2) 0))
      rw [sz_same n.ks 1 (fun k h => by rw [hk k h]), ne_same n.ks 0 (fun k h => by rw [hk k h])]
def two (a b : Int) : Value := .tuple (List.toArray [.int .i64 a, .int .i64 b])
theorem size_loop {D N c : Nat} {nv : Value} {T : List Kn} {top : Int} {F : Int → Int × Int} {n : Kn} {kv : Value} {p q : Nat} (hl : n.ks.length ≤ 1048576)
    (hF : ∀ (k : Int) (h : AHeap), k ∈ n.ks → KSl c h nv T → c ≤ h.size → ∃ h', call Try.prog Ms D 62 [trVal nv top, .int .i64 k] h = some (two (F k).1 (F k).2, h') ∧ Ext h.size h h') :
    ∀ (k j m : Nat) (a b : Int) (h : AHeap), n.ks.length - j = k → j ≤ n.ks.length → k < m → KSl c h nv T → c ≤ h.size → ISl c h kv n.ks → Row h p [nv, .int .i64 top] → p < h.size → Row h q (knCells n kv) → q < h.size →
      ∃ h', s62_0 hk0 (call Try.prog Ms D) N m (ptr p 0) (ptr q 0) a b (j : Int) h = some (two ((n.ks.drop j).foldl (szStep fun k => (F k).1) a) (neEnd n.k ((n.ks.drop j).foldl (neStep fun k => (F k).2) b)), h') ∧ Ext h.size h h' := by
  intro k
  induction k with
  | zero =>
    intro j m a b h hk hj hm x hc y rp hp rq hq
    obtain ⟨m, rfl⟩ : ∃ q, m = q + 1 := ⟨m - 1, by omega⟩
    have : ¬ ((j : Int) < (n.ks.length : Int)) := by omega
    obtain ⟨b0, b3, _⟩ := nodeRow rq
    refine ⟨h, ?_, Ext.refl _ _⟩
    rw [s62_0_eq, List.drop_eq_nil_of_le (by omega)]
    simp only [aOff_ptr, Nat.zero_add, Option.bind_some, b3, y.len, asI, if_true, decide_eq_false this, cond_false, b0, List.foldl_nil]
    unfold neEnd
    by_cases h6 : n.k = 6
    · rw [h6, show ((6 : Int) == 6) = true from rfl, cond_true, if_pos rfl]; rfl
    · rw [beq_eq_false_iff_ne.2 h6, cond_false, if_neg h6]; rfl
  | succ k ih =>
    intro j m a b h hk hj hm x hc y rp hp rq hq
    obtain ⟨m, rfl⟩ : ∃ q, m = q + 1 := ⟨m - 1, by omega⟩
    have hlt : j < n.ks.length := by omega
    have hI : ((j : Int) < (n.ks.length : Int)) := by omega
    obtain ⟨b0, b3, _⟩ := nodeRow rq
    obtain ⟨_, _, pN⟩ := ld2 rp
    have pN' : aLdN h (ptr p 0) 2 = some (trVal nv top) := pN
    obtain ⟨pk, e1, e2⟩ := y.at hlt
    have wj : IntKind.i64.wrap ((j : Int) + 1) = ((j + 1 : Nat) : Int) := by rw [wr (by omega) (by omega)]; omega
    obtain ⟨h2, c2, x2⟩ := hF n.ks[j] h (List.getElem_mem hlt) x hc
    have s2 := x2.size
    have t0 : ∀ a b : Int, aExt (two a b) 0 = some (.int .i64 a) := fun _ _ => rfl
    have t1 : ∀ a b : Int, aExt (two a b) 1 = some (.int .i64 b) := fun _ _ => rfl
    have go := fun b' => ih (j + 1) m (IntKind.i64.wrap (a + (F n.ks[j]).1)) b' h2 (by omega) (by omega) (by omega) (x.ext (x2.mono hc)) (by omega) (y.ext (x2.mono hc)) (rp.ext x2 hp) (by omega) (rq.ext x2 hq) (by omega)
    rw [s62_0_eq, List.drop_eq_getElem_cons hlt, List.foldl_cons, List.foldl_cons]
    simp only [aOff_ptr, Nat.zero_add, Option.bind_some, b3, y.len, asI, if_true, decide_eq_true hI, cond_true, pN', e1, e2]
    rw [c2, Option.bind_some]
    simp only [t0, t1, Option.bind_some, asI, if_true, wj]
    by_cases hg : (F n.ks[j]).2 > b
    · obtain ⟨h3, c3, x3⟩ := go (F n.ks[j]).2
      refine ⟨h3, ?_, x2.trans (x3.mono s2)⟩
      rw [decide_eq_true hg, cond_true, c3]
      unfold szStep neStep
      rw [if_pos hg]; rfl
    · obtain ⟨h3, c3, x3⟩ := go b
      refine ⟨h3, ?_, x2.trans (x3.mono s2)⟩
      rw [decide_eq_false hg, cond_false, c3]
      unfold szStep neStep
      rw [if_neg hg]; rfl
theorem l62 {d c : Nat} (hd : 1048577 < d) {nv : Value} {T : List Kn} {top : Int} (hT : T.length ≤ 3000) (hN : ∀ n ∈ T, n.t.size ≤ 1048576 ∧ n.ks.length ≤ 1048576) (hG : Ranges T) :
    ∀ (f e : Nat) (i : Int) (h : AHeap), d + f ≤ e → 0 ≤ i → i < f → i < T.length → KSl c h nv T → c ≤ h.size →
      ∃ h', call Try.prog Ms (e + 1) 62 [trVal nv top, .int .i64 i] h = some (two (PF T f i).1 (PF T f i).2, h') ∧ Ext h.size h h' := by
  intro f
  induction f with
  | zero => intro e i h _ h0 h1; omega
  | succ f ih =>
    intro e i h he h0 hif hit x hc
    obtain ⟨e, rfl⟩ : ∃ q, e = q + 1 := ⟨e - 1, by omega⟩
    obtain ⟨iN, rfl⟩ : ∃ iN : Nat, i = (iN : Int) := ⟨i.toNat, by omega⟩
    have hi : iN < T.length := by omega
    have hTi : T[(iN : Int).toNat]? = some T[iN] := by simp [hi]
    have hTi' : T[iN]? = some T[iN] := by simp [hi]
    have hok := hN T[iN] (List.getElem_mem hi)
    have e1 := Ext.new (Nat.le_refl h.size) 35 [nv, .int .i64 top]
    have r1 := (Own.new (b := h.size) (Nat.le_refl _) 35 [nv, .int .i64 top]).row
    have s1 : (h.new 35 [nv, .int .i64 top]).size = h.size + 1 := rfl
    rw [c62, e62, tr_aCells x, Option.bind_some]
    simp only [aNew]
    have x1 := x.ext (e1.mono hc)
    generalize h.new 35 [nv, .int .i64 top] = h1 at e1 r1 s1 x1 ⊢
    obtain ⟨a0, _, _⟩ := ld2 r1
    obtain ⟨id, kv, g1, g2, g3⟩ := x1.at hi
    obtain ⟨g4, _⟩ := g3 h1 (Ext.refl _ _)
    have e2 := Ext.new (Nat.le_refl h1.size) 73 [.int .i64 0, .string ⟨#[]⟩, .int .i64 0, .slice none 0 0]
    have o2 := Own.new (Nat.le_refl h1.size) 73 [.int .i64 0, .string ⟨#[]⟩, .int .i64 0, .slice none 0 0]
    have s2 : (h1.new 73 [.int .i64 0, .string ⟨#[]⟩, .int .i64 0, .slice none 0 0]).size = h1.size + 1 := rfl
    simp only [aOff_ptr, Nat.zero_add, Option.bind_some, a0, g1, g4]
    generalize h1.new 73 [.int .i64 0, .string ⟨#[]⟩, .int .i64 0, .slice none 0 0] = h2 at e2 o2 s2 ⊢
    obtain ⟨h3, t3, x3, o3, s3⟩ := Own.stN o2 (n := 4) (v := knVal T[iN] kv) (kn_aCells g2) rfl rfl
    have E3 : Ext h1.size h1 h3 := e2.trans x3
    have r3 : Row h3 h1.size (knCells T[iN] kv) := o3.row
    obtain ⟨h4, c4, x4⟩ := size_loop (D := e + 1) (N := e + 1) (c := c) (nv := nv) (T := T) (top := top) (F := PF T f) (n := T[iN]) (kv := kv) (p := h.size) (q := h1.size) hok.2 (fun k h' hk xx hcc => by
      have := hG iN _ hTi' k hk
      exact ih e k h' (by omega) this.1 (by omega) (by omega) xx hcc) T[iN].ks.length 0 (e + 1) 1 0 h3 (by omega) (by omega) (by omega) (x1.ext (E3.mono (by omega))) (by omega) (g2.ext (E3.mono (by omega))) (r1.ext E3 (by omega)) (by omega) r3 (by omega)
    refine ⟨h4, ?_, e1.trans ((E3.mono (by omega)).trans (x4.mono (by omega)))⟩
    rw [t3, Option.bind_some]
    unfold PF
    rw [hTi]
    exact c4
theorem ok_spec {T : List Kn} {top : Int} (h : specOk T top = true) : T.length ≤ 3000 ∧ top = (T.length : Int) - 1 ∧ 0 < T.length ∧ Ranges T := by
  have h2 : implOk T top = true := by rw [← ok_same]; exact h
  unfold implOk at h2
  by_cases hc : T.length > 3000 ∨ T.length = 0 ∨ top ≠ (T.length : Int) - 1 ∨ kd T ((T.length : Int) - 1) ≠ 21
  · rw [if_pos hc] at h2; cases h2
  · rw [if_neg hc, Bool.and_eq_true] at h2
    refine ⟨?_, ?_, ?_, ok_ranges h2.1⟩
    · by_cases e : T.length > 3000
      · exact absurd (.inl e) hc
      · omega
    · by_cases e : top = (T.length : Int) - 1
      · exact e
      · exact absurd (.inr (.inr (.inl e))) hc
    · by_cases e : T.length = 0
      · exact absurd (.inr (.inl e)) hc
      · omega
/-- What both say of a tree's nest. -/
def nestP (T : List Kn) (top : Int) : Int := if specOk T top = true then (PF T (T.length + 1) top).2 else -1
theorem l24 {d c : Nat} (hd : 1048577 < d) {nv : Value} {T : List Kn} {top : Int} {h : AHeap} (x : KSl c h nv T) (hc : c ≤ h.size) (hb : T.length ≤ 1048576) (hN : ∀ n ∈ T, n.t.size ≤ 1048576 ∧ n.ks.length ≤ 1048576) :
    ∃ h', call Try.prog Ms (d + 3010 + 8) 24 [trVal nv top] h = some (.int .i64 (nestP T top), h') ∧ Ext h.size h h' := by
  have e1 := Ext.new (Nat.le_refl h.size) 35 [nv, .int .i64 top]
  have r1 := (Own.new (b := h.size) (Nat.le_refl _) 35 [nv, .int .i64 top]).row
  have s1 : (h.new 35 [nv, .int .i64 top]).size = h.size + 1 := rfl
  have hcall : call Try.prog Ms (d + 3010 + 8) 24 [trVal nv top] h = evFn hk0 Try.prog (call Try.prog Ms (d + 3010 + 7)) M24 (d + 3010 + 7) Try.f24 [trVal nv top] h := c24 (d + 3010 + 7) _ _
  rw [hcall, e24, tr_aCells x, Option.bind_some]
  simp only [aNew]
  have x1 := x.ext (e1.mono hc)
  generalize h.new 35 [nv, .int .i64 top] = h1 at e1 r1 s1 x1 ⊢
  obtain ⟨_, _, aN⟩ := ld2 r1
  have aN' : aLdN h1 (ptr h.size 0) 2 = some (trVal nv top) := aN
  obtain ⟨h2, c2, x2⟩ := l20 hd (top := top) x1 (by omega) hb hN
  have s2 := x2.size
  have r2 := r1.ext x2 (by omega)
  obtain ⟨_, b1, bN⟩ := ld2 r2
  have bN' : aLdN h2 (ptr h.size 0) 2 = some (trVal nv top) := bN
  rw [aN', Option.bind_some, c2, Option.bind_some]
  simp only [asB, Option.bind_some]
  unfold nestP
  cases hok : specOk T top with
  | false => exact ⟨h2, rfl, e1.trans (x2.mono (by omega))⟩
  | true =>
    obtain ⟨o1, o2, o3, o4⟩ := ok_spec hok
    obtain ⟨h3, c3, x3⟩ := l62 hd (nv := nv) (top := top) o1 hN o4 (T.length + 1) (d + 3010 + 6) top h2 (by omega) (by omega) (by omega) (by omega) (x1.ext (x2.mono (by omega))) (by omega)
    have c3' : call Try.prog Ms (d + 3010 + 7) 62 [trVal nv top, .int .i64 top] h2 = _ := c3
    refine ⟨h3, ?_, e1.trans ((x2.mono (by omega)).trans (x3.mono (by omega)))⟩
    rw [Bool.not_true, cond_false, bN', Option.bind_some]
    simp only [aOff_ptr, Nat.zero_add, Option.bind_some, b1, asI, if_true]
    rw [c3', Option.bind_some]
    rfl
end Go.Proofs.Ytadmoackacickaa
/- impl's NestOf. -/
set_option linter.unusedSimpArgs false
namespace Go.Proofs.Ytadmoackacickaa
open Go Go.AH

theorem ints_splice (ys : List Int) {j : Nat} (hj : j < ys.length) (v : Int) : splice (ints ys) j [.int .i64 v] = ints (ys.set j v) := by
  rw [← ints_set]; unfold splice
  rw [List.set_eq_take_append_cons_drop, if_pos (by simp [ints]; omega)]; simp
/-- All rows but those of ints are as they were. -/
def Keep3 (h h' : AHeap) : Prop := ∀ j o, h.at? j = some o → o.elem ≠ 3 → h'.at? j = some o
theorem Keep3.refl (h : AHeap) : Keep3 h h := fun _ _ h _ => h
theorem Keep3.trans {h h' h'' : AHeap} (x : Keep3 h h') (y : Keep3 h' h'') : Keep3 h h'' := fun j o a b => y j o (x j o a b) b
theorem Keep3.ext {h h' : AHeap} (x : Ext h.size h h') : Keep3 h h' := fun j o a _ => x.at? (at?_obj a).2.1 a
theorem RowE.keep3 {h h' : AHeap} {i : Nat} {e : TypeId} {cs : List Value} (x : RowE h i e cs) (he : e ≠ 3) (k : Keep3 h h') : RowE h' i e cs := let ⟨o, a, b, c⟩ := x; ⟨o, k i o a (by rw [b]; exact he), b, c⟩
theorem st3 {b : Nat} {h : AHeap} {r j : Nat} {ys : List Int} (o : Own b h r 3 (ints ys)) (hj : j < ys.length) (v : Int) :
    ∃ h', aSt h (ptr r j) (.int .i64 v) 1 = some h' ∧ Ext b h h' ∧ Keep3 h h' ∧ Own b h' r 3 (ints (ys.set j v)) ∧ h'.size = h.size := by
  obtain ⟨h', t, x, o', s, k⟩ := Own.stX o (off := j) (n := 1) (v := .int .i64 v) rfl rfl (by simp [ints]; omega)
  rw [ints_splice ys hj] at o'
  exact ⟨h', t, x, k, o', s⟩
theorem ld3 {b : Nat} {h : AHeap} {r : Nat} {ys : List Int} (o : Own b h r 3 (ints ys)) {k v : Int} (h0 : 0 ≤ k) (hk : ys[k.toNat]? = some v) : aIdx (slc r 0 ys.length) (.int .i64 k) 1 = some (ptr r k.toNat) ∧ aLd1 h (ptr r k.toNat) = some (.int .i64 v) := by
  have hlt := (List.getElem?_eq_some_iff.1 hk).1
  refine ⟨by simp [aIdx, slc]; omega, o.row.ld1 ?_⟩
  show (ys.map (Value.int .i64))[k.toNat]? = _
  rw [List.getElem?_map, hk]; rfl
theorem nest_in {C : ACall} {N n1 b r p5 iN L : Nat} {tv nv kv : Value} {n : Kn} {F : Int → Int} (hiN : iN < L) (hL : L ≤ 3000) (hl : n.ks.length ≤ 1048576) (hr : ∀ k ∈ n.ks, 0 ≤ k ∧ k < iN) :
    ∀ (k j m : Nat) (a : Int) (ys : List Int) (h : AHeap), n.ks.length - j = k → j ≤ n.ks.length → k < m → ys.length = L → Own b h r 3 (ints ys) → (∀ h', Ext b h h' → ISl b h' kv n.ks) → RowE h p5 73 (knCells n kv) → ys[iN]? = some a → (∀ k ∈ n.ks, ys[k.toNat]? = some (F k)) →
      ∃ h', s25_1 hk0 C N n1 m tv (slc r 0 L) (iN : Int) (ptr p5 0) nv (L : Int) (iN : Int) kv (n.ks.length : Int) (j : Int) h = s25_0 hk0 C N n1 tv (slc r 0 L) nv (L : Int) ((iN + 1 : Nat) : Int) h' ∧ Ext b h h' ∧ Keep3 h h' ∧
        Own b h' r 3 (ints (ys.set iN (neEnd n.k ((n.ks.drop j).foldl (neStep F) a)))) := by
  intro k
  induction k with
  | zero =>
    intro j m a ys h hk hj hm hy o hkv r5 ha hF
    obtain ⟨m, rfl⟩ : ∃ q, m = q + 1 := ⟨m - 1, by omega⟩
    have : ¬ ((j : Int) < (n.ks.length : Int)) := by omega
    obtain ⟨b0, _, _⟩ := nodeRow r5.row
    obtain ⟨i1, i2⟩ := ld3 o (k := (iN : Int)) (by omega) ha
    rw [hy] at i1
    by_cases h6 : n.k = 6
    · obtain ⟨h2, t2, x2, k2, o2, s2⟩ := st3 o (j := iN) (by omega) (IntKind.i64.wrap (a + 1))
      have i1' : aIdx (slc r 0 L) (.int .i64 (iN : Int)) 1 = some (ptr r iN) := i1
      have i2' : aLd1 h (ptr r iN) = some (.int .i64 a) := i2
      have w := show IntKind.i64.wrap ((iN : Int) + 1) = ((iN + 1 : Nat) : Int) from by
        rw [wr (by omega) (by omega)]; omega
      refine ⟨h2, ?_, x2, k2, ?_⟩
      · rw [s25_1_eq, decide_eq_false this, cond_false]
        simp only [aOff_ptr, Nat.zero_add, Option.bind_some, b0, asI, if_true, h6]
        rw [show ((6 : Int) == 6) = true from rfl, cond_true]
        simp only [i1', i2', Option.bind_some, asI, if_true, t2, w]
      · rw [List.drop_eq_nil_of_le (by omega), List.foldl_nil]
        unfold neEnd
        rw [if_pos h6]; exact o2
    · have w := show IntKind.i64.wrap ((iN : Int) + 1) = ((iN + 1 : Nat) : Int) from by
        rw [wr (by omega) (by omega)]; omega
      refine ⟨h, ?_, Ext.refl _ _, Keep3.refl _, ?_⟩
      · rw [s25_1_eq, decide_eq_false this, cond_false]
        simp only [aOff_ptr, Nat.zero_add, Option.bind_some, b0, asI, if_true]
        rw [beq_eq_false_iff_ne.2 h6, cond_false, w]
      · rw [List.drop_eq_nil_of_le (by omega), List.foldl_nil]
        unfold neEnd
        rw [if_neg h6]
        have : ys.set iN a = ys := List.ext_getElem? fun i => by
          by_cases he : i = iN
          · subst he; rw [List.getElem?_set_self (by omega), ha]
          · rw [List.getElem?_set_ne (by omega)]
        rw [this]; exact o
  | succ k ih =>
    intro j m a ys h hk hj hm hy o hkv r5 ha hF
    obtain ⟨m, rfl⟩ : ∃ q, m = q + 1 := ⟨m - 1, by omega⟩
    have hlt : j < n.ks.length := by omega
    have hI : ((j : Int) < (n.ks.length : Int)) := by omega
    have y := hkv h (Ext.refl _ _)
    obtain ⟨p, e1, e2⟩ := y.at hlt
    have hmem := List.getElem_mem hlt
    have hk' := hr _ hmem
    obtain ⟨i1, i2⟩ := ld3 o (k := (iN : Int)) (by omega) ha
    obtain ⟨g1, g2⟩ := ld3 o hk'.1 (hF _ hmem)
    rw [hy] at i1 g1
    have i1' : aIdx (slc r 0 L) (.int .i64 (iN : Int)) 1 = some (ptr r iN) := i1
    have i2' : aLd1 h (ptr r iN) = some (.int .i64 a) := i2
    have wj : IntKind.i64.wrap ((j : Int) + 1) = ((j + 1 : Nat) : Int) := by rw [wr (by omega) (by omega)]; omega
    obtain ⟨h2, t2, x2, k2, o2, s2⟩ := st3 o (j := iN) (by omega) (neStep F a n.ks[j])
    have t2' : aSt h (ptr r iN) (.int .i64 (if F n.ks[j] > a then F n.ks[j] else a)) 1 = some h2 := t2
    obtain ⟨h3, c3, x3, k3, o3⟩ := ih (j + 1) m (neStep F a n.ks[j]) (ys.set iN (neStep F a n.ks[j])) h2 (by omega) (by omega) (by omega) (by simp [hy]) o2 (fun h' e => hkv h' (x2.trans e)) (r5.keep3 (by decide) k2)
      (List.getElem?_set_self (by omega)) (fun k hk => by
        have := hr k hk
        rw [List.getElem?_set_ne (by omega)]; exact hF k hk)
    refine ⟨h3, ?_, x2.trans x3, k2.trans k3, ?_⟩
    · rw [s25_1_eq, decide_eq_true hI, cond_true, e1, Option.bind_some, e2, Option.bind_some]
      simp only [asI, if_true, Option.bind_some, i1', i2', g1, g2, t2', wj, c3]
    · rw [List.drop_eq_getElem_cons hlt, List.foldl_cons]
      rw [List.set_set] at o3
      exact o3
end Go.Proofs.Ytadmoackacickaa
/- NestOf: both say the same. -/
set_option linter.unusedSimpArgs false
namespace Go.Proofs.Ytadmoackacickaa
open Go Go.AH

theorem PF_eq {T : List Kn} (hG : Ranges T) {j : Nat} {n : Kn} (hn : T[j]? = some n) :
    PF T (j + 1) (j : Int) = (n.ks.foldl (szStep fun k => (PF T (k.toNat + 1) k).1) 1, neEnd n.k (n.ks.foldl (neStep fun k => (PF T (k.toNat + 1) k).2) 0)) := by
  have hn' : T[(j : Int).toNat]? = some n := hn
  have hk : ∀ k ∈ n.ks, PF T j k = PF T (k.toNat + 1) k := fun k hk => by
    have := hG j n hn k hk
    exact PF_fuel hG _ _ k this.1 (by omega) (by omega)
  have e0 : PF T (j + 1) (j : Int) = (n.ks.foldl (szStep fun k => (PF T j k).1) 1, neEnd n.k (n.ks.foldl (neStep fun k => (PF T j k).2) 0)) := by
    show (match T[(j : Int).toNat]? with
      | some n => (n.ks.foldl (szStep fun k => (PF T j k).1) 1, neEnd n.k (n.ks.foldl (neStep fun k => (PF T j k).2) 0))
      | none => (0, 0)) = _
    rw [hn']
  rw [e0]
  rw [sz_same n.ks 1 (fun k h => by rw [hk k h]), ne_same n.ks 0 (fun k h => by rw [hk k h])]
theorem nest_out {C : ACall} {N b c r p2 : Nat} {nv : Value} {T : List Kn} {top : Int} (hT : T.length ≤ 3000) (hN : ∀ n ∈ T, n.t.size ≤ 1048576 ∧ n.ks.length ≤ 1048576) (hNN : 1048577 < N) (hG : Ranges T) (ht0 : 0 ≤ top) (ht1 : top < T.length) (hcb : c ≤ b) :
    ∀ (k j m : Nat) (ys : List Int) (h : AHeap), T.length - j = k → j ≤ T.length → k < m → ys.length = T.length → b ≤ h.size → Own b h r 3 (ints ys) → KSl c h nv T → RowE h p2 35 [nv, .int .i64 top] →
      (∀ i, i < j → ys[i]? = some (PF T (i + 1) i).2) → (∀ i, j ≤ i → i < T.length → ys[i]? = some 0) →
      ∃ h', s25_0 hk0 C N m (ptr p2 0) (slc r 0 T.length) nv (T.length : Int) (j : Int) h = some (.int .i64 (PF T (top.toNat + 1) top).2, h') ∧ Ext b h h' := by
  intro k
  induction k with
  | zero =>
    intro j m ys h hk hj hm hy hb o x rp hlo hhi
    obtain ⟨m, rfl⟩ : ∃ q, m = q + 1 := ⟨m - 1, by omega⟩
    have : ¬ ((j : Int) < (T.length : Int)) := by omega
    obtain ⟨_, a1, _⟩ := ld2 rp.row
    have htop : ys[top.toNat]? = some (PF T (top.toNat + 1) top).2 := by
      have := hlo top.toNat (by omega)
      rw [this, show ((top.toNat : Nat) : Int) = top by omega]
    obtain ⟨g1, g2⟩ := ld3 o ht0 htop
    rw [hy] at g1
    refine ⟨h, ?_, Ext.refl _ _⟩
    rw [s25_0_eq, decide_eq_false this, cond_false]
    simp only [aOff_ptr, Nat.zero_add, Option.bind_some, a1, asI, if_true, g1, g2]
  | succ k ih =>
    intro j m ys h hk hj hm hy hb o x rp hlo hhi
    obtain ⟨m, rfl⟩ : ∃ q, m = q + 1 := ⟨m - 1, by omega⟩
    have hlt : j < T.length := by omega
    have hI : ((j : Int) < (T.length : Int)) := by omega
    have hn : T[j]? = some T[j] := by simp [hlt]
    obtain ⟨id, kv, g1, g2, g3⟩ := x.at hlt
    obtain ⟨g4, _⟩ := g3 h (Ext.refl _ _)
    have e1 := Ext.new (Nat.le_refl h.size) 73 [.int .i64 0, .string ⟨#[]⟩, .int .i64 0, .slice none 0 0]
    have q1 := Own.new (Nat.le_refl h.size) 73 [.int .i64 0, .string ⟨#[]⟩, .int .i64 0, .slice none 0 0]
    have s1 : (h.new 73 [.int .i64 0, .string ⟨#[]⟩, .int .i64 0, .slice none 0 0]).size = h.size + 1 := rfl
    rw [s25_0_eq, decide_eq_true hI, cond_true, g1, Option.bind_some, g4, Option.bind_some]
    simp only [aNew]
    generalize h.new 73 [.int .i64 0, .string ⟨#[]⟩, .int .i64 0, .slice none 0 0] = h1 at e1 q1 s1 ⊢
    obtain ⟨h2, t2, x2, q2, s2⟩ := Own.stN q1 (n := 4) (v := knVal T[j] kv) (kn_aCells g2) rfl rfl
    have E2 : Ext h.size h h2 := e1.trans x2
    have r5 : RowE h2 h.size 73 (knCells T[j] kv) := Own.rowE q2
    have o2 := o.ext E2 o.lt.2
    have y2 : ISl b h2 kv T[j].ks := (g2.mono hcb).ext (E2.mono hb)
    obtain ⟨_, b3, _⟩ := nodeRow r5.row
    have hrg := hG j _ hn
    have wj : IntKind.i64.wrap ((j : Int) + 1) = ((j + 1 : Nat) : Int) := by rw [wr (by omega) (by omega)]; omega
    obtain ⟨h3, c3, x3, k3, o3⟩ := nest_in (C := C) (N := N) (n1 := m) (tv := ptr p2 0) (nv := nv) (F := fun k => (PF T (k.toNat + 1) k).2) hlt hT (hN _ (List.getElem_mem hlt)).2 hrg T[j].ks.length 0 N 0 ys h2 (by omega) (by omega) (by have := (hN _ (List.getElem_mem hlt)).2; omega) hy o2 (fun h' e => y2.ext e) r5 (hhi j (by omega) hlt) (fun k hk => by
      have := hrg k hk
      rw [hlo k.toNat (by omega), show ((k.toNat : Nat) : Int) = k by omega])
    rw [t2, Option.bind_some]
    simp only [aOff_ptr, Nat.zero_add, b3, Option.bind_some, y2.len, asI, if_true]
    have hval : neEnd T[j].k ((T[j].ks.drop 0).foldl (neStep fun k => (PF T (k.toNat + 1) k).2) 0) = (PF T (j + 1) j).2 := by rw [PF_eq hG hn]; rfl
    rw [hval] at o3
    have c3' : s25_1 hk0 C N m N (ptr p2 0) (slc r 0 T.length) (j : Int) (ptr h.size 0) nv (T.length : Int) (j : Int) kv (T[j].ks.length : Int) 0 h2 = _ := c3
    rw [c3']
    have E3 : Ext b h h3 := (E2.mono hb).trans x3
    obtain ⟨h4, c4, x4⟩ := ih (j + 1) m (ys.set j (PF T (j + 1) j).2) h3 (by omega) (by omega) (by omega) (by simp [hy]) (Nat.le_trans hb E3.size) o3 (x.ext (E3.mono hcb)) (rp.keep3 (by decide) ((Keep3.ext E2).trans k3)) (fun i hi => by
      by_cases he : i = j
      · subst he; rw [List.getElem?_set_self (by omega)]
      · rw [List.getElem?_set_ne (by omega)]; exact hlo i (by omega)) (fun i h1 h2' => by
      rw [List.getElem?_set_ne (by omega)]; exact hhi i (by omega) h2')
    exact ⟨h4, c4, E3.trans x4⟩
theorem l25 {d c : Nat} (hd : 1048577 < d) {nv : Value} {T : List Kn} {top : Int} {h : AHeap} (x : KSl c h nv T) (hc : c ≤ h.size) (hb : T.length ≤ 1048576) (hN : ∀ n ∈ T, n.t.size ≤ 1048576 ∧ n.ks.length ≤ 1048576) :
    ∃ h', call Try.prog Ms (d + 3010 + 10) 25 [trVal nv top] h = some (.int .i64 (nestP T top), h') ∧ Ext h.size h h' := by
  have e1 := Ext.new (Nat.le_refl h.size) 35 [nv, .int .i64 top]
  have r1 := RowE.new h 35 [nv, .int .i64 top]
  have s1 : (h.new 35 [nv, .int .i64 top]).size = h.size + 1 := rfl
  have hcall : call Try.prog Ms (d + 3010 + 10) 25 [trVal nv top] h = evFn hk0 Try.prog (call Try.prog Ms (d + 3010 + 9)) M25 (d + 3010 + 9) Try.f25 [trVal nv top] h := c25 (d + 3010 + 9) _ _
  rw [hcall, e25, tr_aCells x, Option.bind_some]
  simp only [aNew]
  have x1 := x.ext (e1.mono hc)
  generalize h.new 35 [nv, .int .i64 top] = h1 at e1 r1 s1 x1 ⊢
  obtain ⟨_, _, aN⟩ := ld2 r1.row
  have aN' : aLdN h1 (ptr h.size 0) 2 = some (trVal nv top) := aN
  obtain ⟨h2, c2, x2⟩ := l22 hd (top := top) x1 (by omega) hb hN
  have s2 := x2.size
  have r2 := r1.keep3 (by decide) (Keep3.ext x2)
  obtain ⟨b0, _, _⟩ := ld2 r2.row
  have xx2 := x1.ext (x2.mono (by omega))
  rw [aN', Option.bind_some, c2, Option.bind_some]
  simp only [asB, Option.bind_some]
  unfold nestP
  rw [ok_same]
  cases hok : implOk T top with
  | false => exact ⟨h2, rfl, e1.trans (x2.mono (by omega))⟩
  | true =>
    obtain ⟨o1, o2, o3, o4⟩ := ok_spec (T := T) (top := top) (by rw [ok_same]; exact hok)
    have e3 := Ext.new (Nat.le_refl h2.size) 3 (ints (List.replicate T.length 0))
    have q3 := Own.new (Nat.le_refl h2.size) 3 (ints (List.replicate T.length 0))
    have s3 : (h2.new 3 (ints (List.replicate T.length 0))).size = h2.size + 1 := rfl
    rw [Bool.not_true, cond_false]
    simp only [aOff_ptr, Nat.zero_add, Option.bind_some, b0, x.len, asI, if_true]
    rw [mk_some _ _ _ _ _ (by omega) (by omega), Option.bind_some, rep_ints]
    have r3 := r2.keep3 (by decide) (Keep3.ext e3)
    have xx3 := xx2.ext (e3.mono (by omega))
    generalize h2.new 3 (ints (List.replicate T.length 0)) = h3 at e3 q3 s3 r3 xx3 ⊢
    obtain ⟨d0, _, _⟩ := ld2 r3.row
    simp only [d0, Option.bind_some, x.len, asI, if_true]
    obtain ⟨h4, c4, x4⟩ := nest_out (C := call Try.prog Ms (d + 3010 + 9)) (N := d + 3010 + 9) (b := h2.size) (r := h2.size) (p2 := h.size) (nv := nv) (top := top) o1 hN (by omega) o4 (by omega) (by omega) (show c ≤ h2.size by omega) T.length 0 (d + 3010 + 9) (List.replicate T.length 0) h3 (by omega) (by omega) (by omega) (by simp) (by omega) q3 xx3 r3 (fun i hi => by omega) (fun i _ hi => by rw [List.getElem?_replicate, if_pos hi])
    refine ⟨h4, ?_, e1.trans ((x2.mono (by omega)).trans ((e3.mono (by omega)).trans (x4.mono (by omega))))⟩
    have hT : top.toNat + 1 = T.length := by omega
    rw [PF_fuel o4 (T.length + 1) (top.toNat + 1) top (by omega) (by omega) (by omega)]
    exact c4
end Go.Proofs.Ytadmoackacickaa
/- SizesOf: frames; the reference's; impl's loops. -/
set_option linter.unusedSimpArgs false
namespace Go.Proofs.Ytadmoackacickaa
open Go Go.AH

/-- A row that may be written, with its root. -/
def OwnR (h : AHeap) (i root : Nat) (e : TypeId) (cs : List Value) : Prop := ∃ ep, h.at? i = some ⟨root, ep, false, e, cs⟩
/-- All rows are as they were but ints of a root. -/
def Kr (root : Nat) (h h' : AHeap) : Prop := ∀ j o, h.at? j = some o → (o.elem ≠ 3 ∨ o.root ≠ root) → h'.at? j = some o
theorem Kr.refl (root : Nat) (h : AHeap) : Kr root h h := fun _ _ h _ => h
theorem Kr.trans {root : Nat} {h h' h'' : AHeap} (x : Kr root h h') (y : Kr root h' h'') : Kr root h h'' := fun j o a b => y j o (x j o a b) b
theorem Kr.ext {root : Nat} {h h' : AHeap} (x : Ext h.size h h') : Kr root h h' := fun j o a _ => x.at? (at?_obj a).2.1 a
theorem OwnR.own {h : AHeap} {i root b : Nat} {e : TypeId} {cs : List Value} (x : OwnR h i root e cs) (hb : b ≤ root) : Own b h i e cs := let ⟨ep, a⟩ := x; ⟨root, ep, a, hb⟩
theorem OwnR.lt {h : AHeap} {i root : Nat} {e : TypeId} {cs : List Value} (x : OwnR h i root e cs) : root ≤ i ∧ i < h.size := let ⟨_, a⟩ := x; ⟨(at?_obj a).2.2.1, (at?_obj a).2.1⟩
theorem OwnR.keep {h h' : AHeap} {i root rt : Nat} {e : TypeId} {cs : List Value} (x : OwnR h i root e cs) (k : Kr rt h h') (hr : e ≠ 3 ∨ root ≠ rt) : OwnR h' i root e cs := let ⟨ep, a⟩ := x; ⟨ep, k i _ a hr⟩
theorem OwnR.new (h : AHeap) (e : TypeId) (cs : List Value) : OwnR (h.new e cs) h.size h.size e cs := ⟨_, at?_new_same h e cs⟩
theorem OwnR.row {h : AHeap} {i root : Nat} {e : TypeId} {cs : List Value} (x : OwnR h i root e cs) : Row h i cs := let ⟨_, a⟩ := x; ⟨_, a, rfl⟩
theorem RowE.keepR {h h' : AHeap} {i rt : Nat} {e : TypeId} {cs : List Value} (x : RowE h i e cs) (he : e ≠ 3) (k : Kr rt h h') : RowE h' i e cs := let ⟨o, a, b, c⟩ := x; ⟨o, k i o a (.inl (by rw [b]; exact he)), b, c⟩
theorem stR {b : Nat} {h : AHeap} {r rt j : Nat} {ys : List Int} (o : OwnR h r rt 3 (ints ys)) (hb : b ≤ rt) (hj : j < ys.length) (v : Int) :
    ∃ h', aSt h (ptr r j) (.int .i64 v) 1 = some h' ∧ Ext b h h' ∧ Kr rt h h' ∧ OwnR h' r rt 3 (ints (ys.set j v)) ∧ h'.size = h.size := by
  obtain ⟨ep, h1⟩ := o
  have hi := at?_obj h1
  have hfit : j + 1 ≤ (ints ys).length := by simp [ints]; omega
  refine ⟨h.put r ⟨rt, ep, false, 3, ints ys⟩ (splice (ints ys) j [.int .i64 v]), by simp [aSt, ptr, h1, aCells_int, hfit], Ext.put (Nat.le_trans hb hi.2.2.1) hb _, fun k o ho hk => ?_, ⟨h.ep 3 rt + 1, ?_⟩, rfl⟩
  · exact at?_put_other ho (fun e => by subst e; rw [h1] at ho; cases ho; rcases hk with a | a <;> exact a rfl) _ (fun hh => hk.elim (fun a => a hh.1) (fun a => a hh.2))
  · rw [← ints_splice ys hj]; exact at?_put_same h1 _
theorem OwnR.app {b : Nat} {h : AHeap} {i n m esz bytes rt : Nat} {e : TypeId} {cs ms : List Value} {x : Value} (o : OwnR h i rt e cs) (hb : b ≤ rt) (hbs : b ≤ h.size) (hsrc : aSrc h esz x = some (m, ms)) (hn : n * esz = cs.length)
    (h1 : n + m ≤ most) (h2 : (n + m) * bytes ≤ most) :
    ∃ h', aApp h e esz bytes (slc i 0 n) x = some (slc h.size 0 (n + m), h') ∧ Ext b h h' ∧ OwnR h' h.size rt e (cs ++ ms) ∧ h'.size = h.size + 1 ∧ ∀ j o', h.at? j = some o' → (o'.elem ≠ e ∨ o'.root ≠ rt) → h'.at? j = some o' := by
  obtain ⟨ep, ha⟩ := o
  refine ⟨h.app ⟨rt, ep, false, e, cs⟩ (n * esz) (cs ++ ms), ?_, Ext.app hbs hb _ _, ⟨_, at?_app_same ha _ _⟩, rfl, fun j o' ho hk => at?_app_old ho _ (fun hh => hk.elim (fun a => absurd hh.1 a) (fun a => absurd hh.2 a))⟩
  simp [aApp, aAppG, slc, ha, hsrc, hn, h1, h2]
theorem appR {b : Nat} {h : AHeap} {i rt : Nat} {xs : List Int} (o : OwnR h i rt 3 (ints xs)) (hb : b ≤ rt) (hbs : b ≤ h.size) (hl : xs.length ≤ 2000000) (y : Int) :
    ∃ i' h', aApp (h.new 3 [.int .i64 y]) 3 1 8 (slc i 0 xs.length) (slc h.size 0 1) = some (slc i' 0 (xs ++ [y]).length, h') ∧ Ext b h h' ∧ Kr rt h h' ∧ OwnR h' i' rt 3 (ints (xs ++ [y])) := by
  have e := Ext.new (Nat.le_refl h.size) 3 [Value.int .i64 y]
  have w := (Own.new (b := 0) (Nat.zero_le h.size) 3 [Value.int .i64 y]).row
  have hS : (h.new 3 [Value.int .i64 y]).size = h.size + 1 := rfl
  have hsrc : aSrc (h.new 3 [Value.int .i64 y]) 1 (slc h.size 0 1) = some (1, [Value.int .i64 y]) := w.src (n := 1) (esz := 1) (by show 0 + 1 * 1 ≤ 1; omega)
  have o1 := o.keep (Kr.ext e (root := rt + 1)) (.inr (by omega))
  obtain ⟨h', t, x, o', s', k⟩ := o1.app (n := xs.length) (bytes := 8) (esz := 1) hb (by omega) hsrc (by simp [ints]) (by show xs.length + 1 ≤ 140737488355328; omega) (by show (xs.length + 1) * 8 ≤ 140737488355328; omega)
  refine ⟨(h.new 3 [.int .i64 y]).size, h', by simpa using t, (e.mono hbs).trans x, fun j ob ho hk => k j ob (e.at? (at?_obj ho).2.1 ho) hk, ?_⟩
  rw [show ints (xs ++ [y]) = ints xs ++ [.int .i64 y] by simp [ints]]
  exact o'
/-- The sizes of a tree's functions. -/
def szFrom (T : List Kn) : Nat → Nat → List Int
  | 0, _ => []
  | k + 1, j => (match T[j]? with | some n => if n.k = 6 then [(PF T (j + 1) j).1] else [] | none => []) ++ szFrom T k (j + 1)
def sizesP (T : List Kn) (top : Int) : List Int := if specOk T top = true then szFrom T T.length 0 else []
theorem szFrom_len (T : List Kn) : ∀ k j, (szFrom T k j).length ≤ k
  | 0, _ => Nat.le_refl _
  | k + 1, j => by
    have := szFrom_len T k (j + 1)
    rw [szFrom, List.length_append]
    have : (match T[j]? with | some n => if n.k = 6 then [(PF T (j + 1) j).1] else [] | none => [] : List Int).length ≤ 1 := by
      cases T[j]? with
      | none => exact Nat.zero_le _
      | some n =>
        show (if n.k = 6 then [(PF T (j + 1) j).1] else [] : List Int).length ≤ 1
        split
        · exact Nat.le_refl _
        · exact Nat.zero_le _
    omega
theorem spec_sizes {d b c p2 : Nat} (hd : 1048577 < d) {nv : Value} {T : List Kn} {top : Int} (hT : T.length ≤ 3000) (hN : ∀ n ∈ T, n.t.size ≤ 1048576 ∧ n.ks.length ≤ 1048576) (hG : Ranges T) (hcb : c ≤ b) (hp2 : p2 < b) :
    ∀ (k j m : Nat) (v : Value) (xs : List Int) (h : AHeap), T.length - j = k → j ≤ T.length → k < m → b ≤ h.size → IOwn b h v xs → xs.length ≤ j → KSl c h nv T → Row h p2 [nv, .int .i64 top] →
      ∃ v' h', s30_0 hk0 (call Try.prog Ms (d + 3010 + 8)) (d + 3010 + 8) m (ptr p2 0) v (j : Int) h = some (v', h') ∧ Ext b h h' ∧ IOwn b h' v' (xs ++ szFrom T k j) := by
  intro k
  induction k with
  | zero =>
    intro j m v xs h hk hj hm hb o hx x rp
    obtain ⟨m, rfl⟩ : ∃ q, m = q + 1 := ⟨m - 1, by omega⟩
    have : ¬ ((j : Int) < (T.length : Int)) := by omega
    obtain ⟨a0, _, _⟩ := ld2 rp
    refine ⟨v, h, ?_, Ext.refl _ _, by rw [szFrom, List.append_nil]; exact o⟩
    rw [s30_0_eq]
    simp only [aOff_ptr, Nat.zero_add, Option.bind_some, a0, x.len, asI, if_true, decide_eq_false this, cond_false]
  | succ k ih =>
    intro j m v xs h hk hj hm hb o hx x rp
    obtain ⟨m, rfl⟩ : ∃ q, m = q + 1 := ⟨m - 1, by omega⟩
    have hlt : j < T.length := by omega
    have hI : ((j : Int) < (T.length : Int)) := by omega
    have hn : T[j]? = some T[j] := by simp [hlt]
    obtain ⟨a0, _, aN⟩ := ld2 rp
    have aN' : aLdN h (ptr p2 0) 2 = some (trVal nv top) := aN
    obtain ⟨id, kv, g1, g2, g3⟩ := x.at hlt
    obtain ⟨_, g4, _⟩ := g3 h (Ext.refl _ _)
    have wj : IntKind.i64.wrap ((j : Int) + 1) = ((j + 1 : Nat) : Int) := by rw [wr (by omega) (by omega)]; omega
    rw [s30_0_eq, szFrom, hn]
    simp only [aOff_ptr, Nat.zero_add, Nat.add_zero, Option.bind_some, a0, x.len, asI, if_true, decide_eq_true hI, cond_true, g1, g4]
    by_cases h6 : T[j].k = 6
    · obtain ⟨h2, c2, x2⟩ := l62 hd (nv := nv) (top := top) hT hN hG (j + 1) (d + 3010 + 7) (j : Int) h (by omega) (by omega) (by omega) (by omega) x (Nat.le_trans hcb hb)
      have c2' : call Try.prog Ms (d + 3010 + 8) 62 [trVal nv top, .int .i64 (j : Int)] h = _ := c2
      have t0 : ∀ a b : Int, aExt (two a b) 0 = some (.int .i64 a) := fun _ _ => rfl
      have t1 : ∀ a b : Int, aExt (two a b) 1 = some (.int .i64 b) := fun _ _ => rfl
      have s2 := x2.size
      obtain ⟨v3, h3, c3, x3, o3⟩ := (o.ext x2).push (by omega) (by omega) (PF T (j + 1) j).1
      have E3 := (x2.mono hb).trans x3
      obtain ⟨v4, h4, c4, x4, o4⟩ := ih (j + 1) m v3 (xs ++ [(PF T (j + 1) j).1]) h3 (by omega) (by omega) (by omega) (by have := x3.size; omega) o3 (by simp; omega) (x.ext (E3.mono hcb)) (rp.ext E3 hp2)
      refine ⟨v4, h4, ?_, E3.trans x4, ?_⟩
      · rw [h6, show ((6 : Int) == 6) = true from rfl, cond_true, aN', Option.bind_some, c2', Option.bind_some]
        simp only [t0, t1, Option.bind_some, asI, if_true, aNewS]
        rw [c3, Option.bind_some, wj, c4]
      · rw [if_pos h6, ← List.append_assoc]; exact o4
    · obtain ⟨v4, h4, c4, x4, o4⟩ := ih (j + 1) m v xs h (by omega) (by omega) (by omega) hb o (by omega) x rp
      refine ⟨v4, h4, ?_, x4, ?_⟩
      · rw [beq_eq_false_iff_ne.2 h6, cond_false, wj, c4]
      · rw [if_neg h6, List.nil_append]; exact o4
theorem l30 {d c : Nat} (hd : 1048577 < d) {nv : Value} {T : List Kn} {top : Int} {h : AHeap} (x : KSl c h nv T) (hc : c ≤ h.size) (hb : T.length ≤ 1048576) (hN : ∀ n ∈ T, n.t.size ≤ 1048576 ∧ n.ks.length ≤ 1048576) :
    ∃ v h', call Try.prog Ms (d + 3010 + 9) 30 [trVal nv top] h = some (v, h') ∧ Ext h.size h h' ∧ IOwn h.size h' v (sizesP T top) := by
  have e1 := Ext.new (Nat.le_refl h.size) 35 [nv, .int .i64 top]
  have r1 := (Own.new (b := h.size) (Nat.le_refl _) 35 [nv, .int .i64 top]).row
  have s1 : (h.new 35 [nv, .int .i64 top]).size = h.size + 1 := rfl
  have hcall : call Try.prog Ms (d + 3010 + 9) 30 [trVal nv top] h = evFn hk0 Try.prog (call Try.prog Ms (d + 3010 + 8)) M30 (d + 3010 + 8) Try.f30 [trVal nv top] h := c30 (d + 3010 + 8) _ _
  rw [hcall, e30, tr_aCells x, Option.bind_some]
  simp only [aNew]
  have x1 := x.ext (e1.mono hc)
  generalize h.new 35 [nv, .int .i64 top] = h1 at e1 r1 s1 x1 ⊢
  have e2 := Ext.new (Nat.le_refl h1.size) 3 ([] : List Value)
  have i2 : IOwn h1.size (h1.new 3 []) (slc h1.size 0 0) [] := IOwn.newS (Nat.le_refl h1.size) []
  have s2 : (h1.new 3 []).size = h1.size + 1 := rfl
  simp only [aNewS]
  have x2 := x1.ext (e2.mono (by omega))
  have r2 := r1.ext e2 (by omega)
  generalize h1.new 3 [] = h2 at e2 i2 s2 x2 r2 ⊢
  obtain ⟨_, _, aN⟩ := ld2 r2
  have aN' : aLdN h2 (ptr h.size 0) 2 = some (trVal nv top) := aN
  obtain ⟨h3, c3', x3⟩ := l20 (d := d + 1) (by omega) (top := top) x2 (by omega) hb hN
  rw [show d + 1 + 3010 + 7 = d + 3010 + 8 by omega] at c3'
  have s3 := x3.size
  have i3 := i2.ext x3
  have r3 := r2.ext x3 (by omega)
  have xx3 := x2.ext (x3.mono (by omega))
  rw [aN', Option.bind_some, c3', Option.bind_some]
  simp only [asB, Option.bind_some]
  unfold sizesP
  cases hok : specOk T top with
  | false => exact ⟨_, h3, rfl, e1.trans ((e2.mono (by omega)).trans (x3.mono (by omega))), i3.mono (by omega)⟩
  | true =>
    obtain ⟨o1, o2, o3, o4⟩ := ok_spec hok
    obtain ⟨v4, h4, c4, x4, i4⟩ := spec_sizes (b := h1.size) (c := c) (p2 := h.size) hd (nv := nv) (top := top) o1 hN o4 (by omega) (by omega) T.length 0 (d + 3010 + 8) _ [] h3 (by omega) (by omega) (by omega) (by omega) i3 (Nat.zero_le _) xx3 r3
    refine ⟨v4, h4, ?_, e1.trans ((e2.mono (by omega)).trans ((x3.mono (by omega)).trans (x4.mono (by omega)))), (by simpa using i4.mono (by omega))⟩
    rw [Bool.not_true, cond_false]
    exact c4
end Go.Proofs.Ytadmoackacickaa
set_option linter.unusedVariables false
namespace Go.Proofs.Ytadmoackacickaa
open Go Go.AH
/-! 247 (*loop.example/g00101/impl.parser).field -/
noncomputable def F247_0 (hk : Hk (Value × AHeap)) (C : ACall) (N : Nat) : Nx (Value × AHeap) := evSt hk Try.prog C M247 N Try.f247 [1, 1, 0, 1, 1] []
noncomputable def s247_0 (hk : Hk (Value × AHeap)) (C : ACall) (N : Nat) (x0 : Value) (x5 : Value) (x71 : Bool) (h : AHeap) := hk 100009 (⟨96, [(0, x0), (5, x5), (71, .bool x71)]⟩) h (F247_0 hk C N)
noncomputable def F247_1 (hk : Hk (Value × AHeap)) (C : ACall) (N : Nat) : Nx (Value × AHeap) := evSt hk Try.prog C M247 N Try.f247 [1, 1, 1] []
noncomputable def s247_1 (hk : Hk (Value × AHeap)) (C : ACall) (N : Nat) (x0 : Value) (h : AHeap) := hk 13 (⟨96, [(0, x0)]⟩) h (F247_1 hk C N)
theorem e247 (hk : Hk (Value × AHeap)) (C : ACall) (N : Nat) (x0 : Value) (h : AHeap) : evFn hk Try.prog C M247 N Try.f247 [x0] h =
    (C 107 [x0, .string (⟨#[91]⟩)] h).bind fun r1 => (asB r1.1).bind fun b2 => bif b2 then (C 110 [x0] r1.2).bind fun r3 => (asI .i64 r3.1).bind fun n4 => (C 109 [x0, .string (⟨#[93]⟩)] r3.2).bind fun r5 => (C 109 [x0, .string (⟨#[61]⟩)] r5.2).bind fun r6 => (C 110 [x0] r6.2).bind fun r7 => (asI .i64 r7.1).bind fun n8 => aNewS r7.2 3 [.int .i64 n4, .int .i64 n8] 2 fun p9 h10 => (C 64 [x0, .int .i64 24, .string ⟨#[]⟩, .int .i64 0, p9] h10).bind fun r11 => (asI .i64 r11.1).bind fun n12 => some (.int .i64 n12, r11.2) else (C 155 [x0] r1.2).bind fun r13 => aNew r13.2 53 [.int .i64 0, .int .i64 0, .string ⟨#[]⟩, .int .i64 0] fun p14 h15 => (aSt h15 p14 r13.1 4).bind fun h16 => (aOff p14 0).bind fun v17 => (aLd1 h16 v17).bind fun v18 => (asI .i64 v18).bind fun n19 => bif n19 == 1 then (aNil x0).bind fun v20 => (aOff v20 1).bind fun v21 => (aLd1 h16 v21).bind fun v22 => (asI .i64 v22).bind fun n23 => (aNil x0).bind fun v24 => (aOff v24 0).bind fun v25 => (aLd1 h16 v25).bind fun v26 => (aLen v26).bind fun v27 => (asI .i64 v27).bind fun n28 => bif decide ((IntKind.i64.wrap (n23 + 1)) < n28) then (aNil x0).bind fun v29 => (aOff v29 0).bind fun v30 => (aLd1 h16 v30).bind fun v31 => (aNil x0).bind fun v32 => (aOff v32 1).bind fun v33 => (aLd1 h16 v33).bind fun v34 => (asI .i64 v34).bind fun n35 => (aIdx v31 (.int .i64 (IntKind.i64.wrap (n35 + 1))) 4).bind fun v36 => (aOff v36 0).bind fun v37 => (aLd1 h16 v37).bind fun v38 => (asI .i64 v38).bind fun n39 => bif n39 == 5 then (aNil x0).bind fun v40 => (aOff v40 0).bind fun v41 => (aLd1 h16 v41).bind fun v42 => (aNil x0).bind fun v43 => (aOff v43 1).bind fun v44 => (aLd1 h16 v44).bind fun v45 => (asI .i64 v45).bind fun n46 => (aIdx v42 (.int .i64 (IntKind.i64.wrap (n46 + 1))) 4).bind fun v47 => (aOff v47 2).bind fun v48 => (aLd1 h16 v48).bind fun v49 => (asS v49).bind fun t50 => s247_0 hk C N x0 p14 (t50.toList == (⟨#[61]⟩ : ByteArray).toList) h16 else s247_0 hk C N x0 p14 false h16 else s247_0 hk C N x0 p14 false h16 else s247_0 hk C N x0 p14 false h16 := by kernel_rfl
theorem s247_0_j (C : ACall) (N : Nat) (x0 : Value) (x5 : Value) (x71 : Bool) (h : AHeap) : s247_0 hk0 C N x0 x5 x71 h = F247_0 hk0 C N (⟨96, [(0, x0), (5, x5), (71, .bool x71)]⟩) h := by delta s247_0; exact hk0_app _ _ _ _
theorem s247_0_eq (hk : Hk (Value × AHeap)) (C : ACall) (N : Nat) (x0 : Value) (x5 : Value) (x71 : Bool) (h : AHeap) : F247_0 hk C N (⟨96, [(0, x0), (5, x5), (71, .bool x71)]⟩) h =
    bif x71 then (aNil x0).bind fun v51 => (aOff v51 1).bind fun v52 => (aLd1 h v52).bind fun v53 => (asI .i64 v53).bind fun n54 => (aNil x0).bind fun v55 => (aOff v55 1).bind fun v56 => (aSt h v56 (.int .i64 (IntKind.i64.wrap (n54 + 2))) 1).bind fun h57 => (aOff x5 2).bind fun v58 => (aLd1 h57 v58).bind fun v59 => (asS v59).bind fun t60 => (C 64 [x0, .int .i64 4, .string t60, .int .i64 0, (.slice none 0 0)] h57).bind fun r61 => (asI .i64 r61.1).bind fun n62 => (C 110 [x0] r61.2).bind fun r63 => (asI .i64 r63.1).bind fun n64 => aNewS r63.2 3 [.int .i64 n62, .int .i64 n64] 2 fun p65 h66 => (C 64 [x0, .int .i64 24, .string ⟨#[]⟩, .int .i64 0, p65] h66).bind fun r67 => (asI .i64 r67.1).bind fun n68 => some (.int .i64 n68, r67.2) else s247_1 hk C N x0 h := by kernel_rfl
theorem s247_1_j (C : ACall) (N : Nat) (x0 : Value) (h : AHeap) : s247_1 hk0 C N x0 h = F247_1 hk0 C N (⟨96, [(0, x0)]⟩) h := by delta s247_1; exact hk0_app _ _ _ _
theorem s247_1_eq (hk : Hk (Value × AHeap)) (C : ACall) (N : Nat) (x0 : Value) (h : AHeap) : F247_1 hk C N (⟨96, [(0, x0)]⟩) h =
    (C 110 [x0] h).bind fun r69 => (asI .i64 r69.1).bind fun n70 => aNewS r69.2 3 [.int .i64 n70] 1 fun p71 h72 => (C 64 [x0, .int .i64 23, .string ⟨#[]⟩, .int .i64 0, p71] h72).bind fun r73 => (asI .i64 r73.1).bind fun n74 => some (.int .i64 n74, r73.2) := by kernel_rfl
theorem c247 (d : Nat) (args : List Value) (h : AHeap) : call Try.prog Ms (d + 1) 247 args h = evFn hk0 Try.prog (call Try.prog Ms d) M247 d Try.f247 args h := by kernel_rfl

/-! 11 loop.example/g00101/laws.FnExactPrint -/
noncomputable def F11_0 (hk : Hk (Value × AHeap)) (C : ACall) (N : Nat) : Nx (Value × AHeap) := evSt hk Try.prog C M11 N Try.f11 [1, 1, 1, 1, 1, 1, 1, 0, 1] []
noncomputable def s11_0 (hk : Hk (Value × AHeap)) (C : ACall) (N : Nat) (x1 : Value) (x6 : Value) (x34 : Bool) (h : AHeap) := hk 100009 (⟨40, [(1, x1), (6, x6), (34, .bool x34)]⟩) h (F11_0 hk C N)
noncomputable def F11_1 (hk : Hk (Value × AHeap)) (C : ACall) (N : Nat) : Nx (Value × AHeap) := evSt hk Try.prog C M11 N Try.f11 [1, 1, 1, 1, 1, 1, 1, 1] []
noncomputable def s11_1 (hk : Hk (Value × AHeap)) (C : ACall) (N : Nat) (x1 : Value) (x6 : Value) (h : AHeap) := hk 10 (⟨40, [(1, x1), (6, x6)]⟩) h (F11_1 hk C N)
theorem e11 (hk : Hk (Value × AHeap)) (C : ACall) (N : Nat) (x0 : Value) (h : AHeap) : evFn hk Try.prog C M11 N Try.f11 [x0] h =
    (aCells x0).bind fun c1 => aNew h 30 c1 fun p2 h3 => (aLdN h3 p2 2).bind fun v4 => (C 19 [v4, .int .i64 1048576] h3).bind fun r5 => (asI .i64 r5.1).bind fun n6 => bif decide (n6 < 0) then some (.bool true, r5.2) else (aLdN r5.2 p2 2).bind fun v7 => (C 21 [v7] r5.2).bind fun r8 => (C 45 [r8.1] r8.2).bind fun r9 => (aExt r9.1 0).bind fun v10 => (asS v10).bind fun t11 => (aExt r9.1 1).bind fun v12 => (asB v12).bind fun b13 => (aLdN r9.2 p2 2).bind fun v14 => (C 21 [v14] r9.2).bind fun r15 => aNew r15.2 35 [.slice none 0 0, .int .i64 0] fun p16 h17 => (aSt h17 p16 r15.1 2).bind fun h18 => (aLdN h18 p16 2).bind fun v19 => (C 46 [v19] h18).bind fun r20 => (aExt r20.1 0).bind fun v21 => (asS v21).bind fun t22 => (aExt r20.1 1).bind fun v23 => (asB v23).bind fun b24 => bif !(t22.toList == t11.toList) then s11_0 hk C N p2 p16 true r20.2 else s11_0 hk C N p2 p16 (!(b24 == b13)) r20.2 := by kernel_rfl
theorem s11_0_j (C : ACall) (N : Nat) (x1 : Value) (x6 : Value) (x34 : Bool) (h : AHeap) : s11_0 hk0 C N x1 x6 x34 h = F11_0 hk0 C N (⟨40, [(1, x1), (6, x6), (34, .bool x34)]⟩) h := by delta s11_0; exact hk0_app _ _ _ _
theorem s11_0_eq (hk : Hk (Value × AHeap)) (C : ACall) (N : Nat) (x1 : Value) (x6 : Value) (x34 : Bool) (h : AHeap) : F11_0 hk C N (⟨40, [(1, x1), (6, x6), (34, .bool x34)]⟩) h =
    bif x34 then some (.bool false, h) else s11_1 hk C N x1 x6 h := by kernel_rfl
theorem s11_1_j (C : ACall) (N : Nat) (x1 : Value) (x6 : Value) (h : AHeap) : s11_1 hk0 C N x1 x6 h = F11_1 hk0 C N (⟨40, [(1, x1), (6, x6)]⟩) h := by delta s11_1; exact hk0_app _ _ _ _
theorem s11_1_eq (hk : Hk (Value × AHeap)) (C : ACall) (N : Nat) (x1 : Value) (x6 : Value) (h : AHeap) : F11_1 hk C N (⟨40, [(1, x1), (6, x6)]⟩) h =
    (aLdN h x6 2).bind fun v25 => (aLdN h x1 2).bind fun v26 => (C 21 [v26] h).bind fun r27 => ((aLdN r27.2 x6 2).bind fun v28 => some (vbeq v28 v25)).bind fun b29 => bif b29 then (C 23 [v25, r27.1] r27.2).bind fun r30 => (asB r30.1).bind fun b31 => bif !b31 then some (.bool false, r30.2) else some (.bool true, r30.2) else none := by kernel_rfl
theorem c11 (d : Nat) (args : List Value) (h : AHeap) : call Try.prog Ms (d + 1) 11 args h = evFn hk0 Try.prog (call Try.prog Ms d) M11 d Try.f11 args h := by kernel_rfl

/-! 45 loop.example/g00101/spec.Print -/
noncomputable def F45_0 (hk : Hk (Value × AHeap)) (C : ACall) (N : Nat) (n1 : Nat) : Nx (Value × AHeap) := evSt hk Try.prog C M45 N Try.f45 [1, 1, 1, 1, 0, 1, 2, 6] [n1]
noncomputable def s45_0 (hk : Hk (Value × AHeap)) (C : ACall) (N : Nat) (n1 : Nat) (x4 : Value) (x5 : ByteArray) (x6 : Int) (h : AHeap) := F45_0 hk C N n1 (⟨33, [(4, x4), (5, .string x5), (6, .int .i64 x6)]⟩) h
noncomputable def F45_1 (hk : Hk (Value × AHeap)) (C : ACall) (N : Nat) (n1 : Nat) : Nx (Value × AHeap) := evSt hk Try.prog C M45 N Try.f45 [1, 1, 1, 1, 0, 1, 2, 3, 1, 0, 2, 1] [n1]
noncomputable def s45_1 (hk : Hk (Value × AHeap)) (C : ACall) (N : Nat) (n1 : Nat) (x4 : Value) (x5 : ByteArray) (x6 : Int) (h : AHeap) := hk 10 (⟨33, [(4, x4), (5, .string x5), (6, .int .i64 x6)]⟩) h (F45_1 hk C N n1)
theorem e45 (hk : Hk (Value × AHeap)) (C : ACall) (N : Nat) (x0 : Value) (h : AHeap) : evFn hk Try.prog C M45 N Try.f45 [x0] h =
    (aCells x0).bind fun c1 => aNew h 35 c1 fun p2 h3 => (aLdN h3 p2 2).bind fun v4 => (C 20 [v4] h3).bind fun r5 => (asB r5.1).bind fun b6 => bif !b6 then some (.tuple (List.toArray [.string ⟨#[]⟩, .bool false]), r5.2) else (aLdN r5.2 p2 2).bind fun v7 => (aOff p2 1).bind fun v8 => (aLd1 r5.2 v8).bind fun v9 => (asI .i64 v9).bind fun n10 => (C 80 [v7, .int .i64 n10] r5.2).bind fun r11 => s45_0 hk C N N r11.1 ⟨#[]⟩ 1 r11.2 := by kernel_rfl
theorem s45_0_eq (hk : Hk (Value × AHeap)) (C : ACall) (N : Nat) (n1 : Nat) (x4 : Value) (x5 : ByteArray) (x6 : Int) (h : AHeap) : s45_0 hk C N (n1 + 1) x4 x5 x6 h =
    (aLen x4).bind fun v12 => (asI .i64 v12).bind fun n13 => bif decide ((IntKind.i64.wrap (x6 + 1)) < n13) then bif decide (x6 > 1) then (aBin .add (.string x5) (.string (⟨#[32]⟩))).bind fun v14 => (asS v14).bind fun t15 => s45_1 hk C N n1 x4 t15 x6 h else s45_1 hk C N n1 x4 x5 x6 h else (aBin .add (.string x5) (.string (⟨#[10]⟩))).bind fun v16 => (asS v16).bind fun t17 => some (.tuple (List.toArray [.string t17, .bool true]), h) := by kernel_rfl
theorem s45_1_j (C : ACall) (N : Nat) (n1 : Nat) (x4 : Value) (x5 : ByteArray) (x6 : Int) (h : AHeap) : s45_1 hk0 C N n1 x4 x5 x6 h = F45_1 hk0 C N n1 (⟨33, [(4, x4), (5, .string x5), (6, .int .i64 x6)]⟩) h := by delta s45_1; exact hk0_app _ _ _ _
theorem s45_1_eq (hk : Hk (Value × AHeap)) (C : ACall) (N : Nat) (n1 : Nat) (x4 : Value) (x5 : ByteArray) (x6 : Int) (h : AHeap) : F45_1 hk C N n1 (⟨33, [(4, x4), (5, .string x5), (6, .int .i64 x6)]⟩) h =
    (aIdx x4 (.int .i64 x6) 1).bind fun v18 => (aLd1 h v18).bind fun v19 => (asS v19).bind fun t20 => (aBin .add (.string x5) (.string t20)).bind fun v21 => (asS v21).bind fun t22 => s45_0 hk C N n1 x4 t22 (IntKind.i64.wrap (x6 + 1)) h := by kernel_rfl
theorem c45 (d : Nat) (args : List Value) (h : AHeap) : call Try.prog Ms (d + 1) 45 args h = evFn hk0 Try.prog (call Try.prog Ms d) M45 d Try.f45 args h := by kernel_rfl

/-! 46 loop.example/g00101/impl.Print -/
noncomputable def F46_0 (hk : Hk (Value × AHeap)) (C : ACall) (N : Nat) (n1 : Nat) : Nx (Value × AHeap) := evSt hk Try.prog C M46 N Try.f46 [1, 1, 1, 0, 1, 2, 6] [n1]
noncomputable def s46_0 (hk : Hk (Value × AHeap)) (C : ACall) (N : Nat) (n1 : Nat) (x4 : Value) (x18 : Value) (x19 : Int) (x20 : Int) (h : AHeap) := F46_0 hk C N n1 (⟨35, [(4, x4), (18, x18), (19, .int .i64 x19), (20, .int .i64 x20)]⟩) h
theorem e46 (hk : Hk (Value × AHeap)) (C : ACall) (N : Nat) (x0 : Value) (h : AHeap) : evFn hk Try.prog C M46 N Try.f46 [x0] h =
    (aCells x0).bind fun c1 => aNew h 35 c1 fun p2 h3 => (aLdN h3 p2 2).bind fun v4 => (C 22 [v4] h3).bind fun r5 => (asB r5.1).bind fun b6 => bif !b6 then some (.tuple (List.toArray [.string ⟨#[]⟩, .bool false]), r5.2) else (aFill [.pointer none, .slice none 0 0] [(0, 1, p2)]).bind fun c7 => (aCells (.agg (List.toArray c7))).bind fun c8 => aNew r5.2 110 c8 fun p9 h10 => (aOff p2 0).bind fun v11 => (aLd1 h10 v11).bind fun v12 => (aOff p2 1).bind fun v13 => (aLd1 h10 v13).bind fun v14 => (asI .i64 v14).bind fun n15 => (aIdx v12 (.int .i64 n15) 4).bind fun v16 => (aOff v16 3).bind fun v17 => (aLd1 h10 v17).bind fun v18 => (aLen v18).bind fun v19 => (asI .i64 v19).bind fun n20 => s46_0 hk C N N p9 v18 n20 0 h10 := by kernel_rfl
theorem s46_0_eq (hk : Hk (Value × AHeap)) (C : ACall) (N : Nat) (n1 : Nat) (x4 : Value) (x18 : Value) (x19 : Int) (x20 : Int) (h : AHeap) : s46_0 hk C N (n1 + 1) x4 x18 x19 x20 h =
    bif decide (x20 < x19) then (aIdx x18 (.int .i64 x20) 1).bind fun v21 => (aLd1 h v21).bind fun v22 => (asI .i64 v22).bind fun n23 => (C 81 [x4, .int .i64 n23] h).bind fun r24 => s46_0 hk C N n1 x4 x18 x19 (IntKind.i64.wrap (x20 + 1)) r24.2 else (aNil x4).bind fun v25 => (aOff v25 1).bind fun v26 => (aLd1 h v26).bind fun v27 => aNewS h 5 [.int .u8 10] 1 fun p28 h29 => (aApp h29 5 1 1 v27 p28).bind fun r30 => (aCvStr r30.2 r30.1).bind fun v31 => (asS v31).bind fun t32 => some (.tuple (List.toArray [.string t32, .bool true]), r30.2) := by kernel_rfl
theorem c46 (d : Nat) (args : List Value) (h : AHeap) : call Try.prog Ms (d + 1) 46 args h = evFn hk0 Try.prog (call Try.prog Ms d) M46 d Try.f46 args h := by kernel_rfl

/-! 80 loop.example/g00101/spec.l9Toks -/
noncomputable def F80_0 (hk : Hk (Value × AHeap)) (C : ACall) (N : Nat) (n1 : Nat) : Nx (Value × AHeap) := evSt hk Try.prog C M80 N Try.f80 [1, 1, 0, 1, 2, 1, 5, 1, 5, 1, 4, 1, 0, 1, 2, 6] [n1]
noncomputable def s80_0 (hk : Hk (Value × AHeap)) (C : ACall) (N : Nat) (n1 : Nat) (x2 : Value) (x5 : Value) (x6 : Value) (x7 : Int) (h : AHeap) := F80_0 hk C N n1 (⟨80, [(2, x2), (5, x5), (6, x6), (7, .int .i64 x7)]⟩) h
theorem e80 (hk : Hk (Value × AHeap)) (C : ACall) (N : Nat) (x0 : Value) (x1 : Int) (h : AHeap) : evFn hk Try.prog C M80 N Try.f80 [x0, .int .i64 x1] h =
    (aCells x0).bind fun c1 => aNew h 35 c1 fun p2 h3 => (aOff p2 0).bind fun v4 => (aLd1 h3 v4).bind fun v5 => (aIdx v5 (.int .i64 x1) 4).bind fun v6 => (aLdN h3 v6 4).bind fun v7 => aNew h3 73 [.int .i64 0, .string ⟨#[]⟩, .int .i64 0, .slice none 0 0] fun p8 h9 => (aSt h9 p8 v7 4).bind fun h10 => (aOff p8 0).bind fun v11 => (aLd1 h10 v11).bind fun v12 => (asI .i64 v12).bind fun n13 => (C 99 [.int .i64 n13] h10).bind fun r14 => (asI .i64 r14.1).bind fun n15 => bif n15 == 1 then (aLdN r14.2 p2 2).bind fun v16 => (aLdN r14.2 p8 4).bind fun v17 => (C 126 [v16, v17] r14.2).bind fun r18 => some (r18.1, r18.2) else bif n15 == 2 then (aLdN r14.2 p2 2).bind fun v19 => (aLdN r14.2 p8 4).bind fun v20 => (C 127 [v19, v20] r14.2).bind fun r21 => some (r21.1, r21.2) else bif n15 == 3 then aNewS r14.2 9 [.string (⟨#[123]⟩)] 1 fun p22 h23 => s80_0 hk C N N p2 p8 p22 0 h23 else bif n15 == 5 then (aOff p8 0).bind fun v24 => (aLd1 r14.2 v24).bind fun v25 => (asI .i64 v25).bind fun n26 => bif n26 == 24 then aNewS r14.2 9 [.string (⟨#[91]⟩)] 1 fun p27 h28 => (aLdN h28 p2 2).bind fun v29 => (aOff p8 3).bind fun v30 => (aLd1 h28 v30).bind fun v31 => (aIdx v31 (.int .i64 0) 1).bind fun v32 => (aLd1 h28 v32).bind fun v33 => (asI .i64 v33).bind fun n34 => aNewS h28 9 [.string (⟨#[93]⟩), .string (⟨#[61]⟩)] 2 fun p35 h36 => (C 80 [v29, .int .i64 n34] h36).bind fun r37 => (C 128 [p27, r37.1, p35] r37.2).bind fun r38 => (aLdN r38.2 p2 2).bind fun v39 => (aOff p8 3).bind fun v40 => (aLd1 r38.2 v40).bind fun v41 => (aIdx v41 (.int .i64 1) 1).bind fun v42 => (aLd1 r38.2 v42).bind fun v43 => (asI .i64 v43).bind fun n44 => (C 80 [v39, .int .i64 n44] r38.2).bind fun r45 => (C 128 [r38.1, r45.1, (.slice none 0 0)] r45.2).bind fun r46 => some (r46.1, r46.2) else (aLdN r14.2 p2 2).bind fun v47 => (aOff p8 3).bind fun v48 => (aLd1 r14.2 v48).bind fun v49 => (aIdx v49 (.int .i64 0) 1).bind fun v50 => (aLd1 r14.2 v50).bind fun v51 => (asI .i64 v51).bind fun n52 => (C 80 [v47, .int .i64 n52] r14.2).bind fun r53 => some (r53.1, r53.2) else (aOff p8 1).bind fun v54 => (aLd1 r14.2 v54).bind fun v55 => (asS v55).bind fun t56 => aNewS r14.2 9 [.string t56] 1 fun p57 h58 => some (p57, h58) := by kernel_rfl
theorem s80_0_eq (hk : Hk (Value × AHeap)) (C : ACall) (N : Nat) (n1 : Nat) (x2 : Value) (x5 : Value) (x6 : Value) (x7 : Int) (h : AHeap) : s80_0 hk C N (n1 + 1) x2 x5 x6 x7 h =
    (aOff x5 3).bind fun v59 => (aLd1 h v59).bind fun v60 => (aLen v60).bind fun v61 => (asI .i64 v61).bind fun n62 => bif decide (x7 < n62) then (aLdN h x2 2).bind fun v63 => (aOff x5 3).bind fun v64 => (aLd1 h v64).bind fun v65 => (aIdx v65 (.int .i64 x7) 1).bind fun v66 => (aLd1 h v66).bind fun v67 => (asI .i64 v67).bind fun n68 => (C 80 [v63, .int .i64 n68] h).bind fun r69 => (aApp r69.2 9 1 16 x6 r69.1).bind fun r70 => s80_0 hk C N n1 x2 x5 r70.1 (IntKind.i64.wrap (x7 + 1)) r70.2 else aNewS h 9 [.string (⟨#[125]⟩)] 1 fun p71 h72 => (aApp h72 9 1 16 x6 p71).bind fun r73 => some (r73.1, r73.2) := by kernel_rfl
theorem c80 (d : Nat) (args : List Value) (h : AHeap) : call Try.prog Ms (d + 1) 80 args h = evFn hk0 Try.prog (call Try.prog Ms d) M80 d Try.f80 args h := by kernel_rfl

/-! 81 (*loop.example/g00101/impl.printer).node -/
noncomputable def F81_0 (hk : Hk (Value × AHeap)) (C : ACall) (N : Nat) : Nx (Value × AHeap) := evSt hk Try.prog C M81 N Try.f81 [1, 1, 2, 1, 5, 1, 5, 1, 5, 1, 5, 1] []
noncomputable def s81_0 (hk : Hk (Value × AHeap)) (C : ACall) (N : Nat) (x0 : Value) (x4 : Value) (x16 : Int) (x52 : Bool) (h : AHeap) := hk 100013 (⟨143, [(0, x0), (4, x4), (16, .int .i64 x16), (52, .bool x52)]⟩) h (F81_0 hk C N)
noncomputable def F81_1 (hk : Hk (Value × AHeap)) (C : ACall) (N : Nat) : Nx (Value × AHeap) := evSt hk Try.prog C M81 N Try.f81 [1, 1, 2, 1, 5, 1, 5, 1, 5, 1, 5, 1, 5, 1, 5, 1, 5, 1, 5, 1, 5, 1] []
noncomputable def s81_1 (hk : Hk (Value × AHeap)) (C : ACall) (N : Nat) (x0 : Value) (x4 : Value) (x127 : Bool) (h : AHeap) := hk 100037 (⟨143, [(0, x0), (4, x4), (127, .bool x127)]⟩) h (F81_1 hk C N)
theorem e81 (hk : Hk (Value × AHeap)) (C : ACall) (N : Nat) (x0 : Value) (x1 : Int) (h : AHeap) : evFn hk Try.prog C M81 N Try.f81 [x0, .int .i64 x1] h =
    (aNil x0).bind fun v1 => (aOff v1 0).bind fun v2 => (aLd1 h v2).bind fun v3 => (aNil v3).bind fun v4 => (aOff v4 0).bind fun v5 => (aLd1 h v5).bind fun v6 => (aIdx v6 (.int .i64 x1) 4).bind fun v7 => (aLdN h v7 4).bind fun v8 => aNew h 73 [.int .i64 0, .string ⟨#[]⟩, .int .i64 0, .slice none 0 0] fun p9 h10 => (aSt h10 p9 v8 4).bind fun h11 => (aOff p9 0).bind fun v12 => (aLd1 h11 v12).bind fun v13 => (asI .i64 v13).bind fun n14 => bif n14 == 1 then aNewS h11 9 [.string (⟨#[110, 105, 108]⟩)] 1 fun p15 h16 => (C 129 [x0, p15] h16).bind fun r17 => some (.tuple (List.toArray []), r17.2) else bif n14 == 2 then aNewS h11 9 [.string (⟨#[102, 97, 108, 115, 101]⟩), .string (⟨#[116, 114, 117, 101]⟩)] 2 fun p18 h19 => (aOff p9 2).bind fun v20 => (aLd1 h19 v20).bind fun v21 => (asI .i64 v21).bind fun n22 => (aIdx p18 (.int .i64 n22) 1).bind fun v23 => (aLd1 h19 v23).bind fun v24 => (asS v24).bind fun t25 => aNewS h19 9 [.string t25] 1 fun p26 h27 => (C 129 [x0, p26] h27).bind fun r28 => some (.tuple (List.toArray []), r28.2) else bif n14 == 3 then (aOff p9 2).bind fun v29 => (aLd1 h11 v29).bind fun v30 => (asI .i64 v30).bind fun n31 => (C 130 [.int .i64 n31] h11).bind fun r32 => (asS r32.1).bind fun t33 => aNewS r32.2 9 [.string t33] 1 fun p34 h35 => (C 129 [x0, p34] h35).bind fun r36 => some (.tuple (List.toArray []), r36.2) else bif n14 == 4 then (aOff p9 1).bind fun v37 => (aLd1 h11 v37).bind fun v38 => (asS v38).bind fun t39 => (aBin .add (.string (⟨#[34]⟩)) (.string t39)).bind fun v40 => (asS v40).bind fun t41 => (aBin .add (.string t41) (.string (⟨#[34]⟩))).bind fun v42 => (asS v42).bind fun t43 => aNewS h11 9 [.string t43] 1 fun p44 h45 => (C 129 [x0, p44] h45).bind fun r46 => some (.tuple (List.toArray []), r46.2) else bif n14 == 5 then s81_0 hk C N x0 p9 n14 (n14 == 5) h11 else s81_0 hk C N x0 p9 n14 (n14 == 22) h11 := by kernel_rfl
theorem s81_0_j (C : ACall) (N : Nat) (x0 : Value) (x4 : Value) (x16 : Int) (x52 : Bool) (h : AHeap) : s81_0 hk0 C N x0 x4 x16 x52 h = F81_0 hk0 C N (⟨143, [(0, x0), (4, x4), (16, .int .i64 x16), (52, .bool x52)]⟩) h := by delta s81_0; exact hk0_app _ _ _ _
theorem s81_0_eq (hk : Hk (Value × AHeap)) (C : ACall) (N : Nat) (x0 : Value) (x4 : Value) (x16 : Int) (x52 : Bool) (h : AHeap) : F81_0 hk C N (⟨143, [(0, x0), (4, x4), (16, .int .i64 x16), (52, .bool x52)]⟩) h =
    bif x52 then (aOff x4 1).bind fun v47 => (aLd1 h v47).bind fun v48 => (asS v48).bind fun t49 => aNewS h 9 [.string t49] 1 fun p50 h51 => (C 129 [x0, p50] h51).bind fun r52 => some (.tuple (List.toArray []), r52.2) else bif x16 == 8 then (aOff x4 3).bind fun v53 => (aLd1 h v53).bind fun v54 => (aIdx v54 (.int .i64 0) 1).bind fun v55 => (aLd1 h v55).bind fun v56 => (asI .i64 v56).bind fun n57 => (C 81 [x0, .int .i64 n57] h).bind fun r58 => aNewS r58.2 9 [.string (⟨#[91]⟩)] 1 fun p59 h60 => (C 129 [x0, p59] h60).bind fun r61 => (aOff x4 3).bind fun v62 => (aLd1 r61.2 v62).bind fun v63 => (aIdx v63 (.int .i64 1) 1).bind fun v64 => (aLd1 r61.2 v64).bind fun v65 => (asI .i64 v65).bind fun n66 => (C 81 [x0, .int .i64 n66] r61.2).bind fun r67 => aNewS r67.2 9 [.string (⟨#[93]⟩)] 1 fun p68 h69 => (C 129 [x0, p68] h69).bind fun r70 => some (.tuple (List.toArray []), r70.2) else bif x16 == 9 then (aOff x4 3).bind fun v71 => (aLd1 h v71).bind fun v72 => (aIdx v72 (.int .i64 0) 1).bind fun v73 => (aLd1 h v73).bind fun v74 => (asI .i64 v74).bind fun n75 => (C 81 [x0, .int .i64 n75] h).bind fun r76 => aNewS r76.2 9 [.string (⟨#[40]⟩)] 1 fun p77 h78 => (C 129 [x0, p77] h78).bind fun r79 => (aOff x4 3).bind fun v80 => (aLd1 r79.2 v80).bind fun v81 => (aSub r79.2 3 v81 (some (.int .i64 1)) none 1).bind fun v82 => (C 131 [x0, v82] r79.2).bind fun r83 => aNewS r83.2 9 [.string (⟨#[41]⟩)] 1 fun p84 h85 => (C 129 [x0, p84] h85).bind fun r86 => some (.tuple (List.toArray []), r86.2) else bif x16 == 23 then (aOff x4 3).bind fun v87 => (aLd1 h v87).bind fun v88 => (aIdx v88 (.int .i64 0) 1).bind fun v89 => (aLd1 h v89).bind fun v90 => (asI .i64 v90).bind fun n91 => (C 81 [x0, .int .i64 n91] h).bind fun r92 => some (.tuple (List.toArray []), r92.2) else bif x16 == 24 then aNewS h 9 [.string (⟨#[91]⟩)] 1 fun p93 h94 => (C 129 [x0, p93] h94).bind fun r95 => (aOff x4 3).bind fun v96 => (aLd1 r95.2 v96).bind fun v97 => (aIdx v97 (.int .i64 0) 1).bind fun v98 => (aLd1 r95.2 v98).bind fun v99 => (asI .i64 v99).bind fun n100 => (C 81 [x0, .int .i64 n100] r95.2).bind fun r101 => aNewS r101.2 9 [.string (⟨#[93]⟩), .string (⟨#[61]⟩)] 2 fun p102 h103 => (C 129 [x0, p102] h103).bind fun r104 => (aOff x4 3).bind fun v105 => (aLd1 r104.2 v105).bind fun v106 => (aIdx v106 (.int .i64 1) 1).bind fun v107 => (aLd1 r104.2 v107).bind fun v108 => (asI .i64 v108).bind fun n109 => (C 81 [x0, .int .i64 n109] r104.2).bind fun r110 => some (.tuple (List.toArray []), r110.2) else bif x16 == 6 then s81_1 hk C N x0 x4 (x16 == 6) h else bif x16 == 7 then s81_1 hk C N x0 x4 (x16 == 7) h else bif x16 == 10 then s81_1 hk C N x0 x4 (x16 == 10) h else bif x16 == 11 then s81_1 hk C N x0 x4 (x16 == 11) h else bif x16 == 12 then s81_1 hk C N x0 x4 (x16 == 12) h else s81_1 hk C N x0 x4 (x16 == 13) h := by kernel_rfl
theorem s81_1_j (C : ACall) (N : Nat) (x0 : Value) (x4 : Value) (x127 : Bool) (h : AHeap) : s81_1 hk0 C N x0 x4 x127 h = F81_1 hk0 C N (⟨143, [(0, x0), (4, x4), (127, .bool x127)]⟩) h := by delta s81_1; exact hk0_app _ _ _ _
theorem s81_1_eq (hk : Hk (Value × AHeap)) (C : ACall) (N : Nat) (x0 : Value) (x4 : Value) (x127 : Bool) (h : AHeap) : F81_1 hk C N (⟨143, [(0, x0), (4, x4), (127, .bool x127)]⟩) h =
    bif x127 then aNewS h 9 [.string (⟨#[40]⟩)] 1 fun p111 h112 => (C 129 [x0, p111] h112).bind fun r113 => (aLdN r113.2 x4 4).bind fun v114 => (C 132 [x0, v114] r113.2).bind fun r115 => aNewS r115.2 9 [.string (⟨#[41]⟩)] 1 fun p116 h117 => (C 129 [x0, p116] h117).bind fun r118 => some (.tuple (List.toArray []), r118.2) else (aLdN h x4 4).bind fun v119 => (C 133 [x0, v119] h).bind fun r120 => some (.tuple (List.toArray []), r120.2) := by kernel_rfl
theorem c81 (d : Nat) (args : List Value) (h : AHeap) : call Try.prog Ms (d + 1) 81 args h = evFn hk0 Try.prog (call Try.prog Ms d) M81 d Try.f81 args h := by kernel_rfl

/-! 126 loop.example/g00101/spec.l9ExprToks -/
noncomputable def F126_0 (hk : Hk (Value × AHeap)) (C : ACall) (N : Nat) : Nx (Value × AHeap) := evSt hk Try.prog C M126 N Try.f126 [1, 0, 1, 2, 1, 5, 1, 5, 1, 5, 1, 5, 1, 5, 1, 5, 1, 5, 1, 5, 1] []
noncomputable def s126_0 (hk : Hk (Value × AHeap)) (C : ACall) (N : Nat) (x2 : Value) (x3 : Value) (x10 : Int) (x104 : Bool) (h : AHeap) := hk 100023 (⟨157, [(2, x2), (3, x3), (10, .int .i64 x10), (104, .bool x104)]⟩) h (F126_0 hk C N)
noncomputable def F126_1 (hk : Hk (Value × AHeap)) (C : ACall) (N : Nat) : Nx (Value × AHeap) := evSt hk Try.prog C M126 N Try.f126 [1, 0, 1, 2, 1, 5, 1, 5, 1, 5, 1, 5, 1, 5, 1, 5, 1, 5, 1, 5, 1, 4, 1, 1] []
noncomputable def s126_1 (hk : Hk (Value × AHeap)) (C : ACall) (N : Nat) (x2 : Value) (x3 : Value) (x7 : ByteArray) (h : AHeap) := hk 26 (⟨157, [(2, x2), (3, x3), (7, .string x7)]⟩) h (F126_1 hk C N)
noncomputable def F126_3 (hk : Hk (Value × AHeap)) (C : ACall) (N : Nat) : Nx (Value × AHeap) := evSt hk Try.prog C M126 N Try.f126 [1, 1] []
noncomputable def s126_3 (hk : Hk (Value × AHeap)) (C : ACall) (N : Nat) (x3 : Value) (h : AHeap) := hk 32 (⟨157, [(3, x3)]⟩) h (F126_3 hk C N)
noncomputable def F126_2 (hk : Hk (Value × AHeap)) (C : ACall) (N : Nat) : Nx (Value × AHeap) := evSt hk Try.prog C M126 N Try.f126 [1, 0, 1, 2, 1, 5, 1, 5, 1, 5, 1, 5, 1, 5, 1, 5, 1, 5, 1, 5, 1, 4, 1, 1, 1] []
noncomputable def s126_2 (hk : Hk (Value × AHeap)) (C : ACall) (N : Nat) (x2 : Value) (x3 : Value) (x7 : ByteArray) (h : AHeap) := hk 28 (⟨157, [(2, x2), (3, x3), (7, .string x7)]⟩) h (F126_2 hk C N)
theorem e126 (hk : Hk (Value × AHeap)) (C : ACall) (N : Nat) (x0 : Value) (x1 : Value) (h : AHeap) : evFn hk Try.prog C M126 N Try.f126 [x0, x1] h =
    (aCells x0).bind fun c1 => aNew h 35 c1 fun p2 h3 => (aCells x1).bind fun c4 => aNew h3 73 c4 fun p5 h6 => (aOff p5 0).bind fun v7 => (aLd1 h6 v7).bind fun v8 => (asI .i64 v8).bind fun n9 => bif n9 == 1 then aNewS h6 9 [.string (⟨#[110, 105, 108]⟩)] 1 fun p10 h11 => some (p10, h11) else bif n9 == 2 then aNewS h6 9 [.string (⟨#[102, 97, 108, 115, 101]⟩), .string (⟨#[116, 114, 117, 101]⟩)] 2 fun p12 h13 => (aOff p5 2).bind fun v14 => (aLd1 h13 v14).bind fun v15 => (asI .i64 v15).bind fun n16 => (aIdx p12 (.int .i64 n16) 1).bind fun v17 => (aLd1 h13 v17).bind fun v18 => (asS v18).bind fun t19 => aNewS h13 9 [.string t19] 1 fun p20 h21 => some (p20, h21) else bif n9 == 3 then (aOff p5 2).bind fun v22 => (aLd1 h6 v22).bind fun v23 => (asI .i64 v23).bind fun n24 => (C 169 [.int .i64 n24] h6).bind fun r25 => (asS r25.1).bind fun t26 => aNewS r25.2 9 [.string t26] 1 fun p27 h28 => some (p27, h28) else bif n9 == 4 then (aOff p5 1).bind fun v29 => (aLd1 h6 v29).bind fun v30 => (asS v30).bind fun t31 => (aBin .add (.string (⟨#[34]⟩)) (.string t31)).bind fun v32 => (asS v32).bind fun t33 => (aBin .add (.string t33) (.string (⟨#[34]⟩))).bind fun v34 => (asS v34).bind fun t35 => aNewS h6 9 [.string t35] 1 fun p36 h37 => some (p36, h37) else bif n9 == 6 then (aOff p5 3).bind fun v38 => (aLd1 h6 v38).bind fun v39 => (aLen v39).bind fun v40 => (asI .i64 v40).bind fun n41 => aNewS h6 9 [.string (⟨#[40]⟩), .string (⟨#[102, 110]⟩), .string (⟨#[40]⟩)] 3 fun p42 h43 => (aLdN h43 p2 2).bind fun v44 => (aOff p5 3).bind fun v45 => (aLd1 h43 v45).bind fun v46 => (aSub h43 3 v46 none (some (.int .i64 (IntKind.i64.wrap (n41 - 1)))) 1).bind fun v47 => aNewS h43 9 [.string (⟨#[41]⟩)] 1 fun p48 h49 => (C 170 [v44, v47] h49).bind fun r50 => (C 128 [p42, r50.1, p48] r50.2).bind fun r51 => (aLdN r51.2 p2 2).bind fun v52 => (aOff p5 3).bind fun v53 => (aLd1 r51.2 v53).bind fun v54 => (aIdx v54 (.int .i64 (IntKind.i64.wrap (n41 - 1))) 1).bind fun v55 => (aLd1 r51.2 v55).bind fun v56 => (asI .i64 v56).bind fun n57 => aNewS r51.2 9 [.string (⟨#[41]⟩)] 1 fun p58 h59 => (C 80 [v52, .int .i64 n57] h59).bind fun r60 => (C 128 [r51.1, r60.1, p58] r60.2).bind fun r61 => some (r61.1, r61.2) else bif n9 == 7 then aNewS h6 9 [.string (⟨#[40]⟩), .string (⟨#[123]⟩)] 2 fun p62 h63 => (aLdN h63 p2 2).bind fun v64 => (aOff p5 3).bind fun v65 => (aLd1 h63 v65).bind fun v66 => (C 170 [v64, v66] h63).bind fun r67 => aNewS r67.2 9 [.string (⟨#[125]⟩), .string (⟨#[41]⟩)] 2 fun p68 h69 => (C 128 [p62, r67.1, p68] h69).bind fun r70 => some (r70.1, r70.2) else bif n9 == 8 then (aLdN h6 p2 2).bind fun v71 => (aOff p5 3).bind fun v72 => (aLd1 h6 v72).bind fun v73 => (aIdx v73 (.int .i64 0) 1).bind fun v74 => (aLd1 h6 v74).bind fun v75 => (asI .i64 v75).bind fun n76 => aNewS h6 9 [.string (⟨#[91]⟩)] 1 fun p77 h78 => (aLdN h78 p2 2).bind fun v79 => (aOff p5 3).bind fun v80 => (aLd1 h78 v80).bind fun v81 => (aIdx v81 (.int .i64 1) 1).bind fun v82 => (aLd1 h78 v82).bind fun v83 => (asI .i64 v83).bind fun n84 => aNewS h78 9 [.string (⟨#[93]⟩)] 1 fun p85 h86 => (C 80 [v71, .int .i64 n76] h86).bind fun r87 => ((aLdN r87.2 p2 2).bind fun v88 => some (vbeq v88 v79)).bind fun b89 => bif b89 then ((aLd1 r87.2 v80).bind fun v90 => some (vbeq v90 v81)).bind fun b91 => bif b91 then ((aLd1 r87.2 v82).bind fun v92 => (asI .i64 v92).bind fun n93 => some (vbeq (.int .i64 n93) (.int .i64 n84))).bind fun b94 => bif b94 then (aApp r87.2 9 1 16 r87.1 p77).bind fun r95 => ((aLdN r95.2 p2 2).bind fun v96 => some (vbeq v96 v79)).bind fun b97 => bif b97 then ((aLd1 r95.2 v80).bind fun v98 => some (vbeq v98 v81)).bind fun b99 => bif b99 then ((aLd1 r95.2 v82).bind fun v100 => (asI .i64 v100).bind fun n101 => some (vbeq (.int .i64 n101) (.int .i64 n84))).bind fun b102 => bif b102 then (C 80 [v79, .int .i64 n84] r95.2).bind fun r103 => (C 128 [r95.1, r103.1, p85] r103.2).bind fun r104 => some (r104.1, r104.2) else none else none else none else none else none else none else bif n9 == 9 then (aLdN h6 p2 2).bind fun v105 => (aOff p5 3).bind fun v106 => (aLd1 h6 v106).bind fun v107 => (aIdx v107 (.int .i64 0) 1).bind fun v108 => (aLd1 h6 v108).bind fun v109 => (asI .i64 v109).bind fun n110 => aNewS h6 9 [.string (⟨#[40]⟩)] 1 fun p111 h112 => (aLdN h112 p2 2).bind fun v113 => (aOff p5 3).bind fun v114 => (aLd1 h112 v114).bind fun v115 => (aSub h112 3 v115 (some (.int .i64 1)) none 1).bind fun v116 => aNewS h112 9 [.string (⟨#[41]⟩)] 1 fun p117 h118 => (C 80 [v105, .int .i64 n110] h118).bind fun r119 => ((aLdN r119.2 p2 2).bind fun v120 => some (vbeq v120 v113)).bind fun b121 => bif b121 then ((aLd1 r119.2 v114).bind fun v122 => some (vbeq v122 v115)).bind fun b123 => bif b123 then ((aSub r119.2 3 v115 (some (.int .i64 1)) none 1).bind fun v124 => some (vbeq v124 v116)).bind fun b125 => bif b125 then (aApp r119.2 9 1 16 r119.1 p111).bind fun r126 => ((aLdN r126.2 p2 2).bind fun v127 => some (vbeq v127 v113)).bind fun b128 => bif b128 then ((aLd1 r126.2 v114).bind fun v129 => some (vbeq v129 v115)).bind fun b130 => bif b130 then ((aSub r126.2 3 v115 (some (.int .i64 1)) none 1).bind fun v131 => some (vbeq v131 v116)).bind fun b132 => bif b132 then (C 170 [v113, v116] r126.2).bind fun r133 => (C 128 [r126.1, r133.1, p117] r133.2).bind fun r134 => some (r134.1, r134.2) else none else none else none else none else none else none else bif n9 == 10 then s126_0 hk C N p2 p5 n9 (n9 == 10) h6 else bif n9 == 12 then s126_0 hk C N p2 p5 n9 (n9 == 12) h6 else s126_0 hk C N p2 p5 n9 (n9 == 13) h6 := by kernel_rfl
theorem s126_0_j (C : ACall) (N : Nat) (x2 : Value) (x3 : Value) (x10 : Int) (x104 : Bool) (h : AHeap) : s126_0 hk0 C N x2 x3 x10 x104 h = F126_0 hk0 C N (⟨157, [(2, x2), (3, x3), (10, .int .i64 x10), (104, .bool x104)]⟩) h := by delta s126_0; exact hk0_app _ _ _ _
theorem s126_0_eq (hk : Hk (Value × AHeap)) (C : ACall) (N : Nat) (x2 : Value) (x3 : Value) (x10 : Int) (x104 : Bool) (h : AHeap) : F126_0 hk C N (⟨157, [(2, x2), (3, x3), (10, .int .i64 x10), (104, .bool x104)]⟩) h =
    bif x104 then (aOff x3 2).bind fun v135 => (aLd1 h v135).bind fun v136 => (asI .i64 v136).bind fun n137 => (C 171 [] h).bind fun r138 => ((aLd1 r138.2 v135).bind fun v139 => (asI .i64 v139).bind fun n140 => some (vbeq (.int .i64 n140) (.int .i64 n137))).bind fun b141 => bif b141 then (aIdx r138.1 (.int .i64 n137) 1).bind fun v142 => (aLd1 r138.2 v142).bind fun v143 => (asS v143).bind fun t144 => (aOff x3 0).bind fun v145 => (aLd1 r138.2 v145).bind fun v146 => (asI .i64 v146).bind fun n147 => bif n147 == 12 then s126_1 hk C N x2 x3 (⟨#[97, 110, 100]⟩) r138.2 else s126_1 hk C N x2 x3 t144 r138.2 else none else bif x10 == 11 then aNewS h 9 [.string ⟨#[]⟩, .string (⟨#[45]⟩), .string (⟨#[110, 111, 116]⟩), .string (⟨#[35]⟩)] 4 fun p148 h149 => (aOff x3 2).bind fun v150 => (aLd1 h149 v150).bind fun v151 => (asI .i64 v151).bind fun n152 => (aIdx p148 (.int .i64 n152) 1).bind fun v153 => (aLd1 h149 v153).bind fun v154 => (asS v154).bind fun t155 => aNewS h149 9 [.string (⟨#[40]⟩), .string t155] 2 fun p156 h157 => (aLdN h157 x2 2).bind fun v158 => (aOff x3 3).bind fun v159 => (aLd1 h157 v159).bind fun v160 => (aIdx v160 (.int .i64 0) 1).bind fun v161 => (aLd1 h157 v161).bind fun v162 => (asI .i64 v162).bind fun n163 => aNewS h157 9 [.string (⟨#[41]⟩)] 1 fun p164 h165 => (C 80 [v158, .int .i64 n163] h165).bind fun r166 => ((aLd1 r166.2 v150).bind fun v167 => (asI .i64 v167).bind fun n168 => some (vbeq (.int .i64 n168) (.int .i64 n152))).bind fun b169 => bif b169 then ((aLd1 r166.2 v153).bind fun v170 => (asS v170).bind fun t171 => some (vbeq (.string t171) (.string t155))).bind fun b172 => bif b172 then (C 128 [p156, r166.1, p164] r166.2).bind fun r173 => some (r173.1, r173.2) else none else none else s126_3 hk C N x3 h := by kernel_rfl
theorem s126_1_j (C : ACall) (N : Nat) (x2 : Value) (x3 : Value) (x7 : ByteArray) (h : AHeap) : s126_1 hk0 C N x2 x3 x7 h = F126_1 hk0 C N (⟨157, [(2, x2), (3, x3), (7, .string x7)]⟩) h := by delta s126_1; exact hk0_app _ _ _ _
theorem s126_1_eq (hk : Hk (Value × AHeap)) (C : ACall) (N : Nat) (x2 : Value) (x3 : Value) (x7 : ByteArray) (h : AHeap) : F126_1 hk C N (⟨157, [(2, x2), (3, x3), (7, .string x7)]⟩) h =
    (aOff x3 0).bind fun v174 => (aLd1 h v174).bind fun v175 => (asI .i64 v175).bind fun n176 => bif n176 == 13 then s126_2 hk C N x2 x3 (⟨#[111, 114]⟩) h else s126_2 hk C N x2 x3 x7 h := by kernel_rfl
theorem s126_3_j (C : ACall) (N : Nat) (x3 : Value) (h : AHeap) : s126_3 hk0 C N x3 h = F126_3 hk0 C N (⟨157, [(3, x3)]⟩) h := by delta s126_3; exact hk0_app _ _ _ _
theorem s126_3_eq (hk : Hk (Value × AHeap)) (C : ACall) (N : Nat) (x3 : Value) (h : AHeap) : F126_3 hk C N (⟨157, [(3, x3)]⟩) h =
    (aOff x3 1).bind fun v177 => (aLd1 h v177).bind fun v178 => (asS v178).bind fun t179 => aNewS h 9 [.string t179] 1 fun p180 h181 => some (p180, h181) := by kernel_rfl
theorem s126_2_j (C : ACall) (N : Nat) (x2 : Value) (x3 : Value) (x7 : ByteArray) (h : AHeap) : s126_2 hk0 C N x2 x3 x7 h = F126_2 hk0 C N (⟨157, [(2, x2), (3, x3), (7, .string x7)]⟩) h := by delta s126_2; exact hk0_app _ _ _ _
theorem s126_2_eq (hk : Hk (Value × AHeap)) (C : ACall) (N : Nat) (x2 : Value) (x3 : Value) (x7 : ByteArray) (h : AHeap) : F126_2 hk C N (⟨157, [(2, x2), (3, x3), (7, .string x7)]⟩) h =
    aNewS h 9 [.string (⟨#[40]⟩)] 1 fun p182 h183 => (aLdN h183 x2 2).bind fun v184 => (aOff x3 3).bind fun v185 => (aLd1 h183 v185).bind fun v186 => (aIdx v186 (.int .i64 0) 1).bind fun v187 => (aLd1 h183 v187).bind fun v188 => (asI .i64 v188).bind fun n189 => aNewS h183 9 [.string x7] 1 fun p190 h191 => (C 80 [v184, .int .i64 n189] h191).bind fun r192 => (C 128 [p182, r192.1, p190] r192.2).bind fun r193 => (aLdN r193.2 x2 2).bind fun v194 => (aOff x3 3).bind fun v195 => (aLd1 r193.2 v195).bind fun v196 => (aIdx v196 (.int .i64 1) 1).bind fun v197 => (aLd1 r193.2 v197).bind fun v198 => (asI .i64 v198).bind fun n199 => aNewS r193.2 9 [.string (⟨#[41]⟩)] 1 fun p200 h201 => (C 80 [v194, .int .i64 n199] h201).bind fun r202 => (C 128 [r193.1, r202.1, p200] r202.2).bind fun r203 => some (r203.1, r203.2) := by kernel_rfl
theorem c126 (d : Nat) (args : List Value) (h : AHeap) : call Try.prog Ms (d + 1) 126 args h = evFn hk0 Try.prog (call Try.prog Ms d) M126 d Try.f126 args h := by kernel_rfl

/-! 127 loop.example/g00101/spec.l9StmtToks -/
theorem e127 (hk : Hk (Value × AHeap)) (C : ACall) (N : Nat) (x0 : Value) (x1 : Value) (h : AHeap) : evFn hk Try.prog C M127 N Try.f127 [x0, x1] h =
    (aCells x0).bind fun c1 => aNew h 35 c1 fun p2 h3 => (aCells x1).bind fun c4 => aNew h3 73 c4 fun p5 h6 => (aOff p5 0).bind fun v7 => (aLd1 h6 v7).bind fun v8 => (asI .i64 v8).bind fun n9 => bif n9 == 14 then (aOff p5 1).bind fun v10 => (aLd1 h6 v10).bind fun v11 => (asS v11).bind fun t12 => aNewS h6 9 [.string (⟨#[108, 111, 99, 97, 108]⟩), .string t12, .string (⟨#[61]⟩)] 3 fun p13 h14 => (aLdN h14 p2 2).bind fun v15 => (aOff p5 3).bind fun v16 => (aLd1 h14 v16).bind fun v17 => (aIdx v17 (.int .i64 0) 1).bind fun v18 => (aLd1 h14 v18).bind fun v19 => (asI .i64 v19).bind fun n20 => aNewS h14 9 [.string (⟨#[59]⟩)] 1 fun p21 h22 => (C 80 [v15, .int .i64 n20] h22).bind fun r23 => ((aLd1 r23.2 v10).bind fun v24 => (asS v24).bind fun t25 => some (vbeq (.string t25) (.string t12))).bind fun b26 => bif b26 then (C 128 [p13, r23.1, p21] r23.2).bind fun r27 => some (r27.1, r27.2) else none else bif n9 == 15 then (aOff p5 1).bind fun v28 => (aLd1 h6 v28).bind fun v29 => (asS v29).bind fun t30 => aNewS h6 9 [.string t30, .string (⟨#[61]⟩)] 2 fun p31 h32 => (aLdN h32 p2 2).bind fun v33 => (aOff p5 3).bind fun v34 => (aLd1 h32 v34).bind fun v35 => (aIdx v35 (.int .i64 0) 1).bind fun v36 => (aLd1 h32 v36).bind fun v37 => (asI .i64 v37).bind fun n38 => aNewS h32 9 [.string (⟨#[59]⟩)] 1 fun p39 h40 => (C 80 [v33, .int .i64 n38] h40).bind fun r41 => ((aLd1 r41.2 v28).bind fun v42 => (asS v42).bind fun t43 => some (vbeq (.string t43) (.string t30))).bind fun b44 => bif b44 then (C 128 [p31, r41.1, p39] r41.2).bind fun r45 => some (r45.1, r45.2) else none else bif n9 == 16 then (aLdN h6 p2 2).bind fun v46 => (aOff p5 3).bind fun v47 => (aLd1 h6 v47).bind fun v48 => (aIdx v48 (.int .i64 0) 1).bind fun v49 => (aLd1 h6 v49).bind fun v50 => (asI .i64 v50).bind fun n51 => aNewS h6 9 [.string (⟨#[91]⟩)] 1 fun p52 h53 => (aLdN h53 p2 2).bind fun v54 => (aOff p5 3).bind fun v55 => (aLd1 h53 v55).bind fun v56 => (aIdx v56 (.int .i64 1) 1).bind fun v57 => (aLd1 h53 v57).bind fun v58 => (asI .i64 v58).bind fun n59 => aNewS h53 9 [.string (⟨#[93]⟩), .string (⟨#[61]⟩)] 2 fun p60 h61 => (C 80 [v46, .int .i64 n51] h61).bind fun r62 => ((aLdN r62.2 p2 2).bind fun v63 => some (vbeq v63 v54)).bind fun b64 => bif b64 then ((aLd1 r62.2 v55).bind fun v65 => some (vbeq v65 v56)).bind fun b66 => bif b66 then ((aLd1 r62.2 v57).bind fun v67 => (asI .i64 v67).bind fun n68 => some (vbeq (.int .i64 n68) (.int .i64 n59))).bind fun b69 => bif b69 then (aApp r62.2 9 1 16 r62.1 p52).bind fun r70 => ((aLdN r70.2 p2 2).bind fun v71 => some (vbeq v71 v54)).bind fun b72 => bif b72 then ((aLd1 r70.2 v55).bind fun v73 => some (vbeq v73 v56)).bind fun b74 => bif b74 then ((aLd1 r70.2 v57).bind fun v75 => (asI .i64 v75).bind fun n76 => some (vbeq (.int .i64 n76) (.int .i64 n59))).bind fun b77 => bif b77 then (C 80 [v54, .int .i64 n59] r70.2).bind fun r78 => (C 128 [r70.1, r78.1, p60] r78.2).bind fun r79 => (aLdN r79.2 p2 2).bind fun v80 => (aOff p5 3).bind fun v81 => (aLd1 r79.2 v81).bind fun v82 => (aIdx v82 (.int .i64 2) 1).bind fun v83 => (aLd1 r79.2 v83).bind fun v84 => (asI .i64 v84).bind fun n85 => aNewS r79.2 9 [.string (⟨#[59]⟩)] 1 fun p86 h87 => (C 80 [v80, .int .i64 n85] h87).bind fun r88 => (C 128 [r79.1, r88.1, p86] r88.2).bind fun r89 => some (r89.1, r89.2) else none else none else none else none else none else none else bif n9 == 17 then aNewS h6 9 [.string (⟨#[105, 102]⟩)] 1 fun p90 h91 => (aLdN h91 p2 2).bind fun v92 => (aOff p5 3).bind fun v93 => (aLd1 h91 v93).bind fun v94 => (aIdx v94 (.int .i64 0) 1).bind fun v95 => (aLd1 h91 v95).bind fun v96 => (asI .i64 v96).bind fun n97 => (aLdN h91 p2 2).bind fun v98 => (aOff p5 3).bind fun v99 => (aLd1 h91 v99).bind fun v100 => (aIdx v100 (.int .i64 1) 1).bind fun v101 => (aLd1 h91 v101).bind fun v102 => (asI .i64 v102).bind fun n103 => (C 80 [v92, .int .i64 n97] h91).bind fun r104 => ((aLdN r104.2 p2 2).bind fun v105 => some (vbeq v105 v98)).bind fun b106 => bif b106 then ((aLd1 r104.2 v99).bind fun v107 => some (vbeq v107 v100)).bind fun b108 => bif b108 then ((aLd1 r104.2 v101).bind fun v109 => (asI .i64 v109).bind fun n110 => some (vbeq (.int .i64 n110) (.int .i64 n103))).bind fun b111 => bif b111 then (C 80 [v98, .int .i64 n103] r104.2).bind fun r112 => (C 128 [p90, r104.1, r112.1] r112.2).bind fun r113 => (aOff p5 3).bind fun v114 => (aLd1 r113.2 v114).bind fun v115 => (aLen v115).bind fun v116 => (asI .i64 v116).bind fun n117 => bif n117 == 3 then aNewS r113.2 9 [.string (⟨#[101, 108, 115, 101]⟩)] 1 fun p118 h119 => (aLdN h119 p2 2).bind fun v120 => (aOff p5 3).bind fun v121 => (aLd1 h119 v121).bind fun v122 => (aIdx v122 (.int .i64 2) 1).bind fun v123 => (aLd1 h119 v123).bind fun v124 => (asI .i64 v124).bind fun n125 => (C 80 [v120, .int .i64 n125] h119).bind fun r126 => (C 128 [r113.1, p118, r126.1] r126.2).bind fun r127 => some (r127.1, r127.2) else some (r113.1, r113.2) else none else none else none else bif n9 == 18 then aNewS h6 9 [.string (⟨#[119, 104, 105, 108, 101]⟩)] 1 fun p128 h129 => (aLdN h129 p2 2).bind fun v130 => (aOff p5 3).bind fun v131 => (aLd1 h129 v131).bind fun v132 => (aIdx v132 (.int .i64 0) 1).bind fun v133 => (aLd1 h129 v133).bind fun v134 => (asI .i64 v134).bind fun n135 => (aLdN h129 p2 2).bind fun v136 => (aOff p5 3).bind fun v137 => (aLd1 h129 v137).bind fun v138 => (aIdx v138 (.int .i64 1) 1).bind fun v139 => (aLd1 h129 v139).bind fun v140 => (asI .i64 v140).bind fun n141 => (C 80 [v130, .int .i64 n135] h129).bind fun r142 => ((aLdN r142.2 p2 2).bind fun v143 => some (vbeq v143 v136)).bind fun b144 => bif b144 then ((aLd1 r142.2 v137).bind fun v145 => some (vbeq v145 v138)).bind fun b146 => bif b146 then ((aLd1 r142.2 v139).bind fun v147 => (asI .i64 v147).bind fun n148 => some (vbeq (.int .i64 n148) (.int .i64 n141))).bind fun b149 => bif b149 then (C 80 [v136, .int .i64 n141] r142.2).bind fun r150 => (C 128 [p128, r142.1, r150.1] r150.2).bind fun r151 => some (r151.1, r151.2) else none else none else none else bif n9 == 19 then aNewS h6 9 [.string (⟨#[114, 101, 116, 117, 114, 110]⟩)] 1 fun p152 h153 => (aLdN h153 p2 2).bind fun v154 => (aOff p5 3).bind fun v155 => (aLd1 h153 v155).bind fun v156 => (aIdx v156 (.int .i64 0) 1).bind fun v157 => (aLd1 h153 v157).bind fun v158 => (asI .i64 v158).bind fun n159 => aNewS h153 9 [.string (⟨#[59]⟩)] 1 fun p160 h161 => (C 80 [v154, .int .i64 n159] h161).bind fun r162 => (C 128 [p152, r162.1, p160] r162.2).bind fun r163 => some (r163.1, r163.2) else (aLdN h6 p2 2).bind fun v164 => (aOff p5 3).bind fun v165 => (aLd1 h6 v165).bind fun v166 => (aIdx v166 (.int .i64 0) 1).bind fun v167 => (aLd1 h6 v167).bind fun v168 => (asI .i64 v168).bind fun n169 => aNewS h6 9 [.string (⟨#[59]⟩)] 1 fun p170 h171 => (C 80 [v164, .int .i64 n169] h171).bind fun r172 => (C 128 [(.slice none 0 0), r172.1, p170] r172.2).bind fun r173 => some (r173.1, r173.2) := by kernel_rfl
theorem c127 (d : Nat) (args : List Value) (h : AHeap) : call Try.prog Ms (d + 1) 127 args h = evFn hk0 Try.prog (call Try.prog Ms d) M127 d Try.f127 args h := by kernel_rfl

/-! 128 loop.example/g00101/spec.l9Around -/
theorem e128 (hk : Hk (Value × AHeap)) (C : ACall) (N : Nat) (x0 : Value) (x1 : Value) (x2 : Value) (h : AHeap) : evFn hk Try.prog C M128 N Try.f128 [x0, x1, x2] h =
    aNewS h 9 [] 0 fun p1 h2 => (aApp h2 9 1 16 p1 x0).bind fun r3 => (aApp r3.2 9 1 16 r3.1 x1).bind fun r4 => (aApp r4.2 9 1 16 r4.1 x2).bind fun r5 => some (r5.1, r5.2) := by kernel_rfl
theorem c128 (d : Nat) (args : List Value) (h : AHeap) : call Try.prog Ms (d + 1) 128 args h = evFn hk0 Try.prog (call Try.prog Ms d) M128 d Try.f128 args h := by kernel_rfl

/-! 129 (*loop.example/g00101/impl.printer).put -/
noncomputable def F129_0 (hk : Hk (Value × AHeap)) (C : ACall) (N : Nat) (n1 : Nat) : Nx (Value × AHeap) := evSt hk Try.prog C M129 N Try.f129 [1, 2, 6] [n1]
noncomputable def s129_0 (hk : Hk (Value × AHeap)) (C : ACall) (N : Nat) (n1 : Nat) (x0 : Value) (x6 : Value) (x7 : Int) (x8 : Int) (h : AHeap) := F129_0 hk C N n1 (⟨37, [(0, x0), (6, x6), (7, .int .i64 x7), (8, .int .i64 x8)]⟩) h
noncomputable def F129_1 (hk : Hk (Value × AHeap)) (C : ACall) (N : Nat) (n1 : Nat) : Nx (Value × AHeap) := evSt hk Try.prog C M129 N Try.f129 [1, 2, 3, 1, 1, 0, 2, 1, 1] [n1]
noncomputable def s129_1 (hk : Hk (Value × AHeap)) (C : ACall) (N : Nat) (n1 : Nat) (x0 : Value) (x5 : ByteArray) (x6 : Value) (x7 : Int) (x8 : Int) (h : AHeap) := hk 5 (⟨37, [(0, x0), (5, .string x5), (6, x6), (7, .int .i64 x7), (8, .int .i64 x8)]⟩) h (F129_1 hk C N n1)
theorem e129 (hk : Hk (Value × AHeap)) (C : ACall) (N : Nat) (x0 : Value) (x1 : Value) (h : AHeap) : evFn hk Try.prog C M129 N Try.f129 [x0, x1] h =
    (aLen x1).bind fun v1 => (asI .i64 v1).bind fun n2 => s129_0 hk C N N x0 x1 n2 0 h := by kernel_rfl
theorem s129_0_eq (hk : Hk (Value × AHeap)) (C : ACall) (N : Nat) (n1 : Nat) (x0 : Value) (x6 : Value) (x7 : Int) (x8 : Int) (h : AHeap) : s129_0 hk C N (n1 + 1) x0 x6 x7 x8 h =
    bif decide (x8 < x7) then (aIdx x6 (.int .i64 x8) 1).bind fun v3 => (aLd1 h v3).bind fun v4 => (asS v4).bind fun t5 => (aNil x0).bind fun v6 => (aOff v6 1).bind fun v7 => (aLd1 h v7).bind fun v8 => (aLen v8).bind fun v9 => (asI .i64 v9).bind fun n10 => bif decide (n10 > 0) then (aNil x0).bind fun v11 => (aOff v11 1).bind fun v12 => (aLd1 h v12).bind fun v13 => aNewS h 5 [.int .u8 32] 1 fun p14 h15 => (aApp h15 5 1 1 v13 p14).bind fun r16 => (aNil x0).bind fun v17 => (aOff v17 1).bind fun v18 => (aSt r16.2 v18 r16.1 1).bind fun h19 => s129_1 hk C N n1 x0 t5 x6 x7 x8 h19 else s129_1 hk C N n1 x0 t5 x6 x7 x8 h else some (.tuple (List.toArray []), h) := by kernel_rfl
theorem s129_1_j (C : ACall) (N : Nat) (n1 : Nat) (x0 : Value) (x5 : ByteArray) (x6 : Value) (x7 : Int) (x8 : Int) (h : AHeap) : s129_1 hk0 C N n1 x0 x5 x6 x7 x8 h = F129_1 hk0 C N n1 (⟨37, [(0, x0), (5, .string x5), (6, x6), (7, .int .i64 x7), (8, .int .i64 x8)]⟩) h := by delta s129_1; exact hk0_app _ _ _ _
theorem s129_1_eq (hk : Hk (Value × AHeap)) (C : ACall) (N : Nat) (n1 : Nat) (x0 : Value) (x5 : ByteArray) (x6 : Value) (x7 : Int) (x8 : Int) (h : AHeap) : F129_1 hk C N n1 (⟨37, [(0, x0), (5, .string x5), (6, x6), (7, .int .i64 x7), (8, .int .i64 x8)]⟩) h =
    (aNil x0).bind fun v20 => (aOff v20 1).bind fun v21 => (aLd1 h v21).bind fun v22 => (aAppS h 5 1 v22 (.string x5)).bind fun r23 => (aNil x0).bind fun v24 => (aOff v24 1).bind fun v25 => (aSt r23.2 v25 r23.1 1).bind fun h26 => s129_0 hk C N n1 x0 x6 x7 (IntKind.i64.wrap (x8 + 1)) h26 := by kernel_rfl
theorem c129 (d : Nat) (args : List Value) (h : AHeap) : call Try.prog Ms (d + 1) 129 args h = evFn hk0 Try.prog (call Try.prog Ms d) M129 d Try.f129 args h := by kernel_rfl

/-! 130 loop.example/g00101/impl.digits -/
noncomputable def F130_0 (hk : Hk (Value × AHeap)) (C : ACall) (N : Nat) (n1 : Nat) : Nx (Value × AHeap) := evSt hk Try.prog C M130 N Try.f130 [1, 1, 0, 1, 2, 6] [n1]
noncomputable def s130_0 (hk : Hk (Value × AHeap)) (C : ACall) (N : Nat) (n1 : Nat) (x0 : Int) (x3 : ByteArray) (x4 : Int) (h : AHeap) := F130_0 hk C N n1 (⟨29, [(0, .int .i64 x0), (3, .string x3), (4, .int .i64 x4)]⟩) h
noncomputable def F130_1 (hk : Hk (Value × AHeap)) (C : ACall) (N : Nat) (n1 : Nat) : Nx (Value × AHeap) := evSt hk Try.prog C M130 N Try.f130 [1, 1, 0, 1, 2, 3, 0, 2, 1, 1] [n1]
noncomputable def s130_1 (hk : Hk (Value × AHeap)) (C : ACall) (N : Nat) (n1 : Nat) (x0 : Int) (x3 : ByteArray) (x4 : Int) (x5 : Int) (h : AHeap) := hk 7 (⟨29, [(0, .int .i64 x0), (3, .string x3), (4, .int .i64 x4), (5, .int .i64 x5)]⟩) h (F130_1 hk C N n1)
theorem e130 (hk : Hk (Value × AHeap)) (C : ACall) (N : Nat) (x0 : Int) (h : AHeap) : evFn hk Try.prog C M130 N Try.f130 [.int .i64 x0] h =
    s130_0 hk C N N x0 ⟨#[]⟩ x0 h := by kernel_rfl
theorem s130_0_eq (hk : Hk (Value × AHeap)) (C : ACall) (N : Nat) (n1 : Nat) (x0 : Int) (x3 : ByteArray) (x4 : Int) (h : AHeap) : s130_0 hk C N (n1 + 1) x0 x3 x4 h =
    bif decide ((Int.tmod x4 10) < 0) then s130_1 hk C N n1 x0 x3 x4 (IntKind.i64.wrap (0 - (Int.tmod x4 10))) h else s130_1 hk C N n1 x0 x3 x4 (Int.tmod x4 10) h := by kernel_rfl
theorem s130_1_j (C : ACall) (N : Nat) (n1 : Nat) (x0 : Int) (x3 : ByteArray) (x4 : Int) (x5 : Int) (h : AHeap) : s130_1 hk0 C N n1 x0 x3 x4 x5 h = F130_1 hk0 C N n1 (⟨29, [(0, .int .i64 x0), (3, .string x3), (4, .int .i64 x4), (5, .int .i64 x5)]⟩) h := by delta s130_1; exact hk0_app _ _ _ _
theorem s130_1_eq (hk : Hk (Value × AHeap)) (C : ACall) (N : Nat) (n1 : Nat) (x0 : Int) (x3 : ByteArray) (x4 : Int) (x5 : Int) (h : AHeap) : F130_1 hk C N n1 (⟨29, [(0, .int .i64 x0), (3, .string x3), (4, .int .i64 x4), (5, .int .i64 x5)]⟩) h =
    aNewS h 5 [.int .u8 (IntKind.u8.wrap (IntKind.i64.wrap (48 + x5)))] 1 fun p1 h2 => (aCvStr h2 p1).bind fun v3 => (asS v3).bind fun t4 => (aBin .add (.string t4) (.string x3)).bind fun v5 => (asS v5).bind fun t6 => (C 103 [.int .i64 x4, .int .i64 (-9), .int .i64 9] h2).bind fun r7 => (asB r7.1).bind fun b8 => bif b8 then bif decide (x0 < 0) then (aBin .add (.string (⟨#[45]⟩)) (.string t6)).bind fun v9 => (asS v9).bind fun t10 => some (.string t10, r7.2) else some (.string t6, r7.2) else s130_0 hk C N n1 x0 t6 (IntKind.i64.wrap (Int.tdiv x4 10)) r7.2 := by kernel_rfl
theorem c130 (d : Nat) (args : List Value) (h : AHeap) : call Try.prog Ms (d + 1) 130 args h = evFn hk0 Try.prog (call Try.prog Ms d) M130 d Try.f130 args h := by kernel_rfl

/-! 131 (*loop.example/g00101/impl.printer).list -/
noncomputable def F131_0 (hk : Hk (Value × AHeap)) (C : ACall) (N : Nat) (n1 : Nat) : Nx (Value × AHeap) := evSt hk Try.prog C M131 N Try.f131 [1, 2, 6] [n1]
noncomputable def s131_0 (hk : Hk (Value × AHeap)) (C : ACall) (N : Nat) (n1 : Nat) (x0 : Value) (x6 : Value) (x7 : Int) (x8 : Int) (h : AHeap) := F131_0 hk C N n1 (⟨22, [(0, x0), (6, x6), (7, .int .i64 x7), (8, .int .i64 x8)]⟩) h
theorem e131 (hk : Hk (Value × AHeap)) (C : ACall) (N : Nat) (x0 : Value) (x1 : Value) (h : AHeap) : evFn hk Try.prog C M131 N Try.f131 [x0, x1] h =
    (aLen x1).bind fun v1 => (asI .i64 v1).bind fun n2 => s131_0 hk C N N x0 x1 n2 0 h := by kernel_rfl
theorem s131_0_eq (hk : Hk (Value × AHeap)) (C : ACall) (N : Nat) (n1 : Nat) (x0 : Value) (x6 : Value) (x7 : Int) (x8 : Int) (h : AHeap) : s131_0 hk C N (n1 + 1) x0 x6 x7 x8 h =
    bif decide (x8 < x7) then (aIdx x6 (.int .i64 x8) 1).bind fun v3 => (aLd1 h v3).bind fun v4 => (asI .i64 v4).bind fun n5 => bif decide (x8 > 0) then aNewS h 9 [.string (⟨#[44]⟩)] 1 fun p6 h7 => (C 129 [x0, p6] h7).bind fun r8 => (C 81 [x0, .int .i64 n5] r8.2).bind fun r9 => s131_0 hk C N n1 x0 x6 x7 (IntKind.i64.wrap (x8 + 1)) r9.2 else (C 81 [x0, .int .i64 n5] h).bind fun r10 => s131_0 hk C N n1 x0 x6 x7 (IntKind.i64.wrap (x8 + 1)) r10.2 else some (.tuple (List.toArray []), h) := by kernel_rfl
theorem c131 (d : Nat) (args : List Value) (h : AHeap) : call Try.prog Ms (d + 1) 131 args h = evFn hk0 Try.prog (call Try.prog Ms d) M131 d Try.f131 args h := by kernel_rfl
end Go.Proofs.Ytadmoackacickaa
