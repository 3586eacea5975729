import Derived.Test.YtajpnemfppaafaaGreatXAN
set_option linter.unusedSimpArgs false
set_option linter.unusedVariables false
/- The parser's lists of kids: arguments. -/
namespace Go.Proofs.YtajpnemfppaafaaGreat
open Go Go.AH
def PLI (h : AHeap) (v : Value) (xs : List Int) (rt : Nat) : Prop := (∃ i, v = slc i 0 xs.length ∧ OwnR h i rt 3 (ints xs)) ∧ h.tip 3 rt = xs.length
def PKr (rt : Nat) (rn : Option Nat) (h h' : AHeap) : Prop := h.size ≤ h'.size ∧ (∀ j o, h.at? j = some o → o.elem ≠ 124 → (o.elem = 48 → rn ≠ some o.root) → h'.at? j = some o) ∧ ∀ r, r < h.size → r ≠ rt → h'.tip 3 r = h.tip 3 r
theorem PK.pkr {rt : Nat} {rn : Option Nat} {h h' : AHeap} (x : PK rn h h') : PKr rt rn h h' := ⟨x.1, x.2.1, fun r hr _ => x.2.2 r hr⟩
theorem PKr.trans {rt : Nat} {rn rn1 : Option Nat} {h h1 h2 : AHeap} (x : PKr rt rn h h1) (r : PRN rn rn1 h) (y : PKr rt rn1 h1 h2) : PKr rt rn h h2 :=
 ⟨Nat.le_trans x.1 y.1, fun j o a b c => y.2.1 j o (x.2.1 j o a b c) b (fun e => by
  rcases r with rfl | ⟨q, rfl, hq⟩
  ·exact c e
  ·have := at?_obj a
   intro hh
   have : q = o.root := by simpa using hh
   omega), fun q hq hne => (y.2.2 q (Nat.lt_of_lt_of_le hq x.1) hne).trans (x.2.2 q hq hne)⟩
theorem PK.behind {rt : Nat} {rn rn1 : Option Nat} {h h1 h2 : AHeap} (x : PK rn h h1) (r : PRN rn rn1 h) (hr : h.size ≤ rt) (y : PKr rt rn1 h1 h2) : PK rn h h2 := by
 have z := (x.pkr (rt := rt)).trans r y
 exact ⟨z.1, z.2.1, fun q hq => z.2.2 q hq (by omega)⟩
def AK (rt : Nat) (h h' : AHeap) : Prop := h.size ≤ h'.size ∧ (∀ j o, h.at? j = some o → h'.at? j = some o) ∧ ∀ r, r < h.size → r ≠ rt → h'.tip 3 r = h.tip 3 r
theorem AK.pkr {rt : Nat} {rn : Option Nat} {h h' : AHeap} (x : AK rt h h') : PKr rt rn h h' := ⟨x.1, fun j o a _ _ => x.2.1 j o a, x.2.2⟩
theorem PH.ak {rt : Nat} {c : PC} {h h' : AHeap} {st : PSt} {rn : Option Nat} (x : PH c h st rn) (k : AK rt h h') : PH c h' st rn := by
 obtain ⟨nv, ⟨ep, a⟩, b, d⟩ := x
 refine ⟨nv, ⟨ep, k.2.1 _ _ a⟩, ?_, d.keep fun j o y _ => k.2.1 j o y⟩
 rcases b with b | ⟨i, z, o, e1, e2, e1003⟩
 ·exact .inl b
 ·exact .inr ⟨i, z, o, k.2.1 _ _ e1, e2, e1003⟩
theorem PLI.new (h : AHeap) (xs : List Int) : PLI (h.new 3 (ints xs)) (slc h.size 0 xs.length) xs h.size := ⟨⟨h.size, rfl, OwnR.new h 3 (ints xs)⟩, by simp [AHeap.new, ints]⟩
theorem PLI.lt {h : AHeap} {v : Value} {xs : List Int} {rt : Nat} (x : PLI h v xs rt) : rt < h.size := by
 obtain ⟨⟨i, _, o⟩, _⟩ := x
 have := o.lt; omega
theorem PLI.pk {h h' : AHeap} {v : Value} {xs : List Int} {rt : Nat} {rn : Option Nat} (x : PLI h v xs rt) (k : PK rn h h') : PLI h' v xs rt := by
 have hl := x.lt
 obtain ⟨⟨i, e, o⟩, t⟩ := x
 exact ⟨⟨i, e, o.pk k (by decide) (by decide)⟩, (k.2.2 rt hl).trans t⟩
theorem PLI.kid {h : AHeap} {v : Value} {xs : List Int} {rt : Nat} (x : PLI h v xs rt) : KidH h v xs := let ⟨⟨i, e, o⟩, _⟩ := x; .inr ⟨i, rt, e, o⟩
theorem PLI.app {h : AHeap} {v x : Value} {xs ys : List Int} {rt : Nat} (l : PLI h v xs rt) (hs : aSrc h 1 x = some (ys.length, ints ys)) (h1 : xs.length + ys.length ≤ 10000000) :
  ∃ v' h', aApp h 3 1 8 v x = some (v', h') ∧ PLI h' v' (xs ++ ys) rt ∧ AK rt h h' := by
 obtain ⟨⟨i, rfl, ep, ha⟩, ht⟩ := l
 have hn : xs.length * 1 = (ints xs).length := by simp [ints]
 have m1 : xs.length + ys.length ≤ most := by show _ ≤ 140737488355328; omega
 have m2 : (xs.length + ys.length) * 8 ≤ most := by show _ ≤ 140737488355328; omega
 refine ⟨slc h.size 0 (xs.length + ys.length), h.app ⟨rt, ep, false, 3, ints xs⟩ (xs.length * 1) (ints xs ++ ints ys), ?_, ⟨⟨h.size, by simp, ?_⟩, by simp [AHeap.app, ints]⟩, by show h.size ≤ h.size + 1; omega, fun j o a => at?_app_old a _ (fun _ => ?_), fun r _ hne => by simp [AHeap.app, hne]⟩
 ·have hl : (ints xs).length = xs.length := by simp [ints]
  simp only [aApp, aAppG, slc, ha, hs, oBs]
  rw [if_pos ⟨trivial, trivial, by omega, m1, m2⟩, hn, List.take_length]
 ·rw [show ints (xs ++ ys) = ints xs ++ ints ys by simp [ints]]
  exact ⟨_, at?_app_same ha _ _⟩
 ·show ¬ xs.length * 1 < h.tip 3 rt
  omega
theorem PLI.src {h : AHeap} {v : Value} {xs : List Int} {rt : Nat} (l : PLI h v xs rt) : aSrc h 1 v = some (xs.length, ints xs) := by
 obtain ⟨⟨i, rfl, o⟩, _⟩ := l
 have := o.row.src (off := 0) (n := xs.length) (esz := 1) (by simp [ints])
 rw [this, List.drop_zero, show xs.length * 1 = (ints xs).length by simp [ints], List.take_length]
theorem PLI.push {h : AHeap} {v : Value} {xs : List Int} {rt : Nat} (l : PLI h v xs rt) (h1 : xs.length ≤ 9000000) (y : Int) :
  ∃ v' h', aApp (h.new 3 [.int .i64 y]) 3 1 8 v (slc h.size 0 1) = some (v', h') ∧ PLI h' v' (xs ++ [y]) rt ∧ AK rt h h' := by
 have e := Ext.new (Nat.le_refl h.size) 3 (ints [y])
 have l1 := l.pk (PK.ext e (rn := none))
 obtain ⟨v', h', a, b, k⟩ := l1.app (ys := [y]) (PLI.new h [y]).src (by simp; omega)
 exact ⟨v', h', a, b, Nat.le_trans e.size k.1, fun j o z => k.2.1 j o (e.at? (at?_obj z).2.1 z), fun r hr hne => (k.2.2 r (Nat.lt_of_lt_of_le hr e.size) hne).trans (e.tip 3 r hr)⟩
def SimL (c : PC) (D : Nat) (f : FuncId) (m : PM) : Prop := ∀ (h : AHeap) (st : PSt) (rn : Option Nat) (l : List Int) (st' : PSt), PH c h st rn → m st = some (l, st') →
 ∃ v h' rn' rt, call Tp Ms D f [ptr c.p 0] h = some (v, h') ∧ PH c h' st' rn' ∧ PK rn h h' ∧ PRN rn rn' h ∧ PLI h' v l rt ∧ h.size ≤ rt
theorem args_loop {d N rt : Nat} {c : PC} {whole : PI} (hs : Sim c (d + 21) 197 whole) : ∀ (n m : Nat) (out : List Int) (v : Value) (h : AHeap) (st : PSt) (rn : Option Nat) (l : List Int) (st' : PSt), n ≤ m → out.length + n ≤ 2000000 → PH c h st rn → PLI h v out rt → argsLoop c whole n out st = some (l, st') →
  ∃ v' h' rn', s427_0 hk0 (call Tp Ms (d + 21)) N m (ptr c.p 0) v h = some (v', h') ∧ PH c h' st' rn' ∧ PKr rt rn h h' ∧ PRN rn rn' h ∧ PLI h' v' l rt := by
 intro n
 induction n with
 | zero => intro m out v h st rn l st' _ _ _ _ hp; cases hp
 | succ n ih =>
  intro m out v h st rn l st' hm hlen x li hp
  obtain ⟨m, rfl⟩ : ∃ q, m = q + 1 := ⟨m - 1, by omega⟩
  rw [argsLoop] at hp
  obtain ⟨⟨e, s1⟩, h1, hp⟩ := bnd hp
  obtain ⟨⟨b, s2⟩, h2, hp⟩ := bnd hp
  obtain ⟨g1, r1, c1, y1, k1, n1⟩ := hs _ _ _ _ _ x h1
  obtain ⟨v2, g2, c2, l2, a2⟩ := (li.pk k1).push (by omega) e
  have y2 := y1.ak a2
  obtain ⟨g3, r3, c1003, y3, k3, n3⟩ := l107 (d := d + 18) y2 h2
  have c1003' : call Tp Ms (d + 21) 194 [ptr c.p 0, .string (⟨#[44]⟩)] g2 = _ := c1003
  have l3 := l2.pk k3
  have K3 : PKr rt rn h g3 := (k1.pkr.trans n1 (a2.pkr)).trans n1 k3.pkr
  have N3 : PRN rn r3 h := PRN.trans (Nat.le_trans k1.1 a2.1) n1 n3
  cases b with
  | true =>
   rw [if_pos rfl] at hp
   obtain ⟨v4, g4, r4, c1004, y4, k4, n4, l4⟩ := ih m (out ++ [e]) v2 g3 s2 r3 l st' (by omega) (by simp; omega) y3 l3 hp
   refine ⟨v4, g4, r4, ?_, y4, K3.trans N3 k4, PRN.trans K3.1 N3 n4, l4⟩
   rw [s427_0_eq, c1, oBs]
   simp only [asI, if_true, oBs, aNewS]
   rw [c2, oBs, c1003', oBs]
   simp only [asB, oBs, Bool.not_true, cond_false, c1004]
  | false =>
   rw [if_neg (by simp), Option.map_eq_some_iff] at hp
   obtain ⟨s4, h4, he⟩ := hp
   cases he
   obtain ⟨g4, r4, c1004, y4, k4, n4⟩ := l109 (d := d + 17) y3 h4
   have c1004' : call Tp Ms (d + 21) 196 [ptr c.p 0, .string (⟨#[41]⟩)] g3 = _ := c1004
   refine ⟨v2, g4, r4, ?_, y4, K3.trans N3 k4.pkr, PRN.trans K3.1 N3 n4, l3.pk k4⟩
   rw [s427_0_eq, c1, oBs]
   simp only [asI, if_true, oBs, aNewS]
   rw [c2, oBs, c1003', oBs]
   simp only [asB, oBs, Bool.not_false, cond_true]
   rw [c1004', oBs]
theorem l244 {d n : Nat} {c : PC} {whole : PI} (hn : n ≤ d + 21) (hn2 : n ≤ 2000000) (hs : Sim c (d + 21) 197 whole) : SimL c (d + 22) 427 (argsP c whole n) := by
 intro h st rn l st' x hp
 obtain ⟨s1, h1, hp⟩ := bnd hp
 obtain ⟨⟨b, s2⟩, h2, hp⟩ := bnd hp
 obtain ⟨g1, r1, c1, y1, k1, n1⟩ := l109 (d := d + 17) x h1
 have c1' : call Tp Ms (d + 21) 196 [ptr c.p 0, .string (⟨#[40]⟩)] h = _ := c1
 have e2 := Ext.new (Nat.le_refl g1.size) 3 (ints [])
 have l2 := PLI.new g1 []
 have y2 := y1.ext e2
 obtain ⟨g3, r3, c1003, y3, k3, n3⟩ := l107 (d := d + 18) y2 h2
 have c1003' : call Tp Ms (d + 21) 194 [ptr c.p 0, .string (⟨#[41]⟩)] (g1.new 3 []) = _ := c1003
 have l3 := l2.pk k3
 have K3 : PK rn h g3 := (k1.trans n1 (PK.ext e2)).trans n1 k3
 have N3 : PRN rn r3 h := PRN.trans (Nat.le_trans k1.1 e2.size) n1 n3
 have hcall : call Tp Ms (d + 22) 427 [ptr c.p 0] h = evFn hk0 Tp (call Tp Ms (d + 21)) M427 (d + 21) Tryz.f427 [ptr c.p 0] h := c427 (d + 21) _ _
 cases b with
 | true =>
  rw [if_pos rfl] at hp; cases hp
  refine ⟨slc g1.size 0 0, g3, r3, g1.size, ?_, y3, K3, N3, l3, k1.1⟩
  rw [hcall, e427, c1', oBs]
  simp only [aNewS]
  rw [c1003', oBs]
  simp only [asB, oBs, cond_true]
 | false =>
  rw [if_neg (by simp)] at hp
  obtain ⟨v4, g4, r4, c1004, y4, k4, n4, l4⟩ := args_loop (N := d + 21) hs n (d + 21) [] _ g3 s2 r3 l st' hn (by simpa using hn2) y3 l3 hp
  have c1004' : s427_0 hk0 (call Tp Ms (d + 21)) (d + 21) (d + 21) (ptr c.p 0) (slc g1.size 0 0) g3 = _ := c1004
  refine ⟨v4, g4, r4, g1.size, ?_, y4, K3.behind N3 k1.1 k4, PRN.trans K3.1 N3 n4, l4, k1.1⟩
  rw [hcall, e427, c1', oBs]
  simp only [aNewS]
  rw [c1003', oBs]
  simp only [asB, oBs, cond_false, c1004']
section
variable {d : Nat} {c : PC} {h : AHeap} {st st' : PSt} {rn : Option Nat}
theorem q155 (x : PH c h st rn) : ∃ h', call Tp Ms (d + 21) 281 [ptr c.p 0] h = some ((pk c st).val, h') ∧ Ext h.size h h' := l155 (d := d + 20) x
theorem q156 (x : PH c h st rn) (code : Int) : Pp c h rn (call Tp Ms (d + 21) 282 [ptr c.p 0, .int .i64 code] h) unit (failP c st code) := l156 (d := d + 19) x code
theorem q154 (x : PH c h st rn) (t : ByteArray) : ∃ h', call Tp Ms (d + 21) 280 [ptr c.p 0, .string t] h = some (.bool (isP c st t), h') ∧ Ext h.size h h' := l154 (d := d + 19) x t
theorem q107 {b : Bool} (x : PH c h st rn) {t : ByteArray} (hp : takesP c t st = some (b, st')) : Pp c h rn (call Tp Ms (d + 21) 194 [ptr c.p 0, .string t] h) (.bool b) st' := l107 (d := d + 18) x hp
theorem q109 (x : PH c h st rn) {t : ByteArray} (hp : wantP c t st = some st') : Pp c h rn (call Tp Ms (d + 21) 196 [ptr c.p 0, .string t] h) unit st' := l109 (d := d + 17) x hp
theorem q108 {t : ByteArray} (x : PH c h st rn) (hp : nameN c st = some (t, st')) : Pp c h rn (call Tp Ms (d + 21) 195 [ptr c.p 0] h) (.string t) st' := l108 (d := d + 18) x hp
theorem q157 (x : PH c h st rn) (hp : openP c st = some st') : Pp c h rn (call Tp Ms (d + 21) 283 [ptr c.p 0] h) unit st' := l157 (d := d + 18) x hp
theorem q64 {k i r : Int} {t : ByteArray} {ks : List Int} {kv : Value} (x : PH c h st rn) (hk : KidH h kv ks) (hp : nodeP k t i ks st = some (r, st')) :
  Pp c h rn (call Tp Ms (d + 21) 102 [ptr c.p 0, .int .i64 k, .string t, .int .i64 i, kv] h) (.int .i64 r) st' := l64 (d := d + 20) x hk hp
theorem q64nil {k i r : Int} {t : ByteArray} (x : PH c h st rn) (hp : nodeP k t i [] st = some (r, st')) :
  Pp c h rn (call Tp Ms (d + 21) 102 [ptr c.p 0, .int .i64 k, .string t, .int .i64 i, .slice none 0 0] h) (.int .i64 r) st' := q64 x (.inl ⟨rfl, rfl⟩) hp
theorem q64one {k i r a : Int} {t : ByteArray} (x : PH c h st rn) (hp : nodeP k t i [a] st = some (r, st')) :
  Pp c h rn (call Tp Ms (d + 21) 102 [ptr c.p 0, .int .i64 k, .string t, .int .i64 i, slc h.size 0 1] (h.new 3 [.int .i64 a])) (.int .i64 r) st' := nodeNew (d := d + 20) [a] x hp
theorem q64two {k i r a b : Int} {t : ByteArray} (x : PH c h st rn) (hp : nodeP k t i [a, b] st = some (r, st')) :
  Pp c h rn (call Tp Ms (d + 21) 102 [ptr c.p 0, .int .i64 k, .string t, .int .i64 i, slc h.size 0 2] (h.new 3 [.int .i64 a, .int .i64 b])) (.int .i64 r) st' := nodeNew (d := d + 20) [a, b] x hp
theorem q64three {k i r a b e : Int} {t : ByteArray} (x : PH c h st rn) (hp : nodeP k t i [a, b, e] st = some (r, st')) :
  Pp c h rn (call Tp Ms (d + 21) 102 [ptr c.p 0, .int .i64 k, .string t, .int .i64 i, slc h.size 0 3] (h.new 3 [.int .i64 a, .int .i64 b, .int .i64 e])) (.int .i64 r) st' := nodeNew (d := d + 20) [a, b, e] x hp
end
theorem behind_loop {d N : Nat} {c : PC} {whole : PI} {args : PM} (hs : Sim c (d + 21) 197 whole) (ha : SimL c (d + 21) 427 args) : ∀ (n m : Nat) (e : Int) (h : AHeap) (st : PSt) (rn : Option Nat) (q : Int) (st' : PSt), n ≤ m → PH c h st rn → behindLoop c whole args n e st = some (q, st') →
  Pp c h rn (s425_0 hk0 (call Tp Ms (d + 21)) N m (ptr c.p 0) e h) (.int .i64 q) st' := by
 intro n
 induction n with
 | zero => intro m e h st rn q st' _ _ hp; cases hp
 | succ n ih =>
  intro m e h st rn q st' hm x hp
  obtain ⟨m, rfl⟩ : ∃ q, m = q + 1 := ⟨m - 1, by omega⟩
  rw [behindLoop] at hp
  obtain ⟨⟨b, s1⟩, h1, hp⟩ := bnd hp
  obtain ⟨g1, r1, c1, y1, k1, n1⟩ := q107 (d := d) x h1
  refine Pp.of k1 n1 ?_
  rw [s425_0_eq, c1, oBs]
  simp only [asB, oBs]
  cases b with
  | true =>
   rw [if_pos rfl] at hp
   obtain ⟨⟨k, s2⟩, h2, hp⟩ := bnd hp
   obtain ⟨s3, h3, hp⟩ := bnd hp
   obtain ⟨⟨z, s4⟩, h4, hp⟩ := bnd hp
   obtain ⟨g2, r2, c2, y2, k2, n2⟩ := hs _ _ _ _ _ y1 h2
   obtain ⟨g3, r3, c1003, y3, k3, n3⟩ := q109 (d := d) y2 h3
   obtain ⟨g4, r4, c1004, y4, k4, n4⟩ := q64two (d := d) y3 h4
   refine Pp.of k2 n2 (Pp.of k3 n3 (Pp.of k4 n4 ?_))
   rw [cond_true, c2, oBs]
   simp only [asI, if_true, oBs, aNewS]
   rw [c1003, oBs, c1004, oBs]
   simp only [if_true, oBs]
   exact ih m z g4 s4 r4 q st' (by omega) y4 hp
  | false =>
   rw [if_neg (by simp)] at hp
   obtain ⟨⟨b2, s2⟩, h2, hp⟩ := bnd hp
   obtain ⟨g2, r2, c2, y2, k2, n2⟩ := q107 (d := d) y1 h2
   refine Pp.of k2 n2 ?_
   rw [cond_false, c2, oBs]
   simp only [oBs]
   cases b2 with
   | true =>
    rw [if_pos rfl] at hp
    obtain ⟨⟨t, s3⟩, h3, hp⟩ := bnd hp
    obtain ⟨⟨z, s4⟩, h4, hp⟩ := bnd hp
    obtain ⟨⟨z5, s5⟩, h5, hp⟩ := bnd hp
    obtain ⟨g3, r3, c1003, y3, k3, n3⟩ := q108 (d := d) y2 h3
    obtain ⟨g4, r4, c1004, y4, k4, n4⟩ := q64nil (d := d) y3 h4
    obtain ⟨g5, r5, c1005, y5, k5, n5⟩ := q64two (d := d) y4 h5
    refine Pp.of k3 n3 (Pp.of k4 n4 (Pp.of k5 n5 ?_))
    rw [cond_true, c1003, oBs]
    simp only [asS, oBs]
    rw [c1004, oBs]
    simp only [asI, if_true, oBs, aNewS]
    rw [c1005, oBs]
    simp only [if_true, oBs]
    exact ih m z5 g5 s5 r5 q st' (by omega) y5 hp
   | false =>
    rw [if_neg (by simp)] at hp
    obtain ⟨g3, c1003, x3⟩ := q154 (d := d) y2 ⟨#[40]⟩
    have y3 := y2.ext x3
    refine Pp.ext x3 ?_
    rw [cond_false, c1003, oBs]
    simp only [oBs]
    cases h3 : isP c s2 ⟨#[40]⟩ with
    | false =>
     rw [h3, if_neg (by simp)] at hp; cases hp
     rw [cond_false]
     exact ⟨g3, r2, rfl, y3, PK.refl _ _, .inl rfl⟩
    | true =>
     rw [h3, if_pos rfl] at hp
     obtain ⟨⟨l, s4⟩, h4, hp⟩ := bnd hp
     by_cases hlen : l.length > 1000000
     ·rw [if_pos hlen] at hp; cases hp
     ·rw [if_neg hlen] at hp
      obtain ⟨⟨z5, s5⟩, h5, hp⟩ := bnd hp
      have e1004 := Ext.new (Nat.le_refl g3.size) 3 (ints [e])
      have l4 := PLI.new g3 [e]
      obtain ⟨v5, g5, r5, rt, c1005, y5, k5, n5, l5, hrt⟩ := ha _ _ _ _ _ (y3.ext e1004) h4
      obtain ⟨v6, g6, c1006, l6, k6⟩ := (l4.pk k5).app l5.src (by simp; omega)
      have K : PK r2 g3 g6 := ((PK.ext e1004).trans (.inl rfl) k5).behind (PRN.trans e1004.size (.inl rfl) n5) (Nat.le_refl _) k6.pkr
      have y6 := y5.ak k6
      obtain ⟨g7, r7, c1007, y7, k7, n7⟩ := q64 (d := d) y6 l6.kid h5
      refine Pp.of K (PRN.trans e1004.size (.inl rfl) n5) (Pp.of k7 n7 ?_)
      have c1005' : call Tp Ms (d + 21) 427 [ptr c.p 0] (g3.new 3 [.int .i64 e]) = _ := c1005
      have c1006' : aApp g5 3 1 8 (slc g3.size 0 1) v5 = some (v6, g6) := c1006
      rw [cond_true]
      simp only [aNewS]
      rw [c1005', oBs]
      simp only
      rw [c1006', oBs, c1007, oBs]
      simp only [asI, if_true, oBs]
      exact ih m z5 g7 s5 r7 q st' (by omega) y7 hp
theorem l242 {d n : Nat} {c : PC} {prim whole : PI} {args : PM} (hn : n ≤ d + 21) (hp : Sim c (d + 21) 426 prim) (hs : Sim c (d + 21) 197 whole) (ha : SimL c (d + 21) 427 args) : Sim c (d + 22) 425 (behindP c prim whole args n) := by
 intro h st rn q st' x hp'
 obtain ⟨⟨a, s1⟩, h1, hp'⟩ := bnd hp'
 obtain ⟨g1, r1, c1, y1, k1, n1⟩ := hp _ _ _ _ _ x h1
 refine Pp.of k1 n1 ?_
 have z := behind_loop (N := d + 21) hs ha n (d + 21) a g1 s1 r1 q st' hn y1 hp'
 have hcall : call Tp Ms (d + 22) 425 [ptr c.p 0] h = evFn hk0 Tp (call Tp Ms (d + 21)) M425 (d + 21) Tryz.f425 [ptr c.p 0] h := c425 (d + 21) _ _
 rw [hcall, e425, c1, oBs]
 simp only [asI, if_true, oBs]
 exact z
theorem l243 {d : Nat} {c : PC} {whole fn table : PI} (hw : Sim c (d + 21) 197 whole) (hf : Sim c (d + 21) 428 fn) (ht : Sim c (d + 21) 429 table) : Sim c (d + 22) 426 (primaryP c whole fn table) := by
 intro h st rn q st' x hp
 have hcall : call Tp Ms (d + 22) 426 [ptr c.p 0] h = evFn hk0 Tp (call Tp Ms (d + 21)) M426 (d + 21) Tryz.f426 [ptr c.p 0] h := c426 (d + 21) _ _
 obtain ⟨h2, c2, x2⟩ := q155 (d := d) x
 obtain ⟨h3, t3, x3, r3, s3⟩ := tokRow h2 (pk c st)
 have E := x2.trans (x3.mono x2.size)
 have y3 := x.ext E
 obtain ⟨b0, b1, b2, b3⟩ := ld_at r3.row
 rw [hcall, e426, c2, oBs]
 simp only [aNew]
 rw [t3, oBs]
 simp only [aOff_ptr, Nat.zero_add, oBs, b0, asI, if_true]
 unfold primaryP at hp
 refine Pp.ext E ?_
 obtain ⟨_, _, _, a1, _⟩ := y3.ld
 by_cases hk3 : (pk c st).k = 3
 ·rw [if_pos hk3] at hp
  obtain ⟨s, hs, hp⟩ := bnd hp
  obtain ⟨h4, t4, y4, k4, f4⟩ := stAdv y3 hs
  have t4' : aSt h3 (ptr c.p 1) (.int .i64 (IntKind.i64.wrap ((st.at' : Int) + 1))) 1 = some h4 := t4
  have r4 : RowE h4 h2.size 233 (pk c st).cells := r3.pk k4 (by decide) (by decide)
  obtain ⟨_, _, _, d3⟩ := ld_at r4.row
  obtain ⟨g5, r5, c1005, y5, k5, n5⟩ := q64nil (d := d) y4 hp
  refine Pp.of k4 (.inl rfl) ⟨g5, r5, ?_, y5, k5, n5⟩
  have : ((pk c st).k == 3) = true := by rw [hk3]; rfl
  rw [this, cond_true]
  simp only [nil_ptr, aOff_ptr, Nat.zero_add, oBs, a1, asI, if_true, t4', d3]
  rw [c1005, oBs]
  simp only [if_true, oBs]
 rw [if_neg hk3] at hp
 rw [beq_eq_false_iff_ne.2 hk3, cond_false]
 by_cases hk4 : (pk c st).k = 4
 ·rw [if_pos hk4] at hp
  obtain ⟨s, hs, hp⟩ := bnd hp
  obtain ⟨h4, t4, y4, k4, f4⟩ := stAdv y3 hs
  have t4' : aSt h3 (ptr c.p 1) (.int .i64 (IntKind.i64.wrap ((st.at' : Int) + 1))) 1 = some h4 := t4
  have r4 : RowE h4 h2.size 233 (pk c st).cells := r3.pk k4 (by decide) (by decide)
  obtain ⟨_, _, d2, _⟩ := ld_at r4.row
  obtain ⟨g5, r5, c1005, y5, k5, n5⟩ := q64nil (d := d) y4 hp
  refine Pp.of k4 (.inl rfl) ⟨g5, r5, ?_, y5, k5, n5⟩
  have : ((pk c st).k == 4) = true := by rw [hk4]; rfl
  rw [this, cond_true]
  simp only [nil_ptr, aOff_ptr, Nat.zero_add, oBs, a1, asI, asS, if_true, t4', d2]
  rw [c1005, oBs]
  simp only [if_true, oBs]
 rw [if_neg hk4] at hp
 rw [beq_eq_false_iff_ne.2 hk4, cond_false]
 by_cases hk1 : (pk c st).k = 1
 ·rw [if_pos hk1] at hp
  obtain ⟨s, hs, hp⟩ := bnd hp
  obtain ⟨h4, t4, y4, k4, f4⟩ := stAdv y3 hs
  have t4' : aSt h3 (ptr c.p 1) (.int .i64 (IntKind.i64.wrap ((st.at' : Int) + 1))) 1 = some h4 := t4
  have r4 : RowE h4 h2.size 233 (pk c st).cells := r3.pk k4 (by decide) (by decide)
  obtain ⟨_, _, d2, _⟩ := ld_at r4.row
  obtain ⟨g5, r5, c1005, y5, k5, n5⟩ := q64nil (d := d) y4 hp
  refine Pp.of k4 (.inl rfl) ⟨g5, r5, ?_, y5, k5, n5⟩
  have : ((pk c st).k == 1) = true := by rw [hk1]; rfl
  rw [this, cond_true]
  simp only [nil_ptr, aOff_ptr, Nat.zero_add, oBs, a1, asI, asS, if_true, t4', d2]
  rw [c1005, oBs]
  simp only [if_true, oBs]
 rw [if_neg hk1] at hp
 rw [beq_eq_false_iff_ne.2 hk1, cond_false]
 obtain ⟨⟨b4, s4⟩, h4, hp⟩ := bnd hp
 obtain ⟨g4, r4, c1004, y4, k4, n4⟩ := q107 (d := d) y3 h4
 refine Pp.of k4 n4 ?_
 rw [c1004, oBs]
 simp only [asB, oBs]
 cases b4 with
 | true =>
  rw [if_pos rfl] at hp
  obtain ⟨g5, r5, c1005, y5, k5, n5⟩ := q64nil (d := d) y4 hp
  refine ⟨g5, r5, ?_, y5, k5, n5⟩
  rw [cond_true, c1005, oBs]
  simp only [if_true, oBs]
 | false =>
 rw [if_neg (by simp)] at hp
 obtain ⟨⟨b5, s5⟩, h5, hp⟩ := bnd hp
 obtain ⟨g5, r5, c1005, y5, k5, n5⟩ := q107 (d := d) y4 h5
 refine Pp.of k5 n5 ?_
 rw [cond_false, c1005, oBs]
 simp only [oBs]
 cases b5 with
 | true =>
  rw [if_pos rfl] at hp
  obtain ⟨g6, r6, c1006, y6, k6, n6⟩ := q64nil (d := d) y5 hp
  refine ⟨g6, r6, ?_, y6, k6, n6⟩
  rw [cond_true, c1006, oBs]
  simp only [if_true, oBs]
 | false =>
 rw [if_neg (by simp)] at hp
 obtain ⟨⟨b6, s6⟩, h6, hp⟩ := bnd hp
 obtain ⟨g6, r6, c1006, y6, k6, n6⟩ := q107 (d := d) y5 h6
 refine Pp.of k6 n6 ?_
 rw [cond_false, c1006, oBs]
 simp only [oBs]
 cases b6 with
 | true =>
  rw [if_pos rfl] at hp
  obtain ⟨g7, r7, c1007, y7, k7, n7⟩ := q64nil (d := d) y6 hp
  refine ⟨g7, r7, ?_, y7, k7, n7⟩
  rw [cond_true, c1007, oBs]
  simp only [if_true, oBs]
 | false =>
 rw [if_neg (by simp)] at hp
 obtain ⟨⟨b7, s7⟩, h7, hp⟩ := bnd hp
 obtain ⟨g7, r7, c1007, y7, k7, n7⟩ := q107 (d := d) y6 h7
 refine Pp.of k7 n7 ?_
 rw [cond_false, c1007, oBs]
 simp only [oBs]
 cases b7 with
 | true =>
  rw [if_pos rfl] at hp
  obtain ⟨⟨e, s8⟩, h8, hp⟩ := bnd hp
  rw [Option.map_eq_some_iff] at hp
  obtain ⟨s9, h9, he⟩ := hp
  cases he
  obtain ⟨g8, r8, c1008, y8, k8, n8⟩ := hw _ _ _ _ _ y7 h8
  obtain ⟨g9, r9, c1009, y9, k9, n9⟩ := q109 (d := d) y8 h9
  refine Pp.of k8 n8 ⟨g9, r9, ?_, y9, k9, n9⟩
  rw [cond_true, c1008, oBs]
  simp only [if_true, oBs]
  rw [c1009, oBs]
 | false =>
 rw [if_neg (by simp)] at hp
 obtain ⟨⟨b8, s8⟩, h8, hp⟩ := bnd hp
 obtain ⟨g8, r8, c1008, y8, k8, n8⟩ := q107 (d := d) y7 h8
 refine Pp.of k8 n8 ?_
 rw [cond_false, c1008, oBs]
 simp only [oBs]
 cases b8 with
 | true =>
  rw [if_pos rfl] at hp
  obtain ⟨g9, r9, c1009, y9, k9, n9⟩ := hf _ _ _ _ _ y8 hp
  refine ⟨g9, r9, ?_, y9, k9, n9⟩
  rw [cond_true, c1009, oBs]
  simp only [if_true, oBs]
 | false =>
 rw [if_neg (by simp)] at hp
 obtain ⟨g9, c1009, x9⟩ := q154 (d := d) y8 ⟨#[123]⟩
 have y9 := y8.ext x9
 refine Pp.ext x9 ?_
 rw [cond_false, c1009, oBs]
 simp only [oBs]
 cases h9 : isP c s8 ⟨#[123]⟩ with
 | true =>
  rw [h9, if_pos rfl] at hp
  obtain ⟨g10, r10, c1010, y10, k10, n10⟩ := ht _ _ _ _ _ y9 hp
  refine ⟨g10, r10, ?_, y10, k10, n10⟩
  rw [cond_true, c1010, oBs]
  simp only [if_true, oBs]
 | false =>
  rw [h9, if_neg (by simp)] at hp; cases hp
  obtain ⟨g10, r10, c1010, y10, k10, n10⟩ := q156 (d := d) y9 2
  refine ⟨g10, r10, ?_, y10, k10, n10⟩
  rw [cond_false, c1010, oBs]
theorem fn_tail {d : Nat} {c : PC} {block : PI} (hb : Sim c (d + 21) 198 block) {rt : Nat} {out : List Int} {v : Value} {h : AHeap} {st : PSt} {rn : Option Nat} {q : Int} {st' : PSt} (hlen : out.length ≤ 2000000) (x : PH c h st rn) (li : PLI h v out rt)
  (hp : ((block st).bind fun b => nodeP 6 E0 0 (out ++ [b.1]) b.2) = some (q, st')) :
  ∃ h' rn', s428_1 hk0 (call Tp Ms (d + 21)) (d + 21) (ptr c.p 0) v h = some (.int .i64 q, h') ∧ PH c h' st' rn' ∧ PKr rt rn h h' ∧ PRN rn rn' h := by
 obtain ⟨⟨b, s1⟩, h1, hp⟩ := bnd hp
 obtain ⟨g1, r1, c1, y1, k1, n1⟩ := hb _ _ _ _ _ x h1
 obtain ⟨v2, g2, c2, l2, a2⟩ := (li.pk k1).push (by omega) b
 obtain ⟨g3, r3, c1003, y3, k3, n3⟩ := q64 (d := d) (y1.ak a2) l2.kid hp
 refine ⟨g3, r3, ?_, y3, (k1.pkr.trans n1 a2.pkr).trans n1 k3.pkr, PRN.trans (Nat.le_trans k1.1 a2.1) n1 n3⟩
 rw [s428_1_j, s428_1_eq, c1, oBs]
 simp only [asI, if_true, oBs, aNewS]
 rw [c2, oBs, c1003, oBs]
 simp only [if_true, oBs]
theorem fn_loop {d rt : Nat} {c : PC} {block : PI} (hb : Sim c (d + 21) 198 block) {q : Int} {st' : PSt} : ∀ (n m : Nat) (out : List Int) (v : Value) (h : AHeap) (st : PSt) (rn : Option Nat), n ≤ m → out.length + n ≤ 2000000 → PH c h st rn → PLI h v out rt →
  ((fnLoop c n out st).bind fun l => (block l.2).bind fun b => nodeP 6 E0 0 (l.1 ++ [b.1]) b.2) = some (q, st') →
  ∃ h' rn', s428_0 hk0 (call Tp Ms (d + 21)) (d + 21) m (ptr c.p 0) v h = some (.int .i64 q, h') ∧ PH c h' st' rn' ∧ PKr rt rn h h' ∧ PRN rn rn' h := by
 intro n
 induction n with
 | zero => intro m out v h st rn _ _ _ _ hp; cases hp
 | succ n ih =>
  intro m out v h st rn hm hlen x li hp
  obtain ⟨m, rfl⟩ : ∃ q, m = q + 1 := ⟨m - 1, by omega⟩
  obtain ⟨⟨l, sl⟩, hl, hp⟩ := bnd hp
  rw [fnLoop] at hl
  obtain ⟨⟨t, s0⟩, h0, hl⟩ := bnd hl
  obtain ⟨⟨e, s1⟩, h1, hl⟩ := bnd hl
  obtain ⟨⟨b, s2⟩, h2, hl⟩ := bnd hl
  obtain ⟨g0, r0, c0, y0, k0, n0⟩ := q108 (d := d) x h0
  obtain ⟨g1, r1, c1, y1, k1, n1⟩ := q64nil (d := d) y0 h1
  have K1 := k0.trans n0 k1
  have N1 := PRN.trans k0.1 n0 n1
  obtain ⟨v2, g2, c2, l2, a2⟩ := (li.pk K1).push (by omega) e
  have y2 := y1.ak a2
  obtain ⟨g3, r3, c1003, y3, k3, n3⟩ := q107 (d := d) y2 h2
  have l3 := l2.pk k3
  have K3 : PKr rt rn h g3 := (K1.pkr.trans N1 (a2.pkr)).trans N1 k3.pkr
  have N3 : PRN rn r3 h := PRN.trans (Nat.le_trans K1.1 a2.1) N1 n3
  cases b with
  | true =>
   rw [if_pos rfl] at hl
   obtain ⟨g4, r4, c1004, y4, k4, n4⟩ := ih m (out ++ [e]) v2 g3 s2 r3 (by omega) (by simp; omega) y3 l3 (by rw [hl]; exact hp)
   refine ⟨g4, r4, ?_, y4, K3.trans N3 k4, PRN.trans K3.1 N3 n4⟩
   rw [s428_0_eq, c0, oBs]
   simp only [asS, oBs]
   rw [c1, oBs]
   simp only [asI, if_true, oBs, aNewS]
   rw [c2, oBs, c1003, oBs]
   simp only [asB, oBs, Bool.not_true, cond_false, c1004]
  | false =>
   rw [if_neg (by simp), Option.map_eq_some_iff] at hl
   obtain ⟨s4, h4, he⟩ := hl
   cases he
   obtain ⟨g4, r4, c1004, y4, k4, n4⟩ := q109 (d := d) y3 h4
   obtain ⟨g5, r5, c1005, y5, k5, n5⟩ := fn_tail hb (by simp; omega) y4 (l3.pk k4) hp
   refine ⟨g5, r5, ?_, y5, (K3.trans N3 k4.pkr).trans (PRN.trans K3.1 N3 n4) k5, PRN.trans (Nat.le_trans K3.1 k4.1) (PRN.trans K3.1 N3 n4) n5⟩
   rw [s428_0_eq, c0, oBs]
   simp only [asS, oBs]
   rw [c1, oBs]
   simp only [asI, if_true, oBs, aNewS]
   rw [c2, oBs, c1003, oBs]
   simp only [asB, oBs, Bool.not_false, cond_true]
   rw [c1004, oBs]
   simp only [c1005]
theorem l245 {d n : Nat} {c : PC} {block : PI} (hn : n ≤ d + 21) (hn2 : n ≤ 2000000) (hb : Sim c (d + 21) 198 block) : Sim c (d + 22) 428 (fnP c block n) := by
 intro h st rn q st' x hp
 obtain ⟨s1, h1, hp⟩ := bnd hp
 obtain ⟨⟨b, s2⟩, h2, hp⟩ := bnd hp
 obtain ⟨g1, r1, c1, y1, k1, n1⟩ := q109 (d := d) x h1
 have e2 := Ext.new (Nat.le_refl g1.size) 3 (ints [])
 have l2 := PLI.new g1 []
 have y2 := y1.ext e2
 obtain ⟨g3, r3, c1003, y3, k3, n3⟩ := q107 (d := d) y2 h2
 have c1003' : call Tp Ms (d + 21) 194 [ptr c.p 0, .string (⟨#[41]⟩)] (g1.new 3 []) = _ := c1003
 have l3 := l2.pk k3
 have K3 : PK rn h g3 := (k1.trans n1 (PK.ext e2)).trans n1 k3
 have N3 : PRN rn r3 h := PRN.trans (Nat.le_trans k1.1 e2.size) n1 n3
 have hcall : call Tp Ms (d + 22) 428 [ptr c.p 0] h = evFn hk0 Tp (call Tp Ms (d + 21)) M428 (d + 21) Tryz.f428 [ptr c.p 0] h := c428 (d + 21) _ _
 cases b with
 | true =>
  rw [if_pos rfl] at hp
  obtain ⟨g4, r4, c1004, y4, k4, n4⟩ := fn_tail hb (by simp) y3 l3 hp
  have c1004' : s428_1 hk0 (call Tp Ms (d + 21)) (d + 21) (ptr c.p 0) (slc g1.size 0 0) g3 = _ := c1004
  refine ⟨g4, r4, ?_, y4, K3.behind N3 k1.1 k4, PRN.trans K3.1 N3 n4⟩
  rw [hcall, e428, c1, oBs]
  simp only [aNewS]
  rw [c1003', oBs]
  simp only [asB, oBs, Bool.not_true, cond_false, c1004']
 | false =>
  rw [if_neg (by simp)] at hp
  obtain ⟨g4, r4, c1004, y4, k4, n4⟩ := fn_loop hb n (d + 21) [] _ g3 s2 r3 hn (by simpa using hn2) y3 l3 hp
  have c1004' : s428_0 hk0 (call Tp Ms (d + 21)) (d + 21) (d + 21) (ptr c.p 0) (slc g1.size 0 0) g3 = _ := c1004
  refine ⟨g4, r4, ?_, y4, K3.behind N3 k1.1 k4, PRN.trans K3.1 N3 n4⟩
  rw [hcall, e428, c1, oBs]
  simp only [aNewS]
  rw [c1003', oBs]
  simp only [asB, oBs, Bool.not_false, cond_true, c1004']
theorem table_loop {d rt : Nat} {c : PC} {field : PI} (hb : Sim c (d + 21) 430 field) {q : Int} {st' : PSt} : ∀ (n m : Nat) (out : List Int) (v : Value) (h : AHeap) (st : PSt) (rn : Option Nat), n ≤ m → out.length + n ≤ 2000000 → PH c h st rn → PLI h v out rt →
  ((tableLoop c field n out st).bind fun l => nodeP 7 E0 0 l.1 l.2) = some (q, st') →
  ∃ h' rn', s429_0 hk0 (call Tp Ms (d + 21)) (d + 21) m (ptr c.p 0) v h = some (.int .i64 q, h') ∧ PH c h' st' rn' ∧ PKr rt rn h h' ∧ PRN rn rn' h := by
 intro n
 induction n with
 | zero => intro m out v h st rn _ _ _ _ hp; cases hp
 | succ n ih =>
  intro m out v h st rn hm hlen x li hp
  obtain ⟨m, rfl⟩ : ∃ q, m = q + 1 := ⟨m - 1, by omega⟩
  obtain ⟨⟨l, sl⟩, hl, hp⟩ := bnd hp
  rw [tableLoop] at hl
  obtain ⟨⟨e, s1⟩, h1, hl⟩ := bnd hl
  obtain ⟨⟨b, s2⟩, h2, hl⟩ := bnd hl
  obtain ⟨g1, r1, c1, y1, k1, n1⟩ := hb _ _ _ _ _ x h1
  obtain ⟨v2, g2, c2, l2, a2⟩ := (li.pk k1).push (by omega) e
  have y2 := y1.ak a2
  obtain ⟨g3, r3, c1003, y3, k3, n3⟩ := q107 (d := d) y2 h2
  have l3 := l2.pk k3
  have K3 : PKr rt rn h g3 := (k1.pkr.trans n1 (a2.pkr)).trans n1 k3.pkr
  have N3 : PRN rn r3 h := PRN.trans (Nat.le_trans k1.1 a2.1) n1 n3
  cases b with
  | true =>
   rw [if_pos rfl] at hl
   obtain ⟨g4, r4, c1004, y4, k4, n4⟩ := ih m (out ++ [e]) v2 g3 s2 r3 (by omega) (by simp; omega) y3 l3 (by rw [hl]; exact hp)
   refine ⟨g4, r4, ?_, y4, K3.trans N3 k4, PRN.trans K3.1 N3 n4⟩
   rw [s429_0_eq, c1, oBs]
   simp only [asI, if_true, oBs, aNewS]
   rw [c2, oBs, c1003, oBs]
   simp only [asB, oBs, Bool.not_true, cond_false, c1004]
  | false =>
   rw [if_neg (by simp), Option.map_eq_some_iff] at hl
   obtain ⟨s4, h4, he⟩ := hl
   cases he
   obtain ⟨g4, r4, c1004, y4, k4, n4⟩ := q109 (d := d) y3 h4
   obtain ⟨g5, r5, c1005, y5, k5, n5⟩ := q64 (d := d) y4 (l3.pk k4).kid hp
   refine ⟨g5, r5, ?_, y5, (K3.trans N3 k4.pkr).trans (PRN.trans K3.1 N3 n4) k5.pkr, PRN.trans (Nat.le_trans K3.1 k4.1) (PRN.trans K3.1 N3 n4) n5⟩
   rw [s429_0_eq, c1, oBs]
   simp only [asI, if_true, oBs, aNewS]
   rw [c2, oBs, c1003, oBs]
   simp only [asB, oBs, Bool.not_false, cond_true]
   rw [c1004, oBs]
   simp only
   rw [c1005, oBs]
   simp only [if_true, oBs]
theorem l246 {d n : Nat} {c : PC} {field : PI} (hn : n ≤ d + 21) (hn2 : n ≤ 2000000) (hb : Sim c (d + 21) 430 field) : Sim c (d + 22) 429 (tableP c field n) := by
 intro h st rn q st' x hp
 obtain ⟨s1, h1, hp⟩ := bnd hp
 obtain ⟨⟨b, s2⟩, h2, hp⟩ := bnd hp
 obtain ⟨g1, r1, c1, y1, k1, n1⟩ := q109 (d := d) x h1
 have e2 := Ext.new (Nat.le_refl g1.size) 3 (ints [])
 have l2 := PLI.new g1 []
 have y2 := y1.ext e2
 obtain ⟨g3, r3, c1003, y3, k3, n3⟩ := q107 (d := d) y2 h2
 have c1003' : call Tp Ms (d + 21) 194 [ptr c.p 0, .string (⟨#[125]⟩)] (g1.new 3 []) = _ := c1003
 have l3 := l2.pk k3
 have K3 : PK rn h g3 := (k1.trans n1 (PK.ext e2)).trans n1 k3
 have N3 : PRN rn r3 h := PRN.trans (Nat.le_trans k1.1 e2.size) n1 n3
 have hcall : call Tp Ms (d + 22) 429 [ptr c.p 0] h = evFn hk0 Tp (call Tp Ms (d + 21)) M429 (d + 21) Tryz.f429 [ptr c.p 0] h := c429 (d + 21) _ _
 cases b with
 | true =>
  rw [if_pos rfl] at hp
  obtain ⟨g4, r4, c1004, y4, k4, n4⟩ := q64 (d := d) y3 l3.kid hp
  have c1004' : call Tp Ms (d + 21) 102 [ptr c.p 0, .int .i64 7, .string ⟨#[]⟩, .int .i64 0, slc g1.size 0 0] g3 = _ := c1004
  refine ⟨g4, r4, ?_, y4, K3.trans N3 k4, PRN.trans K3.1 N3 n4⟩
  rw [hcall, e429, c1, oBs]
  simp only [aNewS]
  rw [c1003', oBs]
  simp only [asB, oBs, Bool.not_true, cond_false]
  rw [c1004', oBs]
  simp only [asI, if_true, oBs]
 | false =>
  rw [if_neg (by simp)] at hp
  obtain ⟨g4, r4, c1004, y4, k4, n4⟩ := table_loop hb n (d + 21) [] _ g3 s2 r3 hn (by simpa using hn2) y3 l3 hp
  have c1004' : s429_0 hk0 (call Tp Ms (d + 21)) (d + 21) (d + 21) (ptr c.p 0) (slc g1.size 0 0) g3 = _ := c1004
  refine ⟨g4, r4, ?_, y4, K3.behind N3 k1.1 k4, PRN.trans K3.1 N3 n4⟩
  rw [hcall, e429, c1, oBs]
  simp only [aNewS]
  rw [c1003', oBs]
  simp only [asB, oBs, Bool.not_false, cond_true, c1004']
theorem flat_one {ts : List Tok} {j : Nat} (hj : j < ts.length) {q : Nat} (hq : q < 4) : (flat ts)[j * 4 + q]? = ts[j].cells[q]? := by
 rw [← flat_at ts j hj, List.getElem?_take, if_pos hq, List.getElem?_drop]
theorem TokH.one {h : AHeap} {v : Value} {ts : List Tok} (x : TokH h v ts) {j : Nat} (hj : j < ts.length) : ∃ i, aIdx v (.int .i64 (j : Int)) 4 = some (ptr i (j * 4)) ∧ aLd1 h (ptr i (j * 4)) = some (.int .i64 ts[j].k) ∧ aLd1 h (ptr i (j * 4 + 2)) = some (.string ts[j].text) := by
 rcases x with ⟨rfl, rfl⟩ | ⟨i, rfl, hr⟩
 ·simp at hj
 ·refine ⟨i, by simp [aIdx, slc, hj], hr.row.ld1 (by rw [show j * 4 = j * 4 + 0 by omega, flat_one hj (by omega)]; rfl), hr.row.ld1 (by rw [flat_one hj (by omega)]; rfl)⟩
theorem l247 {d : Nat} {c : PC} {whole : PI} (hw : Sim c (d + 21) 197 whole) : Sim c (d + 22) 430 (fieldP c whole) := by
 intro h st rn q st' x hp
 have hcall : call Tp Ms (d + 22) 430 [ptr c.p 0] h = evFn hk0 Tp (call Tp Ms (d + 21)) M430 (d + 21) Tryz.f430 [ptr c.p 0] h := c430 (d + 21) _ _
 obtain ⟨⟨b, s1⟩, h1, hp⟩ := bnd hp
 obtain ⟨g1, r1, c1, y1, k1, n1⟩ := q107 (d := d) x h1
 refine Pp.of k1 n1 ?_
 rw [hcall, e430, c1, oBs]
 simp only [asB, oBs]
 cases b with
 | true =>
  rw [if_pos rfl] at hp
  obtain ⟨⟨k, s2⟩, h2, hp⟩ := bnd hp
  obtain ⟨s3, h3, hp⟩ := bnd hp
  obtain ⟨s4, h4, hp⟩ := bnd hp
  obtain ⟨⟨e, s5⟩, h5, hp⟩ := bnd hp
  obtain ⟨g2, r2, c2, y2, k2, n2⟩ := hw _ _ _ _ _ y1 h2
  obtain ⟨g3, r3, c1003, y3, k3, n3⟩ := q109 (d := d) y2 h3
  obtain ⟨g4, r4, c1004, y4, k4, n4⟩ := q109 (d := d) y3 h4
  obtain ⟨g5, r5, c1005, y5, k5, n5⟩ := hw _ _ _ _ _ y4 h5
  obtain ⟨g6, r6, c1006, y6, k6, n6⟩ := q64two (d := d) y5 hp
  refine Pp.of k2 n2 (Pp.of k3 n3 (Pp.of k4 n4 (Pp.of k5 n5 ⟨g6, r6, ?_, y6, k6, n6⟩)))
  rw [cond_true, c2, oBs]
  simp only [asI, if_true, oBs]
  rw [c1003, oBs, c1004, oBs, c1005, oBs]
  simp only [asI, if_true, oBs, aNewS]
  rw [c1006, oBs]
  simp only [if_true, oBs]
 | false =>
  rw [if_neg (by simp)] at hp
  by_cases hat : s1.at' > 1000000
  ·rw [if_pos hat] at hp; cases hp
  rw [if_neg hat] at hp
  obtain ⟨g2, c2, x2⟩ := q155 (d := d) y1
  obtain ⟨g3, t3, x3, r3, s3⟩ := tokRow g2 (pk c s1)
  have E := x2.trans (x3.mono x2.size)
  have y3 := y1.ext E
  obtain ⟨b0, _, b2, _⟩ := ld_at r3.row
  obtain ⟨nv3, _, tk3, _⟩ := id y3
  obtain ⟨_, _, a0, a1, _⟩ := y3.ld
  refine Pp.ext E ?_
  rw [cond_false, c2, oBs]
  simp only [aNew]
  rw [t3, oBs]
  simp only [aOff_ptr, Nat.zero_add, oBs, b0, asI, if_true]
  have fin1 : ((whole s1).bind fun e => nodeP 23 E0 0 [e.1] e.2) = some (q, st') → Pp c g3 r1 (s430_1 hk0 (call Tp Ms (d + 21)) (d + 21) (ptr c.p 0) g3) (.int .i64 q) st' := fun hp => by
   obtain ⟨⟨e, s5⟩, h5, hp⟩ := bnd hp
   obtain ⟨g5, r5, c1005, y5, k5, n5⟩ := hw _ _ _ _ _ y3 h5
   obtain ⟨g6, r6, c1006, y6, k6, n6⟩ := q64one (d := d) y5 hp
   refine Pp.of k5 n5 ⟨g6, r6, ?_, y6, k6, n6⟩
   rw [s430_1_j, s430_1_eq, c1005, oBs]
   simp only [asI, if_true, oBs, aNewS]
   rw [c1006, oBs]
   simp only [if_true, oBs]
  have fin0 : ((whole s1).bind fun e => nodeP 23 E0 0 [e.1] e.2) = some (q, st') → Pp c g3 r1 (s430_0 hk0 (call Tp Ms (d + 21)) (d + 21) (ptr c.p 0) (ptr g2.size 0) false g3) (.int .i64 q) st' := fun hp => by
   rw [s430_0_j, s430_0_eq, cond_false]; exact fin1 hp
  by_cases hk : (pk c s1).k = 1
  ·have hk' : ((pk c s1).k == 1) = true := by rw [hk]; rfl
   rw [hk', Bool.true_and] at hp
   rw [hk', cond_true]
   simp only [nil_ptr, aOff_ptr, Nat.zero_add, oBs, a0, a1, asI, if_true, tk3.len]
   have w1 : IntKind.i64.wrap ((s1.at' : Int) + 1) = ((s1.at' + 1 : Nat) : Int) := by rw [wr (by omega) (by omega)]; omega
   rw [w1]
   unfold eqNext at hp
   by_cases hlt : s1.at' + 1 < c.toks.length
   ·have hI : (((s1.at' + 1 : Nat) : Int) < (c.toks.length : Int)) := by omega
    rw [List.getElem?_eq_getElem hlt] at hp
    simp only at hp
    obtain ⟨i, u1, u2, u3⟩ := tk3.one hlt
    rw [decide_eq_true hI, cond_true]
    simp only [u1, aOff_ptr, Nat.add_zero, oBs, u2, asI, if_true]
    by_cases h5 : (c.toks[s1.at' + 1]).k = 5
    ·have h5' : ((c.toks[s1.at' + 1]).k == 5) = true := by rw [h5]; rfl
     rw [h5', Bool.true_and] at hp
     rw [h5', cond_true]
     simp only [u1, u3, asS, aOff_ptr, Nat.add_zero, oBs]
     cases hq : ((c.toks[s1.at' + 1]).text.toList == (⟨#[61]⟩ : ByteArray).toList) with
     | false =>
      rw [hq, if_neg (by simp)] at hp
      exact fin0 hp
     | true =>
      rw [hq, if_pos rfl] at hp
      obtain ⟨s2, h2, hp⟩ := bnd hp
      obtain ⟨⟨k, s4⟩, h4, hp⟩ := bnd hp
      obtain ⟨⟨e, s5⟩, h5, hp⟩ := bnd hp
      obtain ⟨g4, t4, y4, k4, f4⟩ := stAdv y3 h2
      have t4' : aSt g3 (ptr c.p 1) (.int .i64 (IntKind.i64.wrap ((s1.at' : Int) + 2))) 1 = some g4 := t4
      have r4 : RowE g4 g2.size 233 (pk c s1).cells := r3.pk k4 (by decide) (by decide)
      obtain ⟨_, _, d2, _⟩ := ld_at r4.row
      obtain ⟨g5, r5, c1005, y5, k5, n5⟩ := q64nil (d := d) y4 h4
      obtain ⟨g6, r6, c1006, y6, k6, n6⟩ := hw _ _ _ _ _ y5 h5
      obtain ⟨g7, r7, c1007, y7, k7, n7⟩ := q64two (d := d) y6 hp
      refine Pp.of k4 (.inl rfl) (Pp.of k5 n5 (Pp.of k6 n6 ⟨g7, r7, ?_, y7, k7, n7⟩))
      rw [s430_0_j, s430_0_eq, cond_true]
      simp only [nil_ptr, aOff_ptr, Nat.zero_add, oBs, a1, asI, asS, if_true, t4', d2]
      rw [c1005, oBs]
      simp only [if_true, oBs]
      rw [c1006, oBs]
      simp only [if_true, oBs, aNewS]
      rw [c1007, oBs]
      simp only [if_true, oBs]
    ·rw [beq_eq_false_iff_ne.2 h5, Bool.false_and, if_neg (by simp)] at hp
     rw [beq_eq_false_iff_ne.2 h5, cond_false]
     exact fin0 hp
   ·have hI : ¬ (((s1.at' + 1 : Nat) : Int) < (c.toks.length : Int)) := by omega
    rw [List.getElem?_eq_none (by show c.toks.length ≤ s1.at' + 1; omega)] at hp
    simp only at hp
    rw [if_neg (by simp)] at hp
    rw [decide_eq_false hI, cond_false]
    exact fin0 hp
  ·rw [beq_eq_false_iff_ne.2 hk, Bool.false_and, if_neg (by simp)] at hp
   rw [beq_eq_false_iff_ne.2 hk, cond_false]
   exact fin0 hp
theorem block_loop {d rt : Nat} {c : PC} {stmt : PI} (hb : Sim c (d + 21) 101 stmt) {q : Int} {st' : PSt} : ∀ (n m : Nat) (out : List Int) (v : Value) (h : AHeap) (st : PSt) (rn : Option Nat), n ≤ m → out.length + n ≤ 2000000 → PH c h st rn → PLI h v out rt →
  ((blockLoop c stmt n out st).bind fun l => (wantP c ⟨#[125]⟩ l.2).bind fun s3 => (nestTo (-1) s3).bind fun s4 => nodeP 21 E0 0 l.1 s4) = some (q, st') →
  ∃ h' rn', s198_0 hk0 (call Tp Ms (d + 21)) (d + 21) m (ptr c.p 0) v h = some (.int .i64 q, h') ∧ PH c h' st' rn' ∧ PKr rt rn h h' ∧ PRN rn rn' h := by
 intro n
 induction n with
 | zero => intro m out v h st rn _ _ _ _ hp; cases hp
 | succ n ih =>
  intro m out v h st rn hm hlen x li hp
  obtain ⟨m, rfl⟩ : ∃ q, m = q + 1 := ⟨m - 1, by omega⟩
  obtain ⟨⟨l, sl⟩, hl, hq⟩ := bnd hp
  clear hp
  rw [blockLoop] at hl
  obtain ⟨_, _, _, _, _, _, _, a5, _⟩ := x.ld
  rw [s198_0_eq]
  simp only [nil_ptr, aOff_ptr, Nat.zero_add, oBs, a5]
  rw [show asI .i64 (Value.int .i64 st.code) = some st.code from rfl, oBs]
  have fin : ∀ (g : AHeap), PH c g st rn → PLI g v out rt → l = out → sl = st → ∃ h' rn', ((call Tp Ms (d + 21) 196 [ptr c.p 0, .string ⟨#[125]⟩] g).bind fun r21 => (aLd1 r21.2 (ptr c.p 3)).bind fun v24 => (asI .i64 v24).bind fun n25 => (aSt r21.2 (ptr c.p 3) (.int .i64 (IntKind.i64.wrap (n25 - 1))) 1).bind fun h28 => (call Tp Ms (d + 21) 102 [ptr c.p 0, .int .i64 21, .string ⟨#[]⟩, .int .i64 0, v] h28).bind fun r29 => (asI .i64 r29.1).bind fun n30 => some (Value.int .i64 n30, r29.2)) = some (Value.int .i64 q, h') ∧ PH c h' st' rn' ∧ PKr rt rn g h' ∧ PRN rn rn' g := fun g y lg e1 e2 => by
   subst e1 e2
   obtain ⟨s3, h3, hp⟩ := bnd hq
   obtain ⟨s4, h4, hp⟩ := bnd hp
   obtain ⟨g3, r3, c1003, y3, k3, n3⟩ := q109 (d := d) y h3
   obtain ⟨_, _, _, _, _, b3, _⟩ := y3.ld
   obtain ⟨g4, t4, y4, k4, _⟩ := stNest y3 h4
   have t4' : aSt g3 (ptr c.p 3) (.int .i64 (IntKind.i64.wrap (s3.nest - 1))) 1 = some g4 := t4
   obtain ⟨g5, r5, c1005, y5, k5, n5⟩ := q64 (d := d) y4 ((lg.pk k3).pk k4).kid hp
   have c1005' : call Tp Ms (d + 21) 102 [ptr c.p 0, .int .i64 21, .string ⟨#[]⟩, .int .i64 0, v] g4 = _ := c1005
   refine ⟨g5, r5, ?_, y5, (((k3.trans n3 k4).trans n3 k5)).pkr, PRN.trans (Nat.le_trans k3.1 k4.1) n3 n5⟩
   rw [c1003, oBs]
   simp only [b3, asI, if_true, oBs, t4']
   rw [c1005', oBs]
   simp only [if_true, oBs]
  by_cases hc : st.code = 0
  ·have hc' : (st.code == 0) = true := by rw [hc]; rfl
   rw [hc', cond_true]
   obtain ⟨g1, c1, x1⟩ := q154 (d := d) x ⟨#[125]⟩
   have y1 := x.ext x1
   have l1 := li.pk (PK.ext x1 (rn := rn))
   rw [c1, oBs]
   simp only [asB, oBs]
   cases hi : isP c st ⟨#[125]⟩ with
   | true =>
    rw [if_neg (by rw [hi]; simp)] at hl; cases hl
    rw [Bool.not_true, cond_false]
    obtain ⟨g2, r2, c2, y2, k2, n2⟩ := fin g1 y1 l1 rfl rfl
    refine ⟨g2, r2, ?_, y2, (PK.ext x1).pkr.trans (.inl rfl) k2, PRN.trans x1.size (.inl rfl) n2⟩
    rw [c2]
   | false =>
    rw [if_pos ⟨hc, hi⟩] at hl
    obtain ⟨⟨e, s2⟩, h2, hl⟩ := bnd hl
    obtain ⟨g2, r2, c2, y2, k2, n2⟩ := hb _ _ _ _ _ y1 h2
    have K2 : PK rn h g2 := (PK.ext x1).trans (.inl rfl) k2
    have N2 : PRN rn r2 h := PRN.trans x1.size (.inl rfl) n2
    obtain ⟨v3, g3, c1003, l3, a3⟩ := (l1.pk k2).push (by omega) e
    have y3 := y2.ak a3
    obtain ⟨g4, r4, c1004, y4, k4, n4⟩ := ih m (out ++ [e]) v3 g3 s2 r2 (by omega) (by simp; omega) y3 l3 (by rw [hl]; exact hq)
    refine ⟨g4, r4, ?_, y4, (K2.pkr.trans N2 a3.pkr).trans N2 k4, PRN.trans (Nat.le_trans K2.1 a3.1) N2 n4⟩
    rw [Bool.not_false, cond_true, s198_1_j, s198_1_eq, c2, oBs]
    simp only [asI, if_true, oBs, aNewS]
    rw [c1003, oBs]
    rw [c1004]
  ·rw [if_neg (fun hh => hc hh.1)] at hl; cases hl
   rw [beq_eq_false_iff_ne.2 hc, cond_false]
   exact fin h x li rfl rfl
theorem l111 {d n : Nat} {c : PC} {stmt : PI} (hn : n ≤ d + 21) (hn2 : n ≤ 2000000) (hb : Sim c (d + 21) 101 stmt) : Sim c (d + 22) 198 (blockP c stmt n) := by
 intro h st rn q st' x hp
 obtain ⟨s1, h1, hp⟩ := bnd hp
 obtain ⟨s2, h2, hp⟩ := bnd hp
 obtain ⟨g1, r1, c1, y1, k1, n1⟩ := q157 (d := d) x h1
 obtain ⟨g2, r2, c2, y2, k2, n2⟩ := q109 (d := d) y1 h2
 have e1003 := Ext.new (Nat.le_refl g2.size) 3 (ints [])
 have l3 := PLI.new g2 []
 have y3 := y2.ext e1003
 have K2 : PK rn h g2 := k1.trans n1 k2
 have N2 : PRN rn r2 h := PRN.trans k1.1 n1 n2
 have K3 : PK rn h _ := K2.trans N2 (PK.ext e1003)
 have hcall : call Tp Ms (d + 22) 198 [ptr c.p 0] h = evFn hk0 Tp (call Tp Ms (d + 21)) M198 (d + 21) Tryz.f198 [ptr c.p 0] h := c198 (d + 21) _ _
 obtain ⟨g4, r4, c1004, y4, k4, n4⟩ := block_loop hb n (d + 21) [] _ _ s2 r2 hn (by simpa using hn2) y3 l3 hp
 have c1004' : s198_0 hk0 (call Tp Ms (d + 21)) (d + 21) (d + 21) (ptr c.p 0) (slc g2.size 0 0) (g2.new 3 []) = _ := c1004
 refine ⟨g4, r4, ?_, y4, K3.behind N2 K2.1 k4, PRN.trans K3.1 N2 n4⟩
 rw [hcall, e198, c1, oBs, c2, oBs]
 simp only [aNewS]
 rw [c1004']
theorem l63 {d : Nat} {c : PC} {whole block begun : PI} (hw : Sim c (d + 21) 197 whole) (hb : Sim c (d + 21) 198 block) (hg : Sim c (d + 21) 199 begun) : Sim c (d + 22) 101 (stmtP c whole block begun) := by
 intro h st rn q st' x hp
 have hcall : call Tp Ms (d + 22) 101 [ptr c.p 0] h = evFn hk0 Tp (call Tp Ms (d + 21)) M101 (d + 21) Tryz.f101 [ptr c.p 0] h := c101 (d + 21) _ _
 obtain ⟨⟨b1, s1⟩, h1, hp⟩ := bnd hp
 obtain ⟨g1, r1, c1, y1, k1, n1⟩ := q107 (d := d) x h1
 refine Pp.of k1 n1 ?_
 rw [hcall, e101, c1, oBs]
 simp only [asB, oBs]
 cases b1 with
 | true =>
  rw [if_pos rfl] at hp
  obtain ⟨⟨t, s2⟩, h2, hp⟩ := bnd hp
  obtain ⟨s3, h3, hp⟩ := bnd hp
  obtain ⟨⟨e, s4⟩, h4, hp⟩ := bnd hp
  obtain ⟨s5, h5, hp⟩ := bnd hp
  obtain ⟨g2, r2, c2, y2, k2, n2⟩ := q108 (d := d) y1 h2
  obtain ⟨g3, r3, c1003, y3, k3, n3⟩ := q109 (d := d) y2 h3
  obtain ⟨g4, r4, c1004, y4, k4, n4⟩ := hw _ _ _ _ _ y3 h4
  obtain ⟨g5, r5, c1005, y5, k5, n5⟩ := q109 (d := d) y4 h5
  obtain ⟨g6, r6, c1006, y6, k6, n6⟩ := q64one (d := d) y5 hp
  refine Pp.of k2 n2 (Pp.of k3 n3 (Pp.of k4 n4 (Pp.of k5 n5 ⟨g6, r6, ?_, y6, k6, n6⟩)))
  rw [cond_true, c2, oBs]
  simp only [asS, oBs]
  rw [c1003, oBs, c1004, oBs]
  simp only [asI, if_true, oBs]
  rw [c1005, oBs]
  simp only [aNewS]
  rw [c1006, oBs]
  simp only [if_true, oBs]
 | false =>
 rw [if_neg (by simp)] at hp
 obtain ⟨⟨b2, s2⟩, h2, hp⟩ := bnd hp
 obtain ⟨g2, r2, c2, y2, k2, n2⟩ := q107 (d := d) y1 h2
 refine Pp.of k2 n2 ?_
 rw [cond_false, c2, oBs]
 simp only [oBs]
 cases b2 with
 | true =>
  rw [if_pos rfl] at hp
  obtain ⟨⟨e, s4⟩, h4, hp⟩ := bnd hp
  obtain ⟨s5, h5, hp⟩ := bnd hp
  obtain ⟨g4, r4, c1004, y4, k4, n4⟩ := hw _ _ _ _ _ y2 h4
  obtain ⟨g5, r5, c1005, y5, k5, n5⟩ := q109 (d := d) y4 h5
  obtain ⟨g6, r6, c1006, y6, k6, n6⟩ := q64one (d := d) y5 hp
  refine Pp.of k4 n4 (Pp.of k5 n5 ⟨g6, r6, ?_, y6, k6, n6⟩)
  rw [cond_true, c1004, oBs]
  simp only [asI, if_true, oBs]
  rw [c1005, oBs]
  simp only [aNewS]
  rw [c1006, oBs]
  simp only [if_true, oBs]
 | false =>
 rw [if_neg (by simp)] at hp
 obtain ⟨⟨b3, s3⟩, h3, hp⟩ := bnd hp
 obtain ⟨g3, r3, c1003, y3, k3, n3⟩ := q107 (d := d) y2 h3
 refine Pp.of k3 n3 ?_
 rw [cond_false, c1003, oBs]
 simp only [oBs]
 cases b3 with
 | true =>
  rw [if_pos rfl] at hp
  obtain ⟨⟨e, s4⟩, h4, hp⟩ := bnd hp
  obtain ⟨⟨b, s5⟩, h5, hp⟩ := bnd hp
  obtain ⟨g4, r4, c1004, y4, k4, n4⟩ := hw _ _ _ _ _ y3 h4
  obtain ⟨g5, r5, c1005, y5, k5, n5⟩ := hb _ _ _ _ _ y4 h5
  obtain ⟨g6, r6, c1006, y6, k6, n6⟩ := q64two (d := d) y5 hp
  refine Pp.of k4 n4 (Pp.of k5 n5 ⟨g6, r6, ?_, y6, k6, n6⟩)
  rw [cond_true, c1004, oBs]
  simp only [asI, if_true, oBs]
  rw [c1005, oBs]
  simp only [if_true, oBs, aNewS]
  rw [c1006, oBs]
  simp only [if_true, oBs]
 | false =>
 rw [if_neg (by simp)] at hp
 obtain ⟨⟨b4, s4⟩, h4, hp⟩ := bnd hp
 obtain ⟨g4, r4, c1004, y4, k4, n4⟩ := q107 (d := d) y3 h4
 refine Pp.of k4 n4 ?_
 rw [cond_false, c1004, oBs]
 simp only [oBs]
 cases b4 with
 | false =>
  rw [if_neg (by simp)] at hp
  obtain ⟨g5, r5, c1005, y5, k5, n5⟩ := hg _ _ _ _ _ y4 hp
  refine ⟨g5, r5, ?_, y5, k5, n5⟩
  rw [cond_false, c1005, oBs]
  simp only [asI, if_true, oBs]
 | true =>
  rw [if_pos rfl] at hp
  obtain ⟨⟨e, s5⟩, h5, hp⟩ := bnd hp
  obtain ⟨⟨b, s6⟩, h6, hp⟩ := bnd hp
  obtain ⟨⟨b7, s7⟩, h7, hp⟩ := bnd hp
  obtain ⟨g5, r5, c1005, y5, k5, n5⟩ := hw _ _ _ _ _ y4 h5
  have e1005 := Ext.new (Nat.le_refl g5.size) 3 (ints [e])
  have li := PLI.new g5 [e]
  have z5 := y5.ext e1005
  refine Pp.of k5 n5 ?_
  obtain ⟨g6, r6, c1006, y6, k6, n6⟩ := hb _ _ _ _ _ z5 h6
  have c1006' : call Tp Ms (d + 21) 198 [ptr c.p 0] (g5.new 3 [.int .i64 e]) = _ := c1006
  obtain ⟨v7, g7, c1007, l7, a7⟩ := (li.pk k6).push (by simp) b
  have c1007' : aApp (g6.new 3 [.int .i64 b]) 3 1 8 (slc g5.size 0 1) (slc g6.size 0 1) = _ := c1007
  obtain ⟨g8, r8, c1008, y8, k8, n8⟩ := q107 (d := d) (y6.ak a7) h7
  have l8 := l7.pk k8
  have K6 : PK r5 g5 g6 := (PK.ext e1005).trans (.inl rfl) k6
  have N6 : PRN r5 r6 g5 := PRN.trans e1005.size (.inl rfl) n6
  have K8 : PK r5 g5 g8 := K6.behind N6 (Nat.le_refl _) (a7.pkr.trans (.inl rfl) k8.pkr)
  have N8 : PRN r5 r8 g5 := PRN.trans (Nat.le_trans K6.1 a7.1) N6 n8
  rw [cond_true, c1005, oBs]
  simp only [asI, if_true, oBs, aNewS]
  rw [c1006', oBs]
  simp only [if_true, oBs]
  rw [c1007', oBs, c1008, oBs]
  simp only [oBs]
  cases b7 with
  | false =>
   rw [if_neg (by simp)] at hp
   obtain ⟨g9, r9, c1009, y9, k9, n9⟩ := q64 (d := d) y8 l8.kid hp
   refine Pp.of K8 N8 ⟨g9, r9, ?_, y9, k9, n9⟩
   rw [cond_false, c1009, oBs]
   simp only [if_true, oBs]
  | true =>
   rw [if_pos rfl] at hp
   obtain ⟨⟨b2, s9⟩, h9, hp⟩ := bnd hp
   obtain ⟨g9, r9, c1009, y9, k9, n9⟩ := hb _ _ _ _ _ y8 h9
   obtain ⟨v10, g10, c1010, l10, a10⟩ := (l8.pk k9).push (by simp) b2
   obtain ⟨g11, r11, c1011, y11, k11, n11⟩ := q64 (d := d) (y9.ak a10) l10.kid hp
   have K9 : PK r5 g5 g9 := K8.trans N8 k9
   have N9 : PRN r5 r9 g5 := PRN.trans K8.1 N8 n9
   have K11 : PK r5 g5 g11 := K9.behind N9 (Nat.le_refl _) (a10.pkr.trans (.inl rfl) k11.pkr)
   refine Pp.of K11 (PRN.trans (Nat.le_trans K9.1 a10.1) N9 n11) ⟨g11, r11, ?_, y11, PK.refl _ _, .inl rfl⟩
   rw [cond_true, c1009, oBs]
   simp only [if_true, oBs]
   rw [c1010, oBs, c1011, oBs]
   simp only [if_true, oBs]
def NB (h : AHeap) (i : Nat) (n : Kn) (kv : Value) (rn : Option Nat) : Prop := OwnR h i i 48 (knCells n kv) ∧ KidH h kv n.ks ∧ rn ≠ some i
theorem NB.pk {h h' : AHeap} {i : Nat} {n : Kn} {kv : Value} {rn rn' : Option Nat} (x : NB h i n kv rn) (k : PK rn h h') (r : PRN rn rn' h) : NB h' i n kv rn' := by
 obtain ⟨a, b, e⟩ := x
 have hl := a.lt
 obtain ⟨ep, a⟩ := a
 refine ⟨⟨ep, k.2.1 i _ a (by show (48 : TypeId) ≠ 124; decide) (fun _ => e)⟩, b.pk k, ?_⟩
 rcases r with rfl | ⟨q, rfl, hq⟩
 ·exact e
 ·intro he
  have : q = i := by simpa using he
  omega
theorem nodes_root {h : AHeap} {nv : Value} {ns : List Kn} {rn : Option Nat} (x : NodesH h nv ns rn) : rn ≠ some h.size := by
 rcases x with ⟨_, _, rfl⟩ | ⟨i, root, cells, _, rfl, o, _⟩
 ·simp
 ·intro he
  have : root = h.size := by simpa using he
  have := o.lt
  omega
theorem NB.new {h : AHeap} {nv : Value} {ns : List Kn} {rn : Option Nat} {n : Kn} {kv : Value} (x : NodesH h nv ns rn) (k : KidH h kv n.ks) :
  ∃ h', aSt (h.new 48 [.int .i64 0, .string ⟨#[]⟩, .int .i64 0, .slice none 0 0]) (ptr h.size 0) (knVal n kv) 4 = some h' ∧ Ext h.size h h' ∧ NB h' h.size n kv rn := by
 have o1 := Own.new (h := h) (b := h.size) (Nat.le_refl _) 48 [.int .i64 0, .string ⟨#[]⟩, .int .i64 0, .slice none 0 0]
 obtain ⟨h', a, b, e, s⟩ := Own.stN (n := 4) (v := knVal n kv) o1 (kn_cells k.cell n) rfl rfl
 have E := (Ext.new (Nat.le_refl h.size) 48 [.int .i64 0, .string ⟨#[]⟩, .int .i64 0, .slice none 0 0]).trans b
 refine ⟨h', a, E, ?_, k.ext E, nodes_root x⟩
 obtain ⟨root, ep, e1, e2⟩ := e
 have := (at?_obj e1).2.2.1
 have hr : root = h.size := Nat.le_antisymm this e2
 subst hr
 exact ⟨ep, e1⟩
theorem NB.ld {h : AHeap} {i : Nat} {n : Kn} {kv : Value} {rn : Option Nat} (x : NB h i n kv rn) : aLd1 h (ptr i 0) = some (.int .i64 n.k) ∧ aLd1 h (ptr i 1) = some (.string n.t) ∧ aLd1 h (ptr i 3) = some kv :=
 ⟨x.1.row.ld1 rfl, x.1.row.ld1 rfl, x.1.row.ld1 rfl⟩
theorem NodesH.at {h : AHeap} {nv : Value} {ns : List Kn} {rn : Option Nat} (x : NodesH h nv ns rn) {e : Int} (h0 : 0 ≤ e) {n : Kn} (hn : ns[e.toNat]? = some n) :
  ∃ p kv, aIdx nv (.int .i64 e) 4 = some p ∧ aLdN h p 4 = some (knVal n kv) ∧ KidH h kv n.ks := by
 rcases x with ⟨_, rfl, _⟩ | ⟨i, root, cells, rfl, rfl, o, hl, hx⟩
 ·simp at hn
 ·have hlt := (List.getElem?_eq_some_iff.1 hn).1
  obtain ⟨kv, y, z⟩ := hx _ _ hn
  refine ⟨ptr i (e.toNat * 4), kv, ?_, ?_, z⟩
  ·have : 0 ≤ e ∧ e < (ns.length : Int) := by omega
   simp [aIdx, slc, this]
  ·rw [o.row.ldN (by omega), y]; rfl
theorem NodesH.cut {h : AHeap} {nv : Value} {ns : List Kn} {rn : Option Nat} (x : NodesH h nv ns rn) {e : Int} (he : 0 ≤ e ∧ e ≤ ns.length) :
  ∃ nv', aSub h 48 nv none (some (.int .i64 e)) 4 = some nv' ∧ NodesH h nv' (ns.take e.toNat) rn := by
 rcases x with ⟨rfl, rfl, rfl⟩ | ⟨i, root, cells, rfl, rfl, o, hl, hx⟩
 ·have : e = 0 := by have := he.2; simp at this; omega
  subst this
  exact ⟨.slice none 0 0, rfl, .inl ⟨rfl, rfl, rfl⟩⟩
 ·obtain ⟨ep, ha⟩ := o
  refine ⟨slc i 0 e.toNat, ?_, .inr ⟨i, root, cells, ?_, rfl, ⟨ep, ha⟩, ?_, ?_⟩⟩
  ·simp [aSub, slc, ha, aBound, he]
  ·rw [List.length_take, Nat.min_eq_left (by omega)]
  ·rw [List.length_take, Nat.min_eq_left (by omega)]; omega
  ·intro j n hn
   rw [List.getElem?_take] at hn
   by_cases hj : j < e.toNat
   ·rw [if_pos hj] at hn; exact hx j n hn
   ·rw [if_neg hj] at hn; cases hn
theorem PH.cut {c : PC} {h : AHeap} {st st' : PSt} {rn : Option Nat} (x : PH c h st rn) {e : Int} (he : cutP e st = some st') :
  ∃ nv nv' h', aLd1 h (ptr c.p 4) = some nv ∧ aSub h 48 nv none (some (.int .i64 e)) 4 = some nv' ∧ aSt h (ptr c.p 4) nv' 1 = some h' ∧ PH c h' st' rn ∧ PK rn h h' := by
 unfold cutP at he
 by_cases hc : 0 ≤ e ∧ e ≤ st.nodes.length
 ·rw [if_pos hc] at he; cases he
  obtain ⟨nv, a, b, d⟩ := x
  obtain ⟨nv', u, w⟩ := d.cut hc
  obtain ⟨h', t, o', s, k, tp⟩ := stP a (i := 4) (by show 4 < 7; omega) (v := nv') (aCells_one w.cell)
  have pk : PK rn h h' := ⟨by omega, fun j o hj h81 _ => k j o hj h81, fun r _ => tp r⟩
  exact ⟨nv, nv', h', a.row.ld1 rfl, u, t, ⟨nv', o', b.pk pk, w.keep k⟩, pk⟩
 ·rw [if_neg hc] at he; cases he
section
variable (c : PC) (whole : PI) (e : Int) (n : Kn)
def tail2 (b : Bool) : PI := fun st => if b = true then
   (match n.ks with
   | [a, b] => (cutP e st).bind fun s => (whole s).bind fun x => (wantP c ⟨#[59]⟩ x.2).bind fun s => nodeP 16 E0 0 [a, b, x.1] s
   | _ => none)
  else some (0, failP c st 2)
def tail1 (b : Bool) : PI := fun st => if b = true then (cutP e st).bind fun s => (whole s).bind fun x => (wantP c ⟨#[59]⟩ x.2).bind fun s => nodeP 15 n.t 0 [x.1] s else
  (if n.k = 8 then takesP c ⟨#[61]⟩ st else some (false, st)).bind fun r => tail2 c whole e n r.1 r.2
def tail0 (b : Bool) : PI := fun st => if b = true then nodeP 20 E0 0 [e] st else
  (if n.k = 5 then takesP c ⟨#[61]⟩ st else some (false, st)).bind fun r => tail1 c whole e n r.1 r.2
end
theorem begun_eq (c : PC) (whole : PI) (st : PSt) : begunP c whole st = (whole st).bind fun e => if e.2.code ≠ 0 then some (0, e.2) else
  match e.2.nodes[e.1.toNat]? with
  | none => none
  | some n => if e.1 < 0 then none else (if n.k = 9 then takesP c ⟨#[59]⟩ e.2 else some (false, e.2)).bind fun r => tail0 c whole e.1 n r.1 r.2 := rfl
section
variable {d : Nat} {c : PC} {whole : PI} (hw : Sim c (d + 21) 197 whole) {i : Nat} {n : Kn} {kv : Value} {e q : Int} {st st' : PSt} {h : AHeap} {rn : Option Nat}
include hw
theorem t112_2 (b : Bool) (x : PH c h st rn) (nb : NB h i n kv rn) (hp : tail2 c whole e n b st = some (q, st')) :
  Pp c h rn (s199_2 hk0 (call Tp Ms (d + 21)) (d + 21) (ptr c.p 0) e (ptr i 0) b h) (.int .i64 q) st' := by
 unfold tail2 at hp
 rw [s199_2_j, s199_2_eq]
 cases b with
 | false =>
  rw [if_neg (by simp)] at hp; cases hp
  obtain ⟨g1, r1, c1, y1, k1, n1⟩ := q156 (d := d) x 2
  refine ⟨g1, r1, ?_, y1, k1, n1⟩
  rw [cond_false, s199_3_j, s199_3_eq, c1, oBs]
 | true =>
  rw [if_pos rfl] at hp
  match hks : n.ks, hp with
  | [], hp => cases hp
  | [_], hp => cases hp
  | _ :: _ :: _ :: _, hp => cases hp
  | [a, b], hp =>
   simp only at hp
   obtain ⟨s1, h1, hp⟩ := bnd hp
   obtain ⟨⟨v, s2⟩, h2, hp⟩ := bnd hp
   obtain ⟨s3, h3, hp⟩ := bnd hp
   obtain ⟨nv, nv', g1, a1, b1, t1, y1, k1⟩ := x.cut h1
   obtain ⟨g2, r2, c2, y2, k2, n2⟩ := hw _ _ _ _ _ y1 h2
   obtain ⟨g3, r3, c1003, y3, k3, n3⟩ := q109 (d := d) y2 h3
   have nb3 := (((nb.pk k1 (.inl rfl)).pk k2 n2).pk k3 n3)
   obtain ⟨_, _, u3⟩ := nb3.ld
   obtain ⟨g4, r4, c1004, y4, k4, n4⟩ := q64three (d := d) y3 hp
   refine Pp.of k1 (.inl rfl) (Pp.of k2 n2 (Pp.of k3 n3 ⟨g4, r4, ?_, y4, k4, n4⟩))
   rw [cond_true]
   simp only [nil_ptr, aOff_ptr, Nat.zero_add, oBs, a1, b1, t1]
   rw [c2, oBs]
   simp only [asI, if_true, oBs]
   rw [c1003, oBs]
   have kh := nb3.2.1
   rw [hks] at kh
   rcases kh with ⟨_, h0⟩ | ⟨j, rt, rfl, o⟩
   ·cases h0
   ·have i0 : aIdx (slc j 0 2) (.int .i64 0) 1 = some (ptr j 0) := rfl
    have i1 : aIdx (slc j 0 2) (.int .i64 1) 1 = some (ptr j 1) := rfl
    have l0 : aLd1 g3 (ptr j 0) = some (.int .i64 a) := o.row.ld1 rfl
    have l1 : aLd1 g3 (ptr j 1) = some (.int .i64 b) := o.row.ld1 rfl
    have u3' : aLd1 g3 (ptr i 3) = some (slc j 0 2) := u3
    simp only [u3', i0, i1, l0, l1, if_true, oBs, aNewS]
    rw [c1004, oBs]
    simp only [if_true, oBs]
theorem t112_1 (b : Bool) (x : PH c h st rn) (nb : NB h i n kv rn) (hp : tail1 c whole e n b st = some (q, st')) :
  Pp c h rn (s199_1 hk0 (call Tp Ms (d + 21)) (d + 21) (ptr c.p 0) e (ptr i 0) b h) (.int .i64 q) st' := by
 unfold tail1 at hp
 rw [s199_1_j, s199_1_eq]
 cases b with
 | true =>
  rw [if_pos rfl] at hp
  obtain ⟨s1, h1, hp⟩ := bnd hp
  obtain ⟨⟨v, s2⟩, h2, hp⟩ := bnd hp
  obtain ⟨s3, h3, hp⟩ := bnd hp
  obtain ⟨nv, nv', g1, a1, b1, t1, y1, k1⟩ := x.cut h1
  obtain ⟨g2, r2, c2, y2, k2, n2⟩ := hw _ _ _ _ _ y1 h2
  obtain ⟨g3, r3, c1003, y3, k3, n3⟩ := q109 (d := d) y2 h3
  have nb3 := (((nb.pk k1 (.inl rfl)).pk k2 n2).pk k3 n3)
  obtain ⟨_, u2, _⟩ := nb3.ld
  obtain ⟨g4, r4, c1004, y4, k4, n4⟩ := q64one (d := d) y3 hp
  refine Pp.of k1 (.inl rfl) (Pp.of k2 n2 (Pp.of k3 n3 ⟨g4, r4, ?_, y4, k4, n4⟩))
  rw [cond_true]
  simp only [nil_ptr, aOff_ptr, Nat.zero_add, oBs, a1, b1, t1]
  rw [c2, oBs]
  simp only [asI, if_true, oBs]
  rw [c1003, oBs]
  simp only [u2, asS, oBs, aNewS]
  rw [c1004, oBs]
  simp only [if_true, oBs]
 | false =>
  rw [if_neg (by simp)] at hp
  obtain ⟨⟨b1, s1⟩, h1, hp⟩ := bnd hp
  obtain ⟨u1, _, _⟩ := nb.ld
  rw [cond_false]
  simp only [aOff_ptr, Nat.zero_add, oBs, u1]
  rw [show asI .i64 (Value.int .i64 n.k) = some n.k from rfl, oBs]
  by_cases hk : n.k = 8
  ·rw [if_pos hk] at h1
   obtain ⟨g1, r1, c1, y1, k1, n1⟩ := q107 (d := d) x h1
   have : (n.k == 8) = true := by rw [hk]; rfl
   rw [this, cond_true, c1, oBs]
   simp only [asB, oBs]
   exact Pp.of k1 n1 (t112_2 hw b1 y1 (nb.pk k1 n1) hp)
  ·rw [if_neg hk] at h1; cases h1
   rw [beq_eq_false_iff_ne.2 hk, cond_false]
   exact t112_2 hw false x nb hp
theorem t112_0 (b : Bool) (x : PH c h st rn) (nb : NB h i n kv rn) (hp : tail0 c whole e n b st = some (q, st')) :
  Pp c h rn (s199_0 hk0 (call Tp Ms (d + 21)) (d + 21) (ptr c.p 0) e (ptr i 0) b h) (.int .i64 q) st' := by
 unfold tail0 at hp
 rw [s199_0_j, s199_0_eq]
 cases b with
 | true =>
  rw [if_pos rfl] at hp
  obtain ⟨g4, r4, c1004, y4, k4, n4⟩ := q64one (d := d) x hp
  refine ⟨g4, r4, ?_, y4, k4, n4⟩
  rw [cond_true]
  simp only [aNewS]
  rw [c1004, oBs]
  simp only [asI, if_true, oBs]
 | false =>
  rw [if_neg (by simp)] at hp
  obtain ⟨⟨b1, s1⟩, h1, hp⟩ := bnd hp
  obtain ⟨u1, _, _⟩ := nb.ld
  rw [cond_false]
  simp only [aOff_ptr, Nat.zero_add, oBs, u1]
  rw [show asI .i64 (Value.int .i64 n.k) = some n.k from rfl, oBs]
  by_cases hk : n.k = 5
  ·rw [if_pos hk] at h1
   obtain ⟨g1, r1, c1, y1, k1, n1⟩ := q107 (d := d) x h1
   have : (n.k == 5) = true := by rw [hk]; rfl
   rw [this, cond_true, c1, oBs]
   simp only [asB, oBs]
   exact Pp.of k1 n1 (t112_1 hw b1 y1 (nb.pk k1 n1) hp)
  ·rw [if_neg hk] at h1; cases h1
   rw [beq_eq_false_iff_ne.2 hk, cond_false]
   exact t112_1 hw false x nb hp
theorem l112 : Sim c (d + 22) 199 (begunP c whole) := by
 intro h st rn q st' x hp
 have hcall : call Tp Ms (d + 22) 199 [ptr c.p 0] h = evFn hk0 Tp (call Tp Ms (d + 21)) M199 (d + 21) Tryz.f199 [ptr c.p 0] h := c199 (d + 21) _ _
 rw [begun_eq] at hp
 obtain ⟨⟨e, s1⟩, h1, hp⟩ := bnd hp
 obtain ⟨g1, r1, c1, y1, k1, n1⟩ := hw _ _ _ _ _ x h1
 obtain ⟨nv, nd, _, _, _, _, a4, a5, _⟩ := y1.ld
 refine Pp.of k1 n1 ?_
 rw [hcall, e199, c1, oBs, show asI .i64 (Value.int .i64 e) = some e from rfl, oBs]
 simp only [nil_ptr, aOff_ptr, Nat.zero_add, oBs, a5]
 rw [show asI .i64 (Value.int .i64 s1.code) = some s1.code from rfl, oBs]
 simp only at hp
 by_cases hc : s1.code = 0
 ·rw [if_neg (by simp [hc])] at hp
  have : (s1.code != 0) = false := by rw [hc]; rfl
  rw [this, cond_false]
  match hn : s1.nodes[e.toNat]?, hp with
  | none, hp => cases hp
  | some n, hp =>
   simp only at hp
   by_cases h0 : e < 0
   ·rw [if_pos h0] at hp; cases hp
   ·rw [if_neg h0] at hp
    obtain ⟨⟨b2, s2⟩, h2, hp⟩ := bnd hp
    obtain ⟨p, kv, i1, l1, kh⟩ := nd.at (by omega) hn
    obtain ⟨g2, t2, x2, nb⟩ := NB.new (n := n) nd kh
    have y2 := y1.ext x2
    obtain ⟨u1, _, _⟩ := nb.ld
    refine Pp.ext x2 ?_
    simp only [a4, i1, l1, oBs, aNew, t2, aOff_ptr, Nat.zero_add, u1]
    rw [show asI .i64 (Value.int .i64 n.k) = some n.k from rfl, oBs]
    by_cases hk : n.k = 9
    ·rw [if_pos hk] at h2
     obtain ⟨g3, r3, c1003, y3, k3, n3⟩ := q107 (d := d) y2 h2
     have : (n.k == 9) = true := by rw [hk]; rfl
     rw [this, cond_true, c1003, oBs]
     simp only [asB, oBs]
     exact Pp.of k3 n3 (t112_0 hw b2 y3 (nb.pk k3 n3) hp)
    ·rw [if_neg hk] at h2; cases h2
     rw [beq_eq_false_iff_ne.2 hk, cond_false]
     exact t112_0 hw false y2 nb hp
 ·have : (s1.code != 0) = true := by simp [hc]
  rw [this, cond_true]
  rw [if_pos hc] at hp; cases hp
  exact ⟨g1, r1, rfl, y1, PK.refl _ _, .inl rfl⟩
end
theorem un_ret (m : PI) (st : PSt) : un (ret m) st = m st := by
 unfold un ret
 cases m st with
 | none => rfl
 | some r => rfl
theorem parse_out (c : PC) {D k : Nat} (h : D < 30 ∨ D > 2000000) (st : PSt) : parse c (D + 1) k st = none := by rw [parse, if_pos h]
section
variable (c : PC) {D : Nat} (h : ¬ (D < 30 ∨ D > 2000000)) (st : PSt)
include h
theorem parse_110 : parse c (D + 1) 110 st = ret (wholeP c (un (parse c D 158))) st := by rw [parse, if_neg h]; rfl
theorem parse_158 : parse c (D + 1) 158 st = ret (binP c ⟨#[111, 114]⟩ 13 (un (parse c D 188)) D) st := by rw [parse, if_neg h]; rfl
theorem parse_188 : parse c (D + 1) 188 st = ret (binP c ⟨#[97, 110, 100]⟩ 12 (un (parse c D 203)) D) st := by rw [parse, if_neg h]; rfl
theorem parse_203 : parse c (D + 1) 203 st = ret (compareP c (un (parse c D 220))) st := by rw [parse, if_neg h]; rfl
theorem parse_2310 : parse c (D + 1) 2310 st = ret (rowP c [⟨#[46, 46]⟩] (un (parse c D 232)) D) st := by rw [parse, if_neg h]; rfl
theorem parse_2311 : parse c (D + 1) 2311 st = ret (rowP c [⟨#[43]⟩, ⟨#[45]⟩] (un (parse c D 238)) D) st := by rw [parse, if_neg h]; rfl
theorem parse_2312 : parse c (D + 1) 2312 st = ret (rowP c [⟨#[42]⟩, ⟨#[47]⟩, ⟨#[37]⟩] (un (parse c D 241)) D) st := by rw [parse, if_neg h]; rfl
theorem parse_220 : parse c (D + 1) 220 st = parse c D 2310 st := by rw [parse, if_neg h]; rfl
theorem parse_232 : parse c (D + 1) 232 st = parse c D 2311 st := by rw [parse, if_neg h]; rfl
theorem parse_238 : parse c (D + 1) 238 st = parse c D 2312 st := by rw [parse, if_neg h]; rfl
theorem parse_241 : parse c (D + 1) 241 st = ret (unaryP c (un (parse c D 241)) (un (parse c D 242))) st := by rw [parse, if_neg h]; rfl
theorem parse_242 : parse c (D + 1) 242 st = ret (behindP c (un (parse c D 243)) (un (parse c D 110)) (parse c D 244) D) st := by rw [parse, if_neg h]; rfl
theorem parse_243 : parse c (D + 1) 243 st = ret (primaryP c (un (parse c D 110)) (un (parse c D 245)) (un (parse c D 246))) st := by rw [parse, if_neg h]; rfl
theorem parse_244 : parse c (D + 1) 244 st = argsP c (un (parse c D 110)) D st := by rw [parse, if_neg h]; rfl
theorem parse_245 : parse c (D + 1) 245 st = ret (fnP c (un (parse c D 111)) D) st := by rw [parse, if_neg h]; rfl
theorem parse_246 : parse c (D + 1) 246 st = ret (tableP c (un (parse c D 247)) D) st := by rw [parse, if_neg h]; rfl
theorem parse_247 : parse c (D + 1) 247 st = ret (fieldP c (un (parse c D 110))) st := by rw [parse, if_neg h]; rfl
theorem parse_111 : parse c (D + 1) 111 st = ret (blockP c (un (parse c D 63)) D) st := by rw [parse, if_neg h]; rfl
theorem parse_112 : parse c (D + 1) 112 st = ret (begunP c (un (parse c D 110))) st := by rw [parse, if_neg h]; rfl
theorem parse_63 : parse c (D + 1) 63 st = ret (stmtP c (un (parse c D 110)) (un (parse c D 111)) (un (parse c D 112))) st := by rw [parse, if_neg h]; rfl
end
structure AllSim (c : PC) (D : Nat) : Prop where
 s110 : Sim c D 197 (un (parse c D 110))
 s158 : Sim c D 284 (un (parse c D 158))
 s188 : Sim c D 356 (un (parse c D 188))
 s203 : Sim c D 382 (un (parse c D 203))
 s220 : Sim c D 405 (un (parse c D 220))
 s232 : Sim c D 416 (un (parse c D 232))
 s238 : Sim c D 421 (un (parse c D 238))
 s241 : Sim c D 424 (un (parse c D 241))
 s242 : Sim c D 425 (un (parse c D 242))
 s243 : Sim c D 426 (un (parse c D 243))
 s245 : Sim c D 428 (un (parse c D 245))
 s246 : Sim c D 429 (un (parse c D 246))
 s247 : Sim c D 430 (un (parse c D 247))
 s111 : Sim c D 198 (un (parse c D 111))
 s112 : Sim c D 199 (un (parse c D 112))
 s63 : Sim c D 101 (un (parse c D 63))
 sL : SimL c D 427 (parse c D 244)
theorem Sim.of {c : PC} {D k : Nat} {m m' : PI} (x : Sim c D k m) (e : ∀ st, m' st = m st) : Sim c D k m' := fun h st rn a st' p hp => x h st rn a st' p (by rw [← e]; exact hp)
theorem Sim.none {c : PC} {D k : Nat} {m : PI} (e : ∀ st, m st = none) : Sim c D k m := fun h st rn a st' p hp => by rw [e] at hp; cases hp
theorem un_none {m : PM} {st : PSt} (h : m st = none) : un m st = none := by unfold un; rw [h]; rfl
theorem un_eq {m m' : PM} {st : PSt} (h : m st = m' st) : un m st = un m' st := by unfold un; rw [h]
theorem allSim (c : PC) : ∀ D, AllSim c D := by
 intro D
 induction D using Nat.strongRecOn with
 | _ D ih =>
 match D, ih with
 | 0, _ => exact ⟨Sim.none fun _ => rfl, Sim.none fun _ => rfl, Sim.none fun _ => rfl, Sim.none fun _ => rfl, Sim.none fun _ => rfl, Sim.none fun _ => rfl, Sim.none fun _ => rfl, Sim.none fun _ => rfl, Sim.none fun _ => rfl, Sim.none fun _ => rfl, Sim.none fun _ => rfl, Sim.none fun _ => rfl, Sim.none fun _ => rfl, Sim.none fun _ => rfl, Sim.none fun _ => rfl, Sim.none fun _ => rfl, fun _ _ _ _ _ _ hp => by cases hp⟩
 | D + 1, ih =>
 by_cases hD : D < 30 ∨ D > 2000000
 ·exact ⟨Sim.none fun st => un_none (parse_out c hD st), Sim.none fun st => un_none (parse_out c hD st), Sim.none fun st => un_none (parse_out c hD st), Sim.none fun st => un_none (parse_out c hD st), Sim.none fun st => un_none (parse_out c hD st), Sim.none fun st => un_none (parse_out c hD st), Sim.none fun st => un_none (parse_out c hD st), Sim.none fun st => un_none (parse_out c hD st), Sim.none fun st => un_none (parse_out c hD st), Sim.none fun st => un_none (parse_out c hD st), Sim.none fun st => un_none (parse_out c hD st), Sim.none fun st => un_none (parse_out c hD st), Sim.none fun st => un_none (parse_out c hD st), Sim.none fun st => un_none (parse_out c hD st), Sim.none fun st => un_none (parse_out c hD st), Sim.none fun st => un_none (parse_out c hD st), fun _ st _ _ _ _ hp => by rw [parse_out c hD st] at hp; cases hp⟩
 obtain ⟨d, rfl⟩ : ∃ d, D = d + 21 := ⟨D - 21, by omega⟩
 have z := ih (d + 21) (by omega)
 refine ⟨?_, ?_, ?_, ?_, ?_, ?_, ?_, ?_, ?_, ?_, ?_, ?_, ?_, ?_, ?_, ?_, ?_⟩
 ·exact (l110 (D := d + 18) z.s158).of fun st => (un_eq (parse_110 c hD st)).trans (un_ret _ st)
 ·exact (l158 (D := d + 17) (by omega) z.s188).of fun st => (un_eq (parse_158 c hD st)).trans (un_ret _ st)
 ·exact (l188 (D := d + 17) (by omega) z.s203).of fun st => (un_eq (parse_188 c hD st)).trans (un_ret _ st)
 ·exact (l203 (d := d) z.s220).of fun st => (un_eq (parse_203 c hD st)).trans (un_ret _ st)
 ·obtain ⟨d', rfl⟩ : ∃ d', d = d' + 1 := ⟨d - 1, by omega⟩
  by_cases h2 : d' + 21 < 30 ∨ d' + 21 > 2000000
  ·exact Sim.none fun st => un_none ((parse_220 c hD st).trans (parse_out c h2 st))
  ·exact (l220 (d := d') (n := d' + 21) (Nat.le_refl _) (ih (d' + 21) (by omega)).s232).of fun st => (un_eq ((parse_220 c hD st).trans (parse_2310 c h2 st))).trans (un_ret _ st)
 ·obtain ⟨d', rfl⟩ : ∃ d', d = d' + 1 := ⟨d - 1, by omega⟩
  by_cases h2 : d' + 21 < 30 ∨ d' + 21 > 2000000
  ·exact Sim.none fun st => un_none ((parse_232 c hD st).trans (parse_out c h2 st))
  ·exact (l232 (d := d') (n := d' + 21) (Nat.le_refl _) (ih (d' + 21) (by omega)).s238).of fun st => (un_eq ((parse_232 c hD st).trans (parse_2311 c h2 st))).trans (un_ret _ st)
 ·obtain ⟨d', rfl⟩ : ∃ d', d = d' + 1 := ⟨d - 1, by omega⟩
  by_cases h2 : d' + 21 < 30 ∨ d' + 21 > 2000000
  ·exact Sim.none fun st => un_none ((parse_238 c hD st).trans (parse_out c h2 st))
  ·exact (l238 (d := d') (n := d' + 21) (Nat.le_refl _) (ih (d' + 21) (by omega)).s241).of fun st => (un_eq ((parse_238 c hD st).trans (parse_2312 c h2 st))).trans (un_ret _ st)
 ·exact (l241 (d := d) z.s241 z.s242).of fun st => (un_eq (parse_241 c hD st)).trans (un_ret _ st)
 ·exact (l242 (d := d) (by omega) z.s243 z.s110 z.sL).of fun st => (un_eq (parse_242 c hD st)).trans (un_ret _ st)
 ·exact (l243 (d := d) z.s110 z.s245 z.s246).of fun st => (un_eq (parse_243 c hD st)).trans (un_ret _ st)
 ·exact (l245 (d := d) (by omega) (by omega) z.s111).of fun st => (un_eq (parse_245 c hD st)).trans (un_ret _ st)
 ·exact (l246 (d := d) (by omega) (by omega) z.s247).of fun st => (un_eq (parse_246 c hD st)).trans (un_ret _ st)
 ·exact (l247 (d := d) z.s110).of fun st => (un_eq (parse_247 c hD st)).trans (un_ret _ st)
 ·exact (l111 (d := d) (by omega) (by omega) z.s63).of fun st => (un_eq (parse_111 c hD st)).trans (un_ret _ st)
 ·exact (l112 (d := d) z.s110).of fun st => (un_eq (parse_112 c hD st)).trans (un_ret _ st)
 ·exact (l63 (d := d) z.s110 z.s111 z.s112).of fun st => (un_eq (parse_63 c hD st)).trans (un_ret _ st)
 ·intro h st rn l st' x hp
  rw [parse_244 c hD st] at hp
  exact l244 (d := d) (by omega) (by omega) z.s110 h st rn l st' x hp
abbrev PRes := List Kn × Int × Int × Int
def finP (l : List Int) (st : PSt) : Option PRes := if st.code ≠ 0 then some ([], 0, st.code, st.place) else (nodeP 21 E0 0 l st).map fun x => (x.2.nodes, x.1, 0, 0)
def st0 : PSt := ⟨0, 0, [], 0, 0⟩
def parseC (c : PC) (D : Nat) : Option PRes := (topLoop c (un (parse c D 63)) D [] st0).bind fun l => finP l.1 l.2
def tval (nv : Value) (r : PRes) : Value := .tuple (List.toArray [.agg (List.toArray [nv, .int .i64 r.2.1]), .int .i64 r.2.2.1, .int .i64 r.2.2.2])
def IsParse (h0 : AHeap) (o : Option (Value × AHeap)) (r : PRes) : Prop := ∃ h' nv rn', o = some (tval nv r, h') ∧ NodesH h' nv r.1 rn' ∧ PK none h0 h' ∧ PRN none rn' h0
theorem stE {h : AHeap} {i n : Nat} {e : TypeId} {cells vs : List Value} (o : OwnR h i i e cells) {v : Value} (hv : aCells v = some vs) (hl : vs.length = n) (hc : cells.length = n) (he : ¬ 3 = e) :
  ∃ h', aSt h (ptr i 0) v n = some h' ∧ OwnR h' i i e vs ∧ h'.size = h.size ∧ (∀ j o, h.at? j = some o → o.elem ≠ e ∨ o.root ≠ i → h'.at? j = some o) ∧ (∀ r, h'.tip 3 r = h.tip 3 r) := by
 obtain ⟨ep, h1⟩ := o
 have hsp : splice cells 0 vs = vs := by
  unfold splice
  simp [hl, hc]
 refine ⟨h.put i ⟨i, ep, false, e, cells⟩ (splice cells 0 vs), by simp [aSt, ptr, h1, hv, hl, hc], ⟨h.ep e i + 1, ?_⟩, rfl, fun k o ho hk => at?_put_other ho (fun ee => by subst ee; rw [h1] at ho; cases ho; rcases hk with hk | hk <;> exact hk rfl) _ (fun hh => by
  rcases hk with hk | hk
  ·exact hk hh.1
  ·exact hk hh.2), fun r => by simp [AHeap.put, he]⟩
 have := at?_put_same h1 (splice cells 0 vs)
 rw [hsp] at this ⊢
 exact this
theorem PK.st35 {h0 h h' : AHeap} {i1 : Nat} (k : PK none h0 h) (hi : h0.size ≤ i1) (hs : h'.size = h.size) (hk : ∀ j o, h.at? j = some o → o.elem ≠ 41 ∨ o.root ≠ i1 → h'.at? j = some o) (ht : ∀ r, h'.tip 3 r = h.tip 3 r) : PK none h0 h' :=
 ⟨by rw [hs]; exact k.1, fun j o a b c => hk j o (k.2.1 j o a b c) (.inr (by have := at?_obj a; omega)), fun r hr => (ht r).trans (k.2.2 r hr)⟩
theorem NodesH.keep' {h h' : AHeap} {v : Value} {ns : List Kn} {rn : Option Nat} (x : NodesH h v ns rn) {e : TypeId} (h1 : e ≠ 48) (h2 : e ≠ 3) (k : ∀ j o, h.at? j = some o → o.elem ≠ e → h'.at? j = some o) : NodesH h' v ns rn := by
 rcases x with a | ⟨i, rt, cs, a, b, ⟨ep, c⟩, d, f⟩
 ·exact .inl a
 ·refine .inr ⟨i, rt, cs, a, b, ⟨ep, k i _ c (fun h => h1 h.symm)⟩, d, fun j n hn => ?_⟩
  obtain ⟨kv, y, z⟩ := f j n hn
  refine ⟨kv, y, ?_⟩
  rcases z with z | ⟨i', rt', z1, ep', z2⟩
  ·exact .inl z
  ·exact .inr ⟨i', rt', z1, ep', k i' _ z2 (fun h => h2 h.symm)⟩
theorem two35 {nv : Value} (h : isCell nv = true) (r : Int) : aCells (.agg (List.toArray [nv, .int .i64 r])) = some [nv, .int .i64 r] := by
 show (if (List.all [nv, .int .i64 r] isCell) = true then _ else _) = _
 rw [if_pos (by show (isCell nv && (true && true)) = true; rw [h]; rfl)]
theorem fill35 {nv : Value} (h : isCell nv = true) (r : Int) : aFill [.slice none 0 0, .int .i64 0] [(0, 1, nv), (1, 1, .int .i64 r)] = some [nv, .int .i64 r] := by
 simp [aFill, aCells_int, aCells_one h, splice]
theorem parse_fin {d i1 rt : Nat} {h0 h : AHeap} {c : PC} {v : Value} {out : List Int} {st : PSt} {rn : Option Nat} {r : PRes} (hi : h0.size ≤ i1) (hrt : h0.size ≤ rt) (x : PH c h st rn) (li : PLI h v out rt) (o : OwnR h i1 i1 41 [.slice none 0 0, .int .i64 0]) (k : PK none h0 h) (n : PRN none rn h0) (hp : finP out st = some r) :
  (st.code ≠ 0 → ∃ h', aSt h (ptr i1 0) (.agg (List.toArray [.slice none 0 0, .int .i64 0])) 2 = some h' ∧ aLd1 h' (ptr c.p 5) = some (.int .i64 st.code) ∧ aLd1 h' (ptr c.p 6) = some (.int .i64 st.place) ∧ aLdN h' (ptr i1 0) 2 = some (.agg (List.toArray [.slice none 0 0, .int .i64 0])) ∧ PK none h0 h' ∧ r = ([], 0, st.code, st.place)) ∧
  (st.code = 0 → ∃ (h1 h' : AHeap) (nv : Value) (rn' : Option Nat), call Tp Ms (d + 21) 102 [ptr c.p 0, .int .i64 21, .string ⟨#[]⟩, .int .i64 0, v] h = some (.int .i64 r.2.1, h1) ∧ aLd1 h1 (ptr c.p 4) = some nv ∧ isCell nv = true ∧ aSt h1 (ptr i1 0) (.agg (List.toArray [nv, .int .i64 r.2.1])) 2 = some h' ∧ aLdN h' (ptr i1 0) 2 = some (.agg (List.toArray [nv, .int .i64 r.2.1])) ∧ r.2.2 = (0, 0) ∧ NodesH h' nv r.1 rn' ∧ PK none h0 h' ∧ PRN none rn' h0) := by
 unfold finP at hp
 constructor
 ·intro hc
  rw [if_pos hc] at hp; cases hp
  obtain ⟨h', a1, a2, a3, a4, a5⟩ := stE o (n := 2) (two35 (nv := .slice none 0 0) rfl 0) rfl rfl (by decide)
  obtain ⟨nv, o', _⟩ := x
  have o2 : OwnR h' c.p c.p 124 (pcells c nv st) := let ⟨ep, q⟩ := o'; ⟨ep, a4 _ _ q (.inl (by show (124 : TypeId) ≠ 41; decide))⟩
  refine ⟨h', a1, o2.row.ld1 rfl, o2.row.ld1 rfl, ?_, k.st35 hi a3 a4 a5, rfl⟩
  rw [a2.row.ldN (by show 0 + 2 ≤ 2; omega)]; rfl
 ·intro hc
  rw [if_neg (by simp [hc]), Option.map_eq_some_iff] at hp
  obtain ⟨⟨q, s1⟩, h1, he⟩ := hp
  cases he
  obtain ⟨g1, r1, c1, y1, k1, n1⟩ := q64 (d := d) x li.kid h1
  obtain ⟨nv, nd, _, _, _, _, b4, _⟩ := y1.ld
  have K1 : PK none h0 g1 := k.trans n k1
  have o1 := o.pk k1 (by decide) (by decide)
  obtain ⟨h', a1, a2, a3, a4, a5⟩ := stE o1 (n := 2) (two35 nd.cell q) rfl rfl (by decide)
  refine ⟨g1, h', nv, r1, c1, b4, nd.cell, a1, ?_, rfl, nd.keep' (e := 41) (by decide) (by decide) (fun j o a b => a4 j o a (.inl b)), K1.st35 hi a3 a4 a5, PRN.trans k.1 n n1⟩
  rw [a2.row.ldN (by show 0 + 2 ≤ 2; omega)]; rfl
theorem parse_loop {d i1 rt N : Nat} {h0 : AHeap} {c : PC} {stmt : PI} (hb : Sim c (d + 21) 101 stmt) (hi : h0.size ≤ i1) (hrt : h0.size ≤ rt) {r : PRes} : ∀ (n m : Nat) (out : List Int) (v : Value) (h : AHeap) (st : PSt) (rn : Option Nat), n ≤ m → out.length + n ≤ 2000000 → PH c h st rn → PLI h v out rt →
  OwnR h i1 i1 41 [.slice none 0 0, .int .i64 0] → PK none h0 h → PRN none rn h0 → ((topLoop c stmt n out st).bind fun l => finP l.1 l.2) = some r →
  IsParse h0 (s21_0 hk0 (call Tp Ms (d + 21)) N m (ptr i1 0) c.tv (ptr c.p 0) v h) r := by
 intro n
 induction n with
 | zero => intro m out v h st rn _ _ _ _ _ _ _ hp; cases hp
 | succ n ih =>
  intro m out v h st rn hm hlen x li o k nr hp
  obtain ⟨m, rfl⟩ : ∃ q, m = q + 1 := ⟨m - 1, by omega⟩
  obtain ⟨⟨l, sl⟩, hl, hq⟩ := bnd hp
  clear hp
  rw [topLoop] at hl
  have x' := x
  obtain ⟨nv0, _, tk, _⟩ := x'
  obtain ⟨_, _, a0, a1, _, _, _, a5, a6⟩ := x.ld
  rw [s21_0_eq]
  simp only [nil_ptr, aOff_ptr, Nat.zero_add, oBs, a1, tk.len]
  rw [show asI .i64 (Value.int .i64 (st.at' : Int)) = some (st.at' : Int) from rfl, oBs, show asI .i64 (Value.int .i64 (c.toks.length : Int)) = some (c.toks.length : Int) from rfl, oBs]
  by_cases hlt : st.at' < c.toks.length ∧ st.code = 0
  ·rw [if_pos hlt] at hl
   have hI : (st.at' : Int) < (c.toks.length : Int) := by omega
   obtain ⟨⟨e, s1⟩, h1, hl⟩ := bnd hl
   obtain ⟨g1, r1, c1, y1, k1, n1⟩ := hb _ _ _ _ _ x h1
   obtain ⟨v2, g2, c2, l2, a2⟩ := (li.pk k1).push (by omega) e
   have K1 : PK none h0 g1 := k.trans nr k1
   have N1 : PRN none r1 h0 := PRN.trans k.1 nr n1
   have K2 : PK none h0 g2 := K1.behind N1 hrt a2.pkr
   have z := ih m (out ++ [e]) v2 g2 s1 r1 (by omega) (by simp; omega) (y1.ak a2) l2 (let ⟨ep, q⟩ := o.pk k1 (by decide) (by decide); ⟨ep, a2.2.1 _ _ q⟩) K2 N1 (by rw [hl]; exact hq)
   rw [decide_eq_true hI, cond_true, a5, oBs, show asI .i64 (Value.int .i64 st.code) = some st.code from rfl, oBs, hlt.2, show ((0 : Int) == 0) = true from rfl, cond_true, s21_1_j, s21_1_eq, c1, oBs]
   simp only [asI, if_true, oBs, aNewS]
   rw [c2, oBs]
   exact z
  ·rw [if_neg hlt] at hl; cases hl
   obtain ⟨f1, f2⟩ := parse_fin (d := d) hi hrt x li o k nr hq
   by_cases hc : st.code = 0
   ·have hI : ¬ ((st.at' : Int) < (c.toks.length : Int)) := fun h => hlt ⟨by omega, hc⟩
    obtain ⟨g1, g2, nv, rn', b1, b2, b3, b4, b5, b6, b7, b8, b9⟩ := f2 hc
    have hc' : (st.code != 0) = false := by rw [hc]; rfl
    refine ⟨g2, nv, rn', ?_, b7, b8, b9⟩
    rw [decide_eq_false hI, cond_false, a5, oBs, show asI .i64 (Value.int .i64 st.code) = some st.code from rfl, oBs, hc', cond_false, b1, oBs]
    simp only [asI, if_true, oBs, b2, fill35 b3, b4, b5]
    have e2 : tval nv r = .tuple (List.toArray [.agg (List.toArray [nv, .int .i64 r.2.1]), .int .i64 0, .int .i64 0]) := by
     unfold tval; rw [b6]
    rw [e2]; rfl
   ·obtain ⟨g1, b1, b2, b3, b4, b5, rfl⟩ := f1 hc
    have hc' : (st.code != 0) = true := by simp [hc]
    have hc2 : (st.code == 0) = false := beq_eq_false_iff_ne.2 hc
    refine ⟨g1, .slice none 0 0, none, ?_, .inl ⟨rfl, rfl, rfl⟩, b5, .inl rfl⟩
    by_cases hI : ((st.at' : Int) < (c.toks.length : Int))
    ·rw [decide_eq_true hI, cond_true, a5, oBs, show asI .i64 (Value.int .i64 st.code) = some st.code from rfl, oBs, hc2, cond_false]
     rw [oBs, show asI .i64 (Value.int .i64 st.code) = some st.code from rfl, oBs, hc', cond_true]
     simp only [asI, if_true, oBs, a6, b1, b2, b3, b4, vbeq, vbeq1, beq_self_eq_true, Bool.and_self, cond_true]
     rfl
    ·rw [decide_eq_false hI, cond_false, a5, oBs, show asI .i64 (Value.int .i64 st.code) = some st.code from rfl, oBs, hc', cond_true]
     simp only [asI, if_true, oBs, a6, b1, b2, b3, b4, vbeq, vbeq1, beq_self_eq_true, Bool.and_self, cond_true]
     rfl
def parseR (D : Nat) (s : ByteArray) : Option PRes := if (lexR s).2.1 ≠ 0 then some ([], 0, 1, ((lexR s).2.2 : Int)) else parseC ⟨0, .slice none 0 0, (lexR s).1, s.size⟩ D
theorem parse_indep (p p' : Nat) (tv tv' : Value) (toks : List Tok) (en : Int) (D : Nat) : parseC ⟨p, tv, toks, en⟩ D = parseC ⟨p', tv', toks, en⟩ D := by kernel_rfl
theorem OS.tok {b : Nat} {h : AHeap} {v : Value} {ts : List Tok} (x : OS b h v ts) : TokH h v ts := by
 rcases x with a | ⟨i, a, b⟩
 ·exact .inl a
 ·exact .inr ⟨i, a, Own.rowE b⟩
theorem TokH.cell {h : AHeap} {v : Value} {ts : List Tok} (x : TokH h v ts) : isCell v = true := by
 rcases x with ⟨rfl, _⟩ | ⟨i, rfl, _⟩ <;> rfl
theorem fill81 {tv : Value} (h : isCell tv = true) (en : Int) : aFill [.slice none 0 0, .int .i64 0, .int .i64 0, .int .i64 0, .slice none 0 0, .int .i64 0, .int .i64 0] [(0, 1, tv), (2, 1, .int .i64 en)] = some [tv, .int .i64 0, .int .i64 en, .int .i64 0, .slice none 0 0, .int .i64 0, .int .i64 0] := by
 simp [aFill, aCells_int, aCells_one h, splice]
theorem cells81 {tv : Value} (h : isCell tv = true) (en : Int) : aCells (.agg (List.toArray [tv, .int .i64 0, .int .i64 en, .int .i64 0, .slice none 0 0, .int .i64 0, .int .i64 0])) = some [tv, .int .i64 0, .int .i64 en, .int .i64 0, .slice none 0 0, .int .i64 0, .int .i64 0] := by
 show (if (List.all [tv, .int .i64 0, .int .i64 en, .int .i64 0, .slice none 0 0, .int .i64 0, .int .i64 0] isCell) = true then _ else _) = _
 rw [if_pos (by show (isCell tv && (true && (true && (true && (true && (true && (true && true))))))) = true; rw [h]; rfl)]
theorem l28 {d : Nat} (hd : 3000 < d) {s : ByteArray} {h : AHeap} {r : PRes} (hD : d + 21 ≤ 2000000) (hp : parseR (d + 21) s = some r) : IsParse h (call Tp Ms (d + 22) 21 [.string s] h) r := by
 have e1 := Ext.new (Nat.le_refl h.size) 41 [.slice none 0 0, .int .i64 0]
 have o1 := OwnR.new h 41 [.slice none 0 0, .int .i64 0]
 obtain ⟨h2, v, c2, x2, os, _⟩ := l15 (d := d + 17) (by omega) s (h.new 41 [.slice none 0 0, .int .i64 0])
 have c2' : call Tp Ms (d + 21) 100 [.string s] (h.new 41 [.slice none 0 0, .int .i64 0]) = _ := c2
 have o2 := o1.ext x2
 have k2 : PK none h h2 := PK.ext (e1.trans (x2.mono e1.size))
 have hcall : call Tp Ms (d + 22) 21 [.string s] h = evFn hk0 Tp (call Tp Ms (d + 21)) M21 (d + 21) Tryz.f21 [.string s] h := c21 (d + 21) _ _
 rw [hcall, e21]
 simp only [aNew]
 rw [c2', oBs]
 have t0 : aExt (.tuple (List.toArray [v, .int .i64 ((lexR s).2.1 : Int), .int .i64 ((lexR s).2.2 : Int)])) 0 = some v := rfl
 have t1 : aExt (.tuple (List.toArray [v, .int .i64 ((lexR s).2.1 : Int), .int .i64 ((lexR s).2.2 : Int)])) 1 = some (.int .i64 ((lexR s).2.1 : Int)) := rfl
 have t2 : aExt (.tuple (List.toArray [v, .int .i64 ((lexR s).2.1 : Int), .int .i64 ((lexR s).2.2 : Int)])) 2 = some (.int .i64 ((lexR s).2.2 : Int)) := rfl
 simp only [t0, t1, t2, oBs]
 rw [show asI .i64 (Value.int .i64 ((lexR s).2.1 : Int)) = some ((lexR s).2.1 : Int) from rfl, oBs, show asI .i64 (Value.int .i64 ((lexR s).2.2 : Int)) = some ((lexR s).2.2 : Int) from rfl, oBs]
 unfold parseR at hp
 by_cases hc : (lexR s).2.1 = 0
 ·rw [if_neg (by simp [hc])] at hp
  have hc' : (((lexR s).2.1 : Int) != 0) = false := by rw [hc]; rfl
  rw [hc', cond_false, fill81 os.tok.cell, oBs, cells81 os.tok.cell, oBs]
  have e1003 := Ext.new (Nat.le_refl h2.size) 124 [v, .int .i64 0, .int .i64 (s.size : Int), .int .i64 0, .slice none 0 0, .int .i64 0, .int .i64 0]
  have o3 := OwnR.new h2 124 [v, .int .i64 0, .int .i64 (s.size : Int), .int .i64 0, .slice none 0 0, .int .i64 0, .int .i64 0]
  have hc : PH ⟨h2.size, v, (lexR s).1, s.size⟩ (h2.new 124 [v, .int .i64 0, .int .i64 (s.size : Int), .int .i64 0, .slice none 0 0, .int .i64 0, .int .i64 0]) st0 none :=
   ⟨.slice none 0 0, o3, os.tok.pk (PK.ext e1003 (rn := none)), .inl ⟨rfl, rfl, rfl⟩⟩
  have k3 : PK none h (h2.new 124 [v, .int .i64 0, .int .i64 (s.size : Int), .int .i64 0, .slice none 0 0, .int .i64 0, .int .i64 0]) := k2.trans (.inl rfl) (PK.ext e1003)
  have o3' := o2.ext e1003
  simp only [aNew, aNewS]
  generalize h2.new 124 [v, .int .i64 0, .int .i64 (s.size : Int), .int .i64 0, .slice none 0 0, .int .i64 0, .int .i64 0] = h3 at hc k3 o3' ⊢
  have e1004 := Ext.new (Nat.le_refl h3.size) 3 (ints [])
  have l4 := PLI.new h3 []
  rw [parse_indep 0 h2.size (.slice none 0 0) v] at hp
  have z := parse_loop (N := d + 21) (allSim _ (d + 21)).s63 (Nat.le_refl _) k3.1 (d + 21) (d + 21) [] _ _ st0 none (Nat.le_refl _) (by simpa using hD) (hc.ext e1004) l4 (o3'.ext e1004) (k3.trans (.inl rfl) (PK.ext e1004)) (.inl rfl) hp
  exact z
 ·rw [if_pos hc] at hp; cases hp
  have hc' : (((lexR s).2.1 : Int) != 0) = true := by simp [hc]
  rw [hc', cond_true]
  obtain ⟨h', a1, a2, a3, a4, a5⟩ := stE o2 (n := 2) (two35 (nv := .slice none 0 0) rfl 0) rfl rfl (by decide)
  refine ⟨h', .slice none 0 0, none, ?_, .inl ⟨rfl, rfl, rfl⟩, k2.st35 (Nat.le_refl _) a3 a4 a5, .inl rfl⟩
  have a6 : aLdN h' (ptr h.size 0) 2 = some (.agg (List.toArray [.slice none 0 0, .int .i64 0])) := by
   rw [a2.row.ldN (by show 0 + 2 ≤ 2; omega)]; rfl
  rw [a1, oBs, a6, oBs]
  rfl
end Go.Proofs.YtajpnemfppaafaaGreat
