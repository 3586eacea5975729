import Derived.Test.YtadmoackacickaaXParA
/- The parser's lists of kids: arguments. -/
set_option linter.unusedSimpArgs false
namespace Go.Proofs.Ytadmoackacickaa
open Go Go.AH

/-- A list under way: what is appended to it comes behind all that its family has. -/
def LI (h : AHeap) (v : Value) (xs : List Int) (rt : Nat) : Prop := (∃ i, v = slc i 0 xs.length ∧ OwnR h i rt 3 (ints xs)) ∧ h.tip 3 rt = xs.length
/-- As PK, but for what a list under way has behind it. -/
def PKr (rt : Nat) (rn : Option Nat) (h h' : AHeap) : Prop := h.size ≤ h'.size ∧ (∀ j o, h.at? j = some o → o.elem ≠ 81 → (o.elem = 73 → rn ≠ some o.root) → h'.at? j = some o) ∧ ∀ r, r < h.size → r ≠ rt → h'.tip 3 r = h.tip 3 r
theorem PK.pkr {rt : Nat} {rn : Option Nat} {h h' : AHeap} (x : PK rn h h') : PKr rt rn h h' := ⟨x.1, x.2.1, fun r hr _ => x.2.2 r hr⟩
theorem PKr.refl (rt : Nat) (rn : Option Nat) (h : AHeap) : PKr rt rn h h := (PK.refl rn h).pkr
theorem PKr.trans {rt : Nat} {rn rn1 : Option Nat} {h h1 h2 : AHeap} (x : PKr rt rn h h1) (r : RN rn rn1 h) (y : PKr rt rn1 h1 h2) : PKr rt rn h h2 :=
  ⟨Nat.le_trans x.1 y.1, fun j o a b c => y.2.1 j o (x.2.1 j o a b c) b (fun e => by
    rcases r with rfl | ⟨q, rfl, hq⟩
    · exact c e
    · have := at?_obj a
      intro hh
      have : q = o.root := by simpa using hh
      omega), fun q hq hne => (y.2.2 q (Nat.lt_of_lt_of_le hq x.1) hne).trans (x.2.2 q hq hne)⟩
theorem PK.behind {rt : Nat} {rn rn1 : Option Nat} {h h1 h2 : AHeap} (x : PK rn h h1) (r : RN rn rn1 h) (hr : h.size ≤ rt) (y : PKr rt rn1 h1 h2) : PK rn h h2 := by
  have z := (x.pkr (rt := rt)).trans r y
  exact ⟨z.1, z.2.1, fun q hq => z.2.2 q hq (by omega)⟩
def AK (rt : Nat) (h h' : AHeap) : Prop := h.size ≤ h'.size ∧ (∀ j o, h.at? j = some o → h'.at? j = some o) ∧ ∀ r, r < h.size → r ≠ rt → h'.tip 3 r = h.tip 3 r
theorem AK.pkr {rt : Nat} {rn : Option Nat} {h h' : AHeap} (x : AK rt h h') : PKr rt rn h h' := ⟨x.1, fun j o a _ _ => x.2.1 j o a, x.2.2⟩
theorem PH.ak {rt : Nat} {c : PC} {h h' : AHeap} {st : PSt} {rn : Option Nat} (x : PH c h st rn) (k : AK rt h h') : PH c h' st rn := by
  obtain ⟨nv, ⟨ep, a⟩, b, d⟩ := x
  refine ⟨nv, ⟨ep, k.2.1 _ _ a⟩, ?_, d.keep fun j o y _ => k.2.1 j o y⟩
  rcases b with b | ⟨i, z, o, e1, e2, e3⟩
  · exact .inl b
  · exact .inr ⟨i, z, o, k.2.1 _ _ e1, e2, e3⟩
theorem LI.new (h : AHeap) (xs : List Int) : LI (h.new 3 (ints xs)) (slc h.size 0 xs.length) xs h.size := ⟨⟨h.size, rfl, OwnR.new h 3 (ints xs)⟩, by simp [AHeap.new, ints]⟩
theorem LI.lt {h : AHeap} {v : Value} {xs : List Int} {rt : Nat} (x : LI h v xs rt) : rt < h.size := by
  obtain ⟨⟨i, _, o⟩, _⟩ := x
  have := o.lt; omega
theorem LI.pk {h h' : AHeap} {v : Value} {xs : List Int} {rt : Nat} {rn : Option Nat} (x : LI h v xs rt) (k : PK rn h h') : LI h' v xs rt := by
  have hl := x.lt
  obtain ⟨⟨i, e, o⟩, t⟩ := x
  exact ⟨⟨i, e, o.pk k (by decide) (by decide)⟩, (k.2.2 rt hl).trans t⟩
theorem LI.kid {h : AHeap} {v : Value} {xs : List Int} {rt : Nat} (x : LI h v xs rt) : KidH h v xs := let ⟨⟨i, e, o⟩, _⟩ := x; .inr ⟨i, rt, e, o⟩
theorem LI.app {h : AHeap} {v x : Value} {xs ys : List Int} {rt : Nat} (l : LI h v xs rt) (hs : aSrc h 1 x = some (ys.length, ints ys)) (h1 : xs.length + ys.length ≤ 10000000) :
    ∃ v' h', aApp h 3 1 8 v x = some (v', h') ∧ LI h' v' (xs ++ ys) rt ∧ AK rt h h' := by
  obtain ⟨⟨i, rfl, ep, ha⟩, ht⟩ := l
  have hn : xs.length * 1 = (ints xs).length := by simp [ints]
  have m1 : xs.length + ys.length ≤ most := by show _ ≤ 140737488355328; omega
  have m2 : (xs.length + ys.length) * 8 ≤ most := by show _ ≤ 140737488355328; omega
  refine ⟨slc h.size 0 (xs.length + ys.length), h.app ⟨rt, ep, false, 3, ints xs⟩ (xs.length * 1) (ints xs ++ ints ys), ?_, ⟨⟨h.size, by simp, ?_⟩, by simp [AHeap.app, ints]⟩, by show h.size ≤ h.size + 1; omega, fun j o a => at?_app_old a _ (fun _ => ?_), fun r _ hne => by simp [AHeap.app, hne]⟩
  · have hl : (ints xs).length = xs.length := by simp [ints]
    simp only [aApp, aAppG, slc, ha, hs, Option.bind_some]
    rw [if_pos ⟨trivial, trivial, by omega, m1, m2⟩, hn, List.take_length]
  · rw [show ints (xs ++ ys) = ints xs ++ ints ys by simp [ints]]
    exact ⟨_, at?_app_same ha _ _⟩
  · show ¬ xs.length * 1 < h.tip 3 rt
    omega
theorem LI.src {h : AHeap} {v : Value} {xs : List Int} {rt : Nat} (l : LI h v xs rt) : aSrc h 1 v = some (xs.length, ints xs) := by
  obtain ⟨⟨i, rfl, o⟩, _⟩ := l
  have := o.row.src (off := 0) (n := xs.length) (esz := 1) (by simp [ints])
  rw [this, List.drop_zero, show xs.length * 1 = (ints xs).length by simp [ints], List.take_length]
theorem LI.push {h : AHeap} {v : Value} {xs : List Int} {rt : Nat} (l : LI h v xs rt) (h1 : xs.length ≤ 9000000) (y : Int) :
    ∃ v' h', aApp (h.new 3 [.int .i64 y]) 3 1 8 v (slc h.size 0 1) = some (v', h') ∧ LI h' v' (xs ++ [y]) rt ∧ AK rt h h' := by
  have e := Ext.new (Nat.le_refl h.size) 3 (ints [y])
  have l1 := l.pk (PK.ext e (rn := none))
  obtain ⟨v', h', a, b, k⟩ := l1.app (ys := [y]) (LI.new h [y]).src (by simp; omega)
  exact ⟨v', h', a, b, Nat.le_trans e.size k.1, fun j o z => k.2.1 j o (e.at? (at?_obj z).2.1 z), fun r hr hne => (k.2.2 r (Nat.lt_of_lt_of_le hr e.size) hne).trans (e.tip 3 r hr)⟩
def SimL (c : PC) (D f : Nat) (m : PM) : Prop := ∀ (h : AHeap) (st : PSt) (rn : Option Nat) (l : List Int) (st' : PSt), PH c h st rn → m st = some (l, st') →
  ∃ v h' rn' rt, call Try.prog Ms D f [ptr c.p 0] h = some (v, h') ∧ PH c h' st' rn' ∧ PK rn h h' ∧ RN rn rn' h ∧ LI h' v l rt ∧ h.size ≤ rt
theorem args_loop {d N rt : Nat} {c : PC} {whole : PI} (hs : Sim c (d + 21) 110 whole) : ∀ (n m : Nat) (out : List Int) (v : Value) (h : AHeap) (st : PSt) (rn : Option Nat) (l : List Int) (st' : PSt), n ≤ m → out.length + n ≤ 1000000 → PH c h st rn → LI h v out rt → argsLoop c whole n out st = some (l, st') →
    ∃ v' h' rn', s244_0 hk0 (call Try.prog Ms (d + 21)) N m (ptr c.p 0) v h = some (v', h') ∧ PH c h' st' rn' ∧ PKr rt rn h h' ∧ RN rn rn' h ∧ LI h' v' l rt := by
  intro n
  induction n with
  | zero => intro m out v h st rn l st' _ _ _ _ hp; cases hp
  | succ n ih =>
    intro m out v h st rn l st' hm hlen x li hp
    obtain ⟨m, rfl⟩ : ∃ q, m = q + 1 := ⟨m - 1, by omega⟩
    rw [argsLoop] at hp
    obtain ⟨⟨e, s1⟩, h1, hp⟩ := bnd hp
    obtain ⟨⟨b, s2⟩, h2, hp⟩ := bnd hp
    obtain ⟨g1, r1, c1, y1, k1, n1⟩ := hs _ _ _ _ _ x h1
    obtain ⟨v2, g2, c2, l2, a2⟩ := (li.pk k1).push (by omega) e
    have y2 := y1.ak a2
    obtain ⟨g3, r3, c3, y3, k3, n3⟩ := l107 (d := d + 18) y2 h2
    have c3' : call Try.prog Ms (d + 21) 107 [ptr c.p 0, .string (⟨#[44]⟩)] g2 = _ := c3
    have l3 := l2.pk k3
    have K3 : PKr rt rn h g3 := (k1.pkr.trans n1 (a2.pkr)).trans n1 k3.pkr
    have N3 : RN rn r3 h := RN.trans (Nat.le_trans k1.1 a2.1) n1 n3
    cases b with
    | true =>
      rw [if_pos rfl] at hp
      obtain ⟨v4, g4, r4, c4, y4, k4, n4, l4⟩ := ih m (out ++ [e]) v2 g3 s2 r3 l st' (by omega) (by simp; omega) y3 l3 hp
      refine ⟨v4, g4, r4, ?_, y4, K3.trans N3 k4, RN.trans K3.1 N3 n4, l4⟩
      rw [s244_0_eq, c1, Option.bind_some]
      simp only [asI, if_true, Option.bind_some, aNewS]
      rw [c2, Option.bind_some, c3', Option.bind_some]
      simp only [asB, Option.bind_some, Bool.not_true, cond_false, c4]
    | false =>
      rw [if_neg (by simp), Option.map_eq_some_iff] at hp
      obtain ⟨s4, h4, he⟩ := hp
      cases he
      obtain ⟨g4, r4, c4, y4, k4, n4⟩ := l109 (d := d + 17) y3 h4
      have c4' : call Try.prog Ms (d + 21) 109 [ptr c.p 0, .string (⟨#[41]⟩)] g3 = _ := c4
      refine ⟨v2, g4, r4, ?_, y4, K3.trans N3 k4.pkr, RN.trans K3.1 N3 n4, l3.pk k4⟩
      rw [s244_0_eq, c1, Option.bind_some]
      simp only [asI, if_true, Option.bind_some, aNewS]
      rw [c2, Option.bind_some, c3', Option.bind_some]
      simp only [asB, Option.bind_some, Bool.not_false, cond_true]
      rw [c4', Option.bind_some]
theorem l244 {d n : Nat} {c : PC} {whole : PI} (hn : n ≤ d + 21) (hn2 : n ≤ 1000000) (hs : Sim c (d + 21) 110 whole) : SimL c (d + 22) 244 (argsP c whole n) := by
  intro h st rn l st' x hp
  obtain ⟨s1, h1, hp⟩ := bnd hp
  obtain ⟨⟨b, s2⟩, h2, hp⟩ := bnd hp
  obtain ⟨g1, r1, c1, y1, k1, n1⟩ := l109 (d := d + 17) x h1
  have c1' : call Try.prog Ms (d + 21) 109 [ptr c.p 0, .string (⟨#[40]⟩)] h = _ := c1
  have e2 := Ext.new (Nat.le_refl g1.size) 3 (ints [])
  have l2 := LI.new g1 []
  have y2 := y1.ext e2
  obtain ⟨g3, r3, c3, y3, k3, n3⟩ := l107 (d := d + 18) y2 h2
  have c3' : call Try.prog Ms (d + 21) 107 [ptr c.p 0, .string (⟨#[41]⟩)] (g1.new 3 []) = _ := c3
  have l3 := l2.pk k3
  have K3 : PK rn h g3 := (k1.trans n1 (PK.ext e2)).trans n1 k3
  have N3 : RN rn r3 h := RN.trans (Nat.le_trans k1.1 e2.size) n1 n3
  have hcall : call Try.prog Ms (d + 22) 244 [ptr c.p 0] h = evFn hk0 Try.prog (call Try.prog Ms (d + 21)) M244 (d + 21) Try.f244 [ptr c.p 0] h := c244 (d + 21) _ _
  cases b with
  | true =>
    rw [if_pos rfl] at hp; cases hp
    refine ⟨slc g1.size 0 0, g3, r3, g1.size, ?_, y3, K3, N3, l3, k1.1⟩
    rw [hcall, e244, c1', Option.bind_some]
    simp only [aNewS]
    rw [c3', Option.bind_some]
    simp only [asB, Option.bind_some, cond_true]
  | false =>
    rw [if_neg (by simp)] at hp
    obtain ⟨v4, g4, r4, c4, y4, k4, n4, l4⟩ := args_loop (N := d + 21) hs n (d + 21) [] _ g3 s2 r3 l st' hn (by simpa using hn2) y3 l3 hp
    have c4' : s244_0 hk0 (call Try.prog Ms (d + 21)) (d + 21) (d + 21) (ptr c.p 0) (slc g1.size 0 0) g3 = _ := c4
    refine ⟨v4, g4, r4, g1.size, ?_, y4, K3.behind N3 k1.1 k4, RN.trans K3.1 N3 n4, l4, k1.1⟩
    rw [hcall, e244, c1', Option.bind_some]
    simp only [aNewS]
    rw [c3', Option.bind_some]
    simp only [asB, Option.bind_some, cond_false, c4']
end Go.Proofs.Ytadmoackacickaa
/- The parser's operands: what stands behind. -/
set_option linter.unusedSimpArgs false
namespace Go.Proofs.Ytadmoackacickaa
open Go Go.AH

section
variable {d : Nat} {c : PC} {h : AHeap} {st st' : PSt} {rn : Option Nat}
theorem q155 (x : PH c h st rn) : ∃ h', call Try.prog Ms (d + 21) 155 [ptr c.p 0] h = some ((pk c st).val, h') ∧ Ext h.size h h' := l155 (d := d + 20) x
theorem q156 (x : PH c h st rn) (code : Int) : Pp c h rn (call Try.prog Ms (d + 21) 156 [ptr c.p 0, .int .i64 code] h) unit (failP c st code) := l156 (d := d + 19) x code
theorem q154 (x : PH c h st rn) (t : ByteArray) : ∃ h', call Try.prog Ms (d + 21) 154 [ptr c.p 0, .string t] h = some (.bool (isP c st t), h') ∧ Ext h.size h h' := l154 (d := d + 19) x t
theorem q107 {b : Bool} (x : PH c h st rn) {t : ByteArray} (hp : takesP c t st = some (b, st')) : Pp c h rn (call Try.prog Ms (d + 21) 107 [ptr c.p 0, .string t] h) (.bool b) st' := l107 (d := d + 18) x hp
theorem q109 (x : PH c h st rn) {t : ByteArray} (hp : wantP c t st = some st') : Pp c h rn (call Try.prog Ms (d + 21) 109 [ptr c.p 0, .string t] h) unit st' := l109 (d := d + 17) x hp
theorem q108 {t : ByteArray} (x : PH c h st rn) (hp : nameN c st = some (t, st')) : Pp c h rn (call Try.prog Ms (d + 21) 108 [ptr c.p 0] h) (.string t) st' := l108 (d := d + 18) x hp
theorem q157 (x : PH c h st rn) (hp : openP c st = some st') : Pp c h rn (call Try.prog Ms (d + 21) 157 [ptr c.p 0] h) unit st' := l157 (d := d + 18) x hp
theorem q64 {k i r : Int} {t : ByteArray} {ks : List Int} {kv : Value} (x : PH c h st rn) (hk : KidH h kv ks) (hp : nodeP k t i ks st = some (r, st')) :
    Pp c h rn (call Try.prog Ms (d + 21) 64 [ptr c.p 0, .int .i64 k, .string t, .int .i64 i, kv] h) (.int .i64 r) st' := l64 (d := d + 20) x hk hp
theorem q64nil {k i r : Int} {t : ByteArray} (x : PH c h st rn) (hp : nodeP k t i [] st = some (r, st')) :
    Pp c h rn (call Try.prog Ms (d + 21) 64 [ptr c.p 0, .int .i64 k, .string t, .int .i64 i, .slice none 0 0] h) (.int .i64 r) st' := q64 x (.inl ⟨rfl, rfl⟩) hp
theorem q64one {k i r a : Int} {t : ByteArray} (x : PH c h st rn) (hp : nodeP k t i [a] st = some (r, st')) :
    Pp c h rn (call Try.prog Ms (d + 21) 64 [ptr c.p 0, .int .i64 k, .string t, .int .i64 i, slc h.size 0 1] (h.new 3 [.int .i64 a])) (.int .i64 r) st' := nodeNew (d := d + 20) [a] x hp
theorem q64two {k i r a b : Int} {t : ByteArray} (x : PH c h st rn) (hp : nodeP k t i [a, b] st = some (r, st')) :
    Pp c h rn (call Try.prog Ms (d + 21) 64 [ptr c.p 0, .int .i64 k, .string t, .int .i64 i, slc h.size 0 2] (h.new 3 [.int .i64 a, .int .i64 b])) (.int .i64 r) st' := nodeNew (d := d + 20) [a, b] x hp
theorem q64three {k i r a b e : Int} {t : ByteArray} (x : PH c h st rn) (hp : nodeP k t i [a, b, e] st = some (r, st')) :
    Pp c h rn (call Try.prog Ms (d + 21) 64 [ptr c.p 0, .int .i64 k, .string t, .int .i64 i, slc h.size 0 3] (h.new 3 [.int .i64 a, .int .i64 b, .int .i64 e])) (.int .i64 r) st' := nodeNew (d := d + 20) [a, b, e] x hp
end
theorem behind_loop {d N : Nat} {c : PC} {whole : PI} {args : PM} (hs : Sim c (d + 21) 110 whole) (ha : SimL c (d + 21) 244 args) : ∀ (n m : Nat) (e : Int) (h : AHeap) (st : PSt) (rn : Option Nat) (q : Int) (st' : PSt), n ≤ m → PH c h st rn → behindLoop c whole args n e st = some (q, st') →
    Pp c h rn (s242_0 hk0 (call Try.prog Ms (d + 21)) N m (ptr c.p 0) e h) (.int .i64 q) st' := by
  intro n
  induction n with
  | zero => intro m e h st rn q st' _ _ hp; cases hp
  | succ n ih =>
    intro m e h st rn q st' hm x hp
    obtain ⟨m, rfl⟩ : ∃ q, m = q + 1 := ⟨m - 1, by omega⟩
    rw [behindLoop] at hp
    obtain ⟨⟨b, s1⟩, h1, hp⟩ := bnd hp
    obtain ⟨g1, r1, c1, y1, k1, n1⟩ := q107 (d := d) x h1
    refine Pp.of k1 n1 ?_
    rw [s242_0_eq, c1, Option.bind_some]
    simp only [asB, Option.bind_some]
    cases b with
    | true =>
      rw [if_pos rfl] at hp
      obtain ⟨⟨k, s2⟩, h2, hp⟩ := bnd hp
      obtain ⟨s3, h3, hp⟩ := bnd hp
      obtain ⟨⟨z, s4⟩, h4, hp⟩ := bnd hp
      obtain ⟨g2, r2, c2, y2, k2, n2⟩ := hs _ _ _ _ _ y1 h2
      obtain ⟨g3, r3, c3, y3, k3, n3⟩ := q109 (d := d) y2 h3
      obtain ⟨g4, r4, c4, y4, k4, n4⟩ := q64two (d := d) y3 h4
      refine Pp.of k2 n2 (Pp.of k3 n3 (Pp.of k4 n4 ?_))
      rw [cond_true, c2, Option.bind_some]
      simp only [asI, if_true, Option.bind_some, aNewS]
      rw [c3, Option.bind_some, c4, Option.bind_some]
      simp only [if_true, Option.bind_some]
      exact ih m z g4 s4 r4 q st' (by omega) y4 hp
    | false =>
      rw [if_neg (by simp)] at hp
      obtain ⟨⟨b2, s2⟩, h2, hp⟩ := bnd hp
      obtain ⟨g2, r2, c2, y2, k2, n2⟩ := q107 (d := d) y1 h2
      refine Pp.of k2 n2 ?_
      rw [cond_false, c2, Option.bind_some]
      simp only [Option.bind_some]
      cases b2 with
      | true =>
        rw [if_pos rfl] at hp
        obtain ⟨⟨t, s3⟩, h3, hp⟩ := bnd hp
        obtain ⟨⟨z, s4⟩, h4, hp⟩ := bnd hp
        obtain ⟨⟨z5, s5⟩, h5, hp⟩ := bnd hp
        obtain ⟨g3, r3, c3, y3, k3, n3⟩ := q108 (d := d) y2 h3
        obtain ⟨g4, r4, c4, y4, k4, n4⟩ := q64nil (d := d) y3 h4
        obtain ⟨g5, r5, c5, y5, k5, n5⟩ := q64two (d := d) y4 h5
        refine Pp.of k3 n3 (Pp.of k4 n4 (Pp.of k5 n5 ?_))
        rw [cond_true, c3, Option.bind_some]
        simp only [asS, Option.bind_some]
        rw [c4, Option.bind_some]
        simp only [asI, if_true, Option.bind_some, aNewS]
        rw [c5, Option.bind_some]
        simp only [if_true, Option.bind_some]
        exact ih m z5 g5 s5 r5 q st' (by omega) y5 hp
      | false =>
        rw [if_neg (by simp)] at hp
        obtain ⟨g3, c3, x3⟩ := q154 (d := d) y2 ⟨#[40]⟩
        have y3 := y2.ext x3
        refine Pp.ext x3 ?_
        rw [cond_false, c3, Option.bind_some]
        simp only [Option.bind_some]
        cases h3 : isP c s2 ⟨#[40]⟩ with
        | false =>
          rw [h3, if_neg (by simp)] at hp; cases hp
          rw [cond_false]
          exact ⟨g3, r2, rfl, y3, PK.refl _ _, .inl rfl⟩
        | true =>
          rw [h3, if_pos rfl] at hp
          obtain ⟨⟨l, s4⟩, h4, hp⟩ := bnd hp
          by_cases hlen : l.length > 1000000
          · rw [if_pos hlen] at hp; cases hp
          · rw [if_neg hlen] at hp
            obtain ⟨⟨z5, s5⟩, h5, hp⟩ := bnd hp
            have e4 := Ext.new (Nat.le_refl g3.size) 3 (ints [e])
            have l4 := LI.new g3 [e]
            obtain ⟨v5, g5, r5, rt, c5, y5, k5, n5, l5, hrt⟩ := ha _ _ _ _ _ (y3.ext e4) h4
            obtain ⟨v6, g6, c6, l6, k6⟩ := (l4.pk k5).app l5.src (by simp; omega)
            have K : PK r2 g3 g6 := ((PK.ext e4).trans (.inl rfl) k5).behind (RN.trans e4.size (.inl rfl) n5) (Nat.le_refl _) k6.pkr
            have y6 := y5.ak k6
            obtain ⟨g7, r7, c7, y7, k7, n7⟩ := q64 (d := d) y6 l6.kid h5
            refine Pp.of K (RN.trans e4.size (.inl rfl) n5) (Pp.of k7 n7 ?_)
            have c5' : call Try.prog Ms (d + 21) 244 [ptr c.p 0] (g3.new 3 [.int .i64 e]) = _ := c5
            have c6' : aApp g5 3 1 8 (slc g3.size 0 1) v5 = some (v6, g6) := c6
            rw [cond_true]
            simp only [aNewS]
            rw [c5', Option.bind_some]
            simp only
            rw [c6', Option.bind_some, c7, Option.bind_some]
            simp only [asI, if_true, Option.bind_some]
            exact ih m z5 g7 s5 r7 q st' (by omega) y7 hp
theorem l242 {d n : Nat} {c : PC} {prim whole : PI} {args : PM} (hn : n ≤ d + 21) (hp : Sim c (d + 21) 243 prim) (hs : Sim c (d + 21) 110 whole) (ha : SimL c (d + 21) 244 args) : Sim c (d + 22) 242 (behindP c prim whole args n) := by
  intro h st rn q st' x hp'
  obtain ⟨⟨a, s1⟩, h1, hp'⟩ := bnd hp'
  obtain ⟨g1, r1, c1, y1, k1, n1⟩ := hp _ _ _ _ _ x h1
  refine Pp.of k1 n1 ?_
  have z := behind_loop (N := d + 21) hs ha n (d + 21) a g1 s1 r1 q st' hn y1 hp'
  have hcall : call Try.prog Ms (d + 22) 242 [ptr c.p 0] h = evFn hk0 Try.prog (call Try.prog Ms (d + 21)) M242 (d + 21) Try.f242 [ptr c.p 0] h := c242 (d + 21) _ _
  rw [hcall, e242, c1, Option.bind_some]
  simp only [asI, if_true, Option.bind_some]
  exact z
end Go.Proofs.Ytadmoackacickaa
/- The parser's operands: primaries, functions, tables, fields. -/
set_option linter.unusedSimpArgs false
namespace Go.Proofs.Ytadmoackacickaa
open Go Go.AH

theorem l243 {d : Nat} {c : PC} {whole fn table : PI} (hw : Sim c (d + 21) 110 whole) (hf : Sim c (d + 21) 245 fn) (ht : Sim c (d + 21) 246 table) : Sim c (d + 22) 243 (primaryP c whole fn table) := by
  intro h st rn q st' x hp
  have hcall : call Try.prog Ms (d + 22) 243 [ptr c.p 0] h = evFn hk0 Try.prog (call Try.prog Ms (d + 21)) M243 (d + 21) Try.f243 [ptr c.p 0] h := c243 (d + 21) _ _
  obtain ⟨h2, c2, x2⟩ := q155 (d := d) x
  obtain ⟨h3, t3, x3, r3, s3⟩ := tokRow h2 (pk c st)
  have E := x2.trans (x3.mono x2.size)
  have y3 := x.ext E
  obtain ⟨b0, b1, b2, b3⟩ := ld_at r3.row
  rw [hcall, e243, c2, Option.bind_some]
  simp only [aNew]
  rw [t3, Option.bind_some]
  simp only [aOff_ptr, Nat.zero_add, Option.bind_some, b0, asI, if_true]
  unfold primaryP at hp
  refine Pp.ext E ?_
  obtain ⟨_, _, _, a1, _⟩ := y3.ld
  by_cases hk3 : (pk c st).k = 3
  · rw [if_pos hk3] at hp
    obtain ⟨s, hs, hp⟩ := bnd hp
    obtain ⟨h4, t4, y4, k4, f4⟩ := stAdv y3 hs
    have t4' : aSt h3 (ptr c.p 1) (.int .i64 (IntKind.i64.wrap ((st.at' : Int) + 1))) 1 = some h4 := t4
    have r4 : RowE h4 h2.size 53 (pk c st).cells := r3.pk k4 (by decide) (by decide)
    obtain ⟨_, _, _, d3⟩ := ld_at r4.row
    obtain ⟨g5, r5, c5, y5, k5, n5⟩ := q64nil (d := d) y4 hp
    refine Pp.of k4 (.inl rfl) ⟨g5, r5, ?_, y5, k5, n5⟩
    have : ((pk c st).k == 3) = true := by rw [hk3]; rfl
    rw [this, cond_true]
    simp only [nil_ptr, aOff_ptr, Nat.zero_add, Option.bind_some, a1, asI, if_true, t4', d3]
    rw [c5, Option.bind_some]
    simp only [if_true, Option.bind_some]
  rw [if_neg hk3] at hp
  rw [beq_eq_false_iff_ne.2 hk3, cond_false]
  by_cases hk4 : (pk c st).k = 4
  · rw [if_pos hk4] at hp
    obtain ⟨s, hs, hp⟩ := bnd hp
    obtain ⟨h4, t4, y4, k4, f4⟩ := stAdv y3 hs
    have t4' : aSt h3 (ptr c.p 1) (.int .i64 (IntKind.i64.wrap ((st.at' : Int) + 1))) 1 = some h4 := t4
    have r4 : RowE h4 h2.size 53 (pk c st).cells := r3.pk k4 (by decide) (by decide)
    obtain ⟨_, _, d2, _⟩ := ld_at r4.row
    obtain ⟨g5, r5, c5, y5, k5, n5⟩ := q64nil (d := d) y4 hp
    refine Pp.of k4 (.inl rfl) ⟨g5, r5, ?_, y5, k5, n5⟩
    have : ((pk c st).k == 4) = true := by rw [hk4]; rfl
    rw [this, cond_true]
    simp only [nil_ptr, aOff_ptr, Nat.zero_add, Option.bind_some, a1, asI, asS, if_true, t4', d2]
    rw [c5, Option.bind_some]
    simp only [if_true, Option.bind_some]
  rw [if_neg hk4] at hp
  rw [beq_eq_false_iff_ne.2 hk4, cond_false]
  by_cases hk1 : (pk c st).k = 1
  · rw [if_pos hk1] at hp
    obtain ⟨s, hs, hp⟩ := bnd hp
    obtain ⟨h4, t4, y4, k4, f4⟩ := stAdv y3 hs
    have t4' : aSt h3 (ptr c.p 1) (.int .i64 (IntKind.i64.wrap ((st.at' : Int) + 1))) 1 = some h4 := t4
    have r4 : RowE h4 h2.size 53 (pk c st).cells := r3.pk k4 (by decide) (by decide)
    obtain ⟨_, _, d2, _⟩ := ld_at r4.row
    obtain ⟨g5, r5, c5, y5, k5, n5⟩ := q64nil (d := d) y4 hp
    refine Pp.of k4 (.inl rfl) ⟨g5, r5, ?_, y5, k5, n5⟩
    have : ((pk c st).k == 1) = true := by rw [hk1]; rfl
    rw [this, cond_true]
    simp only [nil_ptr, aOff_ptr, Nat.zero_add, Option.bind_some, a1, asI, asS, if_true, t4', d2]
    rw [c5, Option.bind_some]
    simp only [if_true, Option.bind_some]
  rw [if_neg hk1] at hp
  rw [beq_eq_false_iff_ne.2 hk1, cond_false]
  obtain ⟨⟨b4, s4⟩, h4, hp⟩ := bnd hp
  obtain ⟨g4, r4, c4, y4, k4, n4⟩ := q107 (d := d) y3 h4
  refine Pp.of k4 n4 ?_
  rw [c4, Option.bind_some]
  simp only [asB, Option.bind_some]
  cases b4 with
  | true =>
    rw [if_pos rfl] at hp
    obtain ⟨g5, r5, c5, y5, k5, n5⟩ := q64nil (d := d) y4 hp
    refine ⟨g5, r5, ?_, y5, k5, n5⟩
    rw [cond_true, c5, Option.bind_some]
    simp only [if_true, Option.bind_some]
  | false =>
  rw [if_neg (by simp)] at hp
  obtain ⟨⟨b5, s5⟩, h5, hp⟩ := bnd hp
  obtain ⟨g5, r5, c5, y5, k5, n5⟩ := q107 (d := d) y4 h5
  refine Pp.of k5 n5 ?_
  rw [cond_false, c5, Option.bind_some]
  simp only [Option.bind_some]
  cases b5 with
  | true =>
    rw [if_pos rfl] at hp
    obtain ⟨g6, r6, c6, y6, k6, n6⟩ := q64nil (d := d) y5 hp
    refine ⟨g6, r6, ?_, y6, k6, n6⟩
    rw [cond_true, c6, Option.bind_some]
    simp only [if_true, Option.bind_some]
  | false =>
  rw [if_neg (by simp)] at hp
  obtain ⟨⟨b6, s6⟩, h6, hp⟩ := bnd hp
  obtain ⟨g6, r6, c6, y6, k6, n6⟩ := q107 (d := d) y5 h6
  refine Pp.of k6 n6 ?_
  rw [cond_false, c6, Option.bind_some]
  simp only [Option.bind_some]
  cases b6 with
  | true =>
    rw [if_pos rfl] at hp
    obtain ⟨g7, r7, c7, y7, k7, n7⟩ := q64nil (d := d) y6 hp
    refine ⟨g7, r7, ?_, y7, k7, n7⟩
    rw [cond_true, c7, Option.bind_some]
    simp only [if_true, Option.bind_some]
  | false =>
  rw [if_neg (by simp)] at hp
  obtain ⟨⟨b7, s7⟩, h7, hp⟩ := bnd hp
  obtain ⟨g7, r7, c7, y7, k7, n7⟩ := q107 (d := d) y6 h7
  refine Pp.of k7 n7 ?_
  rw [cond_false, c7, Option.bind_some]
  simp only [Option.bind_some]
  cases b7 with
  | true =>
    rw [if_pos rfl] at hp
    obtain ⟨⟨e, s8⟩, h8, hp⟩ := bnd hp
    rw [Option.map_eq_some_iff] at hp
    obtain ⟨s9, h9, he⟩ := hp
    cases he
    obtain ⟨g8, r8, c8, y8, k8, n8⟩ := hw _ _ _ _ _ y7 h8
    obtain ⟨g9, r9, c9, y9, k9, n9⟩ := q109 (d := d) y8 h9
    refine Pp.of k8 n8 ⟨g9, r9, ?_, y9, k9, n9⟩
    rw [cond_true, c8, Option.bind_some]
    simp only [if_true, Option.bind_some]
    rw [c9, Option.bind_some]
  | false =>
  rw [if_neg (by simp)] at hp
  obtain ⟨⟨b8, s8⟩, h8, hp⟩ := bnd hp
  obtain ⟨g8, r8, c8, y8, k8, n8⟩ := q107 (d := d) y7 h8
  refine Pp.of k8 n8 ?_
  rw [cond_false, c8, Option.bind_some]
  simp only [Option.bind_some]
  cases b8 with
  | true =>
    rw [if_pos rfl] at hp
    obtain ⟨g9, r9, c9, y9, k9, n9⟩ := hf _ _ _ _ _ y8 hp
    refine ⟨g9, r9, ?_, y9, k9, n9⟩
    rw [cond_true, c9, Option.bind_some]
    simp only [if_true, Option.bind_some]
  | false =>
  rw [if_neg (by simp)] at hp
  obtain ⟨g9, c9, x9⟩ := q154 (d := d) y8 ⟨#[123]⟩
  have y9 := y8.ext x9
  refine Pp.ext x9 ?_
  rw [cond_false, c9, Option.bind_some]
  simp only [Option.bind_some]
  cases h9 : isP c s8 ⟨#[123]⟩ with
  | true =>
    rw [h9, if_pos rfl] at hp
    obtain ⟨g10, r10, c10, y10, k10, n10⟩ := ht _ _ _ _ _ y9 hp
    refine ⟨g10, r10, ?_, y10, k10, n10⟩
    rw [cond_true, c10, Option.bind_some]
    simp only [if_true, Option.bind_some]
  | false =>
    rw [h9, if_neg (by simp)] at hp; cases hp
    obtain ⟨g10, r10, c10, y10, k10, n10⟩ := q156 (d := d) y9 2
    refine ⟨g10, r10, ?_, y10, k10, n10⟩
    rw [cond_false, c10, Option.bind_some]
/-- After a list's items: as KidH. -/
theorem fn_tail {d : Nat} {c : PC} {block : PI} (hb : Sim c (d + 21) 111 block) {rt : Nat} {out : List Int} {v : Value} {h : AHeap} {st : PSt} {rn : Option Nat} {q : Int} {st' : PSt} (hlen : out.length ≤ 1000000) (x : PH c h st rn) (li : LI h v out rt)
    (hp : ((block st).bind fun b => nodeP 6 E0 0 (out ++ [b.1]) b.2) = some (q, st')) :
    ∃ h' rn', s245_1 hk0 (call Try.prog Ms (d + 21)) (d + 21) (ptr c.p 0) v h = some (.int .i64 q, h') ∧ PH c h' st' rn' ∧ PKr rt rn h h' ∧ RN rn rn' h := by
  obtain ⟨⟨b, s1⟩, h1, hp⟩ := bnd hp
  obtain ⟨g1, r1, c1, y1, k1, n1⟩ := hb _ _ _ _ _ x h1
  obtain ⟨v2, g2, c2, l2, a2⟩ := (li.pk k1).push (by omega) b
  obtain ⟨g3, r3, c3, y3, k3, n3⟩ := q64 (d := d) (y1.ak a2) l2.kid hp
  refine ⟨g3, r3, ?_, y3, (k1.pkr.trans n1 a2.pkr).trans n1 k3.pkr, RN.trans (Nat.le_trans k1.1 a2.1) n1 n3⟩
  rw [s245_1_j, s245_1_eq, c1, Option.bind_some]
  simp only [asI, if_true, Option.bind_some, aNewS]
  rw [c2, Option.bind_some, c3, Option.bind_some]
  simp only [if_true, Option.bind_some]
theorem fn_loop {d rt : Nat} {c : PC} {block : PI} (hb : Sim c (d + 21) 111 block) {q : Int} {st' : PSt} : ∀ (n m : Nat) (out : List Int) (v : Value) (h : AHeap) (st : PSt) (rn : Option Nat), n ≤ m → out.length + n ≤ 1000000 → PH c h st rn → LI h v out rt →
    ((fnLoop c n out st).bind fun l => (block l.2).bind fun b => nodeP 6 E0 0 (l.1 ++ [b.1]) b.2) = some (q, st') →
    ∃ h' rn', s245_0 hk0 (call Try.prog Ms (d + 21)) (d + 21) m (ptr c.p 0) v h = some (.int .i64 q, h') ∧ PH c h' st' rn' ∧ PKr rt rn h h' ∧ RN rn rn' h := by
  intro n
  induction n with
  | zero => intro m out v h st rn _ _ _ _ hp; cases hp
  | succ n ih =>
    intro m out v h st rn hm hlen x li hp
    obtain ⟨m, rfl⟩ : ∃ q, m = q + 1 := ⟨m - 1, by omega⟩
    obtain ⟨⟨l, sl⟩, hl, hp⟩ := bnd hp
    rw [fnLoop] at hl
    obtain ⟨⟨t, s0⟩, h0, hl⟩ := bnd hl
    obtain ⟨⟨e, s1⟩, h1, hl⟩ := bnd hl
    obtain ⟨⟨b, s2⟩, h2, hl⟩ := bnd hl
    obtain ⟨g0, r0, c0, y0, k0, n0⟩ := q108 (d := d) x h0
    obtain ⟨g1, r1, c1, y1, k1, n1⟩ := q64nil (d := d) y0 h1
    have K1 := k0.trans n0 k1
    have N1 := RN.trans k0.1 n0 n1
    obtain ⟨v2, g2, c2, l2, a2⟩ := (li.pk K1).push (by omega) e
    have y2 := y1.ak a2
    obtain ⟨g3, r3, c3, y3, k3, n3⟩ := q107 (d := d) y2 h2
    have l3 := l2.pk k3
    have K3 : PKr rt rn h g3 := (K1.pkr.trans N1 (a2.pkr)).trans N1 k3.pkr
    have N3 : RN rn r3 h := RN.trans (Nat.le_trans K1.1 a2.1) N1 n3
    cases b with
    | true =>
      rw [if_pos rfl] at hl
      obtain ⟨g4, r4, c4, y4, k4, n4⟩ := ih m (out ++ [e]) v2 g3 s2 r3 (by omega) (by simp; omega) y3 l3 (by rw [hl]; exact hp)
      refine ⟨g4, r4, ?_, y4, K3.trans N3 k4, RN.trans K3.1 N3 n4⟩
      rw [s245_0_eq, c0, Option.bind_some]
      simp only [asS, Option.bind_some]
      rw [c1, Option.bind_some]
      simp only [asI, if_true, Option.bind_some, aNewS]
      rw [c2, Option.bind_some, c3, Option.bind_some]
      simp only [asB, Option.bind_some, Bool.not_true, cond_false, c4]
    | false =>
      rw [if_neg (by simp), Option.map_eq_some_iff] at hl
      obtain ⟨s4, h4, he⟩ := hl
      cases he
      obtain ⟨g4, r4, c4, y4, k4, n4⟩ := q109 (d := d) y3 h4
      obtain ⟨g5, r5, c5, y5, k5, n5⟩ := fn_tail hb (by simp; omega) y4 (l3.pk k4) hp
      refine ⟨g5, r5, ?_, y5, (K3.trans N3 k4.pkr).trans (RN.trans K3.1 N3 n4) k5, RN.trans (Nat.le_trans K3.1 k4.1) (RN.trans K3.1 N3 n4) n5⟩
      rw [s245_0_eq, c0, Option.bind_some]
      simp only [asS, Option.bind_some]
      rw [c1, Option.bind_some]
      simp only [asI, if_true, Option.bind_some, aNewS]
      rw [c2, Option.bind_some, c3, Option.bind_some]
      simp only [asB, Option.bind_some, Bool.not_false, cond_true]
      rw [c4, Option.bind_some]
      simp only [c5]
theorem l245 {d n : Nat} {c : PC} {block : PI} (hn : n ≤ d + 21) (hn2 : n ≤ 1000000) (hb : Sim c (d + 21) 111 block) : Sim c (d + 22) 245 (fnP c block n) := by
  intro h st rn q st' x hp
  obtain ⟨s1, h1, hp⟩ := bnd hp
  obtain ⟨⟨b, s2⟩, h2, hp⟩ := bnd hp
  obtain ⟨g1, r1, c1, y1, k1, n1⟩ := q109 (d := d) x h1
  have e2 := Ext.new (Nat.le_refl g1.size) 3 (ints [])
  have l2 := LI.new g1 []
  have y2 := y1.ext e2
  obtain ⟨g3, r3, c3, y3, k3, n3⟩ := q107 (d := d) y2 h2
  have c3' : call Try.prog Ms (d + 21) 107 [ptr c.p 0, .string (⟨#[41]⟩)] (g1.new 3 []) = _ := c3
  have l3 := l2.pk k3
  have K3 : PK rn h g3 := (k1.trans n1 (PK.ext e2)).trans n1 k3
  have N3 : RN rn r3 h := RN.trans (Nat.le_trans k1.1 e2.size) n1 n3
  have hcall : call Try.prog Ms (d + 22) 245 [ptr c.p 0] h = evFn hk0 Try.prog (call Try.prog Ms (d + 21)) M245 (d + 21) Try.f245 [ptr c.p 0] h := c245 (d + 21) _ _
  cases b with
  | true =>
    rw [if_pos rfl] at hp
    obtain ⟨g4, r4, c4, y4, k4, n4⟩ := fn_tail hb (by simp) y3 l3 hp
    have c4' : s245_1 hk0 (call Try.prog Ms (d + 21)) (d + 21) (ptr c.p 0) (slc g1.size 0 0) g3 = _ := c4
    refine ⟨g4, r4, ?_, y4, K3.behind N3 k1.1 k4, RN.trans K3.1 N3 n4⟩
    rw [hcall, e245, c1, Option.bind_some]
    simp only [aNewS]
    rw [c3', Option.bind_some]
    simp only [asB, Option.bind_some, Bool.not_true, cond_false, c4']
  | false =>
    rw [if_neg (by simp)] at hp
    obtain ⟨g4, r4, c4, y4, k4, n4⟩ := fn_loop hb n (d + 21) [] _ g3 s2 r3 hn (by simpa using hn2) y3 l3 hp
    have c4' : s245_0 hk0 (call Try.prog Ms (d + 21)) (d + 21) (d + 21) (ptr c.p 0) (slc g1.size 0 0) g3 = _ := c4
    refine ⟨g4, r4, ?_, y4, K3.behind N3 k1.1 k4, RN.trans K3.1 N3 n4⟩
    rw [hcall, e245, c1, Option.bind_some]
    simp only [aNewS]
    rw [c3', Option.bind_some]
    simp only [asB, Option.bind_some, Bool.not_false, cond_true, c4']
theorem table_loop {d rt : Nat} {c : PC} {field : PI} (hb : Sim c (d + 21) 247 field) {q : Int} {st' : PSt} : ∀ (n m : Nat) (out : List Int) (v : Value) (h : AHeap) (st : PSt) (rn : Option Nat), n ≤ m → out.length + n ≤ 1000000 → PH c h st rn → LI h v out rt →
    ((tableLoop c field n out st).bind fun l => nodeP 7 E0 0 l.1 l.2) = some (q, st') →
    ∃ h' rn', s246_0 hk0 (call Try.prog Ms (d + 21)) (d + 21) m (ptr c.p 0) v h = some (.int .i64 q, h') ∧ PH c h' st' rn' ∧ PKr rt rn h h' ∧ RN rn rn' h := by
  intro n
  induction n with
  | zero => intro m out v h st rn _ _ _ _ hp; cases hp
  | succ n ih =>
    intro m out v h st rn hm hlen x li hp
    obtain ⟨m, rfl⟩ : ∃ q, m = q + 1 := ⟨m - 1, by omega⟩
    obtain ⟨⟨l, sl⟩, hl, hp⟩ := bnd hp
    rw [tableLoop] at hl
    obtain ⟨⟨e, s1⟩, h1, hl⟩ := bnd hl
    obtain ⟨⟨b, s2⟩, h2, hl⟩ := bnd hl
    obtain ⟨g1, r1, c1, y1, k1, n1⟩ := hb _ _ _ _ _ x h1
    obtain ⟨v2, g2, c2, l2, a2⟩ := (li.pk k1).push (by omega) e
    have y2 := y1.ak a2
    obtain ⟨g3, r3, c3, y3, k3, n3⟩ := q107 (d := d) y2 h2
    have l3 := l2.pk k3
    have K3 : PKr rt rn h g3 := (k1.pkr.trans n1 (a2.pkr)).trans n1 k3.pkr
    have N3 : RN rn r3 h := RN.trans (Nat.le_trans k1.1 a2.1) n1 n3
    cases b with
    | true =>
      rw [if_pos rfl] at hl
      obtain ⟨g4, r4, c4, y4, k4, n4⟩ := ih m (out ++ [e]) v2 g3 s2 r3 (by omega) (by simp; omega) y3 l3 (by rw [hl]; exact hp)
      refine ⟨g4, r4, ?_, y4, K3.trans N3 k4, RN.trans K3.1 N3 n4⟩
      rw [s246_0_eq, c1, Option.bind_some]
      simp only [asI, if_true, Option.bind_some, aNewS]
      rw [c2, Option.bind_some, c3, Option.bind_some]
      simp only [asB, Option.bind_some, Bool.not_true, cond_false, c4]
    | false =>
      rw [if_neg (by simp), Option.map_eq_some_iff] at hl
      obtain ⟨s4, h4, he⟩ := hl
      cases he
      obtain ⟨g4, r4, c4, y4, k4, n4⟩ := q109 (d := d) y3 h4
      obtain ⟨g5, r5, c5, y5, k5, n5⟩ := q64 (d := d) y4 (l3.pk k4).kid hp
      refine ⟨g5, r5, ?_, y5, (K3.trans N3 k4.pkr).trans (RN.trans K3.1 N3 n4) k5.pkr, RN.trans (Nat.le_trans K3.1 k4.1) (RN.trans K3.1 N3 n4) n5⟩
      rw [s246_0_eq, c1, Option.bind_some]
      simp only [asI, if_true, Option.bind_some, aNewS]
      rw [c2, Option.bind_some, c3, Option.bind_some]
      simp only [asB, Option.bind_some, Bool.not_false, cond_true]
      rw [c4, Option.bind_some]
      simp only
      rw [c5, Option.bind_some]
      simp only [if_true, Option.bind_some]
theorem l246 {d n : Nat} {c : PC} {field : PI} (hn : n ≤ d + 21) (hn2 : n ≤ 1000000) (hb : Sim c (d + 21) 247 field) : Sim c (d + 22) 246 (tableP c field n) := by
  intro h st rn q st' x hp
  obtain ⟨s1, h1, hp⟩ := bnd hp
  obtain ⟨⟨b, s2⟩, h2, hp⟩ := bnd hp
  obtain ⟨g1, r1, c1, y1, k1, n1⟩ := q109 (d := d) x h1
  have e2 := Ext.new (Nat.le_refl g1.size) 3 (ints [])
  have l2 := LI.new g1 []
  have y2 := y1.ext e2
  obtain ⟨g3, r3, c3, y3, k3, n3⟩ := q107 (d := d) y2 h2
  have c3' : call Try.prog Ms (d + 21) 107 [ptr c.p 0, .string (⟨#[125]⟩)] (g1.new 3 []) = _ := c3
  have l3 := l2.pk k3
  have K3 : PK rn h g3 := (k1.trans n1 (PK.ext e2)).trans n1 k3
  have N3 : RN rn r3 h := RN.trans (Nat.le_trans k1.1 e2.size) n1 n3
  have hcall : call Try.prog Ms (d + 22) 246 [ptr c.p 0] h = evFn hk0 Try.prog (call Try.prog Ms (d + 21)) M246 (d + 21) Try.f246 [ptr c.p 0] h := c246 (d + 21) _ _
  cases b with
  | true =>
    rw [if_pos rfl] at hp
    obtain ⟨g4, r4, c4, y4, k4, n4⟩ := q64 (d := d) y3 l3.kid hp
    have c4' : call Try.prog Ms (d + 21) 64 [ptr c.p 0, .int .i64 7, .string ⟨#[]⟩, .int .i64 0, slc g1.size 0 0] g3 = _ := c4
    refine ⟨g4, r4, ?_, y4, K3.trans N3 k4, RN.trans K3.1 N3 n4⟩
    rw [hcall, e246, c1, Option.bind_some]
    simp only [aNewS]
    rw [c3', Option.bind_some]
    simp only [asB, Option.bind_some, Bool.not_true, cond_false]
    rw [c4', Option.bind_some]
    simp only [asI, if_true, Option.bind_some]
  | false =>
    rw [if_neg (by simp)] at hp
    obtain ⟨g4, r4, c4, y4, k4, n4⟩ := table_loop hb n (d + 21) [] _ g3 s2 r3 hn (by simpa using hn2) y3 l3 hp
    have c4' : s246_0 hk0 (call Try.prog Ms (d + 21)) (d + 21) (d + 21) (ptr c.p 0) (slc g1.size 0 0) g3 = _ := c4
    refine ⟨g4, r4, ?_, y4, K3.behind N3 k1.1 k4, RN.trans K3.1 N3 n4⟩
    rw [hcall, e246, c1, Option.bind_some]
    simp only [aNewS]
    rw [c3', Option.bind_some]
    simp only [asB, Option.bind_some, Bool.not_false, cond_true, c4']
end Go.Proofs.Ytadmoackacickaa
/- The parser: fields. -/
set_option linter.unusedSimpArgs false
namespace Go.Proofs.Ytadmoackacickaa
open Go Go.AH

theorem flat_one {ts : List Tok} {j : Nat} (hj : j < ts.length) {q : Nat} (hq : q < 4) : (flat ts)[j * 4 + q]? = ts[j].cells[q]? := by
  rw [← flat_at ts j hj, List.getElem?_take, if_pos hq, List.getElem?_drop]
theorem TokH.one {h : AHeap} {v : Value} {ts : List Tok} (x : TokH h v ts) {j : Nat} (hj : j < ts.length) : ∃ i, aIdx v (.int .i64 (j : Int)) 4 = some (ptr i (j * 4)) ∧ aLd1 h (ptr i (j * 4)) = some (.int .i64 ts[j].k) ∧ aLd1 h (ptr i (j * 4 + 2)) = some (.string ts[j].text) := by
  rcases x with ⟨rfl, rfl⟩ | ⟨i, rfl, hr⟩
  · simp at hj
  · refine ⟨i, by simp [aIdx, slc, hj], hr.row.ld1 (by rw [show j * 4 = j * 4 + 0 by omega, flat_one hj (by omega)]; rfl), hr.row.ld1 (by rw [flat_one hj (by omega)]; rfl)⟩
/-- The last step of a function that gives back a node. -/
theorem l247 {d : Nat} {c : PC} {whole : PI} (hw : Sim c (d + 21) 110 whole) : Sim c (d + 22) 247 (fieldP c whole) := by
  intro h st rn q st' x hp
  have hcall : call Try.prog Ms (d + 22) 247 [ptr c.p 0] h = evFn hk0 Try.prog (call Try.prog Ms (d + 21)) M247 (d + 21) Try.f247 [ptr c.p 0] h := c247 (d + 21) _ _
  obtain ⟨⟨b, s1⟩, h1, hp⟩ := bnd hp
  obtain ⟨g1, r1, c1, y1, k1, n1⟩ := q107 (d := d) x h1
  refine Pp.of k1 n1 ?_
  rw [hcall, e247, c1, Option.bind_some]
  simp only [asB, Option.bind_some]
  cases b with
  | true =>
    rw [if_pos rfl] at hp
    obtain ⟨⟨k, s2⟩, h2, hp⟩ := bnd hp
    obtain ⟨s3, h3, hp⟩ := bnd hp
    obtain ⟨s4, h4, hp⟩ := bnd hp
    obtain ⟨⟨e, s5⟩, h5, hp⟩ := bnd hp
    obtain ⟨g2, r2, c2, y2, k2, n2⟩ := hw _ _ _ _ _ y1 h2
    obtain ⟨g3, r3, c3, y3, k3, n3⟩ := q109 (d := d) y2 h3
    obtain ⟨g4, r4, c4, y4, k4, n4⟩ := q109 (d := d) y3 h4
    obtain ⟨g5, r5, c5, y5, k5, n5⟩ := hw _ _ _ _ _ y4 h5
    obtain ⟨g6, r6, c6, y6, k6, n6⟩ := q64two (d := d) y5 hp
    refine Pp.of k2 n2 (Pp.of k3 n3 (Pp.of k4 n4 (Pp.of k5 n5 ⟨g6, r6, ?_, y6, k6, n6⟩)))
    rw [cond_true, c2, Option.bind_some]
    simp only [asI, if_true, Option.bind_some]
    rw [c3, Option.bind_some, c4, Option.bind_some, c5, Option.bind_some]
    simp only [asI, if_true, Option.bind_some, aNewS]
    rw [c6, Option.bind_some]
    simp only [if_true, Option.bind_some]
  | false =>
    rw [if_neg (by simp)] at hp
    by_cases hat : s1.at' > 1000000
    · rw [if_pos hat] at hp; cases hp
    rw [if_neg hat] at hp
    obtain ⟨g2, c2, x2⟩ := q155 (d := d) y1
    obtain ⟨g3, t3, x3, r3, s3⟩ := tokRow g2 (pk c s1)
    have E := x2.trans (x3.mono x2.size)
    have y3 := y1.ext E
    obtain ⟨b0, _, b2, _⟩ := ld_at r3.row
    obtain ⟨nv3, _, tk3, _⟩ := id y3
    obtain ⟨_, _, a0, a1, _⟩ := y3.ld
    refine Pp.ext E ?_
    rw [cond_false, c2, Option.bind_some]
    simp only [aNew]
    rw [t3, Option.bind_some]
    simp only [aOff_ptr, Nat.zero_add, Option.bind_some, b0, asI, if_true]
    have fin1 : ((whole s1).bind fun e => nodeP 23 E0 0 [e.1] e.2) = some (q, st') → Pp c g3 r1 (s247_1 hk0 (call Try.prog Ms (d + 21)) (d + 21) (ptr c.p 0) g3) (.int .i64 q) st' := fun hp => by
      obtain ⟨⟨e, s5⟩, h5, hp⟩ := bnd hp
      obtain ⟨g5, r5, c5, y5, k5, n5⟩ := hw _ _ _ _ _ y3 h5
      obtain ⟨g6, r6, c6, y6, k6, n6⟩ := q64one (d := d) y5 hp
      refine Pp.of k5 n5 ⟨g6, r6, ?_, y6, k6, n6⟩
      rw [s247_1_j, s247_1_eq, c5, Option.bind_some]
      simp only [asI, if_true, Option.bind_some, aNewS]
      rw [c6, Option.bind_some]
      simp only [if_true, Option.bind_some]
    have fin0 : ((whole s1).bind fun e => nodeP 23 E0 0 [e.1] e.2) = some (q, st') → Pp c g3 r1 (s247_0 hk0 (call Try.prog Ms (d + 21)) (d + 21) (ptr c.p 0) (ptr g2.size 0) false g3) (.int .i64 q) st' := fun hp => by
      rw [s247_0_j, s247_0_eq, cond_false]; exact fin1 hp
    by_cases hk : (pk c s1).k = 1
    · have hk' : ((pk c s1).k == 1) = true := by rw [hk]; rfl
      rw [hk', Bool.true_and] at hp
      rw [hk', cond_true]
      simp only [nil_ptr, aOff_ptr, Nat.zero_add, Option.bind_some, a0, a1, asI, if_true, tk3.len]
      have w1 : IntKind.i64.wrap ((s1.at' : Int) + 1) = ((s1.at' + 1 : Nat) : Int) := by rw [wr (by omega) (by omega)]; omega
      rw [w1]
      unfold eqNext at hp
      by_cases hlt : s1.at' + 1 < c.toks.length
      · have hI : (((s1.at' + 1 : Nat) : Int) < (c.toks.length : Int)) := by omega
        rw [List.getElem?_eq_getElem hlt] at hp
        simp only at hp
        obtain ⟨i, u1, u2, u3⟩ := tk3.one hlt
        rw [decide_eq_true hI, cond_true]
        simp only [u1, aOff_ptr, Nat.add_zero, Option.bind_some, u2, asI, if_true]
        by_cases h5 : (c.toks[s1.at' + 1]).k = 5
        · have h5' : ((c.toks[s1.at' + 1]).k == 5) = true := by rw [h5]; rfl
          rw [h5', Bool.true_and] at hp
          rw [h5', cond_true]
          simp only [u1, u3, asS, aOff_ptr, Nat.add_zero, Option.bind_some]
          cases hq : ((c.toks[s1.at' + 1]).text.toList == (⟨#[61]⟩ : ByteArray).toList) with
          | false =>
            rw [hq, if_neg (by simp)] at hp
            exact fin0 hp
          | true =>
            rw [hq, if_pos rfl] at hp
            obtain ⟨s2, h2, hp⟩ := bnd hp
            obtain ⟨⟨k, s4⟩, h4, hp⟩ := bnd hp
            obtain ⟨⟨e, s5⟩, h5, hp⟩ := bnd hp
            obtain ⟨g4, t4, y4, k4, f4⟩ := stAdv y3 h2
            have t4' : aSt g3 (ptr c.p 1) (.int .i64 (IntKind.i64.wrap ((s1.at' : Int) + 2))) 1 = some g4 := t4
            have r4 : RowE g4 g2.size 53 (pk c s1).cells := r3.pk k4 (by decide) (by decide)
            obtain ⟨_, _, d2, _⟩ := ld_at r4.row
            obtain ⟨g5, r5, c5, y5, k5, n5⟩ := q64nil (d := d) y4 h4
            obtain ⟨g6, r6, c6, y6, k6, n6⟩ := hw _ _ _ _ _ y5 h5
            obtain ⟨g7, r7, c7, y7, k7, n7⟩ := q64two (d := d) y6 hp
            refine Pp.of k4 (.inl rfl) (Pp.of k5 n5 (Pp.of k6 n6 ⟨g7, r7, ?_, y7, k7, n7⟩))
            rw [s247_0_j, s247_0_eq, cond_true]
            simp only [nil_ptr, aOff_ptr, Nat.zero_add, Option.bind_some, a1, asI, asS, if_true, t4', d2]
            rw [c5, Option.bind_some]
            simp only [if_true, Option.bind_some]
            rw [c6, Option.bind_some]
            simp only [if_true, Option.bind_some, aNewS]
            rw [c7, Option.bind_some]
            simp only [if_true, Option.bind_some]
        · rw [beq_eq_false_iff_ne.2 h5, Bool.false_and, if_neg (by simp)] at hp
          rw [beq_eq_false_iff_ne.2 h5, cond_false]
          exact fin0 hp
      · have hI : ¬ (((s1.at' + 1 : Nat) : Int) < (c.toks.length : Int)) := by omega
        rw [List.getElem?_eq_none (by show c.toks.length ≤ s1.at' + 1; omega)] at hp
        simp only at hp
        rw [if_neg (by simp)] at hp
        rw [decide_eq_false hI, cond_false]
        exact fin0 hp
    · rw [beq_eq_false_iff_ne.2 hk, Bool.false_and, if_neg (by simp)] at hp
      rw [beq_eq_false_iff_ne.2 hk, cond_false]
      exact fin0 hp
end Go.Proofs.Ytadmoackacickaa
/- The parser: blocks and statements. -/
set_option linter.unusedSimpArgs false
namespace Go.Proofs.Ytadmoackacickaa
open Go Go.AH

theorem block_loop {d rt : Nat} {c : PC} {stmt : PI} (hb : Sim c (d + 21) 63 stmt) {q : Int} {st' : PSt} : ∀ (n m : Nat) (out : List Int) (v : Value) (h : AHeap) (st : PSt) (rn : Option Nat), n ≤ m → out.length + n ≤ 1000000 → PH c h st rn → LI h v out rt →
    ((blockLoop c stmt n out st).bind fun l => (wantP c ⟨#[125]⟩ l.2).bind fun s3 => (nestTo (-1) s3).bind fun s4 => nodeP 21 E0 0 l.1 s4) = some (q, st') →
    ∃ h' rn', s111_0 hk0 (call Try.prog Ms (d + 21)) (d + 21) m (ptr c.p 0) v h = some (.int .i64 q, h') ∧ PH c h' st' rn' ∧ PKr rt rn h h' ∧ RN rn rn' h := by
  intro n
  induction n with
  | zero => intro m out v h st rn _ _ _ _ hp; cases hp
  | succ n ih =>
    intro m out v h st rn hm hlen x li hp
    obtain ⟨m, rfl⟩ : ∃ q, m = q + 1 := ⟨m - 1, by omega⟩
    obtain ⟨⟨l, sl⟩, hl, hq⟩ := bnd hp
    clear hp
    rw [blockLoop] at hl
    obtain ⟨_, _, _, _, _, _, _, a5, _⟩ := x.ld
    rw [s111_0_eq]
    simp only [nil_ptr, aOff_ptr, Nat.zero_add, Option.bind_some, a5]
    rw [show asI .i64 (Value.int .i64 st.code) = some st.code from rfl, Option.bind_some]
    have fin : ∀ (g : AHeap), PH c g st rn → LI g v out rt → l = out → sl = st → ∃ h' rn', ((call Try.prog Ms (d + 21) 109 [ptr c.p 0, .string ⟨#[125]⟩] g).bind fun r21 => (aLd1 r21.2 (ptr c.p 3)).bind fun v24 => (asI .i64 v24).bind fun n25 => (aSt r21.2 (ptr c.p 3) (.int .i64 (IntKind.i64.wrap (n25 - 1))) 1).bind fun h28 => (call Try.prog Ms (d + 21) 64 [ptr c.p 0, .int .i64 21, .string ⟨#[]⟩, .int .i64 0, v] h28).bind fun r29 => (asI .i64 r29.1).bind fun n30 => some (Value.int .i64 n30, r29.2)) = some (Value.int .i64 q, h') ∧ PH c h' st' rn' ∧ PKr rt rn g h' ∧ RN rn rn' g := fun g y lg e1 e2 => by
      subst e1 e2
      obtain ⟨s3, h3, hp⟩ := bnd hq
      obtain ⟨s4, h4, hp⟩ := bnd hp
      obtain ⟨g3, r3, c3, y3, k3, n3⟩ := q109 (d := d) y h3
      obtain ⟨_, _, _, _, _, b3, _⟩ := y3.ld
      obtain ⟨g4, t4, y4, k4, _⟩ := stNest y3 h4
      have t4' : aSt g3 (ptr c.p 3) (.int .i64 (IntKind.i64.wrap (s3.nest - 1))) 1 = some g4 := t4
      obtain ⟨g5, r5, c5, y5, k5, n5⟩ := q64 (d := d) y4 ((lg.pk k3).pk k4).kid hp
      have c5' : call Try.prog Ms (d + 21) 64 [ptr c.p 0, .int .i64 21, .string ⟨#[]⟩, .int .i64 0, v] g4 = _ := c5
      refine ⟨g5, r5, ?_, y5, (((k3.trans n3 k4).trans n3 k5)).pkr, RN.trans (Nat.le_trans k3.1 k4.1) n3 n5⟩
      rw [c3, Option.bind_some]
      simp only [b3, asI, if_true, Option.bind_some, t4']
      rw [c5', Option.bind_some]
      simp only [if_true, Option.bind_some]
    by_cases hc : st.code = 0
    · have hc' : (st.code == 0) = true := by rw [hc]; rfl
      rw [hc', cond_true]
      obtain ⟨g1, c1, x1⟩ := q154 (d := d) x ⟨#[125]⟩
      have y1 := x.ext x1
      have l1 := li.pk (PK.ext x1 (rn := rn))
      rw [c1, Option.bind_some]
      simp only [asB, Option.bind_some]
      cases hi : isP c st ⟨#[125]⟩ with
      | true =>
        rw [if_neg (by rw [hi]; simp)] at hl; cases hl
        rw [Bool.not_true, cond_false]
        obtain ⟨g2, r2, c2, y2, k2, n2⟩ := fin g1 y1 l1 rfl rfl
        refine ⟨g2, r2, ?_, y2, (PK.ext x1).pkr.trans (.inl rfl) k2, RN.trans x1.size (.inl rfl) n2⟩
        rw [c2]
      | false =>
        rw [if_pos ⟨hc, hi⟩] at hl
        obtain ⟨⟨e, s2⟩, h2, hl⟩ := bnd hl
        obtain ⟨g2, r2, c2, y2, k2, n2⟩ := hb _ _ _ _ _ y1 h2
        have K2 : PK rn h g2 := (PK.ext x1).trans (.inl rfl) k2
        have N2 : RN rn r2 h := RN.trans x1.size (.inl rfl) n2
        obtain ⟨v3, g3, c3, l3, a3⟩ := (l1.pk k2).push (by omega) e
        have y3 := y2.ak a3
        obtain ⟨g4, r4, c4, y4, k4, n4⟩ := ih m (out ++ [e]) v3 g3 s2 r2 (by omega) (by simp; omega) y3 l3 (by rw [hl]; exact hq)
        refine ⟨g4, r4, ?_, y4, (K2.pkr.trans N2 a3.pkr).trans N2 k4, RN.trans (Nat.le_trans K2.1 a3.1) N2 n4⟩
        rw [Bool.not_false, cond_true, s111_1_j, s111_1_eq, c2, Option.bind_some]
        simp only [asI, if_true, Option.bind_some, aNewS]
        rw [c3, Option.bind_some]
        rw [c4]
    · rw [if_neg (fun hh => hc hh.1)] at hl; cases hl
      rw [beq_eq_false_iff_ne.2 hc, cond_false]
      exact fin h x li rfl rfl
theorem l111 {d n : Nat} {c : PC} {stmt : PI} (hn : n ≤ d + 21) (hn2 : n ≤ 1000000) (hb : Sim c (d + 21) 63 stmt) : Sim c (d + 22) 111 (blockP c stmt n) := by
  intro h st rn q st' x hp
  obtain ⟨s1, h1, hp⟩ := bnd hp
  obtain ⟨s2, h2, hp⟩ := bnd hp
  obtain ⟨g1, r1, c1, y1, k1, n1⟩ := q157 (d := d) x h1
  obtain ⟨g2, r2, c2, y2, k2, n2⟩ := q109 (d := d) y1 h2
  have e3 := Ext.new (Nat.le_refl g2.size) 3 (ints [])
  have l3 := LI.new g2 []
  have y3 := y2.ext e3
  have K2 : PK rn h g2 := k1.trans n1 k2
  have N2 : RN rn r2 h := RN.trans k1.1 n1 n2
  have K3 : PK rn h _ := K2.trans N2 (PK.ext e3)
  have hcall : call Try.prog Ms (d + 22) 111 [ptr c.p 0] h = evFn hk0 Try.prog (call Try.prog Ms (d + 21)) M111 (d + 21) Try.f111 [ptr c.p 0] h := c111 (d + 21) _ _
  obtain ⟨g4, r4, c4, y4, k4, n4⟩ := block_loop hb n (d + 21) [] _ _ s2 r2 hn (by simpa using hn2) y3 l3 hp
  have c4' : s111_0 hk0 (call Try.prog Ms (d + 21)) (d + 21) (d + 21) (ptr c.p 0) (slc g2.size 0 0) (g2.new 3 []) = _ := c4
  refine ⟨g4, r4, ?_, y4, K3.behind N2 K2.1 k4, RN.trans K3.1 N2 n4⟩
  rw [hcall, e111, c1, Option.bind_some, c2, Option.bind_some]
  simp only [aNewS]
  rw [c4']
theorem l63 {d : Nat} {c : PC} {whole block begun : PI} (hw : Sim c (d + 21) 110 whole) (hb : Sim c (d + 21) 111 block) (hg : Sim c (d + 21) 112 begun) : Sim c (d + 22) 63 (stmtP c whole block begun) := by
  intro h st rn q st' x hp
  have hcall : call Try.prog Ms (d + 22) 63 [ptr c.p 0] h = evFn hk0 Try.prog (call Try.prog Ms (d + 21)) M63 (d + 21) Try.f63 [ptr c.p 0] h := c63 (d + 21) _ _
  obtain ⟨⟨b1, s1⟩, h1, hp⟩ := bnd hp
  obtain ⟨g1, r1, c1, y1, k1, n1⟩ := q107 (d := d) x h1
  refine Pp.of k1 n1 ?_
  rw [hcall, e63, c1, Option.bind_some]
  simp only [asB, Option.bind_some]
  cases b1 with
  | true =>
    rw [if_pos rfl] at hp
    obtain ⟨⟨t, s2⟩, h2, hp⟩ := bnd hp
    obtain ⟨s3, h3, hp⟩ := bnd hp
    obtain ⟨⟨e, s4⟩, h4, hp⟩ := bnd hp
    obtain ⟨s5, h5, hp⟩ := bnd hp
    obtain ⟨g2, r2, c2, y2, k2, n2⟩ := q108 (d := d) y1 h2
    obtain ⟨g3, r3, c3, y3, k3, n3⟩ := q109 (d := d) y2 h3
    obtain ⟨g4, r4, c4, y4, k4, n4⟩ := hw _ _ _ _ _ y3 h4
    obtain ⟨g5, r5, c5, y5, k5, n5⟩ := q109 (d := d) y4 h5
    obtain ⟨g6, r6, c6, y6, k6, n6⟩ := q64one (d := d) y5 hp
    refine Pp.of k2 n2 (Pp.of k3 n3 (Pp.of k4 n4 (Pp.of k5 n5 ⟨g6, r6, ?_, y6, k6, n6⟩)))
    rw [cond_true, c2, Option.bind_some]
    simp only [asS, Option.bind_some]
    rw [c3, Option.bind_some, c4, Option.bind_some]
    simp only [asI, if_true, Option.bind_some]
    rw [c5, Option.bind_some]
    simp only [aNewS]
    rw [c6, Option.bind_some]
    simp only [if_true, Option.bind_some]
  | false =>
  rw [if_neg (by simp)] at hp
  obtain ⟨⟨b2, s2⟩, h2, hp⟩ := bnd hp
  obtain ⟨g2, r2, c2, y2, k2, n2⟩ := q107 (d := d) y1 h2
  refine Pp.of k2 n2 ?_
  rw [cond_false, c2, Option.bind_some]
  simp only [Option.bind_some]
  cases b2 with
  | true =>
    rw [if_pos rfl] at hp
    obtain ⟨⟨e, s4⟩, h4, hp⟩ := bnd hp
    obtain ⟨s5, h5, hp⟩ := bnd hp
    obtain ⟨g4, r4, c4, y4, k4, n4⟩ := hw _ _ _ _ _ y2 h4
    obtain ⟨g5, r5, c5, y5, k5, n5⟩ := q109 (d := d) y4 h5
    obtain ⟨g6, r6, c6, y6, k6, n6⟩ := q64one (d := d) y5 hp
    refine Pp.of k4 n4 (Pp.of k5 n5 ⟨g6, r6, ?_, y6, k6, n6⟩)
    rw [cond_true, c4, Option.bind_some]
    simp only [asI, if_true, Option.bind_some]
    rw [c5, Option.bind_some]
    simp only [aNewS]
    rw [c6, Option.bind_some]
    simp only [if_true, Option.bind_some]
  | false =>
  rw [if_neg (by simp)] at hp
  obtain ⟨⟨b3, s3⟩, h3, hp⟩ := bnd hp
  obtain ⟨g3, r3, c3, y3, k3, n3⟩ := q107 (d := d) y2 h3
  refine Pp.of k3 n3 ?_
  rw [cond_false, c3, Option.bind_some]
  simp only [Option.bind_some]
  cases b3 with
  | true =>
    rw [if_pos rfl] at hp
    obtain ⟨⟨e, s4⟩, h4, hp⟩ := bnd hp
    obtain ⟨⟨b, s5⟩, h5, hp⟩ := bnd hp
    obtain ⟨g4, r4, c4, y4, k4, n4⟩ := hw _ _ _ _ _ y3 h4
    obtain ⟨g5, r5, c5, y5, k5, n5⟩ := hb _ _ _ _ _ y4 h5
    obtain ⟨g6, r6, c6, y6, k6, n6⟩ := q64two (d := d) y5 hp
    refine Pp.of k4 n4 (Pp.of k5 n5 ⟨g6, r6, ?_, y6, k6, n6⟩)
    rw [cond_true, c4, Option.bind_some]
    simp only [asI, if_true, Option.bind_some]
    rw [c5, Option.bind_some]
    simp only [if_true, Option.bind_some, aNewS]
    rw [c6, Option.bind_some]
    simp only [if_true, Option.bind_some]
  | false =>
  rw [if_neg (by simp)] at hp
  obtain ⟨⟨b4, s4⟩, h4, hp⟩ := bnd hp
  obtain ⟨g4, r4, c4, y4, k4, n4⟩ := q107 (d := d) y3 h4
  refine Pp.of k4 n4 ?_
  rw [cond_false, c4, Option.bind_some]
  simp only [Option.bind_some]
  cases b4 with
  | false =>
    rw [if_neg (by simp)] at hp
    obtain ⟨g5, r5, c5, y5, k5, n5⟩ := hg _ _ _ _ _ y4 hp
    refine ⟨g5, r5, ?_, y5, k5, n5⟩
    rw [cond_false, c5, Option.bind_some]
    simp only [asI, if_true, Option.bind_some]
  | true =>
    rw [if_pos rfl] at hp
    obtain ⟨⟨e, s5⟩, h5, hp⟩ := bnd hp
    obtain ⟨⟨b, s6⟩, h6, hp⟩ := bnd hp
    obtain ⟨⟨b7, s7⟩, h7, hp⟩ := bnd hp
    obtain ⟨g5, r5, c5, y5, k5, n5⟩ := hw _ _ _ _ _ y4 h5
    have e5 := Ext.new (Nat.le_refl g5.size) 3 (ints [e])
    have li := LI.new g5 [e]
    have z5 := y5.ext e5
    refine Pp.of k5 n5 ?_
    obtain ⟨g6, r6, c6, y6, k6, n6⟩ := hb _ _ _ _ _ z5 h6
    have c6' : call Try.prog Ms (d + 21) 111 [ptr c.p 0] (g5.new 3 [.int .i64 e]) = _ := c6
    obtain ⟨v7, g7, c7, l7, a7⟩ := (li.pk k6).push (by simp) b
    have c7' : aApp (g6.new 3 [.int .i64 b]) 3 1 8 (slc g5.size 0 1) (slc g6.size 0 1) = _ := c7
    obtain ⟨g8, r8, c8, y8, k8, n8⟩ := q107 (d := d) (y6.ak a7) h7
    have l8 := l7.pk k8
    have K6 : PK r5 g5 g6 := (PK.ext e5).trans (.inl rfl) k6
    have N6 : RN r5 r6 g5 := RN.trans e5.size (.inl rfl) n6
    have K8 : PK r5 g5 g8 := K6.behind N6 (Nat.le_refl _) (a7.pkr.trans (.inl rfl) k8.pkr)
    have N8 : RN r5 r8 g5 := RN.trans (Nat.le_trans K6.1 a7.1) N6 n8
    rw [cond_true, c5, Option.bind_some]
    simp only [asI, if_true, Option.bind_some, aNewS]
    rw [c6', Option.bind_some]
    simp only [if_true, Option.bind_some]
    rw [c7', Option.bind_some, c8, Option.bind_some]
    simp only [Option.bind_some]
    cases b7 with
    | false =>
      rw [if_neg (by simp)] at hp
      obtain ⟨g9, r9, c9, y9, k9, n9⟩ := q64 (d := d) y8 l8.kid hp
      refine Pp.of K8 N8 ⟨g9, r9, ?_, y9, k9, n9⟩
      rw [cond_false, c9, Option.bind_some]
      simp only [if_true, Option.bind_some]
    | true =>
      rw [if_pos rfl] at hp
      obtain ⟨⟨b2, s9⟩, h9, hp⟩ := bnd hp
      obtain ⟨g9, r9, c9, y9, k9, n9⟩ := hb _ _ _ _ _ y8 h9
      obtain ⟨v10, g10, c10, l10, a10⟩ := (l8.pk k9).push (by simp) b2
      obtain ⟨g11, r11, c11, y11, k11, n11⟩ := q64 (d := d) (y9.ak a10) l10.kid hp
      have K9 : PK r5 g5 g9 := K8.trans N8 k9
      have N9 : RN r5 r9 g5 := RN.trans K8.1 N8 n9
      have K11 : PK r5 g5 g11 := K9.behind N9 (Nat.le_refl _) (a10.pkr.trans (.inl rfl) k11.pkr)
      refine Pp.of K11 (RN.trans (Nat.le_trans K9.1 a10.1) N9 n11) ⟨g11, r11, ?_, y11, PK.refl _ _, .inl rfl⟩
      rw [cond_true, c9, Option.bind_some]
      simp only [if_true, Option.bind_some]
      rw [c10, Option.bind_some, c11, Option.bind_some]
      simp only [if_true, Option.bind_some]
end Go.Proofs.Ytadmoackacickaa
