import Derived.Test.YtadmoackacickaaXAH
import Derived.Test.YtadmoackacickaaXAD
import Derived.KernelRfl
import Derived.Test.YtadmoackacickaaProg
/- impl's looks at a node. -/
set_option linter.unusedSimpArgs false
namespace Go.Proofs.Ytadmoackacickaa
open Go Go.AH

theorem l147 {d : Nat} (hd : 1048577 < d) (t : ByteArray) (h : AHeap) : call Try.prog Ms (d + 2) 147 [.string t] h = some (.bool (nameP t), h) := by
  have c1 : ∀ (x a b : Int) (h : AHeap), call Try.prog Ms (d + 1) 103 [.int .i64 x, .int .i64 a, .int .i64 b] h = some (.bool (inR x a b), h) := l103 d
  have c2 : ∀ (h : AHeap), call Try.prog Ms (d + 1) 93 [.string t] h = some (.bool (isWd t), h) := l93 d t
  rw [c147, e147, c1, Option.bind_some]
  simp only [asB, Option.bind_some]
  unfold nameP
  cases hR : inR (t.size : Int) 1 12 with
  | false => rfl
  | true =>
    have hs : t.size ≤ 12 := by
      unfold inR at hR
      simp at hR; omega
    have l51' := l51 (d := d) (g := 92) (p := isLet) (s := t) (by omega) (by omega) (fun n h => by obtain ⟨d, rfl⟩ : ∃ k, d = k + 1 := ⟨d - 1, by omega⟩; exact l92 d n h) (i := 0) (by omega) h
    have l51'' : call Try.prog Ms (d + 1) 51 [.string t, .int .i64 0, .func (.func 92) #[] #[]] h = some (.int .i64 (endOf isLet t 0 : Nat), h) := l51'
    rw [cond_true, l51'', Option.bind_some]
    simp only [asI, if_true, Option.bind_some, Bool.true_and]
    generalize endOf isLet t 0 = e
    by_cases he : e = t.size
    · have : (((e : Nat) : Int) == (t.size : Int)) = true := by rw [he]; simp
      rw [this, cond_true, c2, Option.bind_some]
      simp only [asB, Option.bind_some, decide_eq_true he, Bool.and_true]
    · have : (((e : Nat) : Int) == (t.size : Int)) = false := by rw [beq_eq_false_iff_ne]; omega
      rw [this, cond_false, decide_eq_false he, Bool.and_false]
theorem l104 {d c : Nat} (hd : 1048577 < d) {kv : Value} {n : Kn} {h : AHeap} (x : ISl c h kv n.ks) :
    ∃ h', call Try.prog Ms (d + 3) 104 [knVal n kv] h = some (.bool (hasP n), h') ∧ Ext h.size h h' := by
  have e1 := Ext.new (Nat.le_refl h.size) 73 (knCells n kv)
  have r1 : Row (h.new 73 (knCells n kv)) h.size [.int .i64 n.k, .string n.t, .int .i64 n.i, kv] := (Own.new (b := h.size) (Nat.le_refl _) 73 (knCells n kv)).row
  rw [c104, e104, kn_aCells x, Option.bind_some]
  simp only [aNew]
  generalize h.new 73 (knCells n kv) = h1 at e1 r1 ⊢
  obtain ⟨a0, a1, a2, a3, _⟩ := ld4 r1
  have l103' : ∀ (x a b : Int) (h : AHeap), call Try.prog Ms (d + 2) 103 [.int .i64 x, .int .i64 a, .int .i64 b] h = some (.bool (inR x a b), h) := l103 (d + 1)
  simp only [aOff_ptr, Nat.zero_add, Option.bind_some, a0, asI, if_true]
  have E : ∀ f : Bool → Option (Value × AHeap), (bif n.k == 5 then f (n.k == 5) else bif n.k == 14 then f (n.k == 14) else bif n.k == 15 then f (n.k == 15) else f (n.k == 22)) = f (nm4 n.k) := by
    intro f; unfold nm4
    cases (n.k == 5) <;> cases (n.k == 14) <;> cases (n.k == 15) <;> rfl
  rw [E (fun t => s104_0 hk0 (call Try.prog Ms (d + 2)) (d + 2) (ptr h.size 0) n.k t h1), s104_0_j, s104_0_eq]
  refine ⟨h1, ?_, e1⟩
  unfold hasP
  have hE : (n.t.toList == (⟨#[]⟩ : ByteArray).toList) = emp n.t := rfl
  cases nm4 n.k with
  | true =>
    rw [cond_true, if_pos rfl]
    simp only [aOff_ptr, Nat.zero_add, Option.bind_some, a1, asS]
    rw [l147 hd, Option.bind_some]
    simp only [asB, Option.bind_some]
    cases nameP n.t with
    | true => simp only [cond_true, a2, Option.bind_some, asI, if_true, Bool.true_and]
    | false => rfl
  | false =>
    rw [cond_false, if_neg (by simp)]
    simp only [aOff_ptr, Nat.zero_add, Option.bind_some, a1, a2, asS, asI, if_true]
    rw [hE]
    by_cases k4 : n.k = 4
    · rw [if_pos k4, k4, show ((4 : Int) == 4) = true from rfl, cond_true]
      unfold textP
      by_cases hs : (n.t.size : Int) ≤ 160
      · have l51' := l51 (d := d + 1) (g := 96) (p := isPln) (s := n.t) (by omega) (by omega) (fun n h => l96 d n h) (i := 0) (by omega) h1
        have l51'' : call Try.prog Ms (d + 2) 51 [.string n.t, .int .i64 0, .func (.func 96) #[] #[]] h1 = some (.int .i64 (endOf isPln n.t 0 : Nat), h1) := l51'
        rw [decide_eq_true hs, cond_true, l51'', Option.bind_some, Bool.true_and]
        simp only [asI, if_true, Option.bind_some, a1, asS, vbeq_str, cond_true]
        generalize endOf isPln n.t 0 = e
        by_cases he : e = n.t.size
        · have : (((e : Nat) : Int) == (n.t.size : Int)) = true := by rw [he]; simp
          rw [this, cond_true, decide_eq_true he, Bool.true_and, a2, Option.bind_some]
          simp only [asI, if_true, Option.bind_some]
        · have : (((e : Nat) : Int) == (n.t.size : Int)) = false := by rw [beq_eq_false_iff_ne]; omega
          rw [this, cond_false, decide_eq_false he, Bool.false_and]
      · rw [decide_eq_false hs, cond_false]; simp
    rw [beq_eq_false_iff_ne.2 k4, cond_false, if_neg k4]
    by_cases k2 : n.k = 2
    · rw [if_pos k2, k2, show ((2 : Int) == 2) = true from rfl, cond_true, l103', Option.bind_some]
      cases emp n.t <;> rfl
    rw [beq_eq_false_iff_ne.2 k2, cond_false, if_neg k2]
    by_cases k3 : n.k = 3
    · rw [if_pos k3, k3, show ((3 : Int) == 3) = true from rfl, cond_true, l103', Option.bind_some]
      cases emp n.t <;> rfl
    rw [beq_eq_false_iff_ne.2 k3, cond_false, if_neg k3]
    by_cases k10 : n.k = 10
    · rw [if_pos k10, k10, show ((10 : Int) == 10) = true from rfl, cond_true, l103', Option.bind_some]
      cases emp n.t <;> rfl
    rw [beq_eq_false_iff_ne.2 k10, cond_false, if_neg k10]
    by_cases k11 : n.k = 11
    · rw [if_pos k11, k11, show ((11 : Int) == 11) = true from rfl, cond_true, l103', Option.bind_some]
      cases emp n.t <;> rfl
    rw [beq_eq_false_iff_ne.2 k11, cond_false, if_neg k11, s104_1_j, s104_1_eq]
    simp only [aOff_ptr, Nat.zero_add, Option.bind_some, a1, a2, asS, asI, if_true]
    rw [hE]
    cases emp n.t <;> rfl
theorem callV0 (C : ACall) (g : FuncId) (args : List Value) (h : AHeap) : aCallV C (.func (.func g) #[] #[]) args h = C g args h := by simp only [aCallV, List.append_nil, List.nil_append]
theorem callV1 (C : ACall) (g : FuncId) (p : Value) (args : List Value) (h : AHeap) : aCallV C (.func (.func g) #[] #[p]) args h = C g (args ++ [p]) h := by simp only [aCallV, List.nil_append]
theorem callV2 (C : ACall) (g : FuncId) (p q : Value) (args : List Value) (h : AHeap) : aCallV C (.func (.func g) #[] #[p, q]) args h = C g (args ++ [p, q]) h := by simp only [aCallV, List.nil_append]
/-- A function that tells of an int whether P. -/
def FnV (D c : Nat) (h : AHeap) (v : Value) (P : Int → Bool) : Prop := aCells v = some [v] ∧ ∀ h', Ext c h h' → ∀ n, aCallV (call Try.prog Ms D) v [.int .i64 n] h' = some (.bool (P n), h')
theorem FnV.ext {D c : Nat} {h h' : AHeap} {v : Value} {P : Int → Bool} (x : FnV D c h v P) (e : Ext c h h') : FnV D c h' v P := ⟨x.1, fun h2 e2 => x.2 h2 (e.trans e2)⟩
theorem FnV.mono {D c c' : Nat} {h : AHeap} {v : Value} {P : Int → Bool} (x : FnV D c h v P) (hc : c ≤ c') : FnV D c' h v P := ⟨x.1, fun h2 e2 => x.2 h2 (e2.mono hc)⟩
def isEx (k : Int) : Bool := inR k 1 13
def isSt (k : Int) : Bool := inR k 14 20
theorem fn152 (d : Nat) (c : Nat) (h : AHeap) : FnV (d + 2) c h (.func (.func 152) #[] #[]) isEx := ⟨rfl, fun h' _ n => by
  rw [callV0]
  have l103' : ∀ (x a b : Int) (h : AHeap), call Try.prog Ms (d + 1) 103 [.int .i64 x, .int .i64 a, .int .i64 b] h = some (.bool (inR x a b), h) := l103 d
  rw [c152, e152, l103', Option.bind_some]; rfl⟩
theorem fn153 (d : Nat) (c : Nat) (h : AHeap) : FnV (d + 2) c h (.func (.func 153) #[] #[]) isSt := ⟨rfl, fun h' _ n => by
  rw [callV0]
  have l103' : ∀ (x a b : Int) (h : AHeap), call Try.prog Ms (d + 1) 103 [.int .i64 x, .int .i64 a, .int .i64 b] h = some (.bool (inR x a b), h) := l103 d
  rw [c153, e153, l103', Option.bind_some]; rfl⟩
theorem fn150 (d : Nat) (c : Nat) (h : AHeap) : FnV (d + 1) c h (.func (.func 150) #[] #[]) (fun k => k == 23 || k == 24) := ⟨rfl, fun h' _ n => by
  rw [callV0]
  rw [c150, e150]
  by_cases h1 : n = 23
  · subst h1; rfl
  · rw [beq_eq_false_iff_ne.2 h1, cond_false]
    simp only [beq_eq_false_iff_ne.2 h1, Bool.false_or]⟩
/-- just: a function of its own. -/
theorem l148 (d d' : Nat) (k : Int) (h : AHeap) : ∃ v h', call Try.prog Ms (d + 1) 148 [.int .i64 k] h = some (v, h') ∧ Ext h.size h h' ∧ FnV (d' + 1) h'.size h' v (fun n => n == k) := by
  have e1 := Ext.new (Nat.le_refl h.size) 3 [.int .i64 k]
  have r1 := (Own.new (b := h.size) (Nat.le_refl _) 3 [Value.int .i64 k]).row
  have s1 : (h.new 3 [.int .i64 k]).size = h.size + 1 := rfl
  refine ⟨.func (.func 185) #[] #[ptr h.size 0], h.new 3 [.int .i64 k], ?_, e1, rfl, fun h' e n => ?_⟩
  · rw [c148, e148]; rfl
  · rw [callV1, show [Value.int .i64 n] ++ [ptr h.size 0] = [.int .i64 n, ptr h.size 0] from rfl]
    have r2 := r1.ext e (by omega)
    have a : aLd1 h' (ptr h.size 0) = some (.int .i64 k) := r2.ld1 rfl
    rw [c185, e185, a, Option.bind_some]; rfl
end Go.Proofs.Ytadmoackacickaa
/- impl's looks at the kids of a node. -/
set_option linter.unusedSimpArgs false
namespace Go.Proofs.Ytadmoackacickaa
open Go Go.AH

/-- The kind of a node. -/
def kd (T : List Kn) (k : Int) : Int := ((T[k.toNat]?).map Kn.k).getD 0
def RdI (c : Nat) (h : AHeap) (v : Value) (xs : List Int) : Prop := aLen v = some (.int .i64 xs.length) ∧ ∀ j (hj : j < xs.length), ∃ p, aIdx v (.int .i64 (j : Int)) 1 = some p ∧ ∀ h', Ext c h h' → aLd1 h' p = some (.int .i64 xs[j])
theorem ISl.rd {c : Nat} {h : AHeap} {v : Value} {xs : List Int} (x : ISl c h v xs) : RdI c h v xs := by
  refine ⟨x.len, fun j hj => ?_⟩
  obtain ⟨p, e1, _⟩ := x.at hj
  refine ⟨p, e1, fun h' e => ?_⟩
  obtain ⟨p', e1', e2'⟩ := (x.ext e).at hj
  rw [e1] at e1'; cases e1'
  exact e2'
theorem RdI.ext {c : Nat} {h h' : AHeap} {v : Value} {xs : List Int} (x : RdI c h v xs) (e : Ext c h h') : RdI c h' v xs := ⟨x.1, fun j hj => let ⟨p, a, b⟩ := x.2 j hj; ⟨p, a, fun h2 e2 => b h2 (e.trans e2)⟩⟩
theorem RdI.mono {c d : Nat} {h : AHeap} {v : Value} {xs : List Int} (x : RdI c h v xs) (hd : c ≤ d) : RdI d h v xs := ⟨x.1, fun j hj => let ⟨p, a, b⟩ := x.2 j hj; ⟨p, a, fun h2 e2 => b h2 (e2.mono hd)⟩⟩
/-- A pointer to a tree. -/
def TreeP (c : Nat) (h : AHeap) (v : Value) (T : List Kn) : Prop := ∃ t nv top, v = ptr t 0 ∧ t < c ∧ Row h t [nv, .int .i64 top] ∧ KSl c h nv T
theorem TreeP.ext {c : Nat} {h h' : AHeap} {v : Value} {T : List Kn} (x : TreeP c h v T) (e : Ext c h h') : TreeP c h' v T := let ⟨t, nv, top, a, b, r, k⟩ := x; ⟨t, nv, top, a, b, r.ext e b, k.ext e⟩
theorem TreeP.mono {c d : Nat} {h : AHeap} {v : Value} {T : List Kn} (x : TreeP c h v T) (hd : c ≤ d) : TreeP d h v T := let ⟨t, nv, top, a, b, r, k⟩ := x; ⟨t, nv, top, a, Nat.lt_of_lt_of_le b hd, r, k.mono hd⟩
theorem TreeP.cells {c : Nat} {h : AHeap} {v : Value} {T : List Kn} (x : TreeP c h v T) : aCells v = some [v] ∧ aNil v = some v := by obtain ⟨t, nv, top, rfl, _⟩ := x; exact ⟨rfl, rfl⟩
/-- The nodes are at the pointer. -/
theorem TreeP.nodes {c : Nat} {h : AHeap} {v : Value} {T : List Kn} (x : TreeP c h v T) : ∃ p nv, aOff v 0 = some p ∧ KSl c h nv T ∧ ∀ h', Ext c h h' → aLd1 h' p = some nv := by
  obtain ⟨t, nv, top, rfl, b, r, k⟩ := x
  exact ⟨ptr t 0, nv, rfl, k, fun h' e => (r.ext e b).ld1 rfl⟩
theorem KSl.kind {c : Nat} {h : AHeap} {v : Value} {ns : List Kn} (x : KSl c h v ns) {k : Int} (h0 : 0 ≤ k) (h1 : k < ns.length) : ∃ i, aIdx v (.int .i64 k) 4 = some (ptr i (k.toNat * 4)) ∧ ∀ h', Ext c h h' → aLd1 h' (ptr i (k.toNat * 4)) = some (.int .i64 (kd ns k)) := by
  obtain ⟨j, rfl⟩ : ∃ j : Nat, k = (j : Int) := ⟨k.toNat, by omega⟩
  have hj : j < ns.length := by omega
  obtain ⟨i, kv, e1, _, e3⟩ := x.at hj
  refine ⟨i, e1, fun h' e => ?_⟩
  have : kd ns (j : Int) = ns[j].k := by unfold kd; simp [hj]
  rw [this]; exact (e3 h' e).2.1
theorem l187 {D c : Nat} {tv fv : Value} {T : List Kn} {P : Int → Bool} {h : AHeap} (x : TreeP c h tv T) (f : FnV D c h fv P) {p5 p2 : Nat} (r5 : Row h p5 [fv]) (r2 : Row h p2 [tv]) {k : Int} (h0 : 0 ≤ k) (h1 : k < T.length) :
    call Try.prog Ms (D + 1) 187 [.int .i64 k, ptr p5 0, ptr p2 0] h = some (.bool (!P (kd T k)), h) := by
  obtain ⟨p, nv, e1, e2, e3⟩ := x.nodes
  obtain ⟨i, e4, e5⟩ := e2.kind h0 h1
  have a5 : aLd1 h (ptr p5 0) = some fv := r5.ld1 rfl
  have a2 : aLd1 h (ptr p2 0) = some tv := r2.ld1 rfl
  rw [c187, e187]
  simp only [a5, a2, Option.bind_some, x.cells.2, e1, e3 h (Ext.refl _ _), e4, aOff_ptr, Nat.add_zero, e5 h (Ext.refl _ _), asI, if_true]
  rw [f.2 h (Ext.refl _ _), Option.bind_some]
  rfl
theorem idx_loop {D N c : Nat} {cv v : Value} {xs : List Int} {Q : Int → Bool} {h : AHeap} (hQ : ∀ k ∈ xs, aCallV (call Try.prog Ms D) cv [.int .i64 k] h = some (.bool (Q k), h)) (hl : xs.length ≤ 1048576) (x : RdI c h v xs) :
    ∀ (k j m : Nat), xs.length - j = k → j ≤ xs.length → k < m → ∃ r : Int, s202_0 hk0 (call Try.prog Ms D) N m v cv (xs.length : Int) (j : Int) h = some (.int .i64 r, h) ∧ (decide (r ≥ 0) = (xs.drop j).any Q) := by
  intro k
  induction k with
  | zero =>
    intro j m hk hj hm
    obtain ⟨m, rfl⟩ : ∃ q, m = q + 1 := ⟨m - 1, by omega⟩
    have : ¬ ((j : Int) < (xs.length : Int)) := by omega
    refine ⟨-1, ?_, by rw [List.drop_eq_nil_of_le (by omega)]; rfl⟩
    rw [s202_0_eq, decide_eq_false this, cond_false]
  | succ k ih =>
    intro j m hk hj hm
    obtain ⟨m, rfl⟩ : ∃ q, m = q + 1 := ⟨m - 1, by omega⟩
    have hlt : j < xs.length := by omega
    have hI : ((j : Int) < (xs.length : Int)) := by omega
    obtain ⟨p, e1, e2⟩ := x.2 j hlt
    have wj : IntKind.i64.wrap ((j : Int) + 1) = ((j + 1 : Nat) : Int) := by rw [wr (by omega) (by omega)]; omega
    rw [s202_0_eq, decide_eq_true hI, cond_true, e1, Option.bind_some, e2 h (Ext.refl _ _), Option.bind_some]
    simp only [asI, if_true, Option.bind_some]
    rw [hQ _ (List.getElem_mem hlt), Option.bind_some, List.drop_eq_getElem_cons hlt, List.any_cons]
    simp only [asB, Option.bind_some]
    cases Q xs[j] with
    | true => exact ⟨j, rfl, by rw [Bool.true_or]; simp⟩
    | false =>
      rw [cond_false, wj, Bool.false_or]
      exact ih (j + 1) m (by omega) (by omega) (by omega)
/-- All of these nodes are of a kind. -/
theorem l149 {d c : Nat} (hd : 1048577 < d) {tv v fv : Value} {T : List Kn} {xs : List Int} {P : Int → Bool} {h : AHeap} (x : TreeP c h tv T) (f : FnV d c h fv P) (y : RdI c h v xs) (hc : c ≤ h.size) (hl : xs.length ≤ 1048576) (hx : ∀ k ∈ xs, 0 ≤ k ∧ k < T.length) :
    ∃ h', call Try.prog Ms (d + 4) 149 [tv, v, fv] h = some (.bool ((xs.map (kd T)).all P), h') ∧ Ext h.size h h' := by
  have e1 := Ext.new (Nat.le_refl h.size) 96 [tv]
  have r1 := (Own.new (b := h.size) (Nat.le_refl _) 96 [tv]).row
  have s1 : (h.new 96 [tv]).size = h.size + 1 := rfl
  rw [c149, e149, x.cells.1, Option.bind_some]
  simp only [aNew]
  generalize h.new 96 [tv] = h1 at e1 r1 s1 ⊢
  rw [f.1, Option.bind_some]
  have e2 := Ext.new (Nat.le_refl h1.size) 74 [fv]
  have r2 := (Own.new (b := h1.size) (Nat.le_refl _) 74 [fv]).row
  have s2 : (h1.new 74 [fv]).size = h1.size + 1 := rfl
  generalize h1.new 74 [fv] = h2 at e2 r2 s2 ⊢
  have E : Ext h.size h h2 := e1.trans (e2.mono (by omega))
  have r12 := r1.ext e2 (by omega)
  refine ⟨h2, ?_, E⟩
  have hf : aFn 187 [] [ptr h1.size 0, ptr h.size 0] = some (.func (.func 187) #[] #[ptr h1.size 0, ptr h.size 0]) := rfl
  have x2 := x.ext (E.mono hc)
  have f2 := f.ext (E.mono hc)
  have y2 := y.ext (E.mono hc)
  have q : ∀ k ∈ xs, aCallV (call Try.prog Ms (d + 1)) (.func (.func 187) #[] #[ptr h1.size 0, ptr h.size 0]) [.int .i64 k] h2 = some (.bool (!P (kd T k)), h2) := fun k hk => by
    rw [callV2, show [Value.int .i64 k] ++ [ptr h1.size 0, ptr h.size 0] = [.int .i64 k, ptr h1.size 0, ptr h.size 0] from rfl]
    exact l187 x2 f2 r2 r12 (hx k hk).1 (hx k hk).2
  obtain ⟨r, c3, hr⟩ := idx_loop (N := d + 1) (Q := fun k => !P (kd T k)) q hl y2 xs.length 0 (d + 1) (by omega) (by omega) (by omega)
  have c202' : call Try.prog Ms (d + 2) 202 [v, .func (.func 187) #[] #[ptr h1.size 0, ptr h.size 0]] h2 = some (.int .i64 r, h2) := by
    rw [c202, e202, y.1, Option.bind_some]
    simp only [asI, if_true, Option.bind_some]
    exact c3
  have c186' : call Try.prog Ms (d + 3) 186 [v, .func (.func 187) #[] #[ptr h1.size 0, ptr h.size 0]] h2 = some (.bool (decide (r ≥ 0)), h2) := by
    rw [c186, e186, c202', Option.bind_some]
    simp only [asI, if_true, Option.bind_some]
  have hb : ∀ l : List Int, (!(l.any fun k => !P (kd T k))) = (l.map (kd T)).all P := by
    intro l
    induction l with
    | nil => rfl
    | cons k l ih =>
      rw [List.any_cons, List.map_cons, List.all_cons, ← ih, Bool.not_or, Bool.not_not]
  have hr2 : (!decide (r ≥ 0)) = (xs.map (kd T)).all P := by rw [hr, List.drop_zero]; exact hb xs
  rw [hf, Option.bind_some, c186', Option.bind_some]
  simp only [asB, Option.bind_some]
  rw [hr2]
theorem nodeRow {h : AHeap} {q : Nat} {n : Kn} {kv : Value} (r : Row h q (knCells n kv)) : aLd1 h (ptr q 0) = some (.int .i64 n.k) ∧ aLd1 h (ptr q 3) = some kv ∧ aLdN h (ptr q 0) 4 = some (knVal n kv) := by
  obtain ⟨a, _, _, b, c⟩ := ld4 r
  exact ⟨a, b, c⟩
/-- The kids are as the functions say, each by its own. -/
theorem kidsAre_loop {d N c : Nat} {tv fs : Value} {T : List Kn} {n : Kn} {kv : Value} {Ps : List (Value × (Int → Bool))} {q r : Nat} (hl : n.ks.length ≤ 1048576) (hp : Ps.length = n.ks.length) (hx : ∀ k ∈ n.ks, 0 ≤ k ∧ k < T.length) {h : AHeap}
    (x : TreeP c h tv T) (y : ISl c h kv n.ks) (rq : Row h q (knCells n kv)) (rf : Row h r (Ps.map Prod.fst)) (hfs : fs = slc r 0 Ps.length) (hf : ∀ j (hj : j < Ps.length), FnV d c h (Ps[j]).1 (Ps[j]).2) :
    ∀ (k j m : Nat), n.ks.length - j = k → j ≤ n.ks.length → k < m →
      s151_0 hk0 (call Try.prog Ms d) N m tv (ptr q 0) fs (n.ks.length : Int) (j : Int) h = some (.bool (((n.ks.drop j).zip (Ps.drop j)).all fun p => p.2.2 (kd T p.1)), h) := by
  intro k
  induction k with
  | zero =>
    intro j m hk hj hm
    obtain ⟨m, rfl⟩ : ∃ q, m = q + 1 := ⟨m - 1, by omega⟩
    have : ¬ ((j : Int) < (n.ks.length : Int)) := by omega
    rw [s151_0_eq, decide_eq_false this, cond_false, List.drop_eq_nil_of_le (by omega)]; rfl
  | succ k ih =>
    intro j m hk hj hm
    obtain ⟨m, rfl⟩ : ∃ q, m = q + 1 := ⟨m - 1, by omega⟩
    have hlt : j < n.ks.length := by omega
    have hlt2 : j < Ps.length := by omega
    have hI : ((j : Int) < (n.ks.length : Int)) := by omega
    obtain ⟨p, e1, e2⟩ := y.at hlt
    obtain ⟨pn, nv, g1, g2, g3⟩ := x.nodes
    obtain ⟨b0, b3, _⟩ := nodeRow rq
    have hk := hx _ (List.getElem_mem hlt)
    obtain ⟨i, k1, k2⟩ := g2.kind hk.1 hk.2
    have hix : aIdx fs (.int .i64 (j : Int)) 1 = some (ptr r j) := by rw [hfs]; simp [aIdx, slc, hlt2]
    have hld : aLd1 h (ptr r j) = some (Ps[j]).1 := rf.ld1 (by simp [hlt2])
    have wj : IntKind.i64.wrap ((j : Int) + 1) = ((j + 1 : Nat) : Int) := by rw [wr (by omega) (by omega)]; omega
    rw [s151_0_eq, decide_eq_true hI, cond_true, List.drop_eq_getElem_cons hlt, List.drop_eq_getElem_cons hlt2, List.zip_cons_cons, List.all_cons]
    simp only [hix, hld, Option.bind_some, x.cells.2, g1, g3 h (Ext.refl _ _), aOff_ptr, Nat.zero_add, b3, e1, e2, asI, if_true, k1, Nat.add_zero, k2 h (Ext.refl _ _)]
    rw [(hf j hlt2).2 h (Ext.refl _ _), Option.bind_some]
    simp only [asB, Option.bind_some]
    cases (Ps[j]).2 (kd T n.ks[j]) with
    | false => rfl
    | true =>
      rw [Bool.not_true, cond_false, wj, Bool.true_and]
      exact ih (j + 1) m (by omega) (by omega) (by omega)
theorem l151 {d c : Nat} (hd : 1048577 < d) {tv : Value} {T : List Kn} {n : Kn} {kv : Value} {Ps : List (Value × (Int → Bool))} {r : Nat} (hl : n.ks.length ≤ 1048576) (hps : Ps.length ≤ 10) (hx : ∀ k ∈ n.ks, 0 ≤ k ∧ k < T.length) {h : AHeap}
    (x : TreeP c h tv T) (y : ISl c h kv n.ks) (hc : c ≤ h.size) (rf : Row h r (Ps.map Prod.fst)) (hr : r < h.size) (hf : ∀ j (hj : j < Ps.length), FnV d c h (Ps[j]).1 (Ps[j]).2) :
    ∃ h', call Try.prog Ms (d + 1) 151 [tv, knVal n kv, slc r 0 Ps.length] h = some (.bool (decide (n.ks.length = Ps.length) && (n.ks.zip Ps).all fun p => p.2.2 (kd T p.1)), h') ∧ Ext h.size h h' := by
  have e1 := Ext.new (Nat.le_refl h.size) 73 (knCells n kv)
  have r1 : Row (h.new 73 (knCells n kv)) h.size (knCells n kv) := (Own.new (b := h.size) (Nat.le_refl _) 73 (knCells n kv)).row
  rw [c151, e151, kn_aCells y, Option.bind_some]
  simp only [aNew]
  generalize h.new 73 (knCells n kv) = h1 at e1 r1 ⊢
  refine ⟨h1, ?_, e1⟩
  obtain ⟨_, b3, _⟩ := nodeRow r1
  have hlen : aLen (slc r 0 Ps.length) = some (.int .i64 (Ps.length : Int)) := rfl
  simp only [aOff_ptr, Nat.zero_add, Option.bind_some, b3, y.len, hlen, asI, if_true]
  by_cases hp : n.ks.length = Ps.length
  · have : ((n.ks.length : Int) != (Ps.length : Int)) = false := by simp [hp]
    rw [this, cond_false, decide_eq_true hp, Bool.true_and]
    have := kidsAre_loop (d := d) (N := d) hl hp.symm hx (x.ext (e1.mono hc)) (y.ext (e1.mono hc)) r1 (rf.ext e1 hr) rfl (fun j hj => (hf j hj).ext (e1.mono hc)) n.ks.length 0 d (by omega) (by omega) (by omega)
    rw [← hp]
    rw [← hp] at this
    exact this
  · have : ((n.ks.length : Int) != (Ps.length : Int)) = true := by simp; omega
    rw [this, cond_true, decide_eq_false hp, Bool.false_and]
end Go.Proofs.Ytadmoackacickaa
/- impl's kidsOk, nodeOk. -/
set_option linter.unusedSimpArgs false
namespace Go.Proofs.Ytadmoackacickaa
open Go Go.AH

def leaf (k : Int) : Bool := k == 1 || (k == 2 || (k == 3 || (k == 4 || (k == 5 || k == 22))))
def isBl (k : Int) : Bool := k == 21
def kidsAreP (kk : List Int) (Ps : List (Int → Bool)) : Bool := decide (kk.length = Ps.length) && (kk.zip Ps).all fun p => p.2 p.1
def kidsP (k : Int) (kk : List Int) : Bool :=
  if leaf k = true then decide (kk.length = 0)
  else if k = 6 then decide (0 < kk.length) && (kk.dropLast.all (· == 22) && kk.getLast? == some 21)
  else if k = 7 then kk.all fun k => k == 23 || k == 24
  else if two2 k = true then kidsAreP kk [isEx, isEx]
  else if k = 9 then decide (0 < kk.length) && kk.all isEx
  else if one1 k = true then kidsAreP kk [isEx]
  else if k = 16 then kidsAreP kk [isEx, isEx, isEx]
  else if k = 17 then kidsAreP kk [isEx, isBl] || kidsAreP kk [isEx, isBl, isBl]
  else if k = 18 then kidsAreP kk [isEx, isBl]
  else if k = 20 then kidsAreP kk [fun k => k == 9]
  else if k = 21 then kk.all isSt
  else false
theorem zip_all {T : List Kn} : ∀ (xs : List Int) (Ps : List (Value × (Int → Bool))), ((xs.zip Ps).all fun p => p.2.2 (kd T p.1)) = (((xs.map (kd T)).zip (Ps.map Prod.snd)).all fun p => p.2 p.1)
  | [], _ => by simp
  | x :: xs, [] => by simp
  | x :: xs, p :: ps => by
    rw [List.zip_cons_cons, List.map_cons, List.map_cons, List.zip_cons_cons, List.all_cons, List.all_cons, zip_all xs ps]
theorem are151 {d c : Nat} (hd : 1048577 < d) {tv : Value} {T : List Kn} {n : Kn} {kv : Value} (Ps : List (Value × (Int → Bool))) (hl : n.ks.length ≤ 1048576) (hps : Ps.length ≤ 10) (hx : ∀ k ∈ n.ks, 0 ≤ k ∧ k < T.length) {h : AHeap}
    (x : TreeP c h tv T) (y : ISl c h kv n.ks) (hc : c ≤ h.size) (hf : ∀ j (hj : j < Ps.length), FnV d c h (Ps[j]).1 (Ps[j]).2) :
    ∃ h', call Try.prog Ms (d + 1) 151 [tv, knVal n kv, slc h.size 0 Ps.length] (h.new 74 (Ps.map Prod.fst)) = some (.bool (kidsAreP (n.ks.map (kd T)) (Ps.map Prod.snd)), h') ∧ Ext h.size h h' := by
  have e1 := Ext.new (Nat.le_refl h.size) 74 (Ps.map Prod.fst)
  have r1 := (Own.new (b := h.size) (Nat.le_refl _) 74 (Ps.map Prod.fst)).row
  have s1 : (h.new 74 (Ps.map Prod.fst)).size = h.size + 1 := rfl
  obtain ⟨h2, c2, x2⟩ := l151 hd hl hps hx (x.ext (e1.mono hc)) (y.ext (e1.mono hc)) (by omega) r1 (by omega) (fun j hj => (hf j hj).ext (e1.mono hc))
  refine ⟨h2, ?_, e1.trans (x2.mono (by omega))⟩
  rw [c2, zip_all]
  unfold kidsAreP
  rw [List.length_map, List.length_map]
theorem ISl.sub {c : Nat} {h : AHeap} {v : Value} {xs : List Int} (x : ISl c h v xs) (hx : 0 < xs.length) :
    ∃ v', (∀ h', Ext c h h' → aSub h' 3 v none (some (.int .i64 ((xs.length : Int) - 1))) 1 = some v') ∧ RdI c h v' xs.dropLast ∧ Go.AH.vbeq v' v' = true := by
  rcases x with ⟨rfl, rfl⟩ | ⟨a, n, rfl, rfl⟩ | ⟨i, o, rfl, h2, h3, h4, h5⟩
  · simp at hx
  · simp at hx
  · have hd : (xs.dropLast).length = xs.length - 1 := by simp
    refine ⟨.slice (some ⟨i, 0, none⟩) (xs.length - 1) (xs.length - 1), fun h' e => ?_, ⟨?_, fun j hj => ⟨ptr i j, ?_, fun h' e => ?_⟩⟩, ?_⟩
    · have hb : aBound (.int .i64 ((xs.length : Int) - 1)) xs.length = some (xs.length - 1) := by
        show (if 0 ≤ (xs.length : Int) - 1 ∧ (xs.length : Int) - 1 ≤ xs.length then some ((xs.length : Int) - 1).toNat else none) = _
        rw [if_pos ⟨by omega, by omega⟩]; congr 1; omega
      have he : (h'.at? i).map (·.elem) = some 3 := by rw [e.at? h5 h2]; simp [h3]
      show (if (h'.at? i).map (·.elem) = some 3 then (aBound (.int .i64 ((xs.length : Int) - 1)) xs.length).bind fun h => (some 0).bind fun l => some (Value.slice (some ⟨i, 0 + l * 1, none⟩) (h - l) (h - l)) else none) = _
      rw [if_pos he, hb]; rfl
    · rw [hd]; rfl
    · rw [hd] at hj
      simp [aIdx, hj]
    · rw [hd] at hj
      have r : Row h' i (ints xs) := ⟨o, e.at? h5 h2, h4⟩
      rw [r.ld1 (v := .int .i64 xs[j]) (by simp [ints, show j < xs.length by omega])]
      simp [List.getElem_dropLast]
    · exact vbeq1_self (.slice (some ⟨i, 0, none⟩) (xs.length - 1) (xs.length - 1)) rfl (fun _ _ _ h => by cases h)
theorem fill1 {a : Value} (ha : aCells a = some [a]) : aFill [.nilFunc] [(0, 1, a)] = some [a] := by simp [aFill, ha, splice]
theorem fill2 {a b : Value} (ha : aCells a = some [a]) (hb : aCells b = some [b]) : aFill [.nilFunc, .nilFunc] [(0, 1, a), (1, 1, b)] = some [a, b] := by simp [aFill, ha, hb, splice]
theorem fill3 {a b c : Value} (ha : aCells a = some [a]) (hb : aCells b = some [b]) (hc : aCells c = some [c]) : aFill [.nilFunc, .nilFunc, .nilFunc] [(0, 1, a), (1, 1, b), (2, 1, c)] = some [a, b, c] := by simp [aFill, ha, hb, hc, splice]
theorem kd_last {T : List Kn} {xs : List Int} (hx : 0 < xs.length) : (xs.map (kd T)).getLast? = some (kd T (xs[xs.length - 1]'(by omega))) := by
  rw [List.getLast?_eq_getElem?, List.length_map, List.getElem?_map, List.getElem?_eq_getElem (by omega)]; rfl
theorem l105 {d c : Nat} (hd : 1048577 < d) {tv : Value} {T : List Kn} {n : Kn} {kv : Value} (hl : n.ks.length ≤ 1048576) (hx : ∀ k ∈ n.ks, 0 ≤ k ∧ k < T.length) {h : AHeap} (x : TreeP c h tv T) (y : ISl c h kv n.ks) (hc : c ≤ h.size) :
    ∃ h', call Try.prog Ms (d + 7) 105 [tv, knVal n kv] h = some (.bool (kidsP n.k (n.ks.map (kd T))), h') ∧ Ext h.size h h' := by
  have e1 := Ext.new (Nat.le_refl h.size) 73 (knCells n kv)
  have r1 : Row (h.new 73 (knCells n kv)) h.size (knCells n kv) := (Own.new (b := h.size) (Nat.le_refl _) 73 (knCells n kv)).row
  have s1 : (h.new 73 (knCells n kv)).size = h.size + 1 := rfl
  rw [c105, e105, kn_aCells y, Option.bind_some]
  simp only [aNew]
  have x1 := x.ext (e1.mono hc)
  have y1 := y.ext (e1.mono hc)
  generalize h.new 73 (knCells n kv) = h1 at e1 r1 s1 x1 y1 ⊢
  obtain ⟨bf, h2, c2, e2, f2⟩ := l148 (d + 5) (d + 4) 21 h1
  have c2' : call Try.prog Ms (d + 6) 148 [.int .i64 21] h1 = some (bf, h2) := c2
  have s2 := e2.size
  have r2 := r1.ext e2 (by omega)
  have x2 := (x1.ext (e2.mono (by omega))).mono (show c ≤ h2.size by omega)
  have y2 := (y1.ext (e2.mono (by omega))).mono (show c ≤ h2.size by omega)
  have f2' : FnV (d + 5) h2.size h2 bf isBl := f2
  have E2 : Ext h.size h h2 := e1.trans (e2.mono (by omega))
  have f152 := fn152 (d + 3) h2.size h2
  rw [c2', Option.bind_some]
  obtain ⟨b0, b3, bN⟩ := nodeRow r2
  simp only [aOff_ptr, Nat.zero_add, Option.bind_some, b0, asI, if_true]
  have E : ∀ f : Bool → Option (Value × AHeap), (bif n.k == 1 then f (n.k == 1) else bif n.k == 2 then f (n.k == 2) else bif n.k == 3 then f (n.k == 3) else bif n.k == 4 then f (n.k == 4) else bif n.k == 5 then f (n.k == 5) else f (n.k == 22)) = f (leaf n.k) := by
    intro f; unfold leaf
    cases (n.k == 1) <;> cases (n.k == 2) <;> cases (n.k == 3) <;> cases (n.k == 4) <;> cases (n.k == 5) <;> rfl
  rw [E (fun t => s105_0 hk0 (call Try.prog Ms (d + 6)) (d + 6) tv (ptr h.size 0) bf n.k t h2), s105_0_j, s105_0_eq]
  suffices hs : ∃ h', _ = some (Value.bool (kidsP n.k (n.ks.map (kd T))), h') ∧ Ext h2.size h2 h' from by
    obtain ⟨h', a, b⟩ := hs
    exact ⟨h', a, E2.trans (b.mono (by omega))⟩
  unfold kidsP
  rw [List.length_map]
  have are := fun (Ps : List (Value × (Int → Bool))) (hp : Ps.length ≤ 10) (hf : ∀ j (hj : j < Ps.length), FnV (d + 5) h2.size h2 (Ps[j]).1 (Ps[j]).2) => are151 (d := d + 5) (by omega) Ps hl hp hx x2 y2 (Nat.le_refl _) hf
  cases leaf n.k with
  | true =>
    rw [cond_true, if_pos rfl]
    refine ⟨h2, ?_, Ext.refl _ _⟩
    simp only [aOff_ptr, Nat.zero_add, Option.bind_some, b3, y2.len, asI, if_true]
    have : ((n.ks.length : Int) == 0) = decide (n.ks.length = 0) := by rw [Bool.eq_iff_iff]; simp
    rw [this]
  | false =>
    rw [cond_false, if_neg (by simp)]
    by_cases k6 : n.k = 6
    · rw [if_pos k6, k6, show ((6 : Int) == 6) = true from rfl, cond_true]
      simp only [aOff_ptr, Nat.zero_add, Option.bind_some, b3, y2.len, asI, if_true]
      have w : IntKind.i64.wrap ((n.ks.length : Int) - 1) = (n.ks.length : Int) - 1 := wr (by omega) (by omega)
      rw [w]
      by_cases hp : 0 < n.ks.length
      · have hge : (n.ks.length : Int) - 1 ≥ 0 := by omega
        obtain ⟨v', g1, g2, g3⟩ := y2.sub hp
        obtain ⟨pf, h3, c3, e3, f3⟩ := l148 (d + 5) (d + 1) 22 h2
        have c3' : call Try.prog Ms (d + 6) 148 [.int .i64 22] h2 = some (pf, h3) := c3
        have s3 := e3.size
        have r3 := r2.ext e3 (by omega)
        obtain ⟨_, d3, _⟩ := nodeRow r3
        have x3 := (x2.ext e3).mono s3
        have y3 := (y2.ext e3).mono s3
        have hx' : ∀ k ∈ n.ks.dropLast, 0 ≤ k ∧ k < T.length := fun k hk => hx k (by rw [List.dropLast_eq_take] at hk; exact List.mem_of_mem_take hk)
        obtain ⟨h4, c4, e4⟩ := l149 (d := d + 2) (by omega) x3 f3 ((g2.ext e3).mono s3) (Nat.le_refl _) (by simp; omega) hx'
        have c4' : call Try.prog Ms (d + 6) 149 [tv, v', pf] h3 = _ := c4
        have r4 := r3.ext e4 (by omega)
        obtain ⟨_, d4, _⟩ := nodeRow r4
        have x4 := x3.ext e4
        have y4 := y3.ext e4
        refine ⟨h4, ?_, e3.trans (e4.mono s3)⟩
        rw [decide_eq_true hge, cond_true, g1 h2 (Ext.refl _ _), Option.bind_some, c3', Option.bind_some]
        simp only [d3, y3.vbeq, Option.bind_some, cond_true, g1 h3 e3, g3]
        rw [c4', Option.bind_some, decide_eq_true hp, Bool.true_and, List.map_dropLast]
        simp only [asB, Option.bind_some]
        cases ((n.ks.map (kd T)).dropLast).all (fun n => n == 22) with
        | false => rfl
        | true =>
          rw [cond_true, Bool.true_and, kd_last hp]
          obtain ⟨pn, nv, k1, k2, k3⟩ := x4.nodes
          have hk := hx _ (List.getElem_mem (show n.ks.length - 1 < n.ks.length by omega))
          obtain ⟨i, m1, m2⟩ := k2.kind hk.1 hk.2
          obtain ⟨pk, q1, q2⟩ := y4.at (show n.ks.length - 1 < n.ks.length by omega)
          have q1' : aIdx kv (.int .i64 ((n.ks.length : Int) - 1)) 1 = some pk := by
            rw [show (n.ks.length : Int) - 1 = ((n.ks.length - 1 : Nat) : Int) by omega]; exact q1
          simp only [x4.cells.2, Option.bind_some, k1, k3 h4 (Ext.refl _ _), d4, q1', q2, asI, if_true, m1, aOff_ptr, Nat.add_zero, m2 h4 (Ext.refl _ _)]
          have : (kd T (n.ks[n.ks.length - 1]'(by omega)) == 21) = (some (kd T (n.ks[n.ks.length - 1]'(by omega))) == some 21) := rfl
          rw [this]
      · have hge : ¬ (n.ks.length : Int) - 1 ≥ 0 := by omega
        rw [decide_eq_false hge, cond_false, decide_eq_false hp, Bool.false_and]
        exact ⟨h2, rfl, Ext.refl _ _⟩
    rw [beq_eq_false_iff_ne.2 k6, cond_false, if_neg k6]
    by_cases k7 : n.k = 7
    · rw [if_pos k7, k7, show ((7 : Int) == 7) = true from rfl, cond_true]
      obtain ⟨h3, c3, e3⟩ := l149 (d := d + 2) (by omega) x2 (fn150 (d + 1) h2.size h2) y2.rd (Nat.le_refl _) hl hx
      have c3' : call Try.prog Ms (d + 6) 149 [tv, kv, .func (.func 150) #[] #[]] h2 = _ := c3
      refine ⟨h3, ?_, e3⟩
      simp only [aOff_ptr, Nat.zero_add, Option.bind_some, b3]
      rw [c3', Option.bind_some]; rfl
    rw [beq_eq_false_iff_ne.2 k7, cond_false, if_neg k7]
    have E2 : ∀ f : Bool → Option (Value × AHeap), (bif n.k == 8 then f (n.k == 8) else bif n.k == 10 then f (n.k == 10) else bif n.k == 12 then f (n.k == 12) else bif n.k == 13 then f (n.k == 13) else f (n.k == 24)) = f (two2 n.k) := by
      intro f; unfold two2
      cases (n.k == 8) <;> cases (n.k == 10) <;> cases (n.k == 12) <;> cases (n.k == 13) <;> rfl
    have E1 : ∀ f : Bool → Option (Value × AHeap), (bif n.k == 11 then f (n.k == 11) else bif n.k == 14 then f (n.k == 14) else bif n.k == 15 then f (n.k == 15) else bif n.k == 19 then f (n.k == 19) else f (n.k == 23)) = f (one1 n.k) := by
      intro f; unfold one1
      cases (n.k == 11) <;> cases (n.k == 14) <;> cases (n.k == 15) <;> cases (n.k == 19) <;> rfl
    rw [E2 (fun t => s105_1 hk0 (call Try.prog Ms (d + 6)) (d + 6) tv (ptr h.size 0) bf n.k t h2), s105_1_j, s105_1_eq]
    have FX := f152.1
    have FB := f2'.1
    cases two2 n.k with
    | true =>
      rw [cond_true, if_pos rfl]
      obtain ⟨h3, c3, e3⟩ := are [(.func (.func 152) #[] #[], isEx), (.func (.func 152) #[] #[], isEx)] (by decide) (fun j hj => by match j, hj with | 0, _ => exact f152 | 1, _ => exact f152)
      refine ⟨h3, ?_, e3⟩
      have c3' : call Try.prog Ms (d + 6) 151 [tv, knVal n kv, slc h2.size 0 2] (h2.new 74 [.func (.func 152) #[] #[], .func (.func 152) #[] #[]]) = _ := c3
      rw [bN, Option.bind_some, fill2 FX FX, Option.bind_some]
      simp only [aNewS]
      rw [c3', Option.bind_some]; rfl
    | false =>
      rw [cond_false, if_neg (by simp)]
      by_cases k9 : n.k = 9
      · rw [if_pos k9, k9, show ((9 : Int) == 9) = true from rfl, cond_true]
        simp only [aOff_ptr, Nat.zero_add, Option.bind_some, b3, y2.len, asI, if_true]
        by_cases hp : 0 < n.ks.length
        · have hp' : (n.ks.length : Int) > 0 := by omega
          obtain ⟨h3, c3, e3⟩ := l149 (d := d + 2) (by omega) x2 (fn152 d h2.size h2) y2.rd (Nat.le_refl _) hl hx
          have c3' : call Try.prog Ms (d + 6) 149 [tv, kv, .func (.func 152) #[] #[]] h2 = _ := c3
          refine ⟨h3, ?_, e3⟩
          rw [decide_eq_true hp', cond_true, c3', Option.bind_some, decide_eq_true hp, Bool.true_and]; rfl
        · have hp' : ¬ (n.ks.length : Int) > 0 := by omega
          rw [decide_eq_false hp', cond_false, decide_eq_false hp, Bool.false_and]
          exact ⟨h2, rfl, Ext.refl _ _⟩
      rw [beq_eq_false_iff_ne.2 k9, cond_false, if_neg k9, E1 (fun t => s105_2 hk0 (call Try.prog Ms (d + 6)) (d + 6) tv (ptr h.size 0) bf n.k t h2), s105_2_j, s105_2_eq]
      have c151 : ∀ (Ps : List (Value × (Int → Bool))) (h3 h4 : AHeap) (b : Bool), call Try.prog Ms (d + 5 + 1) 151 [tv, knVal n kv, slc h3.size 0 Ps.length] (h3.new 74 (Ps.map Prod.fst)) = some (.bool b, h4) →
          (call Try.prog Ms (d + 6) 151 [tv, knVal n kv, slc h3.size 0 Ps.length] (h3.new 74 (Ps.map Prod.fst)) = some (.bool b, h4)) := fun _ _ _ _ h => h
      cases one1 n.k with
      | true =>
        rw [cond_true, if_pos rfl]
        obtain ⟨h3, c3, e3⟩ := are [(.func (.func 152) #[] #[], isEx)] (by decide) (fun j hj => by match j, hj with | 0, _ => exact f152)
        refine ⟨h3, ?_, e3⟩
        have c3' : call Try.prog Ms (d + 6) 151 [tv, knVal n kv, slc h2.size 0 1] (h2.new 74 [.func (.func 152) #[] #[]]) = _ := c3
        rw [bN, Option.bind_some, fill1 FX, Option.bind_some]
        simp only [aNewS]
        rw [c3', Option.bind_some]; rfl
      | false =>
        rw [cond_false, if_neg (by simp)]
        by_cases k16 : n.k = 16
        · rw [if_pos k16, k16, show ((16 : Int) == 16) = true from rfl, cond_true]
          obtain ⟨h3, c3, e3⟩ := are [(.func (.func 152) #[] #[], isEx), (.func (.func 152) #[] #[], isEx), (.func (.func 152) #[] #[], isEx)] (by decide) (fun j hj => by match j, hj with | 0, _ => exact f152 | 1, _ => exact f152 | 2, _ => exact f152)
          refine ⟨h3, ?_, e3⟩
          have c3' : call Try.prog Ms (d + 6) 151 [tv, knVal n kv, slc h2.size 0 3] (h2.new 74 [.func (.func 152) #[] #[], .func (.func 152) #[] #[], .func (.func 152) #[] #[]]) = _ := c3
          rw [bN, Option.bind_some, fill3 FX FX FX, Option.bind_some]
          simp only [aNewS]
          rw [c3', Option.bind_some]; rfl
        rw [beq_eq_false_iff_ne.2 k16, cond_false, if_neg k16]
        by_cases k17 : n.k = 17
        · rw [if_pos k17, k17, show ((17 : Int) == 17) = true from rfl, cond_true]
          obtain ⟨h3, c3, e3⟩ := are [(.func (.func 152) #[] #[], isEx), (bf, isBl)] (by show 2 ≤ 10; omega) (fun j hj => by match j, hj with | 0, _ => exact f152 | 1, _ => exact f2')
          have c3' : call Try.prog Ms (d + 6) 151 [tv, knVal n kv, slc h2.size 0 2] (h2.new 74 [.func (.func 152) #[] #[], bf]) = _ := c3
          rw [bN, Option.bind_some, fill2 FX FB, Option.bind_some]
          simp only [aNewS]
          rw [c3', Option.bind_some]
          simp only [asB, Option.bind_some]
          have s3 := e3.size
          have r3 := r2.ext e3 (by omega)
          obtain ⟨_, _, dN⟩ := nodeRow r3
          have hP : (kidsAreP (n.ks.map (kd T)) (List.map Prod.snd [((Value.func (.func 152) #[] #[]), isEx), (bf, isBl)])) = kidsAreP (n.ks.map (kd T)) [isEx, isBl] := rfl
          rw [hP]
          cases kidsAreP (n.ks.map (kd T)) [isEx, isBl] with
          | true => exact ⟨h3, rfl, e3⟩
          | false =>
            obtain ⟨h4, c4, e4⟩ := are151 (d := d + 5) (by omega) [(.func (.func 152) #[] #[], isEx), (bf, isBl), (bf, isBl)] hl (by show 3 ≤ 10; omega) hx ((x2.ext e3).mono s3) ((y2.ext e3).mono s3) (Nat.le_refl _) (fun j hj => by match j, hj with | 0, _ => exact fn152 (d + 3) h3.size h3 | 1, _ => exact (f2'.ext e3).mono s3 | 2, _ => exact (f2'.ext e3).mono s3)
            have c4' : call Try.prog Ms (d + 6) 151 [tv, knVal n kv, slc h3.size 0 3] (h3.new 74 [.func (.func 152) #[] #[], bf, bf]) = _ := c4
            refine ⟨h4, ?_, e3.trans (e4.mono s3)⟩
            rw [cond_false, dN, Option.bind_some, fill3 FX FB FB, Option.bind_some]
            rw [c4', Option.bind_some, Bool.false_or]; rfl
        rw [beq_eq_false_iff_ne.2 k17, cond_false, if_neg k17]
        by_cases k18 : n.k = 18
        · rw [if_pos k18, k18, show ((18 : Int) == 18) = true from rfl, cond_true]
          obtain ⟨h3, c3, e3⟩ := are [(.func (.func 152) #[] #[], isEx), (bf, isBl)] (by show 2 ≤ 10; omega) (fun j hj => by match j, hj with | 0, _ => exact f152 | 1, _ => exact f2')
          have c3' : call Try.prog Ms (d + 6) 151 [tv, knVal n kv, slc h2.size 0 2] (h2.new 74 [.func (.func 152) #[] #[], bf]) = _ := c3
          refine ⟨h3, ?_, e3⟩
          rw [bN, Option.bind_some, fill2 FX FB, Option.bind_some]
          simp only [aNewS]
          rw [c3', Option.bind_some]; rfl
        rw [beq_eq_false_iff_ne.2 k18, cond_false, if_neg k18]
        by_cases k20 : n.k = 20
        · rw [if_pos k20, k20, show ((20 : Int) == 20) = true from rfl, cond_true, bN, Option.bind_some]
          obtain ⟨cf, h3, c3, e3, f3⟩ := l148 (d + 5) (d + 4) 9 h2
          have c3' : call Try.prog Ms (d + 6) 148 [.int .i64 9] h2 = some (cf, h3) := c3
          have s3 := e3.size
          have r3 := r2.ext e3 (by omega)
          obtain ⟨_, _, dN⟩ := nodeRow r3
          have hv : Go.AH.vbeq (knVal n kv) (knVal n kv) = true := by
            show (vbeq1 (.int .i64 n.k) (.int .i64 n.k) && (vbeq1 (.string n.t) (.string n.t) && (vbeq1 (.int .i64 n.i) (.int .i64 n.i) && (vbeq1 kv kv && true)))) = true
            have hs : vbeq1 (.string n.t) (.string n.t) = true := vbeq_str n.t
            rw [vbeq1_self kv y.cell.1 y.cell.2, hs]
            simp [vbeq1]
          have e4 := Ext.new (Nat.le_refl h3.size) 74 [cf]
          obtain ⟨h5, c5, e5⟩ := are151 (d := d + 5) (by omega) [(cf, fun k => k == 9)] hl (by show 1 ≤ 10; omega) hx ((x2.ext e3).mono s3) ((y2.ext e3).mono s3) (Nat.le_refl _) (fun j hj => by match j, hj with | 0, _ => exact f3)
          have c5' : call Try.prog Ms (d + 6) 151 [tv, knVal n kv, slc h3.size 0 1] (h3.new 74 [cf]) = _ := c5
          obtain ⟨_, _, dN4⟩ := nodeRow (r3.ext e4 (by omega))
          refine ⟨h5, ?_, e3.trans (e5.mono s3)⟩
          rw [c3', Option.bind_some]
          simp only [dN, Option.bind_some, hv, cond_true, fill1 f3.1, aNewS, dN4]
          rw [c5', Option.bind_some]; rfl
        rw [beq_eq_false_iff_ne.2 k20, cond_false, if_neg k20]
        by_cases k21 : n.k = 21
        · rw [if_pos k21, k21, show ((21 : Int) == 21) = true from rfl, cond_true]
          obtain ⟨h3, c3, e3⟩ := l149 (d := d + 2) (by omega) x2 (fn153 d h2.size h2) y2.rd (Nat.le_refl _) hl hx
          have c3' : call Try.prog Ms (d + 6) 149 [tv, kv, .func (.func 153) #[] #[]] h2 = _ := c3
          refine ⟨h3, ?_, e3⟩
          simp only [aOff_ptr, Nat.zero_add, Option.bind_some, b3]
          rw [c3', Option.bind_some]; rfl
        rw [beq_eq_false_iff_ne.2 k21, cond_false, if_neg k21]
        exact ⟨h2, rfl, Ext.refl _ _⟩
end Go.Proofs.Ytadmoackacickaa
/- impl's TreeOk. -/
set_option linter.unusedSimpArgs false
namespace Go.Proofs.Ytadmoackacickaa
open Go Go.AH

def nodeOkP (T : List Kn) (i : Int) (n : Kn) : Bool := n.ks.all (fun k => inR k 0 (i - 1)) && (hasP n && kidsP n.k (n.ks.map (kd T)))
theorem nodeOk_loop {d c : Nat} (hd : 1048577 < d) {tv : Value} {T : List Kn} (hT : T.length ≤ 3000) {iN : Nat} (hi : iN < T.length) {kv : Value} {n : Kn} (hl : n.ks.length ≤ 1048576) {h : AHeap} {q : Nat}
    (x : TreeP c h tv T) (y : ISl c h kv n.ks) (hc : c ≤ h.size) (rq : Row h q (knCells n kv)) (hq : q < h.size) :
    ∀ (k j m : Nat), n.ks.length - j = k → j ≤ n.ks.length → k < m → (∀ z ∈ n.ks.take j, 0 ≤ z ∧ z < iN) →
      ∃ h', s59_0 hk0 (call Try.prog Ms (d + 7)) (d + 7) m tv (iN : Int) (ptr q 0) kv (n.ks.length : Int) (j : Int) h = some (.bool ((n.ks.drop j).all (fun k => inR k 0 ((iN : Int) - 1)) && (hasP n && kidsP n.k (n.ks.map (kd T)))), h') ∧ Ext h.size h h' := by
  intro k
  induction k with
  | zero =>
    intro j m hk hj hm hpre
    obtain ⟨m, rfl⟩ : ∃ q, m = q + 1 := ⟨m - 1, by omega⟩
    have : ¬ ((j : Int) < (n.ks.length : Int)) := by omega
    have hx : ∀ z ∈ n.ks, 0 ≤ z ∧ z < T.length := fun z hz => by
      rw [List.take_of_length_le (by omega)] at hpre
      have := hpre z hz; omega
    obtain ⟨_, _, dN⟩ := nodeRow rq
    obtain ⟨h2, c2, e2⟩ := l104 (d := d + 4) (by omega) y
    have c2' : call Try.prog Ms (d + 7) 104 [knVal n kv] h = _ := c2
    have r2 := rq.ext e2 hq
    obtain ⟨_, _, dN2⟩ := nodeRow r2
    rw [s59_0_eq, decide_eq_false this, cond_false, dN, Option.bind_some, c2', Option.bind_some, List.drop_eq_nil_of_le (by omega), List.all_nil, Bool.true_and]
    simp only [asB, Option.bind_some]
    cases hasP n with
    | false => exact ⟨h2, rfl, e2⟩
    | true =>
      obtain ⟨h3, c3, e3⟩ := l105 hd hl hx (x.ext (e2.mono hc)) (y.ext (e2.mono hc)) (Nat.le_trans hc e2.size)
      refine ⟨h3, ?_, e2.trans (e3.mono e2.size)⟩
      rw [cond_true, dN2, Option.bind_some, c3, Option.bind_some]; rfl
  | succ k ih =>
    intro j m hk hj hm hpre
    obtain ⟨m, rfl⟩ : ∃ q, m = q + 1 := ⟨m - 1, by omega⟩
    have hlt : j < n.ks.length := by omega
    have hI : ((j : Int) < (n.ks.length : Int)) := by omega
    obtain ⟨p, e1, e2⟩ := y.at hlt
    have w : IntKind.i64.wrap ((iN : Int) - 1) = (iN : Int) - 1 := wr (by omega) (by omega)
    have wj : IntKind.i64.wrap ((j : Int) + 1) = ((j + 1 : Nat) : Int) := by rw [wr (by omega) (by omega)]; omega
    have l103' : ∀ (x a b : Int) (h : AHeap), call Try.prog Ms (d + 7) 103 [.int .i64 x, .int .i64 a, .int .i64 b] h = some (.bool (inR x a b), h) := l103 (d + 6)
    rw [s59_0_eq, decide_eq_true hI, cond_true, e1, Option.bind_some, e2, Option.bind_some]
    simp only [asI, if_true, Option.bind_some]
    rw [w, l103', Option.bind_some, List.drop_eq_getElem_cons hlt, List.all_cons]
    simp only [asB, Option.bind_some]
    cases hR : inR n.ks[j] 0 ((iN : Int) - 1) with
    | false =>
      rw [Bool.not_false, cond_true, Bool.false_and, Bool.false_and]
      exact ⟨h, rfl, Ext.refl _ _⟩
    | true =>
      rw [Bool.not_true, cond_false, Bool.true_and, wj]
      refine ih (j + 1) m (by omega) (by omega) (by omega) (fun z hz => ?_)
      rw [List.take_succ_eq_append_getElem hlt, List.mem_append] at hz
      rcases hz with hz | hz
      · exact hpre z hz
      · simp at hz; subst hz
        unfold inR at hR; simp at hR; omega
theorem l59 {d c : Nat} (hd : 1048577 < d) {tv : Value} {T : List Kn} (hT : T.length ≤ 3000) {iN : Nat} (hi : iN < T.length) (hN : ∀ n ∈ T, n.t.size ≤ 1048576 ∧ n.ks.length ≤ 1048576) {h : AHeap}
    (x : TreeP c h tv T) (hc : c ≤ h.size) :
    ∃ h', call Try.prog Ms (d + 8) 59 [tv, .int .i64 (iN : Int)] h = some (.bool (nodeOkP T iN T[iN]), h') ∧ Ext h.size h h' := by
  have hcall : call Try.prog Ms (d + 8) 59 [tv, .int .i64 (iN : Int)] h = evFn hk0 Try.prog (call Try.prog Ms (d + 7)) M59 (d + 7) Try.f59 [tv, .int .i64 (iN : Int)] h := c59 (d + 7) _ _
  obtain ⟨pn, nv, k1, k2, k3⟩ := x.nodes
  obtain ⟨i, kv, g1, g2, g3⟩ := k2.at hi
  obtain ⟨g4, _⟩ := g3 h (Ext.refl _ _)
  have e1 := Ext.new (Nat.le_refl h.size) 73 [.int .i64 0, .string ⟨#[]⟩, .int .i64 0, .slice none 0 0]
  have o1 := Own.new (Nat.le_refl h.size) 73 [.int .i64 0, .string ⟨#[]⟩, .int .i64 0, .slice none 0 0]
  have s1 : (h.new 73 [.int .i64 0, .string ⟨#[]⟩, .int .i64 0, .slice none 0 0]).size = h.size + 1 := rfl
  rw [hcall, e59]
  simp only [x.cells.2, Option.bind_some, k1, k3 h (Ext.refl _ _), g1, g4, aNew]
  generalize h.new 73 [.int .i64 0, .string ⟨#[]⟩, .int .i64 0, .slice none 0 0] = h1 at e1 o1 s1 ⊢
  obtain ⟨h2, t2, x2, o2, s2⟩ := Own.stN o1 (n := 4) (v := knVal T[iN] kv) (kn_aCells g2) rfl rfl
  have E2 := e1.trans x2
  have r2 : Row h2 h.size (knCells T[iN] kv) := o2.row
  obtain ⟨_, b3, _⟩ := nodeRow r2
  have y2 := g2.ext (E2.mono hc)
  obtain ⟨h3, c3, e3⟩ := nodeOk_loop hd hT hi (hN _ (List.getElem_mem hi)).2 (x.ext (E2.mono hc)) y2 (by omega) r2 (by omega) T[iN].ks.length 0 (d + 7) (by omega) (by omega) (by have := (hN _ (List.getElem_mem hi)).2; omega) (fun z hz => by simp at hz)
  refine ⟨h3, ?_, E2.trans (e3.mono (by omega))⟩
  simp only [t2, Option.bind_some, aOff_ptr, Nat.zero_add, b3, y2.len, asI, if_true]
  exact c3
/-- Numbers, each behind the ones below. -/
def numGo' (F : Int → Int → Int) (i : Int) : List Int → Int → Int
  | [], fr => if i = fr then fr + 1 else -1
  | k :: ks, fr => if F k fr < 0 then -1 else numGo' F i ks (F k fr)
def numP (T : List Kn) : Nat → Int → Int → Int
  | 0, _, _ => -1
  | f + 1, i, fr => match T[i.toNat]? with
    | some n => numGo' (numP T f) i n.ks fr
    | none => -1
theorem num_loop {D N c : Nat} {tv : Value} {F : Int → Int → Int} {iN : Nat} (hiN : iN ≤ 3000) {xs : List Int} (hl : xs.length ≤ 1048576) {kv : Value} {h : AHeap} (y : ISl c h kv xs)
    (hF : ∀ k fr : Int, k ∈ xs → 0 ≤ fr → fr ≤ 10000 → call Try.prog Ms D 60 [tv, .int .i64 k, .int .i64 fr] h = some (.int .i64 (F k fr), h) ∧ (0 ≤ F k fr → F k fr = k + 1 ∧ k < iN)) :
    ∀ (k j m : Nat) (fr : Int), xs.length - j = k → j ≤ xs.length → k < m → 0 ≤ fr → fr ≤ 10000 →
      s60_0 hk0 (call Try.prog Ms D) N m tv (iN : Int) fr kv (xs.length : Int) (j : Int) h = some (.int .i64 (numGo' F iN (xs.drop j) fr), h) ∧ (0 ≤ numGo' F iN (xs.drop j) fr → numGo' F iN (xs.drop j) fr = iN + 1) := by
  intro k
  induction k with
  | zero =>
    intro j m fr hk hj hm h0 h1
    obtain ⟨m, rfl⟩ : ∃ q, m = q + 1 := ⟨m - 1, by omega⟩
    have : ¬ ((j : Int) < (xs.length : Int)) := by omega
    have w : IntKind.i64.wrap (fr + 1) = fr + 1 := wr (by omega) (by omega)
    rw [s60_0_eq, decide_eq_false this, cond_false, List.drop_eq_nil_of_le (by omega), numGo', w]
    by_cases he : (iN : Int) = fr
    · have : ((iN : Int) != fr) = false := by simp [he]
      rw [this, cond_false, if_pos he]
      exact ⟨rfl, fun _ => by omega⟩
    · have : ((iN : Int) != fr) = true := by simp [he]
      rw [this, cond_true, if_neg he]
      exact ⟨rfl, fun hh => by omega⟩
  | succ k ih =>
    intro j m fr hk hj hm h0 h1
    obtain ⟨m, rfl⟩ : ∃ q, m = q + 1 := ⟨m - 1, by omega⟩
    have hlt : j < xs.length := by omega
    have hI : ((j : Int) < (xs.length : Int)) := by omega
    obtain ⟨p, e1, e2⟩ := y.at hlt
    have wj : IntKind.i64.wrap ((j : Int) + 1) = ((j + 1 : Nat) : Int) := by rw [wr (by omega) (by omega)]; omega
    obtain ⟨c3, b3⟩ := hF xs[j] fr (List.getElem_mem hlt) h0 h1
    rw [s60_0_eq, decide_eq_true hI, cond_true, e1, Option.bind_some, e2, Option.bind_some, List.drop_eq_getElem_cons hlt, numGo']
    simp only [asI, if_true, Option.bind_some]
    rw [c3, Option.bind_some]
    simp only [asI, if_true, Option.bind_some]
    by_cases hn : F xs[j] fr < 0
    · rw [decide_eq_true hn, cond_true, if_pos hn]
      exact ⟨rfl, fun hh => by omega⟩
    · have hb := b3 (by omega)
      rw [decide_eq_false hn, cond_false, if_neg hn, wj]
      exact ih (j + 1) m (F xs[j] fr) (by omega) (by omega) (by omega) (by omega) (by omega)
theorem l60 {d c : Nat} (hd : 1048577 < d) {tv : Value} {T : List Kn} (hT : T.length ≤ 3000) (hN : ∀ n ∈ T, n.t.size ≤ 1048576 ∧ n.ks.length ≤ 1048576) (hG : ∀ (j : Nat) (n : Kn), T[j]? = some n → ∀ k ∈ n.ks, 0 ≤ k ∧ k < j) {h : AHeap} (x : TreeP c h tv T) :
    ∀ (f e : Nat) (i fr : Int), d + f ≤ e → 0 ≤ i → i < f → i < T.length → 0 ≤ fr → fr ≤ 10000 →
      call Try.prog Ms (e + 1) 60 [tv, .int .i64 i, .int .i64 fr] h = some (.int .i64 (numP T f i fr), h) ∧ (0 ≤ numP T f i fr → numP T f i fr = i + 1) := by
  intro f
  induction f with
  | zero => intro e i fr _ h0 h1; omega
  | succ f ih =>
    intro e i fr he h0 hif hit h3 h4
    obtain ⟨e, rfl⟩ : ∃ q, e = q + 1 := ⟨e - 1, by omega⟩
    obtain ⟨iN, rfl⟩ : ∃ iN : Nat, i = (iN : Int) := ⟨i.toNat, by omega⟩
    have hi : iN < T.length := by omega
    obtain ⟨pn, nv, k1, k2, k3⟩ := x.nodes
    obtain ⟨id, kv, g1, g2, g3⟩ := k2.at hi
    obtain ⟨_, _, _, _, g4⟩ := g3 h (Ext.refl _ _)
    have hTi : T[(iN : Int).toNat]? = some T[iN] := by simp [hi]
    have hTi' : T[iN]? = some T[iN] := by simp [hi]
    have hok := hN T[iN] (List.getElem_mem hi)
    have loop := num_loop (D := e + 1) (N := e + 1) (tv := tv) (F := numP T f) (iN := iN) (by omega) hok.2 g2 (fun k fr' hk a b => by
      have hk' := hG iN _ hTi' k hk
      obtain ⟨q1, q2⟩ := ih e k fr' (by omega) hk'.1 (by omega) (by omega) a b
      exact ⟨q1, fun hh => ⟨q2 hh, hk'.2⟩⟩) T[iN].ks.length 0 (e + 1) fr (by omega) (by omega) (by omega) h3 h4
    rw [List.drop_zero] at loop
    unfold numP
    rw [hTi, c60, e60]
    simp only [x.cells.2, Option.bind_some, k1, k3 h (Ext.refl _ _), g1, aOff_ptr, g4, g2.len, asI, if_true]
    exact loop
def nodeOkI (T : List Kn) (j : Nat) : Bool := match T[j]? with
  | some n => nodeOkP T j n
  | none => true
def okFrom (T : List Kn) : Nat → Nat → Bool
  | 0, _ => true
  | k + 1, j => nodeOkI T j && okFrom T k (j + 1)
theorem okFrom_all {T : List Kn} : ∀ (k j : Nat), okFrom T k j = true ↔ ∀ i, j ≤ i → i < j + k → nodeOkI T i = true
  | 0, j => ⟨fun _ i h1 h2 => by omega, fun _ => rfl⟩
  | k + 1, j => by
    rw [okFrom, Bool.and_eq_true, okFrom_all k (j + 1)]
    refine ⟨fun ⟨a, b⟩ i h1 h2 => ?_, fun H => ⟨H j (by omega) (by omega), fun i h1 h2 => H i (by omega) (by omega)⟩⟩
    by_cases he : i = j
    · subst he; exact a
    · exact b i (by omega) (by omega)
def implOk (T : List Kn) (top : Int) : Bool :=
  if T.length > 3000 ∨ T.length = 0 ∨ top ≠ (T.length : Int) - 1 ∨ kd T ((T.length : Int) - 1) ≠ 21 then false
  else okFrom T T.length 0 && numP T (T.length + 1) ((T.length : Int) - 1) 0 == (T.length : Int)
theorem ok_ranges {T : List Kn} (h : okFrom T T.length 0 = true) : ∀ (j : Nat) (n : Kn), T[j]? = some n → ∀ k ∈ n.ks, 0 ≤ k ∧ k < j := by
  intro j n hn k hk
  have hj : j < T.length := (List.getElem?_eq_some_iff.1 hn).1
  have := (okFrom_all _ _).1 h j (by omega) (by omega)
  unfold nodeOkI at this
  rw [hn] at this
  simp only [nodeOkP, Bool.and_eq_true, List.all_eq_true] at this
  have hR := this.1 k hk
  unfold inR at hR; simp at hR; omega
theorem impl_loop {d c : Nat} (hd : 1048577 < d) {T : List Kn} (hT : T.length ≤ 3000) (hN : ∀ n ∈ T, n.t.size ≤ 1048576 ∧ n.ks.length ≤ 1048576) {t : Nat} :
    ∀ (k j m : Nat) (h : AHeap), T.length - j = k → j ≤ T.length → k < m → 0 < T.length → TreeP c h (ptr t 0) T → c ≤ h.size → (∀ i, i < j → nodeOkI T i = true) →
      ∃ h', s22_2 hk0 (call Try.prog Ms (d + 3010 + 8)) (d + 3010 + 8) m (ptr t 0) ((T.length : Int) - 1) (T.length : Int) (j : Int) h = some (.bool (okFrom T k j && numP T (T.length + 1) ((T.length : Int) - 1) 0 == (T.length : Int)), h') ∧ Ext h.size h h' := by
  intro k
  induction k with
  | zero =>
    intro j m h hk hj hm hpos x hc hpre
    obtain ⟨m, rfl⟩ : ∃ q, m = q + 1 := ⟨m - 1, by omega⟩
    have : ¬ ((j : Int) < (T.length : Int)) := by omega
    have hall : okFrom T T.length 0 = true := (okFrom_all _ _).2 fun i _ h2 => hpre i (by omega)
    obtain ⟨pn, nv, k1, k2, k3⟩ := x.nodes
    have k3' := k3 h (Ext.refl _ _)
    obtain ⟨c3, _⟩ := l60 hd hT hN (ok_ranges hall) x (T.length + 1) (d + 3010 + 7) ((T.length : Int) - 1) 0 (by omega) (by omega) (by omega) (by omega) (by omega) (by omega)
    have c3' : call Try.prog Ms (d + 3010 + 8) 60 [ptr t 0, .int .i64 ((T.length : Int) - 1), .int .i64 0] h = _ := c3
    refine ⟨h, ?_, Ext.refl _ _⟩
    rw [s22_2_eq, decide_eq_false this, cond_false, k1, Option.bind_some, k3', Option.bind_some, k2.len, Option.bind_some]
    simp only [asI, if_true, Option.bind_some]
    rw [c3', Option.bind_some]
    simp only [asI, if_true, Option.bind_some, k3', k2.vbeq, cond_true, okFrom, Bool.true_and]
  | succ k ih =>
    intro j m h hk hj hm hpos x hc hpre
    obtain ⟨m, rfl⟩ : ∃ q, m = q + 1 := ⟨m - 1, by omega⟩
    have hlt : j < T.length := by omega
    have hI : ((j : Int) < (T.length : Int)) := by omega
    have wj : IntKind.i64.wrap ((j : Int) + 1) = ((j + 1 : Nat) : Int) := by rw [wr (by omega) (by omega)]; omega
    obtain ⟨h2, c2, e2⟩ := l59 (d := d + 3010) (by omega) hT hlt hN x hc
    have hI2 : nodeOkI T j = nodeOkP T j T[j] := by unfold nodeOkI; simp [hlt]
    rw [s22_2_eq, decide_eq_true hI, cond_true, c2, Option.bind_some, okFrom, hI2]
    simp only [asB, Option.bind_some]
    cases hok : nodeOkP T j T[j] with
    | false =>
      rw [Bool.not_false, cond_true, Bool.false_and, Bool.false_and]
      exact ⟨h2, rfl, e2⟩
    | true =>
      rw [Bool.not_true, cond_false, Bool.true_and, wj]
      obtain ⟨h3, c3, e3⟩ := ih (j + 1) m h2 (by omega) (by omega) (by omega) hpos (x.ext (e2.mono hc)) (Nat.le_trans hc e2.size) (fun i hi => by
        by_cases he : i = j
        · subst he; rw [hI2]; exact hok
        · exact hpre i (by omega))
      exact ⟨h3, c3, e2.trans (e3.mono e2.size)⟩
theorem l22 {d c : Nat} (hd : 1048577 < d) {nv : Value} {T : List Kn} {top : Int} {h : AHeap} (x : KSl c h nv T) (hc : c ≤ h.size) (hb : T.length ≤ 1048576) (hN : ∀ n ∈ T, n.t.size ≤ 1048576 ∧ n.ks.length ≤ 1048576) :
    ∃ h', call Try.prog Ms (d + 3010 + 9) 22 [trVal nv top] h = some (.bool (implOk T top), h') ∧ Ext h.size h h' := by
  have e1 := Ext.new (Nat.le_refl h.size) 35 [nv, .int .i64 top]
  have r1 := (Own.new (b := h.size) (Nat.le_refl _) 35 [nv, .int .i64 top]).row
  have s1 : (h.new 35 [nv, .int .i64 top]).size = h.size + 1 := rfl
  have hcall : call Try.prog Ms (d + 3010 + 9) 22 [trVal nv top] h = evFn hk0 Try.prog (call Try.prog Ms (d + 3010 + 8)) M22 (d + 3010 + 8) Try.f22 [trVal nv top] h := c22 (d + 3010 + 8) _ _
  rw [hcall, e22, tr_aCells x, Option.bind_some]
  simp only [aNew]
  have x1 := x.ext (e1.mono hc)
  generalize h.new 35 [nv, .int .i64 top] = h1 at e1 r1 s1 x1 ⊢
  obtain ⟨a0, a1, _⟩ := ld2 r1
  have w : IntKind.i64.wrap ((T.length : Int) - 1) = (T.length : Int) - 1 := wr (by omega) (by omega)
  simp only [aOff_ptr, Nat.zero_add, Option.bind_some, a0, a1, x.len, asI, if_true, w]
  have no : s22_0 hk0 (call Try.prog Ms (d + 3010 + 8)) (d + 3010 + 8) (ptr h.size 0) ((T.length : Int) - 1) true h1 = some (.bool false, h1) := by
    rw [s22_0_j, s22_0_eq]; rfl
  unfold implOk
  by_cases h3 : (T.length : Int) > 3000
  · rw [decide_eq_true h3, cond_true, no, if_pos (.inl (by omega))]; exact ⟨h1, rfl, e1⟩
  rw [decide_eq_false h3, cond_false]
  by_cases h4 : (T.length : Int) - 1 < 0
  · rw [decide_eq_true h4, cond_true, no, if_pos (.inr (.inl (by omega)))]; exact ⟨h1, rfl, e1⟩
  rw [decide_eq_false h4, cond_false]
  by_cases h5 : top = (T.length : Int) - 1
  · have : (top != (T.length : Int) - 1) = false := by simp [h5]
    rw [this, cond_false]
    obtain ⟨i, m1, m2⟩ := x1.kind (k := (T.length : Int) - 1) (by omega) (by omega)
    rw [m1, Option.bind_some]
    simp only [aOff_ptr, Nat.add_zero, Option.bind_some, m2 h1 (Ext.refl _ _), asI, if_true]
    by_cases h6 : kd T ((T.length : Int) - 1) = 21
    · have : (kd T ((T.length : Int) - 1) != 21) = false := by simp [h6]
      rw [this, if_neg (by rintro (a | a | a | a)
                           · omega
                           · omega
                           · exact a h5
                           · exact a h6), s22_0_j, s22_0_eq, cond_false, s22_1_j, s22_1_eq]
      simp only [aOff_ptr, Nat.zero_add, Option.bind_some, a0, x.len, asI, if_true]
      have tp : TreeP (h1.size) h1 (ptr h.size 0) T := ⟨h.size, nv, top, rfl, by omega, r1, x1.mono (by omega)⟩
      obtain ⟨h7, c7, e7⟩ := impl_loop hd (by omega) hN T.length 0 (d + 3010 + 8) h1 (by omega) (by omega) (by omega) (by omega) tp (Nat.le_refl _) (fun i hi => by omega)
      exact ⟨h7, c7, e1.trans (e7.mono (by omega))⟩
    · have : (kd T ((T.length : Int) - 1) != 21) = true := by simp [h6]
      rw [this, no, if_pos (.inr (.inr (.inr h6)))]; exact ⟨h1, rfl, e1⟩
  · have : (top != (T.length : Int) - 1) = true := by simp [h5]
    rw [this, cond_true, no, if_pos (.inr (.inr (.inl h5)))]; exact ⟨h1, rfl, e1⟩
end Go.Proofs.Ytadmoackacickaa
/- The plain law: both TreeOk say the same. -/
set_option linter.unusedSimpArgs false
namespace Go.Proofs.Ytadmoackacickaa
open Go Go.AH

theorem cls_ex (x : Int) : clsOk 1 x = isEx x := by
  unfold clsOk cls isEx
  rw [if_neg (by decide)]
  cases inR x 1 13 with
  | true => rfl
  | false =>
    rw [if_neg (by simp)]
    split
    · rfl
    · split
      · rfl
      · split
        · rfl
        · split <;> rfl
theorem ex_not {x : Int} (h : ¬ (1 ≤ x ∧ x ≤ 13)) : inR x 1 13 = false := by unfold inR; simp; omega
theorem st_not {x : Int} (h : ¬ (14 ≤ x ∧ x ≤ 20)) : inR x 14 20 = false := by unfold inR; simp; omega
theorem cls_st (x : Int) : clsOk 2 x = isSt x := by
  unfold clsOk cls isSt
  rw [if_neg (by decide)]
  by_cases h1 : 1 ≤ x ∧ x ≤ 13
  · have a : inR x 1 13 = true := by unfold inR; simp; omega
    rw [a, if_pos rfl, st_not (by omega)]; rfl
  · rw [ex_not h1, if_neg (by simp)]
    cases inR x 14 20 with
    | true => rfl
    | false =>
      rw [if_neg (by simp)]
      split
      · rfl
      · split
        · rfl
        · split <;> rfl
theorem cls_n (c : Int) (hc : c = 3 ∨ c = 4) (x : Int) : clsOk c x = (x == if c = 3 then 21 else 22) := by
  have hm : cls x = if inR x 1 13 = true then 1 else if inR x 14 20 = true then 2 else if x = 21 then 3 else if x = 22 then 4 else if x = 23 ∨ x = 24 then 5 else 0 := rfl
  unfold clsOk
  by_cases h1 : 1 ≤ x ∧ x ≤ 13
  · have a : inR x 1 13 = true := by unfold inR; simp; omega
    rw [hm, a, if_pos rfl]
    rcases hc with rfl | rfl
    · rw [if_neg (by decide), if_pos rfl, beq_eq_false_iff_ne.2 (show x ≠ 21 by omega)]; rfl
    · rw [if_neg (by decide), if_neg (by decide), beq_eq_false_iff_ne.2 (show x ≠ 22 by omega)]; rfl
  · by_cases h2 : 14 ≤ x ∧ x ≤ 20
    · have b : inR x 14 20 = true := by unfold inR; simp; omega
      rw [hm, ex_not h1, b, if_neg (c := false = true) (by simp), if_pos (c := true = true) rfl]
      rcases hc with rfl | rfl
      · rw [if_neg (by decide), if_pos rfl, beq_eq_false_iff_ne.2 (show x ≠ 21 by omega)]; rfl
      · rw [if_neg (by decide), if_neg (by decide), beq_eq_false_iff_ne.2 (show x ≠ 22 by omega)]; rfl
    · rw [hm, ex_not h1, st_not h2, if_neg (c := false = true) (by simp), if_neg (c := false = true) (by simp)]
      by_cases k1 : x = 21
      · subst k1; rcases hc with rfl | rfl <;> rfl
      · by_cases k2 : x = 22
        · subst k2; rcases hc with rfl | rfl <;> rfl
        · rw [if_neg k1, if_neg k2]
          have : (if x = 23 ∨ x = 24 then (5 : Int) else 0) ≠ 3 ∧ (if x = 23 ∨ x = 24 then (5 : Int) else 0) ≠ 4 := by split <;> decide
          rcases hc with rfl | rfl
          · rw [if_neg (by decide), beq_eq_false_iff_ne.2 this.1, if_pos rfl, beq_eq_false_iff_ne.2 k1]; rfl
          · rw [if_neg (by decide), beq_eq_false_iff_ne.2 this.2, if_neg (by decide), beq_eq_false_iff_ne.2 k2]; rfl
theorem cls_bl (x : Int) : clsOk 3 x = isBl x := cls_n 3 (.inl rfl) x
theorem cls_pr (x : Int) : clsOk 4 x = (x == 22) := cls_n 4 (.inr rfl) x
theorem cls_fi (x : Int) : clsOk 5 x = (x == 23 || x == 24) := by
  have hm : cls x = if inR x 1 13 = true then 1 else if inR x 14 20 = true then 2 else if x = 21 then 3 else if x = 22 then 4 else if x = 23 ∨ x = 24 then 5 else 0 := rfl
  unfold clsOk
  rw [if_neg (by decide)]
  by_cases h1 : 1 ≤ x ∧ x ≤ 13
  · have a : inR x 1 13 = true := by unfold inR; simp; omega
    rw [hm, a, if_pos rfl, beq_eq_false_iff_ne.2 (show x ≠ 23 by omega), beq_eq_false_iff_ne.2 (show x ≠ 24 by omega)]; rfl
  · by_cases h2 : 14 ≤ x ∧ x ≤ 20
    · have b : inR x 14 20 = true := by unfold inR; simp; omega
      rw [hm, ex_not h1, b, if_neg (c := false = true) (by simp), if_pos (c := true = true) rfl, beq_eq_false_iff_ne.2 (show x ≠ 23 by omega), beq_eq_false_iff_ne.2 (show x ≠ 24 by omega)]; rfl
    · rw [hm, ex_not h1, st_not h2, if_neg (c := false = true) (by simp), if_neg (c := false = true) (by simp)]
      by_cases k1 : x = 21
      · subst k1; rfl
      · by_cases k2 : x = 22
        · subst k2; rfl
        · rw [if_neg k1, if_neg k2]
          by_cases k3 : x = 23
          · subst k3; rfl
          · by_cases k4 : x = 24
            · subst k4; rfl
            · rw [if_neg (fun h => h.elim k3 k4), beq_eq_false_iff_ne.2 k3, beq_eq_false_iff_ne.2 k4]; rfl
theorem cls_call (x : Int) : clsOk 6 x = (x == 9) := rfl
/-- What the reference asks of kids. -/
def shP (k : Int) (kk : List Int) : Bool := decide ((shape k kk.length).length = kk.length) && (kk.zip (shape k kk.length)).all fun p => clsOk p.2 p.1
theorem zip_rep (c : Int) : ∀ kk : List Int, ((kk.zip (List.replicate kk.length c)).all fun p => clsOk p.2 p.1) = kk.all (clsOk c)
  | [] => rfl
  | x :: kk => by rw [List.length_cons, List.replicate_succ, List.zip_cons_cons, List.all_cons, List.all_cons, zip_rep c kk]
theorem sh_rep (c : Int) (kk : List Int) : (decide ((List.replicate kk.length c).length = kk.length) && (kk.zip (List.replicate kk.length c)).all fun p => clsOk p.2 p.1) = kk.all (clsOk c) := by
  rw [zip_rep, List.length_replicate, decide_eq_true rfl, Bool.true_and]
theorem are_zip : ∀ (kk cs : List Int), ((kk.zip (cs.map clsOk)).all fun p => p.2 p.1) = ((kk.zip cs).all fun p => clsOk p.2 p.1)
  | [], _ => by simp
  | _ :: _, [] => by simp
  | x :: kk, c :: cs => by rw [List.map_cons, List.zip_cons_cons, List.zip_cons_cons, List.all_cons, List.all_cons, are_zip kk cs]
theorem sh_are (cs kk : List Int) : (decide (cs.length = kk.length) && (kk.zip cs).all fun p => clsOk p.2 p.1) = kidsAreP kk (cs.map clsOk) := by
  unfold kidsAreP
  rw [List.length_map, are_zip]
  congr 1
  rw [Bool.eq_iff_iff]; simp [eq_comm]
theorem fEx : clsOk 1 = isEx := funext cls_ex
theorem fSt : clsOk 2 = isSt := funext cls_st
theorem fBl : clsOk 3 = isBl := funext cls_bl
theorem fPr : clsOk 4 = fun x => x == 22 := funext cls_pr
theorem fFi : clsOk 5 = fun x => x == 23 || x == 24 := funext cls_fi
theorem fCa : clsOk 6 = fun x => x == 9 := funext cls_call
theorem sh_fn (kk : List Int) : (decide (0 < kk.length) && (kk.dropLast.all (· == 22) && kk.getLast? == some 21)) = (decide ((List.replicate (kk.length - 1) (4 : Int) ++ [3]).length = kk.length) && (kk.zip (List.replicate (kk.length - 1) 4 ++ [3])).all fun p => clsOk p.2 p.1) := by
  rcases List.eq_nil_or_concat kk with rfl | ⟨ys, y, rfl⟩
  · rfl
  · rw [List.concat_eq_append]
    have hl : (ys ++ [y]).length = ys.length + 1 := by simp
    have hr : (List.replicate ys.length (4 : Int) ++ [3]).length = ys.length + 1 := by simp
    rw [hl, Nat.add_sub_cancel, hr, decide_eq_true (show 0 < ys.length + 1 by omega), decide_eq_true (show ys.length + 1 = ys.length + 1 from rfl), Bool.true_and, Bool.true_and]
    rw [List.zip_append (by simp), List.all_append, zip_rep, fPr, List.dropLast_concat, List.getLast?_concat]
    have : (List.zip [y] [(3 : Int)]).all (fun p => clsOk p.2 p.1) = (some y == some (21 : Int)) := by
      show (clsOk 3 y && true) = _
      rw [cls_bl, Bool.and_true]; rfl
    rw [this]
theorem sh_call (kk : List Int) : (decide (0 < kk.length) && kk.all isEx) = (decide (([1] ++ List.replicate (kk.length - 1) (1 : Int)).length = kk.length) && (kk.zip ([1] ++ List.replicate (kk.length - 1) (1 : Int))).all fun p => clsOk p.2 p.1) := by
  cases kk with
  | nil => rfl
  | cons x kk =>
    rw [List.length_cons, Nat.add_sub_cancel, show [(1 : Int)] ++ List.replicate kk.length 1 = List.replicate (x :: kk).length 1 from rfl]
    have := sh_rep 1 (x :: kk)
    rw [fEx] at this
    rw [List.length_cons] at this
    rw [List.length_cons, this, decide_eq_true (show 0 < kk.length + 1 by omega), Bool.true_and]
theorem sh_if (kk : List Int) : (kidsAreP kk [isEx, isBl] || kidsAreP kk [isEx, isBl, isBl]) = (decide ((if kk.length = 3 then [(1 : Int), 3, 3] else [1, 3]).length = kk.length) && (kk.zip (if kk.length = 3 then [(1 : Int), 3, 3] else [1, 3])).all fun p => clsOk p.2 p.1) := by
  by_cases h : kk.length = 3
  · rw [if_pos h, sh_are [1, 3, 3] kk]
    have : kidsAreP kk [isEx, isBl] = false := by unfold kidsAreP; rw [decide_eq_false (by rw [h]; decide)]; rfl
    rw [this, Bool.false_or]
    show _ = kidsAreP kk [clsOk 1, clsOk 3, clsOk 3]
    rw [fEx, fBl]
  · rw [if_neg h, sh_are [1, 3] kk]
    have : kidsAreP kk [isEx, isBl, isBl] = false := by unfold kidsAreP; rw [decide_eq_false (by simpa using h)]; rfl
    rw [this, Bool.or_false]
    show _ = kidsAreP kk [clsOk 1, clsOk 3]
    rw [fEx, fBl]
theorem sh_nil (kk : List Int) : decide (kk.length = 0) = (decide (([] : List Int).length = kk.length) && (kk.zip ([] : List Int)).all fun p => clsOk p.2 p.1) := by
  rw [List.zip_nil_right, List.all_nil, Bool.and_true, Bool.eq_iff_iff]; simp [eq_comm]
theorem kids_shape {k : Int} (h1 : 1 ≤ k) (h2 : k ≤ 24) (kk : List Int) : kidsP k kk = shP k kk := by
  have A1 : kidsAreP kk [isEx] = (decide ([(1 : Int)].length = kk.length) && (kk.zip [(1 : Int)]).all fun p => clsOk p.2 p.1) := by rw [sh_are [1] kk]; show _ = kidsAreP kk [clsOk 1]; rw [fEx]
  have A2 : kidsAreP kk [isEx, isEx] = (decide ([(1 : Int), 1].length = kk.length) && (kk.zip [(1 : Int), 1]).all fun p => clsOk p.2 p.1) := by rw [sh_are [1, 1] kk]; show _ = kidsAreP kk [clsOk 1, clsOk 1]; rw [fEx]
  have A3 : kidsAreP kk [isEx, isEx, isEx] = (decide ([(1 : Int), 1, 1].length = kk.length) && (kk.zip [(1 : Int), 1, 1]).all fun p => clsOk p.2 p.1) := by rw [sh_are [1, 1, 1] kk]; show _ = kidsAreP kk [clsOk 1, clsOk 1, clsOk 1]; rw [fEx]
  have A4 : kidsAreP kk [isEx, isBl] = (decide ([(1 : Int), 3].length = kk.length) && (kk.zip [(1 : Int), 3]).all fun p => clsOk p.2 p.1) := by rw [sh_are [1, 3] kk]; show _ = kidsAreP kk [clsOk 1, clsOk 3]; rw [fEx, fBl]
  have A5 : kidsAreP kk [fun k => k == 9] = (decide ([(6 : Int)].length = kk.length) && (kk.zip [(6 : Int)]).all fun p => clsOk p.2 p.1) := by rw [sh_are [6] kk]; show _ = kidsAreP kk [clsOk 6]; rw [fCa]
  have B5 := sh_rep 5 kk
  rw [fFi] at B5
  have B2 := sh_rep 2 kk
  rw [fSt] at B2
  have : k = 1 ∨ k = 2 ∨ k = 3 ∨ k = 4 ∨ k = 5 ∨ k = 6 ∨ k = 7 ∨ k = 8 ∨ k = 9 ∨ k = 10 ∨ k = 11 ∨ k = 12 ∨ k = 13 ∨ k = 14 ∨ k = 15 ∨ k = 16 ∨ k = 17 ∨ k = 18 ∨ k = 19 ∨ k = 20 ∨ k = 21 ∨ k = 22 ∨ k = 23 ∨ k = 24 := by omega
  rcases this with rfl | rfl | rfl | rfl | rfl | rfl | rfl | rfl | rfl | rfl | rfl | rfl | rfl | rfl | rfl | rfl | rfl | rfl | rfl | rfl | rfl | rfl | rfl | rfl <;>
    first | exact sh_nil kk | exact sh_fn kk | exact B5.symm | exact A2 | exact sh_call kk | exact A1 | exact A3 | exact sh_if kk | exact A4 | exact A5 | exact B2.symm
end Go.Proofs.Ytadmoackacickaa
/- The plain law: both TreeOk say the same (2). -/
set_option linter.unusedSimpArgs false
namespace Go.Proofs.Ytadmoackacickaa
open Go Go.AH

structure Good (T : List Kn) (j : Nat) (n : Kn) : Prop where
  rng : ∀ k ∈ n.ks, 0 ≤ k ∧ k < j
  has : hasP n = true
  knd : 1 ≤ n.k ∧ n.k ≤ 24
  shp : shP n.k (n.ks.map (kd T)) = true
theorem kidsP_range {k : Int} {kk : List Int} (h : kidsP k kk = true) : 1 ≤ k ∧ k ≤ 24 := by
  by_cases hk : 1 ≤ k ∧ k ≤ 24
  · exact hk
  · exfalso
    have ne : ∀ c : Int, 1 ≤ c → c ≤ 24 → (k == c) = false := fun c a b => beq_eq_false_iff_ne.2 (by omega)
    unfold kidsP at h
    have l1 : leaf k = false := by unfold leaf; rw [ne 1 (by decide) (by decide), ne 2 (by decide) (by decide), ne 3 (by decide) (by decide), ne 4 (by decide) (by decide), ne 5 (by decide) (by decide), ne 22 (by decide) (by decide)]; rfl
    have l2 : two2 k = false := by unfold two2; rw [ne 8 (by decide) (by decide), ne 10 (by decide) (by decide), ne 12 (by decide) (by decide), ne 13 (by decide) (by decide), ne 24 (by decide) (by decide)]; rfl
    have l3 : one1 k = false := by unfold one1; rw [ne 11 (by decide) (by decide), ne 14 (by decide) (by decide), ne 15 (by decide) (by decide), ne 19 (by decide) (by decide), ne 23 (by decide) (by decide)]; rfl
    rw [l1, l2, l3, if_neg (by simp), if_neg (by omega), if_neg (by omega), if_neg (by simp), if_neg (by omega), if_neg (by simp), if_neg (by omega), if_neg (by omega), if_neg (by omega), if_neg (by omega), if_neg (by omega)] at h
    cases h
theorem good_iff {T : List Kn} {j : Nat} {n : Kn} : nodeOkP T j n = true ↔ Good T j n := by
  unfold nodeOkP
  simp only [Bool.and_eq_true, List.all_eq_true]
  constructor
  · rintro ⟨h1, h2, h3⟩
    have hr := kidsP_range h3
    refine ⟨fun k hk => ?_, h2, hr, by rw [← kids_shape hr.1 hr.2]; exact h3⟩
    have := h1 k hk
    unfold inR at this; simp at this; omega
  · rintro ⟨h1, h2, h3, h4⟩
    refine ⟨fun k hk => ?_, h2, by rw [kids_shape h3.1 h3.2]; exact h4⟩
    have := h1 k hk
    unfold inR; simp; omega
theorem clsOk_range {c k : Int} (h : clsOk c k = true) : 1 ≤ k ∧ k ≤ 24 := by
  by_cases hk : 1 ≤ k ∧ k ≤ 24
  · exact hk
  · exfalso
    unfold clsOk at h
    split at h
    · simp at h; omega
    · have hm : cls k = 0 := by
        have e : cls k = if inR k 1 13 = true then 1 else if inR k 14 20 = true then 2 else if k = 21 then 3 else if k = 22 then 4 else if k = 23 ∨ k = 24 then 5 else 0 := rfl
        rw [e, ex_not (by omega), st_not (by omega), if_neg (by simp), if_neg (by simp), if_neg (by omega), if_neg (by omega), if_neg (by omega)]
      rw [hm] at h
      simp at h
      exact h.2 h.1.symm
def FitA (T : List Kn) (f : Nat) : Prop := ∀ (i c next : Int) (seen : List Bool), (fitsP T f i c next seen).1.2 = true → 0 ≤ next →
  ∃ iN : Nat, i = iN ∧ iN < T.length ∧ (fitsP T f i c next seen).1.1 = i + 1 ∧ numP T f i next = i + 1 ∧ next ≤ i ∧ clsOk c (kd T i) = true ∧ ∀ j : Nat, next ≤ j → j ≤ iN → ∃ n, T[j]? = some n ∧ Good T j n
theorem kidsA {T : List Kn} {f : Nat} (hF : FitA T f) {iN : Nat} : ∀ (ks sh : List Int) (next : Int) (seen : List Bool), sh.length = ks.length → (kidsGo (fitsP T f) (iN : Int) ks sh next seen).1.2 = true → 0 ≤ next →
    (kidsGo (fitsP T f) (iN : Int) ks sh next seen).1.1 = iN + 1 ∧ numGo' (numP T f) (iN : Int) ks next = iN + 1 ∧ next ≤ iN ∧ (∀ k ∈ ks, 0 ≤ k ∧ k < iN) ∧ (((ks.map (kd T)).zip sh).all fun p => clsOk p.2 p.1) = true ∧
      ∀ j : Nat, next ≤ j → j < iN → ∃ n, T[j]? = some n ∧ Good T j n
  | [], [], next, seen, _, h, h0 => by
    simp only [kidsGo, beq_iff_eq] at h
    subst h
    refine ⟨rfl, by rw [numGo', if_pos rfl], Int.le_refl _, fun k hk => by simp at hk, rfl, fun j a b => by omega⟩
  | kid :: ks, s :: sh, next, seen, hl, h, h0 => by
    rw [kidsGo] at h ⊢
    by_cases hge : kid ≥ (iN : Int)
    · rw [if_pos hge] at h; cases h
    · rw [if_neg hge] at h ⊢
      by_cases hf : (fitsP T f kid s next seen).1.2 = true
      · rw [if_pos hf] at h ⊢
        obtain ⟨kN, a1, a2, a3, a4, a5, a6, a7⟩ := hF kid s next seen hf h0
        obtain ⟨b1, b2, b3, b4, b5, b6⟩ := kidsA hF ks sh _ _ (by simpa using hl) h (by rw [a3]; omega)
        rw [a3] at b2 b3 b6
        refine ⟨b1, ?_, by omega, fun k hk => ?_, ?_, fun j c1 c2 => ?_⟩
        · rw [numGo', a4, if_neg (by omega)]; exact b2
        · rcases List.mem_cons.1 hk with rfl | hk
          · omega
          · exact b4 k hk
        · rw [List.map_cons, List.zip_cons_cons, List.all_cons, a6, b5]; rfl
        · by_cases hj : (j : Int) ≤ kid
          · exact a7 j c1 (by omega)
          · exact b6 j (by omega) c2
      · rw [if_neg hf] at h; cases h
theorem fitA (T : List Kn) : ∀ f, FitA T f := by
  intro f
  induction f with
  | zero => intro i c next seen h; cases h
  | succ f ih =>
    intro i c next seen h h0
    unfold fitsP at h ⊢
    cases hT : T[i.toNat]? with
    | none => rw [hT] at h; cases h
    | some n =>
      rw [hT] at h
      simp only at h ⊢
      by_cases hc : 0 ≤ i ∧ seen[i.toNat]? = some false
      · rw [if_pos hc] at h ⊢
        by_cases hn : nodeFit n c = true
        · rw [if_pos hn] at h ⊢
          obtain ⟨iN, rfl⟩ : ∃ iN : Nat, i = (iN : Int) := ⟨i.toNat, by omega⟩
          have hT' : T[iN]? = some n := hT
          have hi : iN < T.length := (List.getElem?_eq_some_iff.1 hT').1
          have hkd : kd T (iN : Int) = n.k := by
            show ((T[(iN : Int).toNat]?).map Kn.k).getD 0 = n.k
            rw [hT]; rfl
          unfold nodeFit at hn
          simp only [Bool.and_eq_true, beq_iff_eq] at hn
          obtain ⟨n1, n2, n3⟩ := hn
          have hlen : (shape n.k n.ks.length).length = n.ks.length := by omega
          obtain ⟨b1, b2, b3, b4, b5, b6⟩ := kidsA ih n.ks (shape n.k n.ks.length) next _ hlen h h0
          refine ⟨iN, rfl, hi, b1, ?_, b3, by rw [hkd]; exact n1, fun j c1 c2 => ?_⟩
          · show (match T[(iN : Int).toNat]? with | some n => numGo' (numP T f) (iN : Int) n.ks next | none => -1) = _
            rw [hT]; exact b2
          · by_cases hj : j < iN
            · exact b6 j c1 hj
            · have : j = iN := by omega
              subst this
              refine ⟨n, hT', b4, n3, clsOk_range n1, ?_⟩
              unfold shP
              rw [List.length_map, hlen, decide_eq_true rfl, b5]; rfl
        · rw [if_neg hn] at h; cases h
      · rw [if_neg hc] at h; cases h
theorem numGo_le {T : List Kn} {f : Nat} (hF : ∀ k fr : Int, 0 ≤ numP T f k fr → 0 ≤ fr → numP T f k fr = k + 1 ∧ fr ≤ k) {i : Int} : ∀ (ks : List Int) (fr : Int), 0 ≤ numGo' (numP T f) i ks fr → 0 ≤ fr → numGo' (numP T f) i ks fr = i + 1 ∧ fr ≤ i
  | [], fr, h, h0 => by
    rw [numGo'] at h ⊢
    by_cases he : i = fr
    · rw [if_pos he]; omega
    · rw [if_neg he] at h; omega
  | k :: ks, fr, h, h0 => by
    rw [numGo'] at h ⊢
    by_cases hn : numP T f k fr < 0
    · rw [if_pos hn] at h; omega
    · rw [if_neg hn] at h ⊢
      have a := hF k fr (by omega) h0
      have b := numGo_le hF ks _ h (by omega)
      omega
theorem num_le (T : List Kn) : ∀ (f : Nat) (i fr : Int), 0 ≤ numP T f i fr → 0 ≤ fr → numP T f i fr = i + 1 ∧ fr ≤ i := by
  intro f
  induction f with
  | zero => intro i fr h; exact absurd h (by show ¬ (0 ≤ (-1 : Int)); decide)
  | succ f ih =>
    intro i fr h h0
    unfold numP at h ⊢
    cases hT : T[i.toNat]? with
    | none => rw [hT] at h; exact absurd h (by show ¬ (0 ≤ (-1 : Int)); decide)
    | some n => rw [hT] at h; exact numGo_le ih n.ks fr h h0
def FitB (T : List Kn) (f : Nat) : Prop := ∀ (i c next : Int) (seen : List Bool), seen.length = T.length → 0 ≤ next → 0 ≤ i → i < T.length → numP T f i next = i + 1 → clsOk c (kd T i) = true → (∀ j : Nat, next ≤ j → j ≤ i → seen[j]? = some false) →
  (fitsP T f i c next seen).1 = (i + 1, true) ∧ (fitsP T f i c next seen).2.length = T.length ∧ ∀ j : Nat, i < j → (fitsP T f i c next seen).2[j]? = seen[j]?
theorem kidsB {T : List Kn} {f : Nat} (hF : FitB T f) {iN : Nat} (hi : iN < T.length) : ∀ (ks sh : List Int) (next : Int) (seen : List Bool), sh.length = ks.length → seen.length = T.length → 0 ≤ next → (∀ k ∈ ks, 0 ≤ k ∧ k < iN) →
    numGo' (numP T f) (iN : Int) ks next = iN + 1 → (((ks.map (kd T)).zip sh).all fun p => clsOk p.2 p.1) = true → (∀ j : Nat, next ≤ j → j < iN → seen[j]? = some false) →
    (kidsGo (fitsP T f) (iN : Int) ks sh next seen).1 = ((iN : Int) + 1, true) ∧ (kidsGo (fitsP T f) (iN : Int) ks sh next seen).2.length = T.length ∧ ∀ j : Nat, iN ≤ j → (kidsGo (fitsP T f) (iN : Int) ks sh next seen).2[j]? = seen[j]?
  | [], [], next, seen, _, hs, h0, hk, hn, _, hf => by
    rw [numGo'] at hn
    by_cases he : (iN : Int) = next
    · rw [kidsGo]
      subst he
      exact ⟨by simp, hs, fun j _ => rfl⟩
    · rw [if_neg he] at hn; omega
  | kid :: ks, s :: sh, next, seen, hl, hs, h0, hk, hn, hz, hf => by
    rw [numGo'] at hn
    rw [kidsGo]
    by_cases hneg : numP T f kid next < 0
    · rw [if_pos hneg] at hn; omega
    · rw [if_neg hneg] at hn
      have hkid := hk kid (by simp)
      obtain ⟨n1, n2⟩ := num_le T f kid next (by omega) h0
      rw [List.map_cons, List.zip_cons_cons, List.all_cons, Bool.and_eq_true] at hz
      obtain ⟨a1, a2, a3⟩ := hF kid s next seen hs h0 hkid.1 (by omega) n1 hz.1 (fun j c1 c2 => hf j c1 (by omega))
      rw [if_neg (show ¬ kid ≥ (iN : Int) by omega), a1, if_pos rfl]
      rw [n1] at hn
      obtain ⟨b1, b2, b3⟩ := kidsB hF hi ks sh (kid + 1) _ (by simpa using hl) a2 (by omega) (fun k hk' => hk k (by simp [hk'])) hn hz.2 (fun j c1 c2 => by rw [a3 j (by omega)]; exact hf j (by omega) c2)
      exact ⟨b1, b2, fun j hj => by rw [b3 j hj]; exact a3 j (by omega)⟩
theorem fitB {T : List Kn} (hG : ∀ (j : Nat) (n : Kn), T[j]? = some n → Good T j n) : ∀ f, FitB T f := by
  intro f
  induction f with
  | zero => intro i c next seen _ _ h0 _ hn; exact absurd hn (by show ¬ ((-1 : Int) = i + 1); omega)
  | succ f ih =>
    intro i c next seen hs h0 hi0 hi1 hn hc hf
    obtain ⟨iN, rfl⟩ : ∃ iN : Nat, i = (iN : Int) := ⟨i.toNat, by omega⟩
    have hi : iN < T.length := by omega
    have hT : T[(iN : Int).toNat]? = some T[iN] := by simp [hi]
    have hT' : T[iN]? = some T[iN] := by simp [hi]
    have hkd : kd T (iN : Int) = T[iN].k := by
      show ((T[(iN : Int).toNat]?).map Kn.k).getD 0 = _
      rw [hT]; rfl
    have g := hG iN _ hT'
    have hle : next ≤ (iN : Int) := (num_le T (f + 1) iN next (by omega) h0).2
    unfold numP at hn
    rw [hT] at hn
    simp only at hn
    unfold fitsP
    rw [hT]
    simp only
    have hsf : seen[(iN : Int).toNat]? = some false := hf iN hle (Int.le_refl _)
    have hshp := g.shp
    unfold shP at hshp
    rw [List.length_map, Bool.and_eq_true, decide_eq_true_eq] at hshp
    have hfit : nodeFit T[iN] c = true := by
      unfold nodeFit
      rw [← hkd, hc, hkd, g.has, hshp.1]; simp
    rw [if_pos ⟨hi0, hsf⟩, if_pos hfit]
    obtain ⟨b1, b2, b3⟩ := kidsB ih hi T[iN].ks (shape T[iN].k T[iN].ks.length) next (seen.set (iN : Int).toNat true) hshp.1 (by simp [hs]) h0 g.rng hn hshp.2 (fun j c1 c2 => by
      show (seen.set iN true)[j]? = some false
      rw [List.getElem?_set_ne (by omega)]; exact hf j c1 (by omega))
    refine ⟨b1, b2, fun j hj => ?_⟩
    rw [b3 j (by omega)]
    show (seen.set iN true)[j]? = seen[j]?
    rw [List.getElem?_set_ne (by omega)]
theorem ok_same (T : List Kn) (top : Int) : specOk T top = implOk T top := by
  unfold specOk implOk
  by_cases h3 : T.length > 3000
  · rw [if_pos h3, if_pos (.inl h3)]
  rw [if_neg h3, Bool.eq_iff_iff]
  constructor
  · intro h
    rw [Bool.and_eq_true, beq_iff_eq] at h
    obtain ⟨tN, a1, a2, a3, a4, a5, a6, a7⟩ := fitA T _ top 3 0 _ h.1 (by omega)
    have ht : top = (T.length : Int) - 1 := by omega
    have hk : kd T ((T.length : Int) - 1) = 21 := by
      rw [ht] at a6
      rw [cls_bl] at a6
      unfold isBl at a6
      simpa using a6
    rw [if_neg (by rintro (a | a | a | a)
                   · exact h3 a
                   · omega
                   · exact a ht
                   · exact a hk), Bool.and_eq_true, beq_iff_eq]
    refine ⟨(okFrom_all _ _).2 fun i _ hi => ?_, ?_⟩
    · obtain ⟨n, b1, b2⟩ := a7 i (by omega) (by omega)
      unfold nodeOkI
      rw [b1]; exact good_iff.2 b2
    · rw [← ht, a4]; omega
  · intro h
    by_cases hc : T.length > 3000 ∨ T.length = 0 ∨ top ≠ (T.length : Int) - 1 ∨ kd T ((T.length : Int) - 1) ≠ 21
    · rw [if_pos hc] at h; cases h
    rw [if_neg hc, Bool.and_eq_true, beq_iff_eq] at h
    have h0 : T.length ≠ 0 := fun x => hc (.inr (.inl x))
    have ht : top = (T.length : Int) - 1 := by
      by_cases e : top = (T.length : Int) - 1
      · exact e
      · exact absurd (.inr (.inr (.inl e))) hc
    have hk : kd T ((T.length : Int) - 1) = 21 := by
      by_cases e : kd T ((T.length : Int) - 1) = 21
      · exact e
      · exact absurd (.inr (.inr (.inr e))) hc
    have hG : ∀ (j : Nat) (n : Kn), T[j]? = some n → Good T j n := fun j n hn => by
      have hj : j < T.length := (List.getElem?_eq_some_iff.1 hn).1
      have := (okFrom_all _ _).1 h.1 j (by omega) (by omega)
      unfold nodeOkI at this
      rw [hn] at this
      exact good_iff.1 this
    obtain ⟨b1, _, _⟩ := fitB hG (T.length + 1) top 3 0 (List.replicate T.length false) (by simp) (by omega) (by omega) (by omega) (by rw [ht, h.2]; omega) (by rw [ht, hk]; decide) (fun j _ hj => by rw [List.getElem?_replicate, if_pos (by omega)])
    rw [b1, ht]
    simp
end Go.Proofs.Ytadmoackacickaa
/- FnExactTreeOk, as the small evaluator runs it. -/
set_option linter.unusedSimpArgs false
namespace Go.Proofs.Ytadmoackacickaa
open Go Go.AH

theorem l4 {d : Nat} (hd : 1048577 < d) {nv : Value} {T : List Kn} {top : Int} {h : AHeap} (x : KSl h.size h nv T) (hb : T.length ≤ bigT) (hN : ∀ n ∈ T, okK n) :
    ∃ h', call Try.prog Ms (d + 3010 + 10) 4 [trVal nv top] h = some (.bool true, h') := by
  have e1 := Ext.new (Nat.le_refl h.size) 30 [nv, .int .i64 top]
  have r1 := (Own.new (b := h.size) (Nat.le_refl _) 30 [nv, .int .i64 top]).row
  have s1 : (h.new 30 [nv, .int .i64 top]).size = h.size + 1 := rfl
  have hcall : call Try.prog Ms (d + 3010 + 10) 4 [trVal nv top] h = evFn hk0 Try.prog (call Try.prog Ms (d + 3010 + 9)) M4 (d + 3010 + 9) Try.f4 [trVal nv top] h := c4 (d + 3010 + 9) _ _
  rw [hcall, e4, tr_aCells x, Option.bind_some]
  simp only [aNew]
  have x1 := (x.ext e1).mono (show h.size ≤ (h.new 30 [nv, .int .i64 top]).size by omega)
  generalize h.new 30 [nv, .int .i64 top] = h1 at e1 r1 s1 x1 ⊢
  obtain ⟨_, _, aN⟩ := ld2 r1
  have aN' : aLdN h1 (ptr h.size 0) 2 = some (trVal nv top) := aN
  obtain ⟨h2, c2, e2⟩ := l19 (d := d + 3010 + 5) (by omega) (top := top) x1 (Nat.le_refl _) hN hb
  have c2' : call Try.prog Ms (d + 3010 + 9) 19 [trVal nv top, .int .i64 1048576] h1 = _ := c2
  rw [aN', Option.bind_some, c2', Option.bind_some]
  simp only [asI, if_true, Option.bind_some]
  by_cases hs : szT T 1048576 < 0
  · rw [if_pos hs, decide_eq_true (show (-1 : Int) < 0 by decide), cond_true]; exact ⟨h2, rfl⟩
  rw [if_neg hs, decide_eq_false hs, cond_false]
  obtain ⟨hT, hK⟩ := szT_ok (ns := T) (by omega)
  have s2 := e2.size
  have r2 := r1.ext e2 (by omega)
  have x2 := (x1.ext e2).mono s2
  obtain ⟨_, _, b2⟩ := ld2 r2
  have b2' : aLdN h2 (ptr h.size 0) 2 = some (trVal nv top) := b2
  obtain ⟨na, h3, c3, e3, k3⟩ := l21 (d := d + 3010 + 5) (by omega) (top := top) x2 (Nat.le_refl _) hT hK
  have c3' : call Try.prog Ms (d + 3010 + 9) 21 [trVal nv top] h2 = _ := c3
  have s3 := e3.size
  obtain ⟨h4, c4', e4⟩ := l20 (d := d + 2) (by omega) (top := top) k3.ksl (Nat.le_refl _) hT hK
  rw [show d + 2 + 3010 + 7 = d + 3010 + 9 by omega] at c4'
  have s4 := e4.size
  have r4 := (r2.ext e3 (by omega)).ext e4 (by omega)
  obtain ⟨_, _, d4⟩ := ld2 r4
  have d4' : aLdN h4 (ptr h.size 0) 2 = some (trVal nv top) := d4
  have x4 := (((x2.ext e3).mono s3).ext e4).mono s4
  rw [b2', Option.bind_some, c3', Option.bind_some, c4', Option.bind_some]
  simp only [asB, Option.bind_some]
  obtain ⟨nb, h5, c5, e5, k5⟩ := l21 (d := d + 3010 + 5) (by omega) (top := top) x4 (Nat.le_refl _) hT hK
  have c5' : call Try.prog Ms (d + 3010 + 9) 21 [trVal nv top] h4 = _ := c5
  have s5 := e5.size
  rw [d4', Option.bind_some, c5', Option.bind_some]
  have e6 := Ext.new (Nat.le_refl h5.size) 35 [.slice none 0 0, .int .i64 0]
  have o6 := Own.new (Nat.le_refl h5.size) 35 [.slice none 0 0, .int .i64 0]
  have s6 : (h5.new 35 [.slice none 0 0, .int .i64 0]).size = h5.size + 1 := rfl
  simp only [aNew]
  have k6 := k5.ext e6
  generalize h5.new 35 [.slice none 0 0, .int .i64 0] = h6 at e6 o6 s6 k6 ⊢
  obtain ⟨h7, t7, e7, o7, s7, q7⟩ := Own.stX o6 (off := 0) (n := 2) (v := trVal nb top) (tr_aCells k6.ksl top) rfl (by show 0 + 2 ≤ 2; omega)
  have k7 := k6.keep (e := 35) (by decide) (by decide) q7
  have r7 : Row h7 h5.size [nb, .int .i64 top] := o7.row
  obtain ⟨_, _, a7⟩ := ld2 r7
  have a7' : aLdN h7 (ptr h5.size 0) 2 = some (trVal nb top) := a7
  obtain ⟨h8, c8, e8⟩ := l22 hd (top := top) k7.ksl (Nat.le_refl _) hT hK
  have c8' : call Try.prog Ms (d + 3010 + 9) 22 [trVal nb top] h7 = _ := c8
  have s8 := e8.size
  have r8 := r7.ext e8 (by omega)
  obtain ⟨_, _, a8⟩ := ld2 r8
  have a8' : aLdN h8 (ptr h5.size 0) 2 = some (trVal nb top) := a8
  have r18 := (((r4.ext e5 (by omega)).ext e6 (by omega)).ext (e7.mono (show h5.size ≤ h5.size by omega)) (by omega)).ext e8 (by omega)
  obtain ⟨_, _, d8⟩ := ld2 r18
  have d8' : aLdN h8 (ptr h.size 0) 2 = some (trVal nv top) := d8
  have x8 : KSl h4.size h8 nv T := ((((x4.ext e5).ext (e6.mono s5)).ext (e7.mono s5)).ext (e8.mono (by omega)))
  have k8 := k7.ext e8
  obtain ⟨nc, h9, c9, e9, k9⟩ := l21 (d := d + 3010 + 5) (by omega) (top := top) x8 (by omega) hT hK
  have c9' : call Try.prog Ms (d + 3010 + 9) 21 [trVal nv top] h8 = _ := c9
  have s9 := e9.size
  have r9 := r8.ext e9 (by omega)
  obtain ⟨_, _, a9⟩ := ld2 r9
  have a9' : aLdN h9 (ptr h5.size 0) 2 = some (trVal nb top) := a9
  obtain ⟨h10, c10, e10⟩ := l23 (d := d + 3010 + 5) (by omega) (top := top) (k8.ext e9).ksl k9.ksl (Nat.le_refl _) hT hK
  have c10' : call Try.prog Ms (d + 3010 + 9) 23 [trVal nb top, trVal nc top] h9 = _ := c10
  refine ⟨h10, ?_⟩
  rw [t7, Option.bind_some, a7', Option.bind_some, c8', Option.bind_some, ok_same]
  simp only [asB, Option.bind_some]
  rw [beq_self_eq_true, Bool.not_true, cond_false, a8', Option.bind_some, d8', Option.bind_some, c9', Option.bind_some]
  simp only [a9', Option.bind_some, tr_vbeq (k8.ext e9).ksl, cond_true]
  rw [c10', Option.bind_some]
  rfl
end Go.Proofs.Ytadmoackacickaa
/- Sizes and nests of nodes: the reference's. -/
set_option linter.unusedSimpArgs false
namespace Go.Proofs.Ytadmoackacickaa
open Go Go.AH

def two (a b : Int) : Value := .tuple (List.toArray [.int .i64 a, .int .i64 b])
end Go.Proofs.Ytadmoackacickaa
/- impl's NestOf. -/
set_option linter.unusedSimpArgs false
namespace Go.Proofs.Ytadmoackacickaa
open Go Go.AH

/-- All rows but those of ints are as they were. -/
def Keep3 (h h' : AHeap) : Prop := ∀ j o, h.at? j = some o → o.elem ≠ 3 → h'.at? j = some o
theorem Keep3.refl (h : AHeap) : Keep3 h h := fun _ _ h _ => h
theorem Keep3.trans {h h' h'' : AHeap} (x : Keep3 h h') (y : Keep3 h' h'') : Keep3 h h'' := fun j o a b => y j o (x j o a b) b
theorem Keep3.ext {h h' : AHeap} (x : Ext h.size h h') : Keep3 h h' := fun j o a _ => x.at? (at?_obj a).2.1 a
end Go.Proofs.Ytadmoackacickaa
/- NestOf: both say the same. -/
set_option linter.unusedSimpArgs false
namespace Go.Proofs.Ytadmoackacickaa
open Go Go.AH

end Go.Proofs.Ytadmoackacickaa
/- SizesOf: frames; the reference's; impl's loops. -/
set_option linter.unusedSimpArgs false
namespace Go.Proofs.Ytadmoackacickaa
open Go Go.AH

/-- A row that may be written, with its root. -/
def OwnR (h : AHeap) (i root : Nat) (e : TypeId) (cs : List Value) : Prop := ∃ ep, h.at? i = some ⟨root, ep, false, e, cs⟩
/-- All rows are as they were but ints of a root. -/
def Kr (root : Nat) (h h' : AHeap) : Prop := ∀ j o, h.at? j = some o → (o.elem ≠ 3 ∨ o.root ≠ root) → h'.at? j = some o
theorem Kr.refl (root : Nat) (h : AHeap) : Kr root h h := fun _ _ h _ => h
theorem Kr.trans {root : Nat} {h h' h'' : AHeap} (x : Kr root h h') (y : Kr root h' h'') : Kr root h h'' := fun j o a b => y j o (x j o a b) b
theorem Kr.ext {root : Nat} {h h' : AHeap} (x : Ext h.size h h') : Kr root h h' := fun j o a _ => x.at? (at?_obj a).2.1 a
theorem OwnR.own {h : AHeap} {i root b : Nat} {e : TypeId} {cs : List Value} (x : OwnR h i root e cs) (hb : b ≤ root) : Own b h i e cs := let ⟨ep, a⟩ := x; ⟨root, ep, a, hb⟩
theorem OwnR.lt {h : AHeap} {i root : Nat} {e : TypeId} {cs : List Value} (x : OwnR h i root e cs) : root ≤ i ∧ i < h.size := let ⟨_, a⟩ := x; ⟨(at?_obj a).2.2.1, (at?_obj a).2.1⟩
theorem OwnR.keep {h h' : AHeap} {i root rt : Nat} {e : TypeId} {cs : List Value} (x : OwnR h i root e cs) (k : Kr rt h h') (hr : e ≠ 3 ∨ root ≠ rt) : OwnR h' i root e cs := let ⟨ep, a⟩ := x; ⟨ep, k i _ a hr⟩
theorem OwnR.new (h : AHeap) (e : TypeId) (cs : List Value) : OwnR (h.new e cs) h.size h.size e cs := ⟨_, at?_new_same h e cs⟩
theorem OwnR.row {h : AHeap} {i root : Nat} {e : TypeId} {cs : List Value} (x : OwnR h i root e cs) : Row h i cs := let ⟨_, a⟩ := x; ⟨_, a, rfl⟩
theorem OwnR.app {b : Nat} {h : AHeap} {i n m esz bytes rt : Nat} {e : TypeId} {cs ms : List Value} {x : Value} (o : OwnR h i rt e cs) (hb : b ≤ rt) (hbs : b ≤ h.size) (hsrc : aSrc h esz x = some (m, ms)) (hn : n * esz = cs.length)
    (h1 : n + m ≤ most) (h2 : (n + m) * bytes ≤ most) :
    ∃ h', aApp h e esz bytes (slc i 0 n) x = some (slc h.size 0 (n + m), h') ∧ Ext b h h' ∧ OwnR h' h.size rt e (cs ++ ms) ∧ h'.size = h.size + 1 ∧ ∀ j o', h.at? j = some o' → (o'.elem ≠ e ∨ o'.root ≠ rt) → h'.at? j = some o' := by
  obtain ⟨ep, ha⟩ := o
  refine ⟨h.app ⟨rt, ep, false, e, cs⟩ (n * esz) (cs ++ ms), ?_, Ext.app hbs hb _ _, ⟨_, at?_app_same ha _ _⟩, rfl, fun j o' ho hk => at?_app_old ho _ (fun hh => hk.elim (fun a => absurd hh.1 a) (fun a => absurd hh.2 a))⟩
  simp [aApp, aAppG, slc, ha, hsrc, hn, h1, h2]
end Go.Proofs.Ytadmoackacickaa
set_option linter.unusedVariables false
namespace Go.Proofs.Ytadmoackacickaa
open Go Go.AH
/-! 247 (*loop.example/g00101/impl.parser).field -/
/-! 11 loop.example/g00101/laws.FnExactPrint -/
/-! 45 loop.example/g00101/spec.Print -/
/-! 46 loop.example/g00101/impl.Print -/
/-! 80 loop.example/g00101/spec.l9Toks -/
/-! 81 (*loop.example/g00101/impl.printer).node -/
theorem c81 (d : Nat) (args : List Value) (h : AHeap) : call Try.prog Ms (d + 1) 81 args h = evFn hk0 Try.prog (call Try.prog Ms d) M81 d Try.f81 args h := by kernel_rfl

/-! 126 loop.example/g00101/spec.l9ExprToks -/
/-! 127 loop.example/g00101/spec.l9StmtToks -/
/-! 128 loop.example/g00101/spec.l9Around -/
/-! 129 (*loop.example/g00101/impl.printer).put -/
/-! 130 loop.example/g00101/impl.digits -/
/-! 131 (*loop.example/g00101/impl.printer).list -/
end Go.Proofs.Ytadmoackacickaa
set_option linter.unusedVariables false
namespace Go.Proofs.Ytadmoackacickaa
open Go Go.AH
/-! 132 (*loop.example/g00101/impl.printer).inner -/
/-! 133 (*loop.example/g00101/impl.printer).statement -/
/-! 169 loop.example/g00101/spec.l9Digits -/
/-! 170 loop.example/g00101/spec.l9Commas -/
/-! 171 loop.example/g00101/spec.l9Ops -/
/-! 9 loop.example/g00101/laws.FnExactFreeNames -/
noncomputable def F9_0 (hk : Hk (Value × AHeap)) (C : ACall) (N : Nat) : Nx (Value × AHeap) := evSt hk Try.prog C M9 N Try.f9 [1, 1, 1, 1, 1, 1, 1, 1, 1, 1, 1, 0, 1] []
noncomputable def s9_0 (hk : Hk (Value × AHeap)) (C : ACall) (N : Nat) (x1 : Value) (x4 : Value) (x6 : Value) (x42 : Bool) (h : AHeap) := hk 100015 (⟨69, [(1, x1), (4, x4), (6, x6), (42, .bool x42)]⟩) h (F9_0 hk C N)
theorem e9 (hk : Hk (Value × AHeap)) (C : ACall) (N : Nat) (x0 : Value) (h : AHeap) : evFn hk Try.prog C M9 N Try.f9 [x0] h =
    (aCells x0).bind fun c1 => aNew h 30 c1 fun p2 h3 => (aLdN h3 p2 2).bind fun v4 => (C 19 [v4, .int .i64 1048576] h3).bind fun r5 => (asI .i64 r5.1).bind fun n6 => bif decide (n6 < 0) then some (.bool true, r5.2) else (aLdN r5.2 p2 2).bind fun v7 => (C 21 [v7] r5.2).bind fun r8 => (C 37 [r8.1] r8.2).bind fun r9 => (aLdN r9.2 p2 2).bind fun v10 => (C 21 [v10] r9.2).bind fun r11 => aNew r11.2 35 [.slice none 0 0, .int .i64 0] fun p12 h13 => (aSt h13 p12 r11.1 2).bind fun h14 => (aLdN h14 p12 2).bind fun v15 => (C 38 [v15] h14).bind fun r16 => (C 39 [r16.1, r9.1] r16.2).bind fun r17 => (asB r17.1).bind fun b18 => bif !b18 then some (.bool false, r17.2) else (aLdN r17.2 p12 2).bind fun v19 => (aLdN r17.2 p2 2).bind fun v20 => (C 21 [v20] r17.2).bind fun r21 => ((aLdN r21.2 p12 2).bind fun v22 => some (vbeq v22 v19)).bind fun b23 => bif b23 then (C 23 [v19, r21.1] r21.2).bind fun r24 => (asB r24.1).bind fun b25 => bif !b25 then some (.bool false, r24.2) else (aLdN r24.2 p12 2).bind fun v26 => (C 33 [v26, .int .i64 1] r24.2).bind fun r27 => (asI .i64 r27.1).bind fun n28 => bif decide (n28 < 0) then s9_0 hk C N p2 r9.1 r16.1 true r27.2 else (C 39 [r16.1, r9.1] r27.2).bind fun r29 => (asB r29.1).bind fun b30 => s9_0 hk C N p2 r9.1 r16.1 (!b30) r29.2 else none := by kernel_rfl
theorem c9 (d : Nat) (args : List Value) (h : AHeap) : call Try.prog Ms (d + 1) 9 args h = evFn hk0 Try.prog (call Try.prog Ms d) M9 d Try.f9 args h := by kernel_rfl

/-! 37 loop.example/g00101/spec.FreeNames -/
/-! 38 loop.example/g00101/impl.FreeNames -/
/-! 39 loop.example/g00101/laws.eqStringS -/
/-! 40 loop.example/g00101/laws.markStringS -/
theorem c40 (d : Nat) (args : List Value) (h : AHeap) : call Try.prog Ms (d + 1) 40 args h = evFn hk0 Try.prog (call Try.prog Ms d) M40 d Try.f40 args h := by kernel_rfl

/-! 41 loop.example/g00101/laws.heldStringS -/
/-! 73 loop.example/g00101/spec.l19Free -/
end Go.Proofs.Ytadmoackacickaa
/- Frames by kinds of rows; rows of strings; steps of a walk. -/
set_option linter.unusedSimpArgs false
namespace Go.Proofs.Ytadmoackacickaa
open Go Go.AH

/-- What was there stays, but for bytes (5) and the printer (110). -/
def SF (h g : AHeap) : Prop := h.size ≤ g.size ∧ ∀ j o, h.at? j = some o → o.elem ≠ 5 → o.elem ≠ 110 → g.at? j = some o
/-- What was there stays, but for bytes (5), strings (9) and the printer (110). -/
def LF (h g : AHeap) : Prop := h.size ≤ g.size ∧ ∀ j o, h.at? j = some o → o.elem ≠ 5 → o.elem ≠ 9 → o.elem ≠ 110 → g.at? j = some o
theorem SF.refl (h : AHeap) : SF h h := ⟨Nat.le_refl _, fun _ _ a _ _ => a⟩
theorem SF.trans {h g k : AHeap} (x : SF h g) (y : SF g k) : SF h k := ⟨Nat.le_trans x.1 y.1, fun j o a b c => y.2 j o (x.2 j o a b c) b c⟩
theorem LF.refl (h : AHeap) : LF h h := ⟨Nat.le_refl _, fun _ _ a _ _ _ => a⟩
theorem LF.trans {h g k : AHeap} (x : LF h g) (y : LF g k) : LF h k := ⟨Nat.le_trans x.1 y.1, fun j o a b c d => y.2 j o (x.2 j o a b c d) b c d⟩
theorem SF.lf {h g : AHeap} (x : SF h g) : LF h g := ⟨x.1, fun j o a b _ c => x.2 j o a b c⟩
theorem SF.ext {h g : AHeap} (x : Ext h.size h g) : SF h g := ⟨x.size, fun j o a _ _ => x.at? (at?_obj a).2.1 a⟩
theorem RowE.lf {h g : AHeap} {i : Nat} {e : TypeId} {cs : List Value} (x : RowE h i e cs) (k : LF h g) (h1 : e ≠ 5) (h2 : e ≠ 9) (h3 : e ≠ 110) : RowE g i e cs := let ⟨o, a, b, c⟩ := x; ⟨o, k.2 i o a (by rw [b]; exact h1) (by rw [b]; exact h2) (by rw [b]; exact h3), b, c⟩
theorem RowE.sf {h g : AHeap} {i : Nat} {e : TypeId} {cs : List Value} (x : RowE h i e cs) (k : SF h g) (h1 : e ≠ 5) (h3 : e ≠ 110) : RowE g i e cs := let ⟨o, a, b, c⟩ := x; ⟨o, k.2 i o a (by rw [b]; exact h1) (by rw [b]; exact h3), b, c⟩
theorem ISl.lf {c : Nat} {h g : AHeap} {v : Value} {xs : List Int} (x : ISl c h v xs) (k : LF h g) : ISl c g v xs := by
  rcases x with x | x | ⟨i, o, h1, h2, h3, h4, h5⟩
  · exact .inl x
  · exact .inr (.inl x)
  · exact .inr (.inr ⟨i, o, h1, k.2 i o h2 (by rw [h3]; decide) (by rw [h3]; decide) (by rw [h3]; decide), h3, h4, h5⟩)
/-- A slice of nodes, with the kind of its row. -/
def KSe (c : Nat) (h : AHeap) (v : Value) (ns : List Kn) : Prop :=
  (v = .slice none 0 0 ∧ ns = []) ∨ (∃ a n, v = .slice (some a) 0 n ∧ ns = []) ∨
  ∃ i o, v = slc i 0 ns.length ∧ h.at? i = some o ∧ o.elem = 73 ∧ i < c ∧ o.cells.length = ns.length * 4 ∧ ∀ (j : Nat) (n : Kn), ns[j]? = some n → ∃ kv, (o.cells.drop (j * 4)).take 4 = knCells n kv ∧ ISl c h kv n.ks
theorem KSe.ksl {c : Nat} {h : AHeap} {v : Value} {ns : List Kn} (x : KSe c h v ns) : KSl c h v ns := by
  rcases x with x | x | ⟨i, o, h1, h2, _, h3, h4, h5⟩
  · exact .inl x
  · exact .inr (.inl x)
  · exact .inr (.inr ⟨i, o, h1, h2, h3, h4, h5⟩)
theorem KSe.lf {c : Nat} {h g : AHeap} {v : Value} {ns : List Kn} (x : KSe c h v ns) (k : LF h g) : KSe c g v ns := by
  rcases x with x | x | ⟨i, o, h1, h2, h6, h3, h4, h5⟩
  · exact .inl x
  · exact .inr (.inl x)
  · exact .inr (.inr ⟨i, o, h1, k.2 i o h2 (by rw [h6]; decide) (by rw [h6]; decide) (by rw [h6]; decide), h6, h3, h4, fun j n hn => let ⟨kv, a, b⟩ := h5 j n hn; ⟨kv, a, b.lf k⟩⟩)
theorem KSe.mono {c d : Nat} {h : AHeap} {v : Value} {ns : List Kn} (x : KSe c h v ns) (hd : c ≤ d) : KSe d h v ns := by
  rcases x with x | x | ⟨i, o, h1, h2, h6, h3, h4, h5⟩
  · exact .inl x
  · exact .inr (.inl x)
  · exact .inr (.inr ⟨i, o, h1, h2, h6, Nat.lt_of_lt_of_le h3 hd, h4, fun j n hn => let ⟨kv, a, b⟩ := h5 j n hn; ⟨kv, a, b.mono hd⟩⟩)
/-- Where a number of a slice lies. -/
def ixP (v : Value) (j : Nat) : Value := (aIdx v (.int .i64 (j : Int)) 1).getD junk
theorem ISl.ix {c : Nat} {h : AHeap} {v : Value} {xs : List Int} (x : ISl c h v xs) {j : Nat} (hj : j < xs.length) : aIdx v (.int .i64 (j : Int)) 1 = some (ixP v j) ∧ aLd1 h (ixP v j) = some (.int .i64 xs[j]) := by
  obtain ⟨p, a, b⟩ := x.at hj
  have : ixP v j = p := by unfold ixP; rw [a]; rfl
  rw [this]; exact ⟨a, b⟩

/-! ### strings -/
def strs (xs : List ByteArray) : List Value := xs.map Value.string
structure SSrc (h : AHeap) (v : Value) (xs : List ByteArray) : Prop where
  len : aLen v = some (.int .i64 xs.length)
  src : ∀ g, SF h g → aSrc g 1 v = some (xs.length, strs xs)
  at' : ∀ (j : Nat) (hj : j < xs.length), aIdx v (.int .i64 (j : Int)) 1 = some (ixP v j) ∧ ∀ g, SF h g → aLd1 g (ixP v j) = some (.string xs[j])
theorem SSrc.sf {h g : AHeap} {v : Value} {xs : List ByteArray} (x : SSrc h v xs) (k : SF h g) : SSrc g v xs := ⟨x.len, fun g' e => x.src g' (k.trans e), fun j hj => ⟨(x.at' j hj).1, fun g' e => (x.at' j hj).2 g' (k.trans e)⟩⟩
theorem SSrc.of {h : AHeap} {i : Nat} {xs : List ByteArray} (x : RowE h i 9 (strs xs)) : SSrc h (slc i 0 xs.length) xs := by
  have hx : ∀ j, j < xs.length → aIdx (slc i 0 xs.length) (.int .i64 (j : Int)) 1 = some (ptr i j) := fun j hj => by simp [aIdx, slc, hj]
  refine ⟨rfl, fun g e => ?_, fun j hj => ⟨?_, fun g e => ?_⟩⟩
  · have r := (x.sf e (by decide) (by decide)).row
    have := r.src (off := 0) (n := xs.length) (esz := 1) (by simp [strs])
    rw [this, Nat.mul_one, List.drop_zero, List.take_of_length_le (by simp [strs])]
  · rw [hx j hj]; unfold ixP; rw [hx j hj]; rfl
  · have r := (x.sf e (by decide) (by decide)).row
    unfold ixP; rw [hx j hj]
    exact r.ld1 (by simp [strs, hj])
theorem SSrc.nil (h : AHeap) : SSrc h (.slice none 0 0) [] := ⟨rfl, fun _ _ => rfl, fun j hj => by simp at hj⟩
def SOwn (b : Nat) (h : AHeap) (v : Value) (xs : List ByteArray) : Prop := ∃ i, v = slc i 0 xs.length ∧ Own b h i 9 (strs xs)
theorem SOwn.src {b : Nat} {h : AHeap} {v : Value} {xs : List ByteArray} (x : SOwn b h v xs) : SSrc h v xs := let ⟨i, e, o⟩ := x; e ▸ SSrc.of (Own.rowE o)
theorem SOwn.mono {b c : Nat} {h : AHeap} {v : Value} {xs : List ByteArray} (x : SOwn b h v xs) (hc : c ≤ b) : SOwn c h v xs := let ⟨i, e, o⟩ := x; ⟨i, e, o.mono hc⟩
theorem SOwn.ext {b : Nat} {h g : AHeap} {v : Value} {xs : List ByteArray} (x : SOwn b h v xs) (e : Ext h.size h g) : SOwn b g v xs := let ⟨i, q, o⟩ := x; ⟨i, q, o.ext e o.lt.2⟩
theorem SOwn.new {h : AHeap} (xs : List ByteArray) : SOwn h.size (h.new 9 (strs xs)) (slc h.size 0 xs.length) xs := ⟨h.size, rfl, Own.new (Nat.le_refl _) 9 (strs xs)⟩
theorem SOwn.app {b : Nat} {h : AHeap} {v x : Value} {xs ys : List ByteArray} (o : SOwn b h v xs) (hb : b ≤ h.size) (y : SSrc h x ys) (hl : xs.length + ys.length ≤ 1000000000000) :
    ∃ v' h', aApp h 9 1 16 v x = some (v', h') ∧ Ext b h h' ∧ SOwn b h' v' (xs ++ ys) ∧ LF h h' := by
  obtain ⟨i, rfl, r, ep, ha, hr⟩ := o
  refine ⟨slc h.size 0 (xs.length + ys.length), h.app ⟨r, ep, false, 9, strs xs⟩ xs.length (strs xs ++ strs ys), ?_, Ext.app hb hr _ _, ⟨h.size, by simp, r, _, by rw [show strs (xs ++ ys) = strs xs ++ strs ys by simp [strs]]; exact at?_app_same ha _ _, hr⟩, by simp [AHeap.app], fun j o hj _ h9 _ => at?_app_old hj _ fun e => absurd e.1 h9⟩
  have h1 : xs.length + ys.length ≤ most := by unfold most; omega
  have h2 : (xs.length + ys.length) * 16 ≤ most := by unfold most; omega
  have h3 : (List.map Value.string xs).take xs.length = List.map Value.string xs := List.take_of_length_le (by simp)
  simp [aApp, aAppG, slc, ha, y.src h (SF.refl _), strs, h1, h2, h3]

/-! ### steps of a walk -/
theorem eb {α R : Type} {o : Option α} {k : α → Option R} {v : α} {r : Option R} (e : o = some v) (hk : k v = r) : o.bind k = r := by rw [e]; exact hk
theorem ecf {R : Type} {c : Bool} {a b r : Option R} (e : c = false) (hk : b = r) : (bif c then a else b) = r := by rw [e]; exact hk
theorem ect {R : Type} {c : Bool} {a b r : Option R} (e : c = true) (hk : a = r) : (bif c then a else b) = r := by rw [e]; exact hk

section
variable {P : Option (Value × AHeap) → Prop}
theorem bind_step {o : Option (Value × AHeap)} {k : Value × AHeap → Option (Value × AHeap)} {Q : Value → AHeap → Prop} (ho : ∃ v g, o = some (v, g) ∧ Q v g) (hk : ∀ v g, Q v g → P (k (v, g))) : P (o.bind k) := by
  obtain ⟨v, g, rfl, q⟩ := ho
  exact hk v g q
end
/-- An answer: a fresh row of strings. -/
def RS (h : AHeap) (xs : List ByteArray) (o : Option (Value × AHeap)) : Prop := ∃ v g, o = some (v, g) ∧ Ext h.size h g ∧ SOwn h.size g v xs
theorem RS.of {h g : AHeap} {xs : List ByteArray} {v : Value} (e : Ext h.size h g) (o : SOwn g.size g v xs ∨ SOwn h.size g v xs) : RS h xs (some (v, g)) := ⟨v, g, rfl, e, o.elim (fun o => o.mono e.size) id⟩
theorem Ext.tr {h g k : AHeap} (x : Ext h.size h g) (y : Ext g.size g k) : Ext h.size h k := x.trans (y.mono x.size)
end Go.Proofs.Ytadmoackacickaa
