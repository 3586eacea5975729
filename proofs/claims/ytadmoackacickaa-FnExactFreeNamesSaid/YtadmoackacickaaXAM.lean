import Derived.Test.YtadmoackacickaaXAL
import Derived.Test.YtadmoackacickaaXAJ
/- The plain law: the program's free names are the reference's. -/
set_option linter.unusedSimpArgs false
namespace Go.Proofs.Ytadmoackacickaa
open Go Go.AH

section
variable {T : List Kn}
theorem frOne_congr {a b : List Int} {j : Nat} (h : a.getD j 0 = b.getD j 0) (out : List BA) : frOne T a j out = frOne T b j out := by unfold frOne; rw [h]
theorem frI_congr {a b : List Int} : ∀ (k j : Nat) (out : List BA), (∀ q, j ≤ q → q < j + k → a.getD q 0 = b.getD q 0) → frI T a k j out = frI T b k j out
  | 0, _, _, _ => rfl
  | k + 1, j, out, h => by
    rw [frI, frI, frOne_congr (h j (Nat.le_refl _) (by omega))]
    exact frI_congr k (j + 1) _ fun q a b => h q (by omega) (by omega)
theorem frI_add {bd : List Int} (b : Nat) : ∀ (a j : Nat) (out : List BA), frI T bd (a + b) j out = frI T bd b (j + a) (frI T bd a j out)
  | 0, j, out => by rw [Nat.zero_add, frI]; rfl
  | a + 1, j, out => by
    rw [show a + 1 + b = (a + b) + 1 by omega, frI, frI, frI_add b a (j + 1), show j + 1 + a = j + (a + 1) by omega]
theorem find_none {xs : List Int} {t : BA} : findL T t xs.reverse = none ↔ hasB (xs.map (tx T)) t = false := by
  unfold findL hasB
  rw [List.find?_eq_none, List.any_eq_false]
  simp
theorem find_mem {xs : List Int} {t : BA} {q : Int} (h : findL T t xs.reverse = some q) : q ∈ xs ∧ hasB (xs.map (tx T)) t = true := by
  have a := List.mem_of_find?_eq_some h
  refine ⟨List.mem_reverse.1 a, ?_⟩
  cases e : hasB (xs.map (tx T)) t with
  | true => rfl
  | false => rw [find_none.2 e] at h; cases h
/-- What holds behind the nodes fr .. i - 1. -/
structure FL (T : List Kn) (fr i : Nat) (s s' : Bd) (out : List BA) (r : List BA × List BA) : Prop where
  nm : s'.sn.map (tx T) = r.1
  out : r.2 = frI T s'.bd (i - fr) fr out
  len : s'.bd.length = s.bd.length
  old : ∀ j, j < fr ∨ i ≤ j → s'.bd.getD j 0 = s.bd.getD j 0
  pos : ∀ q ∈ s'.sn, 0 ≤ q
  pre : s.sn.length ≤ s'.sn.length ∧ s'.sn.take s.sn.length = s.sn
theorem getD_set {xs : List Int} {i j : Nat} {v : Int} (h : j ≠ i) : (xs.set i v).getD j 0 = xs.getD j 0 := by
  simp [List.getD, List.getElem?_set, Ne.symm h]
theorem fl_end {n : Kn} {i fr : Nat} {fn : Int} {s s1 : Bd} {out : List BA} {r : List BA × List BA} (hn : T[i]? = some n) (hi : i < s.bd.length) (hfr : fr ≤ i) (x : FL T fr i s s1 out r) :
    FL T fr (i + 1) s (bdEnd T n i fn s.sn.length s1) out (frEnd n (s.sn.map (tx T)) r.1 r.2) := by
  have htx : tx T (i : Int) = n.t := by unfold tx; rw [Int.toNat_natCast, hn]
  have hout : ∀ s' : Bd, (∀ j, j < i → s'.bd.getD j 0 = s1.bd.getD j 0) → frI T s'.bd (i + 1 - fr) fr out = frOne T s'.bd i r.2 := by
    intro s' h
    rw [show i + 1 - fr = (i - fr) + 1 by omega, frI_add, show fr + (i - fr) = i by omega, frI_congr (b := s1.bd) (i - fr) fr out (fun q a b => h q (by omega)), ← x.out, frI, frI]
  have skip : ¬ (n.k = 5 ∨ n.k = 15) → ∀ bd : List Int, frOne T bd i r.2 = r.2 := by
    intro h bd
    unfold frOne; rw [hn]
    show (if (n.k = 5 ∨ n.k = 15) ∧ _ then _ else _) = _
    rw [if_neg (fun e => h e.1)]
  unfold bdEnd frEnd
  by_cases k1 : n.k = 5 ∨ n.k = 15
  · rw [if_pos k1, if_pos k1]
    have hsn : (bdName T i fn s1).sn = s1.sn := bdName_sn T i fn s1
    have hbd : ∃ v : Int, (bdName T i fn s1).bd = s1.bd.set i v ∧ (v < 0 ↔ hasB r.1 n.t = false) := by
      unfold bdName bdNameQ
      rw [htx]
      cases e : findL T n.t s1.sn.reverse with
      | none =>
        have := find_none.1 e
        rw [x.nm] at this
        exact ⟨-1, rfl, fun _ => this, fun _ => by decide⟩
      | some q =>
        obtain ⟨q1, q2⟩ := find_mem e
        rw [x.nm] at q2
        refine ⟨q, ?_, fun h => absurd (x.pos q q1) (by omega), fun h => by rw [q2] at h; cases h⟩
        show (s1.bd.set i (-1)).set i q = _
        rw [List.set_set]
    obtain ⟨v, hv, hv2⟩ := hbd
    have hget : (bdName T i fn s1).bd.getD i 0 = v := by
      have : i < s1.bd.length := by rw [x.len]; exact hi
      rw [hv]; simp [List.getD, this]
    refine ⟨by rw [hsn]; exact x.nm, ?_, by rw [hv, List.length_set]; exact x.len, fun j hj => ?_, by rw [hsn]; exact x.pos, by rw [hsn]; exact x.pre⟩
    · show (if hasB r.1 n.t = false ∧ hasB r.2 n.t = false then r.2 ++ [n.t] else r.2) = _
      rw [hout _ (fun j hj => by rw [hv]; exact getD_set (by omega))]
      unfold frOne
      rw [hn]
      simp only [k1, true_and, hget, hv2]
    · rw [hv, getD_set (by omega)]; exact x.old j (by omega)
  · rw [if_neg k1, if_neg k1]
    by_cases k2 : n.k = 14 ∨ n.k = 22
    · rw [if_pos k2, if_pos k2]
      refine ⟨?_, by rw [hout _ (fun j hj => rfl), skip k1], x.len, fun j hj => x.old j (by omega), fun q hq => ?_, ?_⟩
      · show (s1.sn ++ [(i : Int)]).map (tx T) = r.1 ++ [n.t]
        rw [List.map_append, x.nm, List.map_cons, List.map_nil, htx]
      · rcases List.mem_append.1 hq with hq | hq
        · exact x.pos q hq
        · rw [List.mem_singleton.1 hq]; omega
      · refine ⟨by show _ ≤ (s1.sn ++ [(i : Int)]).length; rw [List.length_append]; have := x.pre.1; omega, ?_⟩
        show (s1.sn ++ [(i : Int)]).take _ = _
        rw [List.take_append_of_le_length x.pre.1]; exact x.pre.2
    · rw [if_neg k2, if_neg k2]
      by_cases k3 : n.k = 21 ∨ n.k = 6
      · rw [if_pos k3, if_pos k3]
        have hsn : s1.sn.take s.sn.length = s.sn := x.pre.2
        refine ⟨by show (s1.sn.take s.sn.length).map (tx T) = _; rw [hsn], by rw [hout _ (fun j hj => rfl), skip k1], x.len, fun j hj => x.old j (by omega), fun q hq => x.pos q (List.mem_of_mem_take hq), ?_⟩
        show _ ≤ (s1.sn.take s.sn.length).length ∧ (s1.sn.take s.sn.length).take _ = _
        rw [hsn, List.take_length]; exact ⟨Nat.le_refl _, rfl⟩
      · rw [if_neg k3, if_neg k3]
        exact ⟨x.nm, by rw [hout _ (fun j hj => rfl), skip k1], x.len, fun j hj => x.old j (by omega), x.pos, x.pre⟩
def FlOk (T : List Kn) (f : Nat) (k fr : Int) : Prop := ∀ (s : Bd) (fn : Int) (out : List BA), s.bd.length = T.length → (∀ q ∈ s.sn, 0 ≤ q) → FL T fr.toNat (k.toNat + 1) s (walkP T f k fn s) out (frP T f k (s.sn.map (tx T)) out)
theorem fl_kids {f i : Nat} {fn : Int} {ks : List Int} (hF : ∀ k fr : Int, k ∈ ks → 0 ≤ fr → 0 ≤ numP T f k fr → numP T f k fr = k + 1 ∧ fr ≤ k ∧ FlOk T f k fr) :
    ∀ (l : List Int) (fr : Int) (s : Bd) (out : List BA), (∀ k ∈ l, k ∈ ks) → 0 ≤ fr → 0 ≤ numGo' (numP T f) (i : Int) l fr → s.bd.length = T.length → (∀ q ∈ s.sn, 0 ≤ q) →
      fr ≤ i ∧ FL T fr.toNat i s (l.foldl (fun s k => walkP T f k fn s) s) out (frK (frP T f) l (s.sn.map (tx T), out)) := by
  intro l
  induction l with
  | nil =>
    intro fr s out _ hfr hnum hl hp
    have hfi : (i : Int) = fr := by
      unfold numGo' at hnum
      by_cases h : (i : Int) = fr
      · exact h
      · rw [if_neg h] at hnum; omega
    subst hfi
    refine ⟨Int.le_refl _, rfl, ?_, rfl, fun _ _ => rfl, hp, Nat.le_refl _, List.take_length⟩
    rw [Int.toNat_natCast, Nat.sub_self, frI]; rfl
  | cons k l ih =>
    intro fr s out hm hfr hnum hl hp
    rw [numGo'] at hnum
    by_cases hn : numP T f k fr < 0
    · rw [if_pos hn] at hnum; omega
    rw [if_neg hn] at hnum
    obtain ⟨g1, g2, g3⟩ := hF k fr (hm k (by simp)) hfr (by omega)
    have x := g3 s fn out hl hp
    rw [g1] at hnum
    obtain ⟨y0, y⟩ := ih (k + 1) (walkP T f k fn s) (frP T f k (s.sn.map (tx T)) out).2 (fun q hq => hm q (by simp [hq])) (by omega) hnum (by rw [x.len]; exact hl) x.pos
    rw [x.nm] at y
    have e1 : (k + 1).toNat = k.toNat + 1 := by omega
    rw [e1] at y
    refine ⟨by omega, y.nm, ?_, y.len.trans x.len, fun j hj => ?_, y.pos, ?_⟩
    · show (frK (frP T f) l (frP T f k (s.sn.map (tx T)) out)).2 = _
      rw [List.foldl_cons, show i - fr.toNat = (k.toNat + 1 - fr.toNat) + (i - (k.toNat + 1)) by omega, frI_add, show fr.toNat + (k.toNat + 1 - fr.toNat) = k.toNat + 1 by omega]
      rw [frI_congr (b := (walkP T f k fn s).bd) (k.toNat + 1 - fr.toNat) fr.toNat out (fun q a b => y.old q (by omega)), ← x.out]
      exact y.out
    · rw [List.foldl_cons, y.old j (by omega), x.old j (by omega)]
    · have p1 := x.pre
      have p2 := y.pre
      refine ⟨Nat.le_trans p1.1 p2.1, ?_⟩
      rw [List.foldl_cons]
      have := congrArg (List.take s.sn.length) p2.2
      rw [List.take_take, Nat.min_eq_left p1.1] at this
      rw [this, p1.2]
theorem fl_walk (hG : ∀ (j : Nat) (n : Kn), T[j]? = some n → ∀ k ∈ n.ks, 0 ≤ k ∧ k < j) : ∀ (f : Nat) (k fr : Int), 0 ≤ k → k < T.length → 0 ≤ fr → 0 ≤ numP T f k fr → FlOk T f k fr := by
  intro f
  induction f with
  | zero => intro k fr _ _ _ h; exact absurd h (by show ¬ (0:Int) ≤ -1; decide)
  | succ f ih =>
    intro k fr hk hk2 hfr hnum s fn out hl hp
    obtain ⟨i, rfl⟩ : ∃ q : Nat, k = q := ⟨k.toNat, by omega⟩
    have hlt : i < T.length := by omega
    have hget : T[i]? = some T[i] := by simp [hlt]
    have hnum' : 0 ≤ numGo' (numP T f) (i : Int) T[i].ks fr := by
      have : numP T (f + 1) (i : Int) fr = numGo' (numP T f) (i : Int) T[i].ks fr := by
        show (match T[(i : Int).toNat]? with | some n => numGo' (numP T f) (i : Int) n.ks fr | none => -1) = _
        rw [Int.toNat_natCast, hget]
      omega
    have hv : walkP T (f + 1) (i : Int) fn s = bdEnd T T[i] i fn s.sn.length (T[i].ks.foldl (fun s k => walkP T f k (if T[i].k = 6 then (i : Int) else fn) s) s) := by
      show (match T[(i : Int).toNat]? with | some n => bdEnd T n (i : Int).toNat fn s.sn.length (n.ks.foldl (fun s k => walkP T f k (if n.k = 6 then (i : Int) else fn) s) s) | none => s) = _
      rw [Int.toNat_natCast, hget]
    have hw : frP T (f + 1) (i : Int) (s.sn.map (tx T)) out = (let r := frK (frP T f) T[i].ks (s.sn.map (tx T), out); frEnd T[i] (s.sn.map (tx T)) r.1 r.2) := by
      show (match T[(i : Int).toNat]? with | some n => let r := frK (frP T f) n.ks (s.sn.map (tx T), out); frEnd n (s.sn.map (tx T)) r.1 r.2 | none => (s.sn.map (tx T), out)) = _
      rw [Int.toNat_natCast, hget]
    obtain ⟨a, b⟩ := fl_kids (f := f) (i := i) (fn := if T[i].k = 6 then (i : Int) else fn) (ks := T[i].ks) (fun k fr' hk h0 h1 => by
      obtain ⟨k0, k1⟩ := hG i _ hget k hk
      have nl := num_le T f k fr' h1 h0
      exact ⟨nl.1, nl.2, ih k fr' k0 (by omega) h0 h1⟩) T[i].ks fr s out (fun _ h => h) hfr hnum' hl hp
    rw [hv, hw, Int.toNat_natCast]
    exact fl_end hget (by rw [hl]; exact hlt) (by omega) b
end
theorem free_same (T : List Kn) (top : Int) : freeI T top = freeS T top := by
  unfold freeI freeS
  rw [← ok_same]
  by_cases h : specOk T top = true
  · rw [if_pos h, if_pos h]
    have R := right_of h
    have hT := R.top
    have hpos := R.pos
    subst hT
    have x := fl_walk (kids_lo R) (T.length + 1) ((T.length : Int) - 1) 0 (by omega) (by omega) (by omega) (by rw [R.num]; omega) (bd0 T.length) (-1) [] (by simp [bd0]) (by simp [bd0])
    have := x.out
    rw [show ((T.length : Int) - 1).toNat + 1 = T.length by omega] at this
    exact this.symm
  · rw [if_neg h, if_neg h]
end Go.Proofs.Ytadmoackacickaa
/- impl's SizesOf. -/
set_option linter.unusedSimpArgs false
namespace Go.Proofs.Ytadmoackacickaa
open Go Go.AH

theorem ldR {h : AHeap} {r rt : Nat} {ys : List Int} (o : OwnR h r rt 3 (ints ys)) {k v : Int} (h0 : 0 ≤ k) (hk : ys[k.toNat]? = some v) : aIdx (slc r 0 ys.length) (.int .i64 k) 1 = some (ptr r k.toNat) ∧ aLd1 h (ptr r k.toNat) = some (.int .i64 v) :=
  ld3 (o.own (Nat.le_refl rt)) h0 hk
theorem size_in {C : ACall} {N n1 b r rs ro p6 iN L : Nat} {nv kv : Value} {n : Kn} {F : Int → Int} (hiN : iN < L) (hL : L ≤ 3000) (hl : n.ks.length ≤ 1048576) (hr : ∀ k ∈ n.ks, 0 ≤ k ∧ k < iN) (hne : rs ≠ ro) (hbs : b ≤ rs) (hbo : b ≤ ro) :
    ∀ (k j m : Nat) (a : Int) (ys xs : List Int) (io : Nat) (h : AHeap), n.ks.length - j = k → j ≤ n.ks.length → k < m → ys.length = L → b ≤ h.size → OwnR h r rs 3 (ints ys) → OwnR h io ro 3 (ints xs) → xs.length ≤ 1000000 → (∀ h', Ext b h h' → ISl b h' kv n.ks) → RowE h p6 73 (knCells n kv) → ys[iN]? = some a → (∀ k ∈ n.ks, ys[k.toNat]? = some (F k)) →
      ∃ io' h', s31_1 hk0 C N n1 m (slc io 0 xs.length) (slc r 0 L) (iN : Int) (ptr p6 0) nv (L : Int) (iN : Int) kv (n.ks.length : Int) (j : Int) h =
          s31_0 hk0 C N n1 (slc io' 0 (xs ++ (if n.k = 6 then [(n.ks.drop j).foldl (szStep F) a] else [])).length) (slc r 0 L) nv (L : Int) ((iN + 1 : Nat) : Int) h' ∧ Ext b h h' ∧
        OwnR h' r rs 3 (ints (ys.set iN ((n.ks.drop j).foldl (szStep F) a))) ∧ OwnR h' io' ro 3 (ints (xs ++ (if n.k = 6 then [(n.ks.drop j).foldl (szStep F) a] else []))) := by
  intro k
  induction k with
  | zero =>
    intro j m a ys xs io h hk hj hm hy hb o q hx hkv r6 ha hF
    obtain ⟨m, rfl⟩ : ∃ q, m = q + 1 := ⟨m - 1, by omega⟩
    have : ¬ ((j : Int) < (n.ks.length : Int)) := by omega
    obtain ⟨b0, _, _⟩ := nodeRow r6.row
    obtain ⟨i1, i2⟩ := ldR o (k := (iN : Int)) (by omega) ha
    rw [hy] at i1
    have i1' : aIdx (slc r 0 L) (.int .i64 (iN : Int)) 1 = some (ptr r iN) := i1
    have i2' : aLd1 h (ptr r iN) = some (.int .i64 a) := i2
    have w : IntKind.i64.wrap ((iN : Int) + 1) = ((iN + 1 : Nat) : Int) := by rw [wr (by omega) (by omega)]; omega
    have hset : ys.set iN a = ys := List.ext_getElem? fun i => by
      by_cases he : i = iN
      · subst he; rw [List.getElem?_set_self (by omega), ha]
      · rw [List.getElem?_set_ne (by omega)]
    rw [List.drop_eq_nil_of_le (by omega), List.foldl_nil, hset]
    by_cases h6 : n.k = 6
    · obtain ⟨i', h', t, x, kk, o'⟩ := appR q hbo hb (by omega) a
      refine ⟨i', h', ?_, x, o.keep kk (.inr hne), ?_⟩
      · rw [s31_1_eq, decide_eq_false this, cond_false]
        simp only [aOff_ptr, Nat.zero_add, Option.bind_some, b0, asI, if_true, h6]
        rw [show ((6 : Int) == 6) = true from rfl, cond_true]
        simp only [i1', i2', Option.bind_some, asI, if_true, aNewS]
        rw [t, Option.bind_some, w]
      · rw [if_pos h6]; exact o'
    · refine ⟨io, h, ?_, Ext.refl _ _, o, ?_⟩
      · rw [s31_1_eq, decide_eq_false this, cond_false]
        simp only [aOff_ptr, Nat.zero_add, Option.bind_some, b0, asI, if_true]
        rw [beq_eq_false_iff_ne.2 h6, cond_false, w, if_neg h6, List.append_nil]
      · rw [if_neg h6, List.append_nil]; exact q
  | succ k ih =>
    intro j m a ys xs io h hk hj hm hy hb o q hx hkv r6 ha hF
    obtain ⟨m, rfl⟩ : ∃ q, m = q + 1 := ⟨m - 1, by omega⟩
    have hlt : j < n.ks.length := by omega
    have hI : ((j : Int) < (n.ks.length : Int)) := by omega
    have y := hkv h (Ext.refl _ _)
    obtain ⟨p, e1, e2⟩ := y.at hlt
    have hmem := List.getElem_mem hlt
    have hk' := hr _ hmem
    obtain ⟨i1, i2⟩ := ldR o (k := (iN : Int)) (by omega) ha
    obtain ⟨g1, g2⟩ := ldR o hk'.1 (hF _ hmem)
    rw [hy] at i1 g1
    have i1' : aIdx (slc r 0 L) (.int .i64 (iN : Int)) 1 = some (ptr r iN) := i1
    have i2' : aLd1 h (ptr r iN) = some (.int .i64 a) := i2
    have wj : IntKind.i64.wrap ((j : Int) + 1) = ((j + 1 : Nat) : Int) := by rw [wr (by omega) (by omega)]; omega
    obtain ⟨h2, t2, x2, k2, o2, s2⟩ := stR o hbs (j := iN) (by omega) (szStep F a n.ks[j])
    have t2' : aSt h (ptr r iN) (.int .i64 (IntKind.i64.wrap (a + F n.ks[j]))) 1 = some h2 := t2
    obtain ⟨io', h3, c3, x3, o3, q3⟩ := ih (j + 1) m (szStep F a n.ks[j]) (ys.set iN (szStep F a n.ks[j])) xs io h2 (by omega) (by omega) (by omega) (by simp [hy]) (by omega) o2 (q.keep k2 (.inr (fun e => hne e.symm))) hx (fun h' e => hkv h' (x2.trans e)) (r6.keepR (by decide) k2)
      (List.getElem?_set_self (by omega)) (fun k hk => by
        have := hr k hk
        rw [List.getElem?_set_ne (by omega)]; exact hF k hk)
    rw [List.drop_eq_getElem_cons hlt, List.foldl_cons]
    rw [List.set_set] at o3
    refine ⟨io', h3, ?_, x2.trans x3, o3, q3⟩
    rw [s31_1_eq, decide_eq_true hI, cond_true, e1, Option.bind_some, e2, Option.bind_some]
    simp only [asI, if_true, Option.bind_some, i1', i2', g1, g2, t2', wj, c3]
theorem size_out {C : ACall} {N b c r rs ro : Nat} {nv : Value} {T : List Kn} (hT : T.length ≤ 3000) (hN : ∀ n ∈ T, n.t.size ≤ 1048576 ∧ n.ks.length ≤ 1048576) (hNN : 1048577 < N) (hG : Ranges T) (hcb : c ≤ b) (hne : rs ≠ ro) (hbs : b ≤ rs) (hbo : b ≤ ro) :
    ∀ (k j m : Nat) (ys xs : List Int) (io : Nat) (h : AHeap), T.length - j = k → j ≤ T.length → k < m → ys.length = T.length → xs.length ≤ j → b ≤ h.size → OwnR h r rs 3 (ints ys) → OwnR h io ro 3 (ints xs) → KSl c h nv T →
      (∀ i, i < j → ys[i]? = some (PF T (i + 1) i).1) →
      ∃ io' h', s31_0 hk0 C N m (slc io 0 xs.length) (slc r 0 T.length) nv (T.length : Int) (j : Int) h = some (slc io' 0 (xs ++ szFrom T k j).length, h') ∧ Ext b h h' ∧ OwnR h' io' ro 3 (ints (xs ++ szFrom T k j)) := by
  intro k
  induction k with
  | zero =>
    intro j m ys xs io h hk hj hm hy hx hb o q x hlo
    obtain ⟨m, rfl⟩ : ∃ q, m = q + 1 := ⟨m - 1, by omega⟩
    have : ¬ ((j : Int) < (T.length : Int)) := by omega
    refine ⟨io, h, ?_, Ext.refl _ _, by rw [szFrom, List.append_nil]; exact q⟩
    rw [s31_0_eq, decide_eq_false this, cond_false, szFrom, List.append_nil]
  | succ k ih =>
    intro j m ys xs io h hk hj hm hy hx hb o q x hlo
    obtain ⟨m, rfl⟩ : ∃ q, m = q + 1 := ⟨m - 1, by omega⟩
    have hlt : j < T.length := by omega
    have hI : ((j : Int) < (T.length : Int)) := by omega
    have hn : T[j]? = some T[j] := by simp [hlt]
    obtain ⟨id, kv, g1, g2, g3⟩ := x.at hlt
    obtain ⟨g4, _⟩ := g3 h (Ext.refl _ _)
    have e1 := Ext.new (Nat.le_refl h.size) 73 [.int .i64 0, .string ⟨#[]⟩, .int .i64 0, .slice none 0 0]
    have q1 := Own.new (Nat.le_refl h.size) 73 [.int .i64 0, .string ⟨#[]⟩, .int .i64 0, .slice none 0 0]
    have s1 : (h.new 73 [.int .i64 0, .string ⟨#[]⟩, .int .i64 0, .slice none 0 0]).size = h.size + 1 := rfl
    rw [s31_0_eq, decide_eq_true hI, cond_true, g1, Option.bind_some, g4, Option.bind_some]
    simp only [aNew]
    generalize h.new 73 [.int .i64 0, .string ⟨#[]⟩, .int .i64 0, .slice none 0 0] = h1 at e1 q1 s1 ⊢
    obtain ⟨h2, t2, x2, q2, s2⟩ := Own.stN q1 (n := 4) (v := knVal T[j] kv) (kn_aCells g2) rfl rfl
    have E2 : Ext h.size h h2 := e1.trans x2
    have r6 : RowE h2 h.size 73 (knCells T[j] kv) := Own.rowE q2
    have K2 : ∀ rt, Kr rt h h2 := fun rt => Kr.ext E2
    have hlt1 := o.lt
    have o2 : OwnR h2 r rs 3 (ints ys) := o.keep (K2 (rs + 1)) (.inr (by omega))
    have qq2 : OwnR h2 io ro 3 (ints xs) := q.keep (K2 (ro + 1)) (.inr (by omega))
    obtain ⟨h3, t3, x3, k3, o3, s3⟩ := stR o2 hbs (j := j) (by omega) 1
    have qq3 := qq2.keep k3 (.inr (fun e => hne e.symm))
    have E3 : Ext b h h3 := (E2.mono hb).trans x3
    have r63 := r6.keepR (by decide) k3
    have y3 : ISl b h3 kv T[j].ks := (g2.mono hcb).ext E3
    obtain ⟨_, b3, _⟩ := nodeRow r63.row
    have hrg := hG j _ hn
    have hix : aIdx (slc r 0 T.length) (.int .i64 (j : Int)) 1 = some (ptr r j) := by simp [aIdx, slc, hlt]
    obtain ⟨io4, h4, c4, x4, o4, q4⟩ := size_in (C := C) (N := N) (n1 := m) (nv := nv) (F := fun k => (PF T (k.toNat + 1) k).1) hlt hT (hN _ (List.getElem_mem hlt)).2 hrg hne hbs hbo T[j].ks.length 0 N 1 (ys.set j 1) xs io h3 (by omega) (by omega) (by have := (hN _ (List.getElem_mem hlt)).2; omega) (by simp [hy]) (by omega) o3 qq3 (by omega) (fun h' e => y3.ext e) r63 (List.getElem?_set_self (by omega)) (fun k hk => by
      have := hrg k hk
      rw [List.getElem?_set_ne (by omega), hlo k.toNat (by omega), show ((k.toNat : Nat) : Int) = k by omega])
    rw [t2, Option.bind_some]
    simp only [hix, Option.bind_some, t3, aOff_ptr, Nat.zero_add, b3, y3.len, asI, if_true]
    have hval : (T[j].ks.drop 0).foldl (szStep fun k => (PF T (k.toNat + 1) k).1) 1 = (PF T (j + 1) j).1 := by rw [PF_eq hG hn]; rfl
    rw [hval] at c4 o4 q4
    rw [List.set_set] at o4
    have c4' : s31_1 hk0 C N m N (slc io 0 xs.length) (slc r 0 T.length) (j : Int) (ptr h.size 0) nv (T.length : Int) (j : Int) kv (T[j].ks.length : Int) 0 h3 = _ := c4
    rw [c4']
    have hlen : (xs ++ (if T[j].k = 6 then [(PF T (j + 1) j).1] else [])).length ≤ j + 1 := by
      rw [List.length_append]
      have : (if T[j].k = 6 then [(PF T (j + 1) j).1] else [] : List Int).length ≤ 1 := by
        split
        · exact Nat.le_refl _
        · exact Nat.zero_le _
      omega
    obtain ⟨io5, h5, c5, x5, q5⟩ := ih (j + 1) m (ys.set j (PF T (j + 1) j).1) _ io4 h4 (by omega) (by omega) (by omega) (by simp [hy]) hlen (Nat.le_trans hb (E3.trans x4).size) o4 q4 (x.ext ((E3.trans x4).mono hcb)) (fun i hi => by
      by_cases he : i = j
      · subst he; rw [List.getElem?_set_self (by omega)]
      · rw [List.getElem?_set_ne (by omega)]; exact hlo i (by omega))
    refine ⟨io5, h5, ?_, (E3.trans x4).trans x5, ?_⟩
    · rw [c5, szFrom, hn, List.append_assoc]
    · rw [szFrom, hn, ← List.append_assoc]; exact q5
theorem l31 {d c : Nat} (hd : 1048577 < d) {nv : Value} {T : List Kn} {top : Int} {h : AHeap} (x : KSl c h nv T) (hc : c ≤ h.size) (hb : T.length ≤ 1048576) (hN : ∀ n ∈ T, n.t.size ≤ 1048576 ∧ n.ks.length ≤ 1048576) :
    ∃ v h', call Try.prog Ms (d + 3010 + 10) 31 [trVal nv top] h = some (v, h') ∧ Ext h.size h h' ∧ IOwn h.size h' v (sizesP T top) := by
  have e1 := Ext.new (Nat.le_refl h.size) 35 [nv, .int .i64 top]
  have r1 := RowE.new h 35 [nv, .int .i64 top]
  have s1 : (h.new 35 [nv, .int .i64 top]).size = h.size + 1 := rfl
  have hcall : call Try.prog Ms (d + 3010 + 10) 31 [trVal nv top] h = evFn hk0 Try.prog (call Try.prog Ms (d + 3010 + 9)) M31 (d + 3010 + 9) Try.f31 [trVal nv top] h := c31 (d + 3010 + 9) _ _
  rw [hcall, e31, tr_aCells x, Option.bind_some]
  simp only [aNew]
  have x1 := x.ext (e1.mono hc)
  generalize h.new 35 [nv, .int .i64 top] = h1 at e1 r1 s1 x1 ⊢
  have e2 := Ext.new (Nat.le_refl h1.size) 3 ([] : List Value)
  have i2 : OwnR (h1.new 3 []) h1.size h1.size 3 (ints []) := OwnR.new h1 3 (ints [])
  have s2 : (h1.new 3 []).size = h1.size + 1 := rfl
  simp only [aNewS]
  have x2 := x1.ext (e2.mono (by omega))
  have r2 := r1.keep3 (by decide) (Keep3.ext e2)
  generalize h1.new 3 [] = h2 at e2 i2 s2 x2 r2 ⊢
  obtain ⟨_, _, aN⟩ := ld2 r2.row
  have aN' : aLdN h2 (ptr h.size 0) 2 = some (trVal nv top) := aN
  obtain ⟨h3, c3, x3⟩ := l22 hd (top := top) x2 (by omega) hb hN
  have s3 := x3.size
  have i3 := i2.keep (Kr.ext x3 (root := h1.size + 1)) (.inr (by omega))
  have r3 := r2.keep3 (by decide) (Keep3.ext x3)
  have xx3 := x2.ext (x3.mono (by omega))
  obtain ⟨d0, _, _⟩ := ld2 r3.row
  have E3 : Ext h.size h h3 := e1.trans ((e2.mono (by omega)).trans (x3.mono (by omega)))
  rw [aN', Option.bind_some, c3, Option.bind_some]
  simp only [asB, Option.bind_some]
  unfold sizesP
  rw [ok_same]
  cases hok : implOk T top with
  | false => exact ⟨_, h3, rfl, E3, h1.size, rfl, i3.own (by omega)⟩
  | true =>
    obtain ⟨o1, o2, o3, o4⟩ := ok_spec (T := T) (top := top) (by rw [ok_same]; exact hok)
    have e4 := Ext.new (Nat.le_refl h3.size) 3 (ints (List.replicate T.length 0))
    have q4 := OwnR.new h3 3 (ints (List.replicate T.length 0))
    have s4 : (h3.new 3 (ints (List.replicate T.length 0))).size = h3.size + 1 := rfl
    rw [Bool.not_true, cond_false]
    simp only [aOff_ptr, Nat.zero_add, Option.bind_some, d0, x.len, asI, if_true]
    rw [mk_some _ _ _ _ _ (by omega) (by omega), Option.bind_some, rep_ints]
    have r4 := r3.keep3 (by decide) (Keep3.ext e4)
    have i4 := i3.keep (Kr.ext e4 (root := h1.size + 1)) (.inr (by omega))
    have xx4 := xx3.ext (e4.mono (by omega))
    generalize h3.new 3 (ints (List.replicate T.length 0)) = h4 at e4 q4 s4 r4 i4 xx4 ⊢
    obtain ⟨b0, _, _⟩ := ld2 r4.row
    simp only [b0, Option.bind_some, x.len, asI, if_true]
    obtain ⟨io5, h5, c5, x5, q5⟩ := size_out (C := call Try.prog Ms (d + 3010 + 9)) (N := d + 3010 + 9) (b := h1.size) (c := c) (r := h3.size) (rs := h3.size) (ro := h1.size) (nv := nv) o1 hN (by omega) o4 (by omega) (by omega) (by omega) (Nat.le_refl _) T.length 0 (d + 3010 + 9) (List.replicate T.length 0) [] h1.size h4 (by omega) (by omega) (by omega) (by simp) (Nat.zero_le _) (by omega) q4 i4 xx4 (fun i hi => by omega)
    refine ⟨_, h5, c5, E3.trans ((e4.mono (by omega)).trans (x5.mono (by omega))), ?_⟩
    exact ⟨io5, rfl, q5.own (by omega)⟩
end Go.Proofs.Ytadmoackacickaa
/- Marks on ints and on trees. -/
set_option linter.unusedSimpArgs false
namespace Go.Proofs.Ytadmoackacickaa
open Go Go.AH

/-- Each is one more than the one ahead. -/
def Mk (k : Int) (ys : List Int) : Prop := ∀ i, i < ys.length → ys[i]? = some (k + i)
theorem mark_ints {C : ACall} {N b r rt L : Nat} {k0 : Int} (hb : b ≤ rt) (hL : L ≤ 100000000) (h0 : 0 ≤ k0) (h1 : k0 ≤ 4000000000000000000) : ∀ (k j m : Nat) (ys : List Int) (h : AHeap), L - j = k → j ≤ L → k < m → ys.length = L → OwnR h r rt 3 (ints ys) → (∀ i, i < j → ys[i]? = some (k0 + i)) →
    ∃ h' ys', s34_0 hk0 C N m (slc r 0 L) (k0 + j) (j : Int) h = some (.int .i64 (k0 + L), h') ∧ Ext b h h' ∧ Kr rt h h' ∧ OwnR h' r rt 3 (ints ys') ∧ ys'.length = L ∧ Mk k0 ys' ∧ h'.size = h.size := by
  intro k
  induction k with
  | zero =>
    intro j m ys h hk hj hm hy o hlo
    obtain ⟨m, rfl⟩ : ∃ q, m = q + 1 := ⟨m - 1, by omega⟩
    have : ¬ ((j : Int) < (L : Int)) := by omega
    have hlen : aLen (slc r 0 L) = some (.int .i64 (L : Int)) := rfl
    refine ⟨h, ys, ?_, Ext.refl _ _, Kr.refl _ _, o, hy, fun i hi => hlo i (by omega), rfl⟩
    rw [s34_0_eq, hlen, Option.bind_some]
    simp only [asI, if_true, Option.bind_some, decide_eq_false this, cond_false]
    rw [show j = L by omega]
  | succ k ih =>
    intro j m ys h hk hj hm hy o hlo
    obtain ⟨m, rfl⟩ : ∃ q, m = q + 1 := ⟨m - 1, by omega⟩
    have hlt : j < L := by omega
    have hI : ((j : Int) < (L : Int)) := by omega
    have hlen : aLen (slc r 0 L) = some (.int .i64 (L : Int)) := rfl
    have hix : aIdx (slc r 0 L) (.int .i64 (j : Int)) 1 = some (ptr r j) := by simp [aIdx, slc, hlt]
    obtain ⟨h2, t2, x2, k2, o2, s2⟩ := stR o hb (j := j) (by omega) (k0 + j)
    have wj : IntKind.i64.wrap ((j : Int) + 1) = ((j + 1 : Nat) : Int) := by rw [wr (by omega) (by omega)]; omega
    have wk : IntKind.i64.wrap (k0 + (j : Int) + 1) = k0 + ((j + 1 : Nat) : Int) := by rw [wr (by omega) (by omega)]; omega
    obtain ⟨h3, ys', c3, x3, k3, o3, l3, m3, s3⟩ := ih (j + 1) m (ys.set j (k0 + j)) h2 (by omega) (by omega) (by omega) (by simp [hy]) o2 (fun i hi => by
      by_cases he : i = j
      · subst he; rw [List.getElem?_set_self (by omega)]
      · rw [List.getElem?_set_ne (by omega)]; exact hlo i (by omega))
    refine ⟨h3, ys', ?_, x2.trans x3, k2.trans k3, o3, l3, m3, by omega⟩
    rw [s34_0_eq, hlen, Option.bind_some]
    simp only [asI, if_true, Option.bind_some, decide_eq_true hI, cond_true, hix, t2, wj, wk, c3]
theorem l34 {d b r rt : Nat} (hd : 1048577 < d) {ys : List Int} {k0 : Int} {h : AHeap} (hb : b ≤ rt) (hL : ys.length ≤ 1048576) (h0 : 0 ≤ k0) (h1 : k0 ≤ 4000000000000000000) (o : OwnR h r rt 3 (ints ys)) :
    ∃ h' ys', call Try.prog Ms (d + 1) 34 [slc r 0 ys.length, .int .i64 k0] h = some (.int .i64 (k0 + ys.length), h') ∧ Ext b h h' ∧ Kr rt h h' ∧ OwnR h' r rt 3 (ints ys') ∧ ys'.length = ys.length ∧ Mk k0 ys' ∧ h'.size = h.size := by
  obtain ⟨h', ys', c, x⟩ := mark_ints (C := call Try.prog Ms d) (N := d) hb (by omega) h0 h1 ys.length 0 d ys h (by omega) (by omega) (by omega) rfl o (fun i hi => by omega)
  refine ⟨h', ys', ?_, x⟩
  rw [c34, e34]
  have c' : s34_0 hk0 (call Try.prog Ms d) d d (slc r 0 ys.length) (k0 + 0) 0 h = _ := c
  rw [Int.add_zero] at c'
  exact c'
theorem held_ints {C : ACall} {N c : Nat} {v : Value} {ys : List Int} {k0 : Int} (hL : ys.length ≤ 1048576) (h0 : 0 ≤ k0) (h1 : k0 ≤ 4000000000000000000) {h : AHeap} (x : ISl c h v ys) (hm : Mk k0 ys) : ∀ (k j m : Nat), ys.length - j = k → j ≤ ys.length → k < m →
    s35_0 hk0 C N m v (k0 + j) (j : Int) h = some (.int .i64 (k0 + ys.length), h) := by
  intro k
  induction k with
  | zero =>
    intro j m hk hj hm'
    obtain ⟨m, rfl⟩ : ∃ q, m = q + 1 := ⟨m - 1, by omega⟩
    have : ¬ ((j : Int) < (ys.length : Int)) := by omega
    rw [s35_0_eq, x.len, Option.bind_some]
    simp only [asI, if_true, Option.bind_some, decide_eq_false this, cond_false]
    rw [show j = ys.length by omega]
  | succ k ih =>
    intro j m hk hj hm'
    obtain ⟨m, rfl⟩ : ∃ q, m = q + 1 := ⟨m - 1, by omega⟩
    have hlt : j < ys.length := by omega
    have hI : ((j : Int) < (ys.length : Int)) := by omega
    obtain ⟨p, e1, e2⟩ := x.at hlt
    have hv : ys[j] = k0 + j := by
      have := hm j hlt
      rw [List.getElem?_eq_getElem hlt] at this
      simpa using this
    have wj : IntKind.i64.wrap ((j : Int) + 1) = ((j + 1 : Nat) : Int) := by rw [wr (by omega) (by omega)]; omega
    have wk : IntKind.i64.wrap (k0 + (j : Int) + 1) = k0 + ((j + 1 : Nat) : Int) := by rw [wr (by omega) (by omega)]; omega
    rw [s35_0_eq, x.len, Option.bind_some]
    simp only [asI, if_true, Option.bind_some, decide_eq_true hI, cond_true, e1, e2, hv, wj, wk]
    rw [bne_self_eq_false, cond_false]
    exact ih (j + 1) m (by omega) (by omega) (by omega)
theorem l35 {d c : Nat} (hd : 1048577 < d) {v : Value} {ys : List Int} {k0 : Int} {h : AHeap} (hL : ys.length ≤ 1048576) (h0 : 0 ≤ k0) (h1 : k0 ≤ 4000000000000000000) (x : ISl c h v ys) (hm : Mk k0 ys) :
    call Try.prog Ms (d + 1) 35 [v, .int .i64 k0] h = some (.int .i64 (k0 + ys.length), h) := by
  have c := held_ints (C := call Try.prog Ms d) (N := d) hL h0 h1 x hm ys.length 0 d (by omega) (by omega) (by omega)
  rw [c35, e35]
  have c' : s35_0 hk0 (call Try.prog Ms d) d d v (k0 + 0) 0 h = _ := c
  rw [Int.add_zero] at c'
  exact c'
/-- All rows whose root is B or behind it are as they were. -/
def Up (B : Nat) (h h' : AHeap) : Prop := ∀ j o, h.at? j = some o → B ≤ o.root → h'.at? j = some o
theorem Up.refl (B : Nat) (h : AHeap) : Up B h h := fun _ _ h _ => h
theorem Up.trans {B : Nat} {h h' h'' : AHeap} (x : Up B h h') (y : Up B h' h'') : Up B h h'' := fun j o a b => y j o (x j o a b) b
theorem Up.ext {B : Nat} {h h' : AHeap} (x : Ext h.size h h') : Up B h h' := fun j o a _ => x.at? (at?_obj a).2.1 a
theorem Up.kr {B rt : Nat} {h h' : AHeap} (x : Kr rt h h') (hr : rt < B) : Up B h h' := fun j o a b => x j o a (.inr (by omega))
/-- A node's kids, in a row of their own below B. -/
def KidR (b B : Nat) (h : AHeap) (kv : Value) (L : Nat) : Prop := ∃ i ys, kv = slc i 0 L ∧ OwnR h i i 3 (ints ys) ∧ ys.length = L ∧ b ≤ i ∧ i < B
theorem KidR.ext {b B : Nat} {h h' : AHeap} {kv : Value} {L : Nat} (x : KidR b B h kv L) (e : Ext h.size h h') : KidR b B h' kv L := let ⟨i, ys, h1, h2, h3⟩ := x; ⟨i, ys, h1, h2.keep (Kr.ext e (root := i + 1)) (.inr (by omega)), h3⟩
/-- Nodes in memory of their own, from a place on. -/
def NodesR (b B : Nat) (h : AHeap) (r rn : Nat) (ns : List Kn) (j : Nat) (cells : List Value) : Prop :=
  OwnR h r rn 73 cells ∧ b ≤ rn ∧ rn < B ∧ cells.length = ns.length * 4 ∧ ∀ (i : Nat) (n : Kn), j ≤ i → ns[i]? = some n → ∃ kv, cells[i * 4 + 3]? = some kv ∧ KidR b B h kv n.ks.length
theorem st73 {b B : Nat} {h : AHeap} {r rn i : Nat} {cells : List Value} (o : OwnR h r rn 73 cells) (hb : b ≤ rn) (hB : rn < B) (hi : i < cells.length) {v : Value} (hv : aCells v = some [v]) :
    ∃ h', aSt h (ptr r i) v 1 = some h' ∧ Ext b h h' ∧ OwnR h' r rn 73 (cells.set i v) ∧ h'.size = h.size ∧ Up B h h' ∧ (∀ j o, h.at? j = some o → o.elem ≠ 73 → h'.at? j = some o) := by
  obtain ⟨ep, h1⟩ := o
  have hi' := at?_obj h1
  have hsp : splice cells i [v] = cells.set i v := by
    unfold splice
    rw [List.set_eq_take_append_cons_drop, if_pos hi]; simp
  have hne : ∀ k o, h.at? k = some o → (o.elem ≠ 73 ∨ o.root ≠ rn) → (h.put r ⟨rn, ep, false, 73, cells⟩ (splice cells i [v])).at? k = some o := fun k o ho hk =>
    at?_put_other ho (fun e => by subst e; rw [h1] at ho; cases ho; rcases hk with a | a <;> exact a rfl) _ (fun hh => hk.elim (fun a => a hh.1) (fun a => a hh.2))
  refine ⟨h.put r ⟨rn, ep, false, 73, cells⟩ (splice cells i [v]), by simp [aSt, ptr, h1, hv]; omega, Ext.put (Nat.le_trans hb hi'.2.2.1) hb _, ⟨h.ep 73 rn + 1, ?_⟩, rfl, fun k o ho hk => hne k o ho (.inr (by omega)), fun k o ho hk => hne k o ho (.inl hk)⟩
  rw [← hsp]; exact at?_put_same h1 _
theorem KidR.keep {b B : Nat} {h h' : AHeap} {kv : Value} {L : Nat} (x : KidR b B h kv L) (k : ∀ j o, h.at? j = some o → o.elem ≠ 73 → h'.at? j = some o) : KidR b B h' kv L :=
  let ⟨i, ys, h1, ⟨ep, h2⟩, h3⟩ := x; ⟨i, ys, h1, ⟨ep, k i _ h2 (by show (3 : TypeId) ≠ 73; decide)⟩, h3⟩
theorem mark_nodes {d b B r rn : Nat} (hd : 1048577 < d) {ns : List Kn} (hl : ns.length ≤ 1048576) (hN : ∀ n ∈ ns, n.t.size ≤ 1048576 ∧ n.ks.length ≤ 1048576) :
    ∀ (k j m : Nat) (k0 : Int) (cells : List Value) (h : AHeap), ns.length - j = k → j ≤ ns.length → k < m → 0 ≤ k0 → k0 + (k : Int) * 2000000 ≤ 100000000000000000 → b ≤ h.size → B ≤ h.size → NodesR b B h r rn ns j cells →
      ∃ h' k1, s68_0 hk0 (call Try.prog Ms (d + 1)) (d + 1) m (slc r 0 ns.length) k0 (j : Int) h = some (.int .i64 k1, h') ∧ 0 ≤ k1 ∧ Ext b h h' ∧ Up B h h' := by
  intro k
  induction k with
  | zero =>
    intro j m k0 cells h hk hj hm h0 h1 hb hB o
    obtain ⟨m, rfl⟩ : ∃ q, m = q + 1 := ⟨m - 1, by omega⟩
    have : ¬ ((j : Int) < (ns.length : Int)) := by omega
    have hlen : aLen (slc r 0 ns.length) = some (.int .i64 (ns.length : Int)) := rfl
    refine ⟨h, k0, ?_, h0, Ext.refl _ _, Up.refl _ _⟩
    rw [s68_0_eq, hlen, Option.bind_some]
    simp only [asI, if_true, Option.bind_some, decide_eq_false this, cond_false]
  | succ k ih =>
    intro j m k0 cells h hk hj hm h0 h1 hb hB o
    obtain ⟨m, rfl⟩ : ∃ q, m = q + 1 := ⟨m - 1, by omega⟩
    have hlt : j < ns.length := by omega
    have hI : ((j : Int) < (ns.length : Int)) := by omega
    have hlen : aLen (slc r 0 ns.length) = some (.int .i64 (ns.length : Int)) := rfl
    have hix : aIdx (slc r 0 ns.length) (.int .i64 (j : Int)) 4 = some (ptr r (j * 4)) := by simp [aIdx, slc, hlt]
    have hn : ns[j]? = some ns[j] := by simp [hlt]
    have hok := hN ns[j] (List.getElem_mem hlt)
    obtain ⟨o1, o2, o3, o4, o5⟩ := o
    obtain ⟨kv, g1, g2⟩ := o5 j _ (Nat.le_refl _) hn
    obtain ⟨h2, t2, x2, q2, s2, u2, f2⟩ := st73 o1 o2 o3 (i := j * 4) (by omega) (v := .int .i64 k0) rfl
    have w1 : IntKind.i64.wrap (k0 + 1) = k0 + 1 := wr (by omega) (by omega)
    have w2 : IntKind.i64.wrap (k0 + 1 + 1) = k0 + 2 := by rw [wr (by omega) (by omega)]; omega
    have w3 : IntKind.i64.wrap (k0 + 2 + 1) = k0 + 3 := by rw [wr (by omega) (by omega)]; omega
    obtain ⟨h3, c3, x3⟩ := l55 (d := d) (by omega) (x := k0 + 1) (Int.lt_of_le_of_lt (b := 100000000000000001) (by omega) (by decide)) h2
    have s3 := x3.size
    have q3 := q2.keep (Kr.ext x3 (root := rn + 1)) (.inl (by decide))
    obtain ⟨h4, t4, x4, q4, s4, u4, f4⟩ := st73 q3 o2 o3 (i := j * 4 + 1) (by simp; omega) (v := .string (markT (k0 + 1))) rfl
    obtain ⟨h5, t5, x5, q5, s5, u5, f5⟩ := st73 q4 o2 o3 (i := j * 4 + 2) (by simp; omega) (v := .int .i64 (k0 + 2)) rfl
    have hkv : (((cells.set (j * 4) (Value.int .i64 k0)).set (j * 4 + 1) (.string (markT (k0 + 1)))).set (j * 4 + 2) (.int .i64 (k0 + 2)))[j * 4 + 3]? = some kv := by
      rw [List.getElem?_set_ne (by omega), List.getElem?_set_ne (by omega), List.getElem?_set_ne (by omega)]; exact g1
    have ld : aLd1 h5 (ptr r (j * 4 + 3)) = some kv := q5.row.ld1 hkv
    have kid := fun L (kv : Value) (z : KidR b B h kv L) => (((z.keep f2).ext x3).keep f4).keep f5
    obtain ⟨id, ys, z1, z2, z3, z4, z5⟩ := kid _ _ g2
    obtain ⟨h6, ys', c6, x6, k6, q6, l6, m6, s6⟩ := l34 (d := d) hd (b := b) (k0 := k0 + 3) z4 (by rw [z3]; exact hok.2) (by omega) (by omega) z2
    rw [z3, ← z1] at c6
    have U6 : Up B h h6 := u2.trans ((Up.ext x3).trans (u4.trans (u5.trans (Up.kr k6 z5))))
    have E6 : Ext b h h6 := x2.trans ((x3.mono (by omega)).trans (x4.trans (x5.trans x6)))
    have n6 : NodesR b B h6 r rn ns (j + 1) (((cells.set (j * 4) (Value.int .i64 k0)).set (j * 4 + 1) (.string (markT (k0 + 1)))).set (j * 4 + 2) (.int .i64 (k0 + 2))) := by
      refine ⟨q5.keep k6 (.inl (by decide)), o2, o3, by simp; exact o4, fun i n hi hn' => ?_⟩
      obtain ⟨kv', y1, y2⟩ := o5 i n (by omega) hn'
      refine ⟨kv', by rw [List.getElem?_set_ne (by omega), List.getElem?_set_ne (by omega), List.getElem?_set_ne (by omega)]; exact y1, ?_⟩
      obtain ⟨id', zs, v1, v2, v3, v4, v5⟩ := kid _ _ y2
      by_cases he : id' = id
      · subst he
        have hlen' : ys'.length = zs.length := by
          obtain ⟨ep, v2'⟩ := v2
          obtain ⟨ep', z2'⟩ := z2
          have := congrArg AObj.cells (Option.some.inj (v2'.symm.trans z2'))
          simp only at this
          have := congrArg List.length this
          simp [ints] at this
          omega
        exact ⟨id', ys', v1, q6, by omega, v4, v5⟩
      · exact ⟨id', zs, v1, v2.keep k6 (.inr he), v3, v4, v5⟩
    have wj : IntKind.i64.wrap ((j : Int) + 1) = ((j + 1 : Nat) : Int) := by rw [wr (by omega) (by omega)]; omega
    obtain ⟨h7, k1, c7, b7, x7, u7⟩ := ih (j + 1) m (k0 + 3 + ns[j].ks.length) _ h6 (by omega) (by omega) (by omega) (by omega) (by have := hok.2; omega) (by omega) (by omega) n6
    refine ⟨h7, k1, ?_, b7, E6.trans x7, U6.trans u7⟩
    rw [s68_0_eq, hlen, Option.bind_some]
    simp only [asI, if_true, Option.bind_some, decide_eq_true hI, cond_true, hix, aOff_ptr, Nat.add_zero, t2, w1]
    rw [c3, Option.bind_some]
    simp only [asS, Option.bind_some, t4, w2, t5, ld, w3]
    rw [c6, Option.bind_some]
    simp only [asI, if_true, Option.bind_some, wj]
    exact c7
end Go.Proofs.Ytadmoackacickaa
/- FnExactSizesOf, as the small evaluator runs it. -/
set_option linter.unusedSimpArgs false
namespace Go.Proofs.Ytadmoackacickaa
open Go Go.AH

theorem NodesR.ext {b B : Nat} {h h' : AHeap} {r rn j : Nat} {ns : List Kn} {cells : List Value} (x : NodesR b B h r rn ns j cells) (e : Ext h.size h h') : NodesR b B h' r rn ns j cells :=
  ⟨x.1.keep (Kr.ext e (root := rn + 1)) (.inr (by omega)), x.2.1, x.2.2.1, x.2.2.2.1, fun i n hi hn => let ⟨kv, a, c⟩ := x.2.2.2.2 i n hi hn; ⟨kv, a, c.ext e⟩⟩
theorem KOwn.nodes {b : Nat} {h : AHeap} {v : Value} {ns : List Kn} (x : KOwn b h v ns) : ∃ r rn cells, v = slc r 0 ns.length ∧ NodesR b h.size h r rn ns 0 cells := by
  obtain ⟨r, cells, h1, h2, h3, h4⟩ := x
  obtain ⟨rn, ep, z1, z2⟩ := h2
  have hz := at?_obj z1
  refine ⟨r, rn, cells, h1, ⟨ep, z1⟩, z2, Nat.lt_of_le_of_lt hz.2.2.1 hz.2.1, h3, fun i n _ hn => ?_⟩
  obtain ⟨kv, a, id, c1, ⟨rt, ep', c2, c3⟩, c4⟩ := h4 i n (List.getElem?_eq_some_iff.1 hn).1 hn
  have hc := at?_obj c2
  have e : rt = id := Nat.le_antisymm hc.2.2.1 c3
  subst e
  exact ⟨kv, drop_take_get (c := 3) a (by omega), rt, n.ks, c1, ⟨ep', c2⟩, rfl, c4, hc.2.1⟩
theorem l33 {d b B c r rn : Nat} (hd : 1048577 < d) {ns : List Kn} {top : Int} {cells : List Value} {h : AHeap} (x : KSl c h (slc r 0 ns.length) ns) (hb : b ≤ h.size) (hB : B ≤ h.size) (hl : ns.length ≤ 1048576) (hN : ∀ n ∈ ns, n.t.size ≤ 1048576 ∧ n.ks.length ≤ 1048576) (o : NodesR b B h r rn ns 0 cells) :
    ∃ h' k1, call Try.prog Ms (d + 3) 33 [trVal (slc r 0 ns.length) top, .int .i64 1] h = some (.int .i64 k1, h') ∧ 0 ≤ k1 ∧ Ext b h h' ∧ Up B h h' := by
  have e1 := Ext.new (Nat.le_refl h.size) 35 [slc r 0 ns.length, .int .i64 top]
  have r1 := (Own.new (b := h.size) (Nat.le_refl _) 35 [slc r 0 ns.length, .int .i64 top]).row
  have s1 : (h.new 35 [slc r 0 ns.length, .int .i64 top]).size = h.size + 1 := rfl
  rw [c33, e33, tr_aCells x, Option.bind_some]
  simp only [aNew]
  have o1 := o.ext e1
  generalize h.new 35 [slc r 0 ns.length, .int .i64 top] = h1 at e1 r1 s1 o1 ⊢
  obtain ⟨a0, _, _⟩ := ld2 r1
  obtain ⟨h2, k1, c2, b2, x2, u2⟩ := mark_nodes hd hl hN ns.length 0 (d + 1) 1 cells h1 (by omega) (by omega) (by omega) (by omega) (by omega) (by omega) (by omega) o1
  have c2' : call Try.prog Ms (d + 2) 68 [slc r 0 ns.length, .int .i64 1] h1 = some (.int .i64 k1, h2) := by
    have hcall : call Try.prog Ms (d + 2) 68 [slc r 0 ns.length, .int .i64 1] h1 = evFn hk0 Try.prog (call Try.prog Ms (d + 1)) M68 (d + 1) Try.f68 [slc r 0 ns.length, .int .i64 1] h1 := c68 (d + 1) _ _
    rw [hcall, e68]
    exact c2
  refine ⟨h2, k1, ?_, b2, (e1.mono hb).trans x2, (Up.ext e1).trans u2⟩
  simp only [aOff_ptr, Nat.zero_add, Option.bind_some, a0]
  rw [c2', Option.bind_some]
  simp only [asI, if_true, Option.bind_some]
theorem g7_1 {d c p2 : Nat} (hd : 1048577 < d) {nv wv : Value} {T : List Kn} {top : Int} {S ys : List Int} {gi rt bg : Nat} {h : AHeap} (hS : S = sizesP T top) (hSl : S.length ≤ 1048576) (hT : T.length ≤ 1048576) (hK : ∀ n ∈ T, n.t.size ≤ 1048576 ∧ n.ks.length ≤ 1048576)
    (x : KSl c h nv T) (hcb : c ≤ bg) (hb : bg ≤ h.size) (rp : Row h p2 [nv, .int .i64 top]) (hp : p2 < bg) (w : ISl bg h wv S) (g : OwnR h gi rt 3 (ints ys)) (hg : bg ≤ rt) (hys : ys.length = S.length) :
    ∃ h', s7_1 hk0 (call Try.prog Ms (d + 3010 + 10)) (d + 3010 + 10) (ptr p2 0) wv (slc gi 0 S.length) h = some (.bool true, h') := by
  obtain ⟨h2, zs, c2, x2, k2, g2, l2, m2, s2⟩ := l34 (d := d + 3010 + 9) (by omega) (k0 := 1) hg (by omega) (by omega) (by omega) g
  rw [hys] at c2
  have c2' : call Try.prog Ms (d + 3010 + 10) 34 [slc gi 0 S.length, .int .i64 1] h = _ := c2
  have hz : zs.length = S.length := by omega
  have glt := g2.lt
  have gI : ∀ hh, OwnR hh gi rt 3 (ints zs) → ISl (gi + 1) hh (slc gi 0 S.length) zs := fun hh o => by
    obtain ⟨ep, a⟩ := o
    exact .inr (.inr ⟨gi, _, by rw [hz], a, rfl, rfl, by omega⟩)
  have c3 := l35 (d := d + 3010 + 9) (by omega) (k0 := 1) (by omega) (by omega) (by omega) (gI h2 g2) m2
  have c3' : call Try.prog Ms (d + 3010 + 10) 35 [slc gi 0 S.length, .int .i64 1] h2 = _ := c3
  have r2 := rp.ext x2 hp
  have xx2 := x.ext (x2.mono hcb)
  obtain ⟨_, _, aN⟩ := ld2 r2
  have aN' : aLdN h2 (ptr p2 0) 2 = some (trVal nv top) := aN
  obtain ⟨nd, h4, c4, x4, k4⟩ := l21 (d := d + 3010 + 6) (by omega) (top := top) xx2 (by omega) hT hK
  have c4' : call Try.prog Ms (d + 3010 + 10) 21 [trVal nv top] h2 = _ := c4
  have s4 := x4.size
  obtain ⟨gv, h5, c5, x5, i5⟩ := l31 hd (top := top) k4.ksl (Nat.le_refl _) hT hK
  have s5 := x5.size
  have E : Ext bg h h5 := x2.trans ((x4.mono (by omega)).trans (x5.mono (by omega)))
  have w5 := w.ext E
  rw [← hS] at i5
  have c6 := l32 (d := d + 3010 + 9) (by omega) hSl i5.isl w5
  have c6' : call Try.prog Ms (d + 3010 + 10) 32 [gv, wv] h5 = _ := c6
  have g5 := (g2.keep (Kr.ext x4 (root := rt + 1)) (.inr (by omega))).keep (Kr.ext x5 (root := rt + 1)) (.inr (by omega))
  have c7 := l35 (d := d + 3010 + 9) (by omega) (k0 := 1) (by omega) (by omega) (by omega) (gI h5 g5) m2
  have c7' : call Try.prog Ms (d + 3010 + 10) 35 [slc gi 0 S.length, .int .i64 1] h5 = _ := c7
  rw [hz] at c3' c7'
  have hneg : decide ((1 : Int) + (S.length : Int) < 0) = false := by simp; omega
  refine ⟨h5, ?_⟩
  rw [s7_1_j, s7_1_eq, c2', Option.bind_some]
  simp only [asI, if_true, Option.bind_some]
  rw [c3', Option.bind_some]
  simp only [asI, if_true, Option.bind_some, hneg, cond_false]
  rw [bne_self_eq_false, cond_false, aN', Option.bind_some, c4', Option.bind_some, c5, Option.bind_some, c6', Option.bind_some]
  simp only [asB, Option.bind_some, Bool.not_true, cond_false]
  rw [c7', Option.bind_some]
  simp only [asI, if_true, Option.bind_some, hneg, cond_false]
  rw [bne_self_eq_false, cond_false]
theorem l7 {d : Nat} (hd : 1048577 < d) {nv : Value} {T : List Kn} {top : Int} {h : AHeap} (x : KSl h.size h nv T) (hb : T.length ≤ bigT) (hN : ∀ n ∈ T, okK n) :
    ∃ h', call Try.prog Ms (d + 3010 + 11) 7 [trVal nv top] h = some (.bool true, h') := by
  have e1 := Ext.new (Nat.le_refl h.size) 30 [nv, .int .i64 top]
  have r1 := (Own.new (b := h.size) (Nat.le_refl _) 30 [nv, .int .i64 top]).row
  have s1 : (h.new 30 [nv, .int .i64 top]).size = h.size + 1 := rfl
  have hcall : call Try.prog Ms (d + 3010 + 11) 7 [trVal nv top] h = evFn hk0 Try.prog (call Try.prog Ms (d + 3010 + 10)) M7 (d + 3010 + 10) Try.f7 [trVal nv top] h := c7 (d + 3010 + 10) _ _
  rw [hcall, e7, tr_aCells x, Option.bind_some]
  simp only [aNew]
  have x1 := (x.ext e1).mono (show h.size ≤ (h.new 30 [nv, .int .i64 top]).size by omega)
  generalize h.new 30 [nv, .int .i64 top] = h1 at e1 r1 s1 x1 ⊢
  obtain ⟨_, _, aN⟩ := ld2 r1
  have aN' : aLdN h1 (ptr h.size 0) 2 = some (trVal nv top) := aN
  obtain ⟨h2, c2, e2⟩ := l19 (d := d + 3010 + 6) (by omega) (top := top) x1 (Nat.le_refl _) hN hb
  have c2' : call Try.prog Ms (d + 3010 + 10) 19 [trVal nv top, .int .i64 1048576] h1 = _ := c2
  rw [aN', Option.bind_some, c2', Option.bind_some]
  simp only [asI, if_true, Option.bind_some]
  by_cases hs : szT T 1048576 < 0
  · rw [if_pos hs, decide_eq_true (show (-1 : Int) < 0 by decide), cond_true]; exact ⟨h2, rfl⟩
  rw [if_neg hs, decide_eq_false hs, cond_false]
  obtain ⟨hT, hK⟩ := szT_ok (ns := T) (by omega)
  have s2 := e2.size
  have r2 := r1.ext e2 (by omega)
  have x2 := (x1.ext e2).mono s2
  obtain ⟨_, _, b2⟩ := ld2 r2
  have b2' : aLdN h2 (ptr h.size 0) 2 = some (trVal nv top) := b2
  obtain ⟨na, h3, c3, e3, k3⟩ := l21 (d := d + 3010 + 6) (by omega) (top := top) x2 (Nat.le_refl _) hT hK
  have c3' : call Try.prog Ms (d + 3010 + 10) 21 [trVal nv top] h2 = _ := c3
  have s3 := e3.size
  obtain ⟨wv, h4, c4', e4, i4⟩ := l30 (d := d + 1) (by omega) (top := top) k3.ksl (Nat.le_refl _) hT hK
  rw [show d + 1 + 3010 + 9 = d + 3010 + 10 by omega] at c4'
  have s4 := e4.size
  have r4 := (r2.ext e3 (by omega)).ext e4 (by omega)
  obtain ⟨_, _, d4⟩ := ld2 r4
  have d4' : aLdN h4 (ptr h.size 0) 2 = some (trVal nv top) := d4
  have x4 := (((x2.ext e3).mono s3).ext e4).mono s4
  have hSl : (sizesP T top).length ≤ 1048576 := by
    unfold sizesP
    split
    · exact Nat.le_trans (szFrom_len _ _ _) hT
    · exact Nat.zero_le _
  have w4 : ISl h4.size h4 wv (sizesP T top) := i4.isl
  rw [b2', Option.bind_some, c3', Option.bind_some, c4', Option.bind_some, d4', Option.bind_some]
  obtain ⟨nb, h5, c5, e5, k5⟩ := l21 (d := d + 3010 + 6) (by omega) (top := top) x4 (Nat.le_refl _) hT hK
  have c5' : call Try.prog Ms (d + 3010 + 10) 21 [trVal nv top] h4 = _ := c5
  have s5 := e5.size
  rw [c5', Option.bind_some]
  have e6 := Ext.new (Nat.le_refl h5.size) 35 [.slice none 0 0, .int .i64 0]
  have o6 := Own.new (Nat.le_refl h5.size) 35 [.slice none 0 0, .int .i64 0]
  have s6 : (h5.new 35 [.slice none 0 0, .int .i64 0]).size = h5.size + 1 := rfl
  have k6 := k5.ext e6
  generalize h5.new 35 [.slice none 0 0, .int .i64 0] = h6 at e6 o6 s6 k6 ⊢
  obtain ⟨h7, t7, e7', o7, s7, q7⟩ := Own.stX o6 (off := 0) (n := 2) (v := trVal nb top) (tr_aCells k6.ksl top) rfl (by show 0 + 2 ≤ 2; omega)
  have k7 := k6.keep (e := 35) (by decide) (by decide) q7
  have r7 : Row h7 h5.size [nb, .int .i64 top] := o7.row
  obtain ⟨_, _, a7⟩ := ld2 r7
  have a7' : aLdN h7 (ptr h5.size 0) 2 = some (trVal nb top) := a7
  obtain ⟨rb, rn, cells, hnb, n7⟩ := k7.nodes
  obtain ⟨gv, h8, c8, e8, i8⟩ := l31 hd (top := top) k7.ksl (Nat.le_refl _) hT hK
  have s8 := e8.size
  have E57 : Ext h5.size h5 h7 := e6.trans e7'
  have E48 : Ext h4.size h4 h8 := e5.trans ((E57.mono s5).trans (e8.mono (by omega)))
  have w8 := w4.ext E48
  have cc8 := l32 (d := d + 3010 + 9) (by omega) hSl i8.isl w8
  have cc8' : call Try.prog Ms (d + 3010 + 10) 32 [gv, wv] h8 = _ := cc8
  have r8 := r7.ext e8 (by omega)
  obtain ⟨_, _, a8⟩ := ld2 r8
  have a8' : aLdN h8 (ptr h5.size 0) 2 = some (trVal nb top) := a8
  have r18 := r4.ext E48 (by omega)
  obtain ⟨_, _, d8⟩ := ld2 r18
  have d8' : aLdN h8 (ptr h.size 0) 2 = some (trVal nv top) := d8
  have x8 : KSl h4.size h8 nv T := x4.ext E48
  have k8 := k7.ext e8
  obtain ⟨nc, h9, c9, e9, k9⟩ := l21 (d := d + 3010 + 6) (by omega) (top := top) x8 (by omega) hT hK
  have c9' : call Try.prog Ms (d + 3010 + 10) 21 [trVal nv top] h8 = _ := c9
  have s9 := e9.size
  have r9 := r8.ext e9 (by omega)
  obtain ⟨_, _, a9⟩ := ld2 r9
  have a9' : aLdN h9 (ptr h5.size 0) 2 = some (trVal nb top) := a9
  obtain ⟨h10, c10, e10⟩ := l23 (d := d + 3010 + 6) (by omega) (top := top) (k8.ext e9).ksl k9.ksl (Nat.le_refl _) hT hK
  have c10' : call Try.prog Ms (d + 3010 + 10) 23 [trVal nb top, trVal nc top] h9 = _ := c10
  have s10 := e10.size
  have r10 := r9.ext e10 (by omega)
  obtain ⟨_, _, a10⟩ := ld2 r10
  have a10' : aLdN h10 (ptr h5.size 0) 2 = some (trVal nb top) := a10
  have n10 := ((n7.ext e8).ext e9).ext e10
  have kk10 := ((k8.ext e9).ext e10).ksl
  rw [hnb] at kk10
  obtain ⟨h11, k1, c11, b11, e11, u11⟩ := l33 (d := d + 3010 + 7) (by omega) (top := top) kk10 (by omega) (by omega) hT hK n10
  rw [← hnb] at c11
  have c11' : call Try.prog Ms (d + 3010 + 10) 33 [trVal nb top, .int .i64 1] h10 = _ := c11
  have E411 : Ext h4.size h4 h11 := E48.trans ((e9.mono (by omega)).trans ((e10.mono (by omega)).trans e11))
  obtain ⟨gi, hgv, gr, gep, ga, gb⟩ := (i8.ext e9).ext e10
  have g11 : OwnR h11 gi gr 3 (ints (sizesP T top)) := ⟨gep, u11 gi _ ga gb⟩
  have gI : ISl h11.size h11 gv (sizesP T top) := by
    obtain ⟨ep, a⟩ := g11
    exact .inr (.inr ⟨gi, _, hgv, a, rfl, rfl, (at?_obj a).2.1⟩)
  have w11 := w4.ext E411
  have cc11 := l32 (d := d + 3010 + 9) (by omega) hSl gI w11
  have cc11' : call Try.prog Ms (d + 3010 + 10) 32 [gv, wv] h11 = _ := cc11
  have r11 := r4.ext E411 (by omega)
  obtain ⟨h12, c12⟩ := g7_1 hd (bg := h4.size) rfl hSl hT hK (x4.ext E411) (Nat.le_refl _) E411.size r11 (by omega) w11 g11 (by omega) rfl
  rw [← hgv] at c12
  refine ⟨h12, ?_⟩
  have hneg : decide (k1 < 0) = false := by simp; omega
  rw [t7, Option.bind_some, a7', Option.bind_some, c8, Option.bind_some, cc8', Option.bind_some]
  simp only [asB, Option.bind_some, Bool.not_true, cond_false]
  rw [a8', Option.bind_some, d8', Option.bind_some, c9', Option.bind_some]
  simp only [a9', Option.bind_some, tr_vbeq (k8.ext e9).ksl, cond_true]
  rw [c10', Option.bind_some]
  simp only [asB, Option.bind_some, Bool.not_true, cond_false]
  rw [a10', Option.bind_some, c11', Option.bind_some]
  simp only [asI, if_true, Option.bind_some, hneg, cond_false]
  rw [cc11', Option.bind_some]
  change (Option.some true).bind (fun b30 => s7_0 hk0 (call Try.prog Ms (d + 3010 + 10)) (d + 3010 + 10) (ptr h.size 0) wv gv (!b30) h11) = _
  rw [Option.bind_some, Bool.not_true, s7_0_j, s7_0_eq, cond_false, c12]
end Go.Proofs.Ytadmoackacickaa
/- FnExactFreeNames, as the small evaluator runs it. -/
set_option linter.unusedSimpArgs false
namespace Go.Proofs.Ytadmoackacickaa
open Go Go.AH

theorem l9_1 {d p2 gi gr bg : Nat} (hd : 1048577 < d) {nv wv : Value} {T : List Kn} {top : Int} {S : List BA} {h : AHeap} (hS : S = freeI T top) (hSl : S.length ≤ 3001) (hT : T.length ≤ 1048576) (hK : ∀ n ∈ T, n.t.size ≤ 1048576 ∧ n.ks.length ≤ 1048576)
    (x : KSl bg h nv T) (hb : bg ≤ h.size) (rp : RowE h p2 30 [nv, .int .i64 top]) (hp : p2 < bg) (w : SSl bg h wv S) (o : OwnR h gi gr 9 (strs S)) (hg : bg ≤ gr) :
    ∃ h', s9_0 hk0 (call Try.prog Ms (d + 13010 + 8)) (d + 13010 + 8) (ptr p2 0) wv (slc gi 0 S.length) false h = some (.bool true, h') := by
  obtain ⟨h2, c2, x2, k2, o2⟩ := l40 (d := d + 13010 + 6) (by omega) (k0 := 1) hg hb (by omega) (by omega) (by omega) o
  have c2' : call Try.prog Ms (d + 13010 + 8) 40 [slc gi 0 S.length, .int .i64 1] h = _ := c2
  have hm : (mkS 1 S.length).length = S.length := by simp [mkS]
  have sl : ∀ g, OwnR g gi gr 9 (strs (mkS 1 S.length)) → SSl g.size g (slc gi 0 S.length) (mkS 1 S.length) := fun g ⟨ep, a⟩ => .inr ⟨gi, _, by rw [hm], a, rfl, rfl, (at?_obj a).2.1⟩
  obtain ⟨h3, c3, x3⟩ := l41 (d := d + 13010 + 6) (by omega) (k0 := 1) (by omega) (by omega) (by omega) (sl h2 o2)
  have c3' : call Try.prog Ms (d + 13010 + 8) 41 [slc gi 0 S.length, .int .i64 1] h2 = _ := c3
  have X3 : Ext bg h h3 := x2.trans (x3.mono (by have := x2.size; omega))
  have o3 := o2.ext x3
  have r3 : RowE h3 p2 30 [nv, .int .i64 top] := let ⟨q, a, q1, q2⟩ := rp; ⟨q, X3.at? hp a, q1, q2⟩
  have a3 : aLdN h3 (ptr p2 0) 2 = some (trVal nv top) := (ld2 r3.row).2.2
  obtain ⟨nd, h4, c4, x4, k4⟩ := l21 (d := d + 13010 + 4) (by omega) (top := top) (x.ext X3) (by have := X3.size; omega) hT hK
  have c4' : call Try.prog Ms (d + 13010 + 8) 21 [trVal nv top] h3 = _ := c4
  obtain ⟨v5, h5, c5, x5, o5⟩ := l38 hd (top := top) k4.kse hT hK
  have X5 : Ext bg h h5 := X3.trans ((x4.mono (by have := X3.size; omega)).trans (x5.mono (by have := X3.size; have := x4.size; omega)))
  rw [← hS] at o5
  have c6 := l39 (d := d + 13010 + 7) (by omega) (show S.length ≤ 1000000 by omega) o5.src (w.ext X5).src
  have c6' : call Try.prog Ms (d + 13010 + 8) 39 [v5, wv] h5 = _ := c6
  have o5' := (o3.ext x4).ext x5
  obtain ⟨h7, c7, x7⟩ := l41 (d := d + 13010 + 6) (by omega) (k0 := 1) (by omega) (by omega) (by omega) (sl h5 o5')
  have c7' : call Try.prog Ms (d + 13010 + 8) 41 [slc gi 0 S.length, .int .i64 1] h5 = _ := c7
  have hneg : decide ((1 : Int) + (S.length : Int) < 0) = false := decide_eq_false (by omega)
  refine ⟨h7, ?_⟩
  rw [s9_0_j, s9_0_eq]
  refine ecf rfl ?_
  rw [s9_1_j, s9_1_eq]
  exact eb c2' (eb rfl (eb c3' (eb rfl (ecf hneg (ecf (bne_self_eq_false _) (eb a3 (eb c4' (eb c5 (eb c6' (eb rfl (ecf rfl (eb c7' (eb rfl (ecf hneg (ecf (bne_self_eq_false _) rfl)))))))))))))))
theorem l9 {d : Nat} (hd : 1048577 < d) {nv : Value} {T : List Kn} {top : Int} {h : AHeap} (x : KSg 133 h.size h nv T) (hb : T.length ≤ bigT) (hN : ∀ n ∈ T, okK n) :
    ∃ h', call Try.prog Ms (d + 13010 + 9) 9 [trVal nv top] h = some (.bool true, h') := by
  have hcall : call Try.prog Ms (d + 13010 + 9) 9 [trVal nv top] h = evFn hk0 Try.prog (call Try.prog Ms (d + 13010 + 8)) M9 (d + 13010 + 8) Try.f9 [trVal nv top] h := c9 (d + 13010 + 8) _ _
  rw [hcall, e9, tr_aCells x.ksl, Option.bind_some]
  have e1 := Ext.new (Nat.le_refl h.size) 30 [nv, .int .i64 top]
  have r1 := RowE.new h 30 [nv, .int .i64 top]
  simp only [aNew]
  have x1 := (x.ksl.ext e1).mono e1.size
  generalize h.new 30 [nv, .int .i64 top] = h1 at e1 r1 x1 ⊢
  have a1 : aLdN h1 (ptr h.size 0) 2 = some (trVal nv top) := (ld2 r1.row).2.2
  obtain ⟨h2, c2, e2⟩ := l19 (d := d + 13010 + 4) (by omega) (top := top) x1 (Nat.le_refl _) hN hb
  have c2' : call Try.prog Ms (d + 13010 + 8) 19 [trVal nv top, .int .i64 1048576] h1 = _ := c2
  by_cases hs : szT T 1048576 < 0
  · rw [if_pos hs] at c2'
    exact ⟨h2, eb a1 (eb c2' (eb rfl (ect rfl rfl)))⟩
  rw [if_neg hs] at c2'
  obtain ⟨hT, hK⟩ := szT_ok (ns := T) (by omega)
  have r2 := r1.ext' e2
  have x2 := (x1.ext e2).mono e2.size
  have a2 : aLdN h2 (ptr h.size 0) 2 = some (trVal nv top) := (ld2 r2.row).2.2
  obtain ⟨na, h3, c3, e3, k3⟩ := l21 (d := d + 13010 + 4) (by omega) (top := top) x2 (Nat.le_refl _) hT hK
  have c3' : call Try.prog Ms (d + 13010 + 8) 21 [trVal nv top] h2 = _ := c3
  obtain ⟨v4, h4, c4', e4, w4, hSl⟩ := l37 hd (top := top) k3.kse hT hK
  rw [← free_same] at w4 hSl
  have r4 := (r2.ext' e3).ext' e4
  have x4 := (((x2.ext e3).mono e3.size).ext e4).mono e4.size
  have a4 : aLdN h4 (ptr h.size 0) 2 = some (trVal nv top) := (ld2 r4.row).2.2
  obtain ⟨nb, h5, c5, e5, k5⟩ := l21 (d := d + 13010 + 4) (by omega) (top := top) x4 (Nat.le_refl _) hT hK
  have c5' : call Try.prog Ms (d + 13010 + 8) 21 [trVal nv top] h4 = _ := c5
  have e6 := Ext.new (Nat.le_refl h5.size) 35 [.slice none 0 0, .int .i64 0]
  have o6 := Own.new (Nat.le_refl h5.size) 35 [.slice none 0 0, .int .i64 0]
  have k6 := k5.ext e6
  generalize hg6 : h5.new 35 [.slice none 0 0, .int .i64 0] = h6 at e6 o6 k6
  obtain ⟨h7, t7, e7, o7, s7, q7⟩ := Own.stX o6 (off := 0) (n := 2) (v := trVal nb top) (tr_aCells k6.ksl top) rfl (by show 0 + 2 ≤ 2; omega)
  have k7 := k6.keep (e := 35) (by decide) (by decide) q7
  have E57 : Ext h5.size h5 h7 := e6.trans e7
  have r7 : RowE h7 h5.size 35 [nb, .int .i64 top] := Own.rowE o7
  have a7 : aLdN h7 (ptr h5.size 0) 2 = some (trVal nb top) := (ld2 r7.row).2.2
  obtain ⟨rb, rn, cells, hnb, n7⟩ := k7.nodes
  obtain ⟨v8, h8, c8, e8, o8⟩ := l38 hd (top := top) k7.kse hT hK
  have s4 := e4.size
  have s5 := e5.size
  have s57 := E57.size
  have s8 := e8.size
  have E48 : Ext h4.size h4 h8 := e5.trans ((E57.mono s5).trans (e8.mono (by omega)))
  have w8 := w4.ext E48
  have cc8 : call Try.prog Ms (d + 13010 + 8) 39 [v8, v4] h8 = _ := l39 (d := d + 13010 + 7) (by omega) (by omega) o8.src w8.src
  have rb8 := r7.ext' e8
  have ab8 : aLdN h8 (ptr h5.size 0) 2 = some (trVal nb top) := (ld2 rb8.row).2.2
  have r8 := ((r4.ext' e5).ext' E57).ext' e8
  have a8 : aLdN h8 (ptr h.size 0) 2 = some (trVal nv top) := (ld2 r8.row).2.2
  have x8 : KSl h4.size h8 nv T := x4.ext E48
  obtain ⟨nc, h9, c9, e9, k9⟩ := l21 (d := d + 13010 + 4) (by omega) (top := top) x8 (by omega) hT hK
  have c9' : call Try.prog Ms (d + 13010 + 8) 21 [trVal nv top] h8 = _ := c9
  have s9 := e9.size
  have rb9 := rb8.ext' e9
  have ab9 : aLdN h9 (ptr h5.size 0) 2 = some (trVal nb top) := (ld2 rb9.row).2.2
  have k8 := k7.ext e8
  obtain ⟨h10, c10, e10⟩ := l23 (d := d + 13010 + 4) (by omega) (top := top) (k8.ext e9).ksl k9.ksl (Nat.le_refl _) hT hK
  have c10' : call Try.prog Ms (d + 13010 + 8) 23 [trVal nb top, trVal nc top] h9 = _ := c10
  have s10 := e10.size
  have rb10 := rb9.ext' e10
  have ab10 : aLdN h10 (ptr h5.size 0) 2 = some (trVal nb top) := (ld2 rb10.row).2.2
  have n10 := ((n7.ext e8).ext e9).ext e10
  have kk10 := ((k8.ext e9).ext e10).ksl
  rw [hnb] at kk10
  obtain ⟨h11, k1, c11, b11, e11, u11⟩ := l33 (d := d + 13010 + 5) (by omega) (top := top) kk10 (by omega) (by omega) hT hK n10
  rw [← hnb] at c11
  have c11' : call Try.prog Ms (d + 13010 + 8) 33 [trVal nb top, .int .i64 1] h10 = _ := c11
  have E411 : Ext h4.size h4 h11 := E48.trans ((e9.mono (by omega)).trans ((e10.mono (by omega)).trans e11))
  obtain ⟨gi, hgv, gr, gep, ga, gb⟩ := (o8.ext e9).ext e10
  have g11 : OwnR h11 gi gr 9 (strs (freeI T top)) := ⟨gep, u11 gi _ ga gb⟩
  have src11 : SSrc h11 v8 (freeI T top) := by rw [hgv]; exact SSrc.of (let ⟨ep, a⟩ := g11; ⟨_, a, rfl, rfl⟩)
  have w11 := w4.ext E411
  have cc11 : call Try.prog Ms (d + 13010 + 8) 39 [v8, v4] h11 = _ := l39 (d := d + 13010 + 7) (by omega) (by omega) src11 w11.src
  have hp : h.size < h4.size := by
    obtain ⟨q, a, _⟩ := r4
    exact (at?_obj a).2.1
  have r11 : RowE h11 h.size 30 [nv, .int .i64 top] := let ⟨q, a, q1, q2⟩ := r4; ⟨q, E411.at? hp a, q1, q2⟩
  obtain ⟨h12, c12⟩ := l9_1 hd (bg := h4.size) rfl hSl hT hK (x4.ext E411) E411.size r11 hp w11 g11 (by omega)
  rw [← hgv] at c12
  have hneg : decide (k1 < 0) = false := decide_eq_false (by omega)
  refine ⟨h12, ?_⟩
  refine eb a1 (eb c2' (eb rfl (ecf (decide_eq_false hs) (eb a2 (eb c3' (eb c4' (eb a4 (eb c5' ?_))))))))
  rw [hg6]
  exact eb t7 (eb a7 (eb c8 (eb cc8 (eb rfl (ecf rfl (eb ab8 (eb a8 (eb c9' (eb (ag1 ab9) (ect (tr_vbeq (k8.ext e9).ksl top) (eb c10' (eb rfl (ecf rfl (eb ab10 (eb c11' (eb rfl (ecf hneg (eb cc11 (eb rfl c12)))))))))))))))))))
end Go.Proofs.Ytadmoackacickaa
