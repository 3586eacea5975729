import Derived.Test.YtadmoackacickaaXRowT1
/- A tree that is an argument lies in the small evaluator's heap. -/
namespace Go.Proofs.Ytadmoackacickaa
open Go Go.AH

/-- How a node's kids lie: the machine's slice, the small evaluator's, the row's place. -/
def KidAt (W : World) (i : Nat) (ks : List Int) (kv ka : Value) (pl : Option AH.Place) : Prop :=
  (kv = .slice none 0 0 ∧ ka = .slice none 0 0 ∧ ks = [] ∧ pl = none) ∨
  (∃ a, kv = .slice (some a) 0 0 ∧ ka = .slice (some ⟨0, 1, none⟩) 0 0 ∧ ks = [] ∧ pl = none) ∨
  ∃ b off cap, kv = .slice (some ⟨b, off, none⟩) ks.length cap ∧ ks.length ≤ cap ∧ ka = slc i 0 ks.length ∧ pl = some ⟨b, off, cap * 1, 1, true, 3⟩ ∧ Blk W b (off + cap * 1) ∧
    ∀ (j : Nat) (n : Int), ks[j]? = some n → W.cell? ⟨b, off + j, none⟩ = some (.int .i64 n)
theorem kid_at {W : World} {kv : Value} {ks : List Int} (h : IM W kv ks) (i : Nat) : ∃ ka pl, KidAt W i ks kv ka pl := by
  rcases h with ⟨h1, h2⟩ | ⟨a, h1, h2⟩ | ⟨b, off, cap, h1, h2, _, h4, h5⟩
  · exact ⟨_, _, .inl ⟨h1, rfl, h2, rfl⟩⟩
  · exact ⟨_, _, .inr (.inl ⟨a, h1, rfl, h2, rfl⟩)⟩
  · exact ⟨_, _, .inr (.inr ⟨b, off, cap, h1, h2, rfl, rfl, h4, h5⟩)⟩
theorem Blk.lt {W : World} {b n : Nat} (h : Blk W b n) : b < W.heap.size := by
  obtain ⟨_, _, _, h1, _⟩ := h
  exact (Array.getElem?_eq_some_iff.1 h1).1
theorem flat4 : ∀ (l : List (List Value)), (∀ x ∈ l, x.length = 4) → (l.flatten.length = l.length * 4) ∧ ∀ (j : Nat) (y : List Value), l[j]? = some y → (l.flatten.drop (j * 4)).take 4 = y
  | [], _ => ⟨rfl, fun j y h => by simp at h⟩
  | x :: l, h => by
    obtain ⟨h1, h2⟩ := flat4 l fun y hy => h y (by simp [hy])
    have hx := h x (by simp)
    refine ⟨by rw [List.flatten_cons, List.length_append, h1, hx, List.length_cons]; omega, fun j y hy => ?_⟩
    cases j with
    | zero =>
      simp at hy; subst hy
      rw [List.flatten_cons, Nat.zero_mul, List.drop_zero, List.take_append_of_le_length (by omega), ← hx, List.take_length]
    | succ j =>
      rw [List.flatten_cons, show (j + 1) * 4 = x.length + j * 4 by omega, ← List.drop_drop, List.drop_append_of_le_length (by omega), List.drop_length, List.nil_append]
      exact h2 j y (by simpa using hy)
/-- What is started with. -/
def TreeStart (W : World) (nv : Value) (ns : List Kn) : Prop := ∃ (h : AHeap) (ι : Inj) (na : Value), HRel Try.prog W ι h W ∧ S0 ι na nv ∧ KSl h.size h na ns
theorem start_tree {W : World} {nv : Value} {ns : List Kn} (h : NM W nv ns) : TreeStart W nv ns := by
  rcases h with ⟨h1, h2⟩ | ⟨a, h1, h2⟩ | ⟨b, off, cap, h1, h2, h3, h4, h5⟩
  · subst h1 h2
    exact ⟨h00, i00, _, start_rel W, .slcNil 0, .inl ⟨rfl, rfl⟩⟩
  · subst h1 h2
    exact ⟨h00, i00, .slice (some ⟨0, 1, none⟩) 0 0, start_rel W, .slcEmp 0 1 0 a (by omega), .inr (.inl ⟨_, _, rfl, rfl⟩)⟩
  · subst h1
    have each : ∀ j, j < ns.length → ∃ q : Value × Value × Option AH.Place, ∀ n, ns[j]? = some n → (∀ c, c < 4 → W.cell? ⟨b, off + (j * 4 + c), none⟩ = (knCells n q.1)[c]?) ∧ KidAt W (j + 1) n.ks q.1 q.2.1 q.2.2 := fun j hj => by
      obtain ⟨kv, g1, g2, _⟩ := h5 j _ (List.getElem?_eq_getElem hj)
      obtain ⟨ka, pl, g3⟩ := kid_at g2 (j + 1)
      exact ⟨⟨kv, ka, pl⟩, fun n hn => by rw [List.getElem?_eq_getElem hj] at hn; cases hn; exact ⟨g1, g3⟩⟩
    haveI : Inhabited (Value × Value × Option AH.Place) := ⟨(.nilFunc, .nilFunc, none)⟩
    obtain ⟨q, hq⟩ := Deep.choose_lt each
    let N : Nat → Kn := fun j => (ns[j]?).getD ⟨0, ⟨#[]⟩, 0, []⟩
    have hN : ∀ j n, ns[j]? = some n → N j = n := fun j n hn => by show (ns[j]?).getD _ = n; rw [hn]; rfl
    let L : List (List Value) := (List.range ns.length).map fun j => knCells (N j) (q j).2.1
    have hL : ∀ x ∈ L, x.length = 4 := fun x hx => by
      obtain ⟨j, _, rfl⟩ := List.mem_map.1 hx
      rfl
    have hLl : L.length = ns.length := by simp [L]
    have hLj : ∀ (j : Nat) (n : Kn), ns[j]? = some n → L[j]? = some (knCells n (q j).2.1) := fun j n hn => by
      have hj := (List.getElem?_eq_some_iff.1 hn).1
      show ((List.range ns.length).map _)[j]? = _
      rw [List.getElem?_map, List.getElem?_range hj]
      show some (knCells (N j) (q j).2.1) = _
      rw [hN j n hn]
    obtain ⟨f1, f2⟩ := flat4 L hL
    let R : Nat → Option (AH.Place × List Value) := fun i => match i with
      | 0 => some (⟨b, off, cap * 4, 4, true, 133⟩, L.flatten)
      | j + 1 => (ns[j]?).bind fun n => (q j).2.2.map fun p => (p, ints n.ks)
    have R0 : R 0 = some (⟨b, off, cap * 4, 4, true, 133⟩, L.flatten) := rfl
    have RS : ∀ j, R (j + 1) = (ns[j]?).bind fun n => (q j).2.2.map fun p => (p, ints n.ks) := fun _ => rfl
    have hn : ∀ i r, R i = some r → i < ns.length + 1 := fun i r hr => by
      cases i with
      | zero => omega
      | succ j =>
        rw [RS, Option.bind_eq_some_iff] at hr
        obtain ⟨n, hn, _⟩ := hr
        have := (List.getElem?_eq_some_iff.1 hn).1
        omega
    have kidS : ∀ (j : Nat) (n : Kn), ns[j]? = some n → S0 (iRows R) (q j).2.1 (q j).1 := fun j n hn' => by
      rcases (hq j ((List.getElem?_eq_some_iff.1 hn').1) n hn').2 with ⟨k1, k2, _, _⟩ | ⟨a, k1, k2, _, _⟩ | ⟨b', off', cap', k1, k2, k3, k4, _, _⟩
      · rw [k1, k2]; exact .slcNil 0
      · rw [k1, k2]; exact .slcEmp 0 1 0 a (by omega)
      · rw [k1, k3]
        have hp : (iRows R).pl (j + 1) = some ⟨b', off', cap' * 1, 1, true, 3⟩ := by
          show (R (j + 1)).map (·.1) = _
          rw [RS, hn', Option.bind_some, k4]; rfl
        exact S0.slc (ι := iRows R) (j + 1) 0 n.ks.length n.ks.length ⟨b', off', cap' * 1, 1, true, 3⟩ cap' hp k2 (by show 0 + cap' * 1 ≤ cap' * 1; omega)
    have H : HRel Try.prog W (iRows R) (hRows (ns.length + 1) R) W := by
      refine start_rows hn fun i r hr => ?_
      cases i with
      | zero =>
        rw [R0] at hr; cases hr
        refine ⟨⟨?_, (fun e => by cases e), fun _ => h4.lt, zKnot⟩, rfl, by show L.flatten.length ≤ cap * 4; rw [f1, hLl]; omega, fun idx v hv => ?_⟩
        · obtain ⟨arr, el, fr, g1, g2⟩ := h4
          exact ⟨arr, el, fr, g1, g2, fun e => by cases e⟩
        · have hlt : idx < L.flatten.length := (List.getElem?_eq_some_iff.1 hv).1
          rw [f1, hLl] at hlt
          have hj : idx / 4 < ns.length := by omega
          have hn' : ns[idx / 4]? = some ns[idx / 4] := List.getElem?_eq_getElem hj
          have e4 : idx = idx / 4 * 4 + idx % 4 := by omega
          have hc : idx % 4 < 4 := by omega
          have hv' : (knCells ns[idx / 4] (q (idx / 4)).2.1)[idx % 4]? = some v := by
            rw [← drop_take_get (f2 _ _ (hLj _ _ hn')) hc, ← e4]; exact hv
          have hW := (hq _ hj _ hn').1 (idx % 4) hc
          rw [← e4] at hW
          have hk := kidS _ _ hn'
          generalize idx % 4 = c at hc hv' hW
          generalize ns[idx / 4] = n at hv' hW
          match c, hc with
          | 0, _ => cases hv'; exact ⟨_, hW, .s0 (.int _ _)⟩
          | 1, _ => cases hv'; exact ⟨_, hW, .s0 (.string _)⟩
          | 2, _ => cases hv'; exact ⟨_, hW, .s0 (.int _ _)⟩
          | 3, _ => cases hv'; exact ⟨_, hW, .s0 hk⟩
      | succ j =>
        rw [RS, Option.bind_eq_some_iff] at hr
        obtain ⟨n, hn', hr⟩ := hr
        rw [Option.map_eq_some_iff] at hr
        obtain ⟨p, hp, rfl⟩ := hr
        rcases (hq j ((List.getElem?_eq_some_iff.1 hn').1) n hn').2 with ⟨_, _, _, k4⟩ | ⟨_, _, _, _, k4⟩ | ⟨b', off', cap', k1, k2, k3, k4, k5, k6⟩
        · rw [k4] at hp; cases hp
        · rw [k4] at hp; cases hp
        · rw [k4] at hp; cases hp
          refine ⟨⟨?_, (fun e => by cases e), fun _ => k5.lt, zInt⟩, rfl, by show (ints n.ks).length ≤ cap' * 1; simp [ints]; omega, fun idx v hv => ?_⟩
          · obtain ⟨arr, el, fr, g1, g2⟩ := k5
            exact ⟨arr, el, fr, g1, g2, fun e => by cases e⟩
          · have hv2 : (n.ks.map (Value.int .i64))[idx]? = some v := hv
            rw [List.getElem?_map, Option.map_eq_some_iff] at hv2
            obtain ⟨z, hz, rfl⟩ := hv2
            exact ⟨_, k6 idx z hz, .s0 (.int _ _)⟩
    refine ⟨hRows (ns.length + 1) R, iRows R, slc 0 0 ns.length, H, ?_, .inr (.inr ⟨0, _, rfl, rows_at (by omega) R0, by show 0 < ns.length + 1; omega, by show L.flatten.length = _; rw [f1, hLl], fun j n hn' => ⟨(q j).2.1, f2 _ _ (hLj j n hn'), ?_⟩⟩)⟩
    · exact S0.slc (ι := iRows R) 0 0 ns.length ns.length ⟨b, off, cap * 4, 4, true, 133⟩ cap rfl h2 (by show 0 + cap * 4 ≤ cap * 4; omega)
    · have hj := (List.getElem?_eq_some_iff.1 hn').1
      rcases (hq j hj n hn').2 with ⟨k1, k2, k3, _⟩ | ⟨a, k1, k2, k3, _⟩ | ⟨b', off', cap', k1, k2, k3, k4, _, _⟩
      · exact .inl ⟨k2, k3⟩
      · exact .inr (.inl ⟨_, _, k2, k3⟩)
      · refine .inr (.inr ⟨j + 1, _, k3, rows_at (r := (⟨b', off', cap' * 1, 1, true, 3⟩, ints n.ks)) (by omega) ?_, rfl, rfl, by show j + 1 < ns.length + 1; omega⟩)
        rw [RS, hn', Option.bind_some, k4]; rfl
theorem NM.ok {W : World} {nv : Value} {ns : List Kn} (h : NM W nv ns) : ns.length ≤ bigT ∧ ∀ n ∈ ns, okK n := by
  have hm : maxLen ≤ bigT := by decide
  rcases h with ⟨_, rfl⟩ | ⟨a, _, rfl⟩ | ⟨b, off, cap, _, h2, h3, _, h5⟩
  · exact ⟨Nat.zero_le _, fun n hn => by simp at hn⟩
  · exact ⟨Nat.zero_le _, fun n hn => by simp at hn⟩
  · refine ⟨by omega, fun n hn => ?_⟩
    obtain ⟨j, hj, rfl⟩ := List.getElem_of_mem hn
    obtain ⟨kv, _, g2, g3⟩ := h5 j _ (List.getElem?_eq_getElem hj)
    refine ⟨by omega, ?_⟩
    rcases g2 with ⟨_, e⟩ | ⟨_, _, e⟩ | ⟨_, _, cap', _, e1, e2, _⟩
    · rw [e]; exact Nat.zero_le _
    · rw [e]; exact Nat.zero_le _
    · omega
end Go.Proofs.Ytadmoackacickaa
