import Derived.Test.YtadmoackacickaaXOps3
/- The small evaluator's operations against the machine's, the fourth part: cuts, makes, appends. -/
set_option linter.unusedSimpArgs false
set_option linter.unusedVariables false
namespace Go.AH
open Go.RowKit Go.Lib
section
variable {P : Program} {w0 w : World} {ι : Inj} {h : AHeap}

/-! ### cuts -/
theorem bound_inv {v v' : Value} {n m : Nat} (he : aBound v n = some m) (hv : VR ι v v') : ∃ k j, v' = .int k j ∧ 0 ≤ j ∧ j ≤ n ∧ m = j.toNat ∧ m ≤ n := by
  unfold aBound at he
  split at he
  · rename_i k j
    split at he
    · rename_i hc
      simp at he; subst he
      obtain rfl := hv.int_inv
      exact ⟨k, j, rfl, hc.1, hc.2, rfl, by omega⟩
    · simp at he
  · simp at he
theorem bounds_sound (isSlice : Bool) {n cap : Nat} (hcap : n ≤ cap) {t : Tm} {a : Act} (ht : TR ι t a.tmps) {olo ohi : Option Operand} {l hh : Nat}
    (h1 : (match ohi.map (AH.evX t) with | some v => aBound v n | none => some n) = some hh) (h2 : (match olo.map (AH.evX t) with | some v => aBound v hh | none => some 0) = some l) (w : World) :
    (Instr.sliceBounds isSlice n cap (olo.map a.eval) (ohi.map a.eval) none).run P w = .ok (l, hh, cap) w ∧ l ≤ hh ∧ hh ≤ n := by
  cases ohi with
  | none =>
    simp at h1; subst h1
    cases olo with
    | none => simp at h2; subst h2; exact ⟨by simp [Instr.sliceBounds], Nat.zero_le _, Nat.le_refl _⟩
    | some y =>
      simp only [Option.map_some] at h2
      obtain ⟨k, j, hv, j0, j1, rfl, j2⟩ := bound_inv h2 (ht.evX y)
      exact ⟨by simp [Instr.sliceBounds, hv, Instr.sliceBound, asIntOf, j0, j1], j2, Nat.le_refl _⟩
  | some x =>
    simp only [Option.map_some] at h1
    obtain ⟨k, j, hv, j0, j1, rfl, j2⟩ := bound_inv h1 (ht.evX x)
    have e : j ≤ (cap : Int) := by omega
    cases olo with
    | none => simp at h2; subst h2; exact ⟨by simp [Instr.sliceBounds, hv, Instr.sliceBound, asIntOf, j0, e], Nat.zero_le _, j2⟩
    | some y =>
      simp only [Option.map_some] at h2
      obtain ⟨k2, i, hv2, i0, i1, rfl, i2⟩ := bound_inv h2 (ht.evX y)
      have e2 : i ≤ max j 0 := by omega
      exact ⟨by simp [Instr.sliceBounds, hv, hv2, Instr.sliceBound, asIntOf, j0, e, i0, e2], i2, j2⟩
theorem sub_sound (H : HRel P w0 ι h w) {ty e : TypeId} {n : Nat} (hu : P.underlying ty = some (.slice e)) (hn : tSize P e = some n) {t : Tm} {a : Act} (ht : TR ι t a.tmps) {olo ohi : Option Operand} {x x' v : Value}
    (hx : VR ι x x') (he : aSub h e x (olo.map (AH.evX t)) (ohi.map (AH.evX t)) n = some v) : SemOk P w0 ι h w (Instr.sliceAt ty x' (olo.map a.eval) (ohi.map a.eval) none) v := by
  have hat : ∀ x' lo hi, (Instr.sliceAt ty x' lo hi none).run P w = (Instr.slice ty x' lo hi none).run P w := fun x' lo hi => by simp [Instr.sliceAt, run_underlying hu]
  unfold aSub at he
  split at he
  · rename_i b off m c
    split at he
    case isFalse => simp at he
    rename_i hel
    simp only [Option.bind_eq_some_iff] at he
    obtain ⟨hh, h1, l, h2, he⟩ := he
    simp at he; subst he
    have hes : ∀ p, ι.pl b = some p → p.esz = n := by
      intro p hp
      simp only [Option.map_eq_some_iff] at hel
      obtain ⟨o, ho, rfl⟩ := hel
      obtain ⟨q, hq, _, e3, _⟩ := H.obj b o ho
      rw [hp] at hq; cases hq
      have := (H.pl b p hp).esz
      rw [e3, hn] at this
      simpa using this.symm
    rcases hx.slc_inv with ⟨p, c', hp, g1, g2, rfl⟩ | ⟨rfl, ho, a', rfl⟩
    · obtain ⟨hr, b1, b2⟩ := bounds_sound (P := P) true g1 ht h1 h2 w
      have hesz := hes p hp
      refine SemOk.same H (v' := .slice (if c' = l then some ⟨p.blk, p.base + off, none⟩ else (some (⟨p.blk, p.base + off, none⟩ : Addr)).map (·.add (l * n))) (hh - l) (c' - l)) ?_ ?_
      · rw [hat]
        simp [Instr.slice, run_underlying hu, hr, run_sizeOf' hn]
      · by_cases hc : c' = l
        · rw [if_pos hc]
          have hz : hh - l = 0 := by omega
          have hz2 : c' - l = 0 := by omega
          rw [hz, hz2]
          by_cases hpos : 0 < off + l * n
          · exact .s0 (.slcEmp _ _ _ _ hpos)
          · have e0 : off = 0 := by omega
            have e1 : l * n = 0 := by omega
            have := VR.s0 (S0.slc (ι := ι) b 0 0 0 p 0 hp (Nat.le_refl _) (by simp))
            rw [e0, e1]
            exact this
        · rw [if_neg hc]
          simp only [Option.map_some, add_mk]
          have := VR.s0 (S0.slc (ι := ι) b (off + l * n) (hh - l) (hh - l) p (c' - l) hp (by omega) (by
            have : c' * p.esz = l * p.esz + (c' - l) * p.esz := by rw [← Nat.add_mul]; congr 1; omega
            rw [hesz] at this ⊢; rw [hesz] at g2; omega))
          rw [← Nat.add_assoc] at this
          exact this
    · obtain ⟨hr, b1, b2⟩ := bounds_sound (P := P) true (Nat.le_refl 0) ht h1 h2 w
      have e1 : hh = 0 := by omega
      have e2 : l = 0 := by omega
      subst e1; subst e2
      refine SemOk.same H (v' := .slice (some a') 0 0) ?_ (.s0 (by simpa using S0.slcEmp b off 0 a' ho))
      rw [hat]
      simp [Instr.slice, run_underlying hu, hr, run_sizeOf' hn]
  · rename_i c
    simp only [Option.bind_eq_some_iff] at he
    obtain ⟨hh, h1, l, h2, he⟩ := he
    simp at he; subst he
    obtain ⟨_, rfl⟩ := hx.slcNil_inv
    obtain ⟨hr, b1, b2⟩ := bounds_sound (P := P) true (Nat.le_refl 0) ht h1 h2 w
    have e1 : hh = 0 := by omega
    have e2 : l = 0 := by omega
    subst e1; subst e2
    refine SemOk.same H (v' := .slice none 0 0) ?_ (.s0 (.slcNil _))
    rw [hat]
    simp [Instr.slice, run_underlying hu, hr, run_sizeOf' hn]
  · simp at he
theorem subS_sound (H : HRel P w0 ι h w) {ty : TypeId} (hu : P.underlying ty = some .string) {t : Tm} {a : Act} (ht : TR ι t a.tmps) {olo ohi : Option Operand} {x x' v : Value}
    (hx : VR ι x x') (he : aSubS x (olo.map (AH.evX t)) (ohi.map (AH.evX t)) = some v) : SemOk P w0 ι h w (Instr.sliceAt ty x' (olo.map a.eval) (ohi.map a.eval) none) v := by
  unfold aSubS at he
  split at he
  · rename_i s
    simp only [Option.bind_eq_some_iff] at he
    obtain ⟨hh, h1, l, h2, he⟩ := he
    simp at he; subst he
    obtain rfl := hx.string_inv
    obtain ⟨hr, b1, b2⟩ := bounds_sound (P := P) false (Nat.le_refl s.size) ht h1 h2 w
    refine SemOk.same H (v' := .string (s.extract l hh)) ?_ (.s0 (.string _))
    simp [Instr.sliceAt, Instr.slice, run_underlying hu, hr]
  · simp at he

/-! ### makes -/
theorem mk_sound (H : HRel P w0 ι h w) {ty e : TypeId} {n b : Nat} (hu : P.underlying ty = some (.slice e)) (hn : tSize P e = some n) (hpos : 0 < n) {z : List Value} (hz : tZero P e = some z) (hzl : z.length = n) (hb : tBytes P e = some b)
    {l l' c c' : Value} {r : Value × AHeap} (he : aMk h e z b l c = some r) (hl : VR ι l l') (hc : VR ι c c') : SemOk P w0 ι r.2 w (Instr.makeSlice ty l' c') r.1 := by
  unfold aMk at he
  split at he
  · rename_i l c
    split at he
    · rename_i hcd
      simp at he; subst he
      obtain rfl := hl.int_inv; obtain rfl := hc.int_inv
      obtain ⟨i, zv, hi, hzv, hzc, hpl⟩ := tZero_info' hz
      obtain ⟨i2, hi2, hs2⟩ := tSize_info hn
      rw [hi] at hi2; cases hi2
      have hb' : i.bytes = b := by simpa [tBytes, hi] using hb
      obtain ⟨h0, h1, h2, h3⟩ := hcd
      have hby : (i.bytes : Int) * c ≤ 281474976710656 := by
        rw [hb']
        have : ((c.toNat * b : Nat) : Int) ≤ 140737488355328 := by unfold most at h3; omega
        rw [Int.natCast_mul, Int.toNat_of_nonneg (by omega), Int.mul_comm] at this
        omega
      have h63 : c ≤ 9223372036854775807 := by unfold most at h2; omega
      have hrun := run_make (P := P) w ty e i zv hu hi hzv .i64 .i64 l c h0 h1 hby h63
      have hsz : zv.cells.size = n := by rw [← Array.length_toList, hzc, hzl]
      have harr : madeCells zv.cells (c.toNat * i.size) = ((Array.range (c.toNat * n)).map (zv.cells[· % zv.cells.size]!)) := by
        unfold madeCells
        rw [hs2]
      have hflat := flat_sound (ι := ι) hzc hpl hpos hzl c.toNat
      have hsize : (madeCells zv.cells (c.toNat * i.size)).size = c.toNat * n := by rw [harr]; simp
      have hlc : l.toNat ≤ c.toNat := by omega
      obtain ⟨k1, k2⟩ := H.alloc e n (c.toNat * n) (madeCells zv.cells (c.toNat * i.size)) (List.replicate l.toNat z).flatten hn (by rw [places_flat n hzl]; exact Nat.mul_le_mul_right _ hlc) (by rw [hsize]; exact Nat.le_refl _)
        (fun j v hj => by
          have hj' : j < l.toNat * n := by have := (List.getElem?_eq_some_iff.1 hj).1; rw [places_flat n hzl] at this; exact this
          have hj2 : j < c.toNat * n := Nat.lt_of_lt_of_le hj' (Nat.mul_le_mul_right _ hlc)
          rw [flat_get n hpos hzl _ j hj'] at hj
          rw [← flat_get n hpos hzl c.toNat j hj2] at hj
          obtain ⟨b, g1, g2⟩ := hflat.get j v hj
          exact ⟨b, by rw [harr, ← toList_getElem?]; exact g1, g2⟩)
      refine ⟨_, _, _, hrun, k2, k1, .s0 ?_⟩
      have := S0.slc (ι := ι.add h.size ⟨w.heap.size, 0, c.toNat * n, n, false, e⟩) h.size 0 l.toNat l.toNat ⟨w.heap.size, 0, c.toNat * n, n, false, e⟩ c.toNat (if_pos rfl) hlc (by simp)
      simpa [slc] using this
    · simp at he
  · simp at he

/-! ### appends -/
theorem run_append_nn (t ty e : TypeId) (i : TypeInfo) (ht : P.underlying t = some (.slice e)) (hi : P.info? e = some i) (w : World) : (Builtin.append_ #[t, t] ty #[.slice none 0 0, .slice none 0 0]).run P w = .ok (.slice none 0 0) w := by
  simp [Builtin.append_, run_underlying ht, sizeOf, typeInfo, hi, Builtin.lenOf, Builtin.firstCells]
theorem run_append_ne (t ty e : TypeId) (i : TypeInfo) (ht : P.underlying t = some (.slice e)) (hi : P.info? e = some i) (a : Addr) (c : Nat) (w : World) : (Builtin.append_ #[t, t] ty #[.slice none 0 0, .slice (some a) 0 c]).run P w = .ok (.slice none 0 0) w := by
  simp [Builtin.append_, run_underlying ht, sizeOf, typeInfo, hi, Builtin.lenOf, Builtin.firstCells, loadCells, loadCellsFrom]
theorem run_append_sn (t ty e : TypeId) (i : TypeInfo) (ht : P.underlying t = some (.slice e)) (hi : P.info? e = some i) (b : Addr) (n c : Nat) (hn : n ≤ c) (w : World) : (Builtin.append_ #[t, t] ty #[.slice (some b) n c, .slice none 0 0]).run P w = .ok (.slice (some b) n c) w := by
  simp [Builtin.append_, run_underlying ht, sizeOf, typeInfo, hi, Builtin.lenOf, Builtin.firstCells, hn, storeCells]
theorem run_append_se (t ty e : TypeId) (i : TypeInfo) (ht : P.underlying t = some (.slice e)) (hi : P.info? e = some i) (b a : Addr) (n c d : Nat) (hn : n ≤ c) (w : World) : (Builtin.append_ #[t, t] ty #[.slice (some b) n c, .slice (some a) 0 d]).run P w = .ok (.slice (some b) n c) w := by
  simp [Builtin.append_, run_underlying ht, sizeOf, typeInfo, hi, Builtin.lenOf, Builtin.firstCells, hn, storeCells, loadCells, loadCellsFrom]
theorem run_append_ns (t u ty e : TypeId) (i : TypeInfo) (ht : P.underlying t = some (.slice e)) (hu : P.underlying u = some .string) (hi : P.info? e = some i) (s : ByteArray) (hs : s.size = 0) (w : World) : (Builtin.append_ #[t, u] ty #[.slice none 0 0, .string s]).run P w = .ok (.slice none 0 0) w := by
  simp [Builtin.append_, run_underlying ht, run_underlying hu, sizeOf, typeInfo, hi, Builtin.lenOf, Builtin.firstCells, hs]

/-- What is appended, as the machine reads it. -/
inductive SrcOk (P : Program) (w : World) (ι : Inj) (n : Nat) (t u : TypeId) : Value → Nat → List Value → Prop
  | nil : u = t → SrcOk P w ι n t u (.slice none 0 0) 0 []
  | emp (a d) : u = t → SrcOk P w ι n t u (.slice (some a) 0 d) 0 []
  | cells (a m d) (cs cs' : List Value) : u = t → All2 (S1 ι) cs cs' → cs.length = m * n → (∀ (j : Nat) v, cs'[j]? = some v → w.cell? (a.add j) = some v) → SrcOk P w ι n t u (.slice (some a) m d) m cs
  | string (s m) : m = s.size → P.underlying u = some .string → n = 1 → SrcOk P w ι n t u (.string s) m (s.data.toList.map fun b => .int .u8 b.toNat)
theorem src_sound (H : HRel P w0 ι h w) {n : Nat} {t : TypeId} {x x' : Value} {m : Nat} {cs : List Value} (he : aSrc h n x = some (m, cs)) (hx : VR ι x x') : SrcOk P w ι n t t x' m cs := by
  unfold aSrc at he
  split at he
  · rename_i i off k c
    simp only [Option.map_eq_some_iff] at he
    obtain ⟨cs2, hr, he⟩ := he
    simp at he; obtain ⟨rfl, rfl⟩ := he
    obtain ⟨p, cs', hp, ha, hl, hc⟩ := rd_sound H hr
    rcases hx.slc_inv with ⟨q, c', hq, _, _, rfl⟩ | ⟨rfl, _, a', rfl⟩
    · rw [hp] at hq; cases hq
      exact .cells _ _ _ _ _ rfl ha hl hc
    · have : cs2 = [] := List.eq_nil_of_length_eq_zero (by simpa using hl)
      subst this
      exact .emp _ _ rfl
  · obtain ⟨rfl, rfl⟩ := hx.slcNil_inv
    simp at he; obtain ⟨rfl, rfl⟩ := he
    exact .nil rfl
  · simp at he
theorem srcS_sound {n : Nat} (hn : n = 1) {t u : TypeId} (hu : P.underlying u = some .string) {x x' : Value} {m : Nat} {cs : List Value} (he : aSrcS x = some (m, cs)) (hx : VR ι x x') : SrcOk P w ι n t u x' m cs := by
  unfold aSrcS at he
  split at he
  · obtain rfl := hx.string_inv
    simp at he; obtain ⟨rfl, rfl⟩ := he
    exact .string _ _ rfl hu hn
  · simp at he
theorem str_cells (s : ByteArray) : s.data.toList.map (fun b => Value.int .u8 b.toNat) = strCells s := by simp [strCells]
theorem arr_getElem? {a b : List Value} (j : Nat) : (a.toArray ++ b.toArray)[j]? = (a ++ b)[j]? := by simp
/-- A grown row's cells. -/
theorem grown_get {R : Value → Value → Prop} {xs xs' : List Value} (h : All2 R xs xs') (rest : Array Value) (arr : Array Value) (harr : arr.toList = xs' ++ rest.toList) (j : Nat) (v : Value) (hj : xs[j]? = some v) : ∃ v', arr[j]? = some v' ∧ R v v' := by
  obtain ⟨b, g1, g2⟩ := h.get j v hj
  refine ⟨b, ?_, g2⟩
  rw [← toList_getElem?, harr, List.getElem?_append_left (List.getElem?_eq_some_iff.1 g1).1]
  exact g1
theorem appG_sound (H : HRel P w0 ι h w) {t u ty e : TypeId} {n b : Nat} (ht : P.underlying t = some (.slice e)) (hn : tSize P e = some n) (hpos : 0 < n) (hb : tBytes P e = some b) {z : List Value} (hz : tZero P e = some z) (hzl : z.length = n)
    {s s' x' : Value} {src : Option (Nat × List Value)} {r : Value × AHeap} (he : aAppG h e n b s src = some r) (hs : VR ι s s') (hsrc : ∀ m cs, src = some (m, cs) → SrcOk P w ι n t u x' m cs) :
    SemOk P w0 ι r.2 w (Builtin.append_ #[t, u] ty #[s', x']) r.1 := by
  obtain ⟨i, zv, hi, hzv, hzc, hpl⟩ := tZero_info' hz
  obtain ⟨i2, hi2, hs2⟩ := tSize_info hn
  rw [hi] at hi2; cases hi2
  have hb' : i.bytes = b := by simpa [tBytes, hi] using hb
  have hzs : zv.cells.size = n := by rw [← Array.length_toList, hzc, hzl]
  unfold aAppG at he
  split at he
  · -- nil
    simp only [Option.bind_eq_some_iff] at he
    obtain ⟨⟨m, cs⟩, hsr, he⟩ := he
    have hx := hsrc m cs hsr
    obtain ⟨_, rfl⟩ := hs.slcNil_inv
    split at he
    · rename_i h0
      simp at h0; subst h0
      simp at he; subst he
      refine SemOk.same H (v' := .slice none 0 0) ?_ (.s0 (.slcNil _))
      cases hx with
      | nil hu => subst hu; exact run_append_nn _ _ e i ht hi w
      | emp a d hu => subst hu; exact run_append_ne _ _ e i ht hi a d w
      | cells a m d cs cs' hu => subst hu; exact run_append_ne _ _ e i ht hi a d w
      | string s m hm hu => exact run_append_ns t u ty e i ht hu hi s hm.symm w
    · rename_i h0
      split at he
      · rename_i hbd
        simp at he; subst he
        simp at h0 hbd
        have hm0 : 0 < m := by omega
        have hmk : ∀ (xs' : List Value) (cap : Nat), m ≤ cap → All2 (S1 ι) cs xs' → cs.length = m * n → ∀ (W : World), HRel P w0 ι h W → Nxt ι w ι W → ∀ (rest : Array Value) (arr : Array Value), arr.toList = xs' ++ rest.toList → arr.size = cap * n →
            ∀ sem, sem = Result.ok (.slice (some ⟨W.heap.size, 0, none⟩) m cap) (W.alloc (.cells arr e)) → (Builtin.append_ #[t, u] ty #[.slice none 0 0, x']).run P w = sem →
            SemOk P w0 ι (h.new e cs) w (Builtin.append_ #[t, u] ty #[.slice none 0 0, x']) (slc h.size 0 m) := by
          intro xs' cap hcap hall hlen W HW NW rest arr harr hsize sem hsem hrun
          subst hsem
          obtain ⟨k1, k2⟩ := HW.alloc e n (cap * n) arr cs hn (by rw [hlen]; exact Nat.mul_le_mul_right _ hcap) (by rw [hsize]; exact Nat.le_refl _) (fun j v hj => grown_get hall rest arr harr j v hj)
          refine ⟨_, _, _, hrun, NW.trans k2, k1, .s0 ?_⟩
          have := S0.slc (ι := ι.add h.size ⟨W.heap.size, 0, cap * n, n, false, e⟩) h.size 0 m m ⟨W.heap.size, 0, cap * n, n, false, e⟩ cap (if_pos rfl) hcap (by simp)
          simpa [slc] using this
        have h63 : (m : Int) ≤ 9223372036854775807 := by have := hbd.1; unfold most at this; omega
        have h48 : m * i.bytes ≤ 281474976710656 := by rw [hb']; have := hbd.2; unfold most at this; omega
        have hge := grownCap_ge w m 0 e
        cases hx with
        | nil => omega
        | emp => omega
        | cells a m d cs cs' hu hall hlen hc =>
          subst hu
          have hrun := run_append_nil (P := P) w u ty e i zv ht hi hzv a m d cs' (by rw [← hall.length, hlen, hs2]) hc hm0 h63 h48
          refine hmk cs' (grownCap w m 0 e) hge hall hlen w.drew H.drew (Nxt.drew ι w) (Builtin.zeroCells zv.cells (grownCap w m 0 e - m)) _ (by simp) ?_ _ rfl hrun
          simp [size_zeroCells, hzs, ← hall.length, hlen, ← Nat.add_mul]
          congr 1; omega
        | string s m hm hu h1 =>
          subst hm
          subst h1
          have hrun := run_append_nil_string (P := P) w t u ty e i zv ht hu hi hzv s hm0 h63 h48
          refine hmk (strCells s) (grownCap w s.size 0 e) hge (All2.refl fun a ha => ?_) (by simp) w.drew H.drew (Nxt.drew ι w) (Builtin.zeroCells zv.cells (grownCap w s.size 0 e - s.size)) _ (by simp [strCells]) ?_ _ rfl hrun
          · simp [strCells] at ha
            obtain ⟨b, _, rfl⟩ := ha
            exact .s0 (.int _ _)
          · simp [size_zeroCells, hzs]
            have : s.data.size = s.size := rfl
            omega
      · simp at he
  · -- a row
    rename_i id len c
    split at he
    · rename_i o ho
      simp only [Option.bind_eq_some_iff] at he
      obtain ⟨⟨m, cs⟩, hsr, he⟩ := he
      have hx := hsrc m cs hsr
      split at he
      · rename_i hcd
        obtain ⟨hro, hel, hk, hml, hmb⟩ := hcd
        simp at he; subst he
        subst hel
        simp at hk hml hmb
        obtain ⟨p, hp, e2, e3, e4, e5⟩ := H.obj id o ho
        have hpro := e2.trans hro
        obtain ⟨_, hbase⟩ := (H.pl id p hp).own hpro
        obtain ⟨arr, el, fr, hbk, hsz, hfr⟩ := (H.pl id p hp).block
        obtain ⟨rfl, rfl⟩ := hfr hpro
        have hesz : p.esz = n := by
          have := (H.pl id p hp).esz
          rw [e3, hn] at this
          simpa using this.symm
        obtain ⟨q, c', hq, g1, g2, rfl⟩ | ⟨_, hoff, _⟩ := hs.slc_inv
        case inr => omega
        rw [hp] at hq; cases hq
        rw [hesz, Nat.zero_add] at g2
        simp only [hbase, Nat.add_zero]
        have hbk' : w.heap[p.blk]? = some (.cells arr o.elem (0, 0)) := by rw [← e3]; exact hbk
        -- within the room
        have hroom : ∀ (cs' : List Value), All2 (S1 ι) cs cs' → cs.length = m * n → len + m ≤ c' →
            (Builtin.append_ #[t, u] ty #[.slice (some ⟨p.blk, 0, none⟩) len c', x']).run P w = .ok (.slice (some ⟨p.blk, 0, none⟩) (len + m) c') (w.setRow p.blk (arr.toList.take (len * n) ++ cs' ++ arr.toList.drop (len * n + cs'.length)).toArray) →
            SemOk P w0 ι (h.app o (len * n) (o.cells.take (len * n) ++ cs)) w (Builtin.append_ #[t, u] ty #[.slice (some ⟨p.blk, 0, none⟩) len c', x']) (slc h.size 0 (len + m)) := by
          intro cs' hall hlen hle hrun
          have hfit : len * n + cs'.length ≤ p.cap := by
            rw [← hall.length, hlen, ← Nat.add_mul]
            exact Nat.le_trans (Nat.mul_le_mul_right _ hle) g2
          obtain ⟨k1, k2⟩ := H.appRoom ho hro p hp arr hbk (len * n) hk cs cs' hall hfit
          refine ⟨_, _, _, hrun, k2, k1, .s0 ?_⟩
          have := S0.slc (ι := ι.add h.size p) h.size 0 (len + m) (len + m) p c' (if_pos rfl) hle (by rw [hesz]; simpa using g2)
          simpa [slc, hbase] using this
        -- nothing is appended
        have hsame : m = 0 → cs = [] → (Builtin.append_ #[t, u] ty #[.slice (some ⟨p.blk, 0, none⟩) len c', x']).run P w = .ok (.slice (some ⟨p.blk, 0, none⟩) len c') w →
            SemOk P w0 ι (h.app o (len * n) (o.cells.take (len * n) ++ cs)) w (Builtin.append_ #[t, u] ty #[.slice (some ⟨p.blk, 0, none⟩) len c', x']) (slc h.size 0 (len + m)) := by
          intro hm hcs hrun
          subst hm; subst hcs
          refine hroom [] .nil (by simp) (by omega) ?_
          rw [hrun]
          simp only [Nat.add_zero, List.append_nil, List.length_nil, List.take_append_drop, Array.toArray_toList]
          rw [setRow_self w p.blk arr _ _ hbk]
        -- a new block
        have hgrow : ∀ (cs' : List Value), All2 (S1 ι) cs cs' → cs.length = m * n → c' < len + m → ∀ (rest arr2 : Array Value), arr2.toList = (arr.toList.take (len * n) ++ cs') ++ rest.toList → arr2.size = grownCap w (len + m) c' o.elem * n →
            (Builtin.append_ #[t, u] ty #[.slice (some ⟨p.blk, 0, none⟩) len c', x']).run P w = .ok (.slice (some ⟨w.heap.size, 0, none⟩) (len + m) (grownCap w (len + m) c' o.elem)) (w.drew.alloc (.cells arr2 o.elem)) →
            SemOk P w0 ι (h.app o (len * n) (o.cells.take (len * n) ++ cs)) w (Builtin.append_ #[t, u] ty #[.slice (some ⟨p.blk, 0, none⟩) len c', x']) (slc h.size 0 (len + m)) := by
          intro cs' hall hlen hlt rest arr2 harr hsize hrun
          have hge := grownCap_ge w (len + m) c' o.elem
          have hkl : (o.cells.take (len * n)).length = len * n := by simp; omega
          have hall2 : All2 (S1 ι) (o.cells.take (len * n) ++ cs) (arr.toList.take (len * n) ++ cs') := by
            refine All2.append (All2.of_get (by rw [hkl]; simp; omega) fun j a b ha hb => ?_) hall
            have hj : j < len * n := by have := (List.getElem?_eq_some_iff.1 ha).1; omega
            rw [List.getElem?_take, if_pos hj] at ha hb
            obtain ⟨v', f1, f2⟩ := e5 j a ha
            rw [hbase, Nat.zero_add] at f1
            simp [World.cell?, hbk] at f1
            simp at hb
            rw [hb] at f1; cases f1
            exact f2
          obtain ⟨k1, k2⟩ := H.drew.appGrow ho n hn (len * n) (o.cells.take (len * n) ++ cs) (by simp; omega) (grownCap w (len + m) c' o.elem * n) (by rw [List.length_append, hkl, hlen, ← Nat.add_mul]; exact Nat.mul_le_mul_right _ hge) arr2 (by rw [hsize]; exact Nat.le_refl _)
            (fun j v hj => grown_get hall2 rest arr2 harr j v hj)
          refine ⟨_, _, _, hrun, (Nxt.drew ι w).trans k2, k1, .s0 ?_⟩
          have := S0.slc (ι := ι.add h.size ⟨w.heap.size, 0, grownCap w (len + m) c' o.elem * n, n, false, o.elem⟩) h.size 0 (len + m) (len + m) ⟨w.heap.size, 0, grownCap w (len + m) c' o.elem * n, n, false, o.elem⟩ (grownCap w (len + m) c' o.elem) (if_pos rfl) hge (by simp)
          simpa [slc] using this
        have h63 : ((len + m : Nat) : Int) ≤ 9223372036854775807 := by unfold most at hml; omega
        have holds : ∀ (j : Nat) v, (arr.toList.take (len * n))[j]? = some v → w.cell? ((⟨p.blk, 0, none⟩ : Addr).add j) = some v := by
          intro j v hv
          have hj : j < len * n := by
            have := (List.getElem?_eq_some_iff.1 hv).1
            simp at this; omega
          rw [List.getElem?_take, if_pos hj] at hv
          rw [add_mk, Nat.zero_add]
          simp [World.cell?, hbk]
          simpa using hv
        have hlo : (arr.toList.take (len * n)).length = len * i.size := by rw [hs2]; simp; omega
        have hnsc : c' < len + m → Builtin.nextslicecap (len + m) c' * i.bytes ≤ 281474976710656 := by
          intro hlt
          have h1 := nextslicecap_le hlt
          have h2 := Nat.mul_le_mul_right i.bytes h1
          rw [hb'] at h2 ⊢
          have : 2 * (len + m) * b = 2 * ((len + m) * b) := by rw [Nat.mul_assoc]
          unfold most at hmb
          omega
        cases hx with
        | nil hu => subst hu; exact hsame rfl rfl (run_append_sn u ty o.elem i ht hi _ len c' g1 w)
        | emp a d hu => subst hu; exact hsame rfl rfl (run_append_se u ty o.elem i ht hi _ a len c' d g1 w)
        | cells a m d cs cs' hu hall hlen hc =>
          subst hu
          by_cases hle : len + m ≤ c'
          · refine hroom cs' hall hlen hle ?_
            have hrun := run_append_room (P := P) w u ty o.elem i ht hi p.blk len c' arr hbk' a m d cs' (by rw [← hall.length, hlen, hs2]) hc hall.cells hle (by
              rw [hs2, ← hall.length, hlen, ← Nat.add_mul]
              exact Nat.le_trans (Nat.mul_le_mul_right _ hle) (by omega))
            rw [hs2] at hrun
            exact hrun
          · have hlt : c' < len + m := by omega
            have hge := grownCap_ge w (len + m) c' o.elem
            have hrun := run_append_grow (P := P) w u ty o.elem i zv ht hi hzv ⟨p.blk, 0, none⟩ len c' _ hlo holds a m d cs' (by rw [← hall.length, hlen, hs2]) hc hlt h63 (hnsc hlt)
            refine hgrow cs' hall hlen hlt (Builtin.zeroCells zv.cells (grownCap w (len + m) c' o.elem - (len + m))) _ (by simp) ?_ hrun
            have h1 := hall.length
            simp only [Array.size_append, List.size_toArray, size_zeroCells, hzs, hlo, hs2]
            rw [← h1, hlen, ← Nat.add_mul, ← Nat.add_mul]
            congr 1; omega
        | string s m hm hu h1 =>
          subst hm
          subst h1
          simp only [Nat.mul_one] at *
          have hall : All2 (S1 ι) (s.data.toList.map fun b => Value.int .u8 b.toNat) (strCells s) := by
            rw [str_cells]
            refine All2.refl fun a ha => ?_
            simp [strCells] at ha
            obtain ⟨b, _, rfl⟩ := ha
            exact .s0 (.int _ _)
          have hlen : (s.data.toList.map fun b => Value.int .u8 b.toNat).length = s.size := by simp
          by_cases hle : len + s.size ≤ c'
          · refine hroom (strCells s) hall hlen hle ?_
            have hrun := run_append_room_string (P := P) w t u ty o.elem i ht hu hi hs2 p.blk len c' arr hbk' s hle (by omega)
            rw [strCells_length]
            exact hrun
          · have hlt : c' < len + s.size := by omega
            have hge := grownCap_ge w (len + s.size) c' o.elem
            have hrun := run_append_grow_string (P := P) w t u ty o.elem i zv ht hu hi hzv ⟨p.blk, 0, none⟩ len c' _ hlo holds s hlt h63 (hnsc hlt)
            refine hgrow (strCells s) hall hlen hlt (Builtin.zeroCells zv.cells (grownCap w (len + s.size) c' o.elem - (len + s.size))) _ (by simp) ?_ hrun
            simp only [Array.size_append, List.size_toArray, size_zeroCells, hzs, hlo, hs2, strCells_length]
            omega
      · simp at he
    · simp at he
  · simp at he
end
end Go.AH
