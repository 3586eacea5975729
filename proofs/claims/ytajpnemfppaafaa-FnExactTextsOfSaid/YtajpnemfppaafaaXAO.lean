import Derived.Test.YtajpnemfppaafaaXAE
import Derived.KernelRfl
import Derived.Test.YtajpnemfppaafaaProg
import Derived.Test.YtajpnemfppaafaaXAK
import Derived.Test.YtajpnemfppaafaaXAJ
set_option linter.unusedSimpArgs false
set_option linter.unusedVariables false
/- Lists of structs, lists that begin as nil, maps from numbers to numbers. -/
namespace Go.AM
open Go.AH
theorem Cx.reset {b : Nat} {h g : AHeap} {F : List FRow} {O : List ORow} {M : List MRow} (y : Cx b h F O M) (n : Nat) {i rt j r : Nat} {t : TypeId} {ds : List Value} (e : O[n]? = some ⟨i, rt, t, false, []⟩) (E : Ext h.size h g)
  (o : OwnI g j r t ds) (hr : h.size ≤ r) : Cx b g F (O.set n ⟨j, r, t, true, ds⟩) M := by
 have y' := y.ext E
 have hlt := (List.getElem?_eq_some_iff.1 e).1
 have pw := List.pairwise_iff_getElem.1 y.nd
 refine ⟨y'.bh, y'.fr, fun q hq => ?_, ?_, y'.ms, y'.md⟩
 ·rw [List.mem_iff_getElem?] at hq
  obtain ⟨m, hm⟩ := hq
  by_cases hmn : m = n
  ·subst hmn
   rw [List.getElem?_set_self hlt] at hm
   cases hm
   exact ⟨fun _ => ⟨o, Nat.le_trans y.bh hr⟩, fun h => by cases h⟩
  ·rw [List.getElem?_set_ne (fun h => hmn h.symm)] at hm
   exact y'.ow q (List.mem_of_getElem? hm)
 ·rw [List.pairwise_iff_getElem]
  intro m l hm hl hml l1 l2
  rw [List.length_set] at hm hl
  have old : ∀ m (hm : m < O.length), (O[m]).lv = true → (O[m]).rt < h.size := fun m hm hl => by
   have a := (y.ow _ (List.getElem_mem hm)).1 hl
   have := a.1.lt
   omega
  rw [List.getElem_set] at l1 l2 ⊢
  rw [List.getElem_set]
  by_cases hm' : n = m
  ·by_cases hl' : n = l
   ·omega
   ·rw [if_neg hl'] at l2 ⊢
    rw [if_pos hm']
    have := old l hl l2
    show r ≠ _
    omega
  ·rw [if_neg hm'] at l1 ⊢
   by_cases hl' : n = l
   ·rw [if_pos hl']
    have := old m hm l1
    show _ ≠ r
    omega
   ·rw [if_neg hl'] at l2 ⊢
    exact pw m l hm hl hml l1 l2
def fl {α : Type} (c : α → List Value) (l : List α) : List Value := (l.map c).flatten
theorem fl_len {α : Type} (c : α → List Value) {esz : Nat} (hc : ∀ x, (c x).length = esz) : ∀ l : List α, (fl c l).length = l.length * esz
 | [] => by simp [fl]
 | x :: l => by
  have ih := fl_len c hc l
  unfold fl at ih ⊢
  rw [List.map_cons, List.flatten_cons, List.length_append, ih, hc x, List.length_cons, Nat.succ_mul, Nat.add_comm]
theorem fl_snoc {α : Type} (c : α → List Value) (l : List α) (x : α) : fl c (l ++ [x]) = fl c l ++ c x := by simp [fl]
theorem fl_at {α : Type} (c : α → List Value) {esz : Nat} (hc : ∀ x, (c x).length = esz) : ∀ (l : List α) (i : Nat) (x : α), l[i]? = some x → ((fl c l).drop (i * esz)).take esz = c x
 | [], i, x, h => by cases h
 | y :: ys, 0, x, h => by
  cases h
  unfold fl
  rw [List.map_cons, List.flatten_cons, Nat.zero_mul, List.drop_zero, List.take_append_of_le_length (by rw [hc]; exact Nat.le_refl _), List.take_of_length_le (by rw [hc]; exact Nat.le_refl _)]
 | y :: ys, i + 1, x, h => by
  rw [List.getElem?_cons_succ] at h
  rw [← fl_at c hc ys i x h]
  unfold fl
  rw [List.map_cons, List.flatten_cons, List.drop_append, List.drop_eq_nil_of_le (by rw [hc, Nat.succ_mul]; omega), List.nil_append, hc, Nat.succ_mul, Nat.add_sub_cancel]
section
variable {T : Type} {R : T → Value → AHeap → Prop} {b : Nat} {h0 g : AHeap} {F : List FRow} {O : List ORow} {M : List MRow}
theorem src1 (y : Cx b g F O M) (m : Nat) {j rt : Nat} {t : TypeId} {cs : List Value} (e : O[m]? = some ⟨j, rt, t, true, cs⟩) {esz : Nat} (hc : cs.length = esz) : aSrc g esz (slc j 0 1) = some (1, cs) := by
 have r := ((y.ow _ (List.mem_of_getElem? e)).1 rfl).1.row
 have := r.rd (off := 0) (n := 1 * esz) (by rw [← hc]; show 0 + 1 * cs.length ≤ cs.length; omega)
 simp only [aSrc, slc, this, Option.map_some, List.drop_zero]
 rw [Nat.one_mul, ← hc, List.take_length]
theorem Sm.apG {α : Type} (c : α → List Value) {esz bytes : Nat} (hc : ∀ x, (c x).length = esz) (hb : bytes ≤ 100) {f : List α → Option T} {kk : Value × AHeap → Option (Value × AHeap)} (y : Cx b g F O M) (n : Nat) {i rt : Nat} {t : TypeId} {lv : Bool} (l : List α) {v x : Value} {z : α}
  (e : O[n]? = some ⟨i, rt, t, lv, fl c l⟩) (hv : LV v i lv l.length) (hx : aSrc g esz x = some (1, c z))
  (hk : ∀ i' rt' g' l', grow l z = some l' → Ext b g g' → Cx b g' F (O.set n ⟨i', rt', t, true, fl c l'⟩) M → SmR h0 R (f l') (kk (slc i' 0 l'.length, g'))) :
  SmR h0 R ((grow l z).bind f) ((aApp g t esz bytes v x).bind kk) := Sm.mo fun l' el => by
 unfold grow at el
 by_cases hl : l.length ≤ 2000000
 ·rw [if_pos hl] at el; cases el
  have hb1 : (l.length + 1) * bytes ≤ (l.length + 1) * 100 := Nat.mul_le_mul_left _ hb
  rcases hv with ⟨hlv, rfl⟩ | ⟨hlv, rfl, hz⟩
  ·subst hlv
   obtain ⟨i', g', e1, E, y'⟩ := y.app n (esz := esz) (bytes := bytes) (n' := l.length) (m := 1) (ms := c z) e hx (by rw [fl_len c hc]) (by show _ ≤ 140737488355328; omega) (by show _ ≤ 140737488355328; omega)
   rw [e1]
   rw [← fl_snoc] at y'
   have := hk i' rt g' (l ++ [z]) (by unfold grow; rw [if_pos hl]) E y'
   rw [show (l ++ [z]).length = l.length + 1 by simp] at this
   exact this
  ·subst hlv
   have hln : l = [] := List.length_eq_zero_iff.1 hz
   subst hln
   have e1 : aApp g t esz bytes (.slice Option.none 0 0) x = some (slc g.size 0 1, g.new t (c z)) := by
    unfold aApp aAppG
    rw [hx]
    show (if (1 : Nat) = 0 then some (Value.slice Option.none 0 0, g) else if 1 ≤ most ∧ 1 * bytes ≤ most then some (slc g.size 0 1, g.new t (c z)) else Option.none) = _
    rw [if_neg (by decide), if_pos ⟨by decide, by show _ ≤ 140737488355328; omega⟩]
   rw [e1]
   have y' := y.reset n (j := g.size) (r := g.size) (ds := c z) e (Ext.new (Nat.le_refl g.size) t (c z)) ⟨_, at?_new_same g t (c z)⟩ (Nat.le_refl _)
   have := hk g.size g.size _ [z] (by unfold grow; rw [if_pos hl]; rfl) ((Ext.new (Nat.le_refl g.size) t (c z)).mono y.bh) (by
    rw [show fl c [z] = c z by simp [fl]]; exact y')
   exact this
 ·rw [if_neg hl] at el; cases el
theorem Cx.atG (y : Cx b g F O M) (n : Nat) {α : Type} (c : α → List Value) {esz : Nat} (hc : ∀ x, (c x).length = esz) {i rt : Nat} {t : TypeId} {lv : Bool} (l : List α) {v : Value} {x : Int} {w : α} (e : O[n]? = some ⟨i, rt, t, lv, fl c l⟩) (hv : LV v i lv l.length) (er : rd l x = some w) :
  aIdx v (.int .i64 x) esz = some (ptr i (x.toNat * esz)) ∧ aLdN g (ptr i (x.toNat * esz)) esz = some (.agg (c w).toArray) ∧ ∀ (k : Nat) (u : Value), (c w)[k]? = some u → aLd1 g (ptr i (x.toNat * esz + k)) = some u := by
 obtain ⟨h0, h1, h2⟩ := rd_some er
 rcases hv with ⟨hl, rfl⟩ | ⟨_, rfl, hz⟩
 ·subst hl
  have r := ((y.ow _ (List.mem_of_getElem? e)).1 rfl).1.row
  have hlt : x.toNat < l.length := (List.getElem?_eq_some_iff.1 h2).1
  have hle : x.toNat * esz + esz ≤ (fl c l).length := by
   rw [fl_len c hc, ← Nat.succ_mul]; exact Nat.mul_le_mul_right _ hlt
  have ha := fl_at c hc l x.toNat w h2
  refine ⟨by simp [aIdx, slc, h0, h1], ?_, fun k u hk => ?_⟩
  ·rw [r.ldN hle, ha]
  ·have hk2 : k < esz := by rw [← hc w]; exact (List.getElem?_eq_some_iff.1 hk).1
   refine r.ld1 ?_
   rw [← ha, List.getElem?_take_of_lt hk2, List.getElem?_drop] at hk
   exact hk
 ·omega
def nEnt (l : List Int) : List (Value × Value) := l.zipIdx.map fun p => (.int .i64 p.1, .int .i64 (p.2 : Int))
theorem nfind (k : Int) : ∀ (l : List Int) (s : Nat), mfind (.int .i64 k) ((l.zipIdx s).map fun p => (Value.int .i64 p.1, Value.int .i64 (p.2 : Int))) = some (if k ∈ l then some (.int .i64 ((s + l.idxOf k : Nat) : Int)) else none)
 | [], s => rfl
 | x :: l, s => by
  rw [List.zipIdx_cons, List.map_cons]
  show (match keyEq (.int .i64 k) (.int .i64 x) with | some true => some (some _) | some false => mfind (.int .i64 k) _ | none => none) = _
  have : keyEq (.int .i64 k) (.int .i64 x) = some (k == x) := by simp [keyEq]
  rw [this]
  by_cases hx : k = x
  ·subst hx; simp
  ·have h2 : (k == x) = false := by simp [hx]
   rw [h2]
   simp only [nfind k l (s + 1), List.mem_cons, hx, false_or]
   by_cases hk : k ∈ l
   ·rw [if_pos hk, if_pos hk, List.idxOf_cons, show (x == k) = false by simp; exact fun h => hx h.symm]
    simp; omega
   ·rw [if_neg hk, if_neg hk]
theorem nset (k n : Int) : ∀ (l : List (Value × Value)), (mfind (.int .i64 k) l = some none) → mset (.int .i64 k) (.int .i64 n) l = some (l ++ [(.int .i64 k, .int .i64 n)])
 | [], _ => rfl
 | (a, u) :: l, h => by
  unfold mfind at h
  unfold mset
  cases e : keyEq (.int .i64 k) a with
  | none => rw [e] at h; cases h
  | some t =>
   rw [e] at h
   cases t with
   | true => simp at h
   | false =>
    simp only at h ⊢
    rw [nset k n l h]; rfl
theorem nEnt_snoc (l : List Int) (k : Int) : nEnt (l ++ [k]) = nEnt l ++ [(.int .i64 k, .int .i64 (l.length : Int))] := by
 unfold nEnt
 rw [List.zipIdx_append, List.map_append]; simp
theorem nfind0 (k : Int) (l : List Int) : mfind (.int .i64 k) (nEnt l) = some (if k ∈ l then some (.int .i64 (l.idxOf k : Int)) else none) := by
 have := nfind k l 0
 rw [Nat.zero_add] at this
 exact this
theorem Cx.nget (y : Cx b g F O M) (n : Nat) {i : Nat} {l : List Int} (e : M[n]? = some (i, nEnt l)) (k : Int) : aMget g (.map (some i)) (.int .i64 k) (.int .i64 0) true = some (.tuple #[if k ∈ l then .int .i64 (l.idxOf k : Int) else .int .i64 0, .bool (decide (k ∈ l))]) := by
 have m := (y.ms _ (List.mem_of_getElem? e)).1
 show ((g.map i).bind fun l => _) = _
 rw [m]
 show (mfind _ (nEnt l)).map _ = _
 rw [nfind0]
 by_cases hk : k ∈ l <;> simp [hk]
theorem Sm.nst {m : Option T} {kk : AHeap → Option (Value × AHeap)} (y : Cx b g F O M) (n : Nat) {i : Nat} {l : List Int} (e : M[n]? = some (i, nEnt l)) {k : Int} (hk : ¬ k ∈ l)
  (hh : ∀ g', Ext b g g' → Cx b g' F O (M.set n (i, nEnt (l ++ [k]))) → SmR h0 R m (kk g')) : SmR h0 R m ((aMset g (.map (some i)) (.int .i64 k) (.int .i64 (l.length : Int))).bind kk) := by
 have hf : mset (.int .i64 k) (.int .i64 (l.length : Int)) (nEnt l) = some (nEnt (l ++ [k])) := by
  rw [nEnt_snoc]
  exact nset k _ _ (by rw [nfind0, if_neg hk])
 obtain ⟨g', e1, E, y'⟩ := y.msetE n e (v := .int .i64 (l.length : Int)) rfl hf
 exact Sm.b e1 (hh g' E y')
end
theorem SlI.s {k : IntKind} {h : AHeap} {v : Value} {xs : List Int} (x : SlI k h v xs) : SlS k h v xs := fun j w e => x.at e
end Go.AM
namespace Go.Proofs.Ytajpnemfppaafaa
open Go Go.AH
noncomputable section
variable (hk : Hk (Value × AHeap)) (C : ACall) (N : Nat)
def F4_0 : Nx (Value × AHeap) := evSt hk Tp C M4 N Try.f4 [1, 1, 1, 1, 1, 1, 1, 1, 1, 1, 1, 0, 1] []
def s4_0 (x1 x4 x6 : Value) (x42 : Bool) (h : AHeap) := hk 100015 (⟨69, [(1, x1), (4, x4), (6, x6), (42, .bool x42)]⟩) h (F4_0 hk C N)
def F4_1 : Nx (Value × AHeap) := evSt hk Tp C M4 N Try.f4 [1, 1, 1, 1, 1, 1, 1, 1, 1, 1, 1, 1] []
def s4_1 (x1 x4 x6 : Value) (h : AHeap) := hk 16 (⟨69, [(1, x1), (4, x4), (6, x6)]⟩) h (F4_1 hk C N)
theorem e4 (x0 : Value) (h : AHeap) : evFn hk Tp C M4 N Try.f4 [x0] h =
  (aCells x0).bind fun c1 => aNew h 25 c1 fun p2 h3 => (aLdN h3 p2 10).bind fun v4 => (C 6 [v4, .int .i64 1048576] h3).bind fun r5 => (asI .i64 r5.1).bind fun n6 => bif decide (n6 < 0) then some (.bool true, r5.2) else (aLdN r5.2 p2 10).bind fun v7 => (C 8 [v7] r5.2).bind fun r8 => (C 11 [r8.1] r8.2).bind fun r9 => (aLdN r9.2 p2 10).bind fun v10 => (C 8 [v10] r9.2).bind fun r11 => aNew r11.2 30 [.slice none 0 0, .int .i64 0, .int .i64 0, .int .i64 0, .bool false, .int .i64 0, .int .i64 0, .int .i64 0, .int .i64 0, .slice none 0 0] fun p12 h13 => (aSt h13 p12 r11.1 10).bind fun h14 => (aLdN h14 p12 10).bind fun v15 => (C 12 [v15] h14).bind fun r16 => (C 13 [r16.1, r9.1] r16.2).bind fun r17 => (asB r17.1).bind fun b18 => bif !b18 then some (.bool false, r17.2) else (aLdN r17.2 p12 10).bind fun v19 => (aLdN r17.2 p2 10).bind fun v20 => (C 8 [v20] r17.2).bind fun r21 => ((aLdN r21.2 p12 10).bind fun v22 => some (vbeq v22 v19)).bind fun b23 => bif b23 then (C 10 [v19, r21.1] r21.2).bind fun r24 => (asB r24.1).bind fun b25 => bif !b25 then some (.bool false, r24.2) else (aLdN r24.2 p12 10).bind fun v26 => (C 14 [v26, .int .i64 1] r24.2).bind fun r27 => (asI .i64 r27.1).bind fun n28 => bif decide (n28 < 0) then s4_0 hk C N p2 r9.1 r16.1 true r27.2 else (C 13 [r16.1, r9.1] r27.2).bind fun r29 => (asB r29.1).bind fun b30 => s4_0 hk C N p2 r9.1 r16.1 (!b30) r29.2 else none := by kernel_rfl
theorem s4_0_j (x1 x4 x6 : Value) (x42 : Bool) (h : AHeap) : s4_0 hk0 C N x1 x4 x6 x42 h = F4_0 hk0 C N (⟨69, [(1, x1), (4, x4), (6, x6), (42, .bool x42)]⟩) h := by delta s4_0; exact hk0_app _ _ _ _
theorem s4_0_eq (x1 x4 x6 : Value) (x42 : Bool) (h : AHeap) : F4_0 hk C N (⟨69, [(1, x1), (4, x4), (6, x6), (42, .bool x42)]⟩) h =
  bif x42 then some (.bool false, h) else s4_1 hk C N x1 x4 x6 h := by kernel_rfl
theorem s4_1_j (x1 x4 x6 : Value) (h : AHeap) : s4_1 hk0 C N x1 x4 x6 h = F4_1 hk0 C N (⟨69, [(1, x1), (4, x4), (6, x6)]⟩) h := by delta s4_1; exact hk0_app _ _ _ _
theorem s4_1_eq (x1 x4 x6 : Value) (h : AHeap) : F4_1 hk C N (⟨69, [(1, x1), (4, x4), (6, x6)]⟩) h =
  (C 15 [x6, .int .i64 1] h).bind fun r31 => (asI .i64 r31.1).bind fun n32 => (C 16 [x6, .int .i64 1] r31.2).bind fun r33 => (asI .i64 r33.1).bind fun n34 => bif decide (n34 < 0) then some (.bool false, r33.2) else bif n34 != n32 then some (.bool false, r33.2) else (aLdN r33.2 x1 10).bind fun v35 => (C 8 [v35] r33.2).bind fun r36 => (C 12 [r36.1] r36.2).bind fun r37 => (C 13 [r37.1, x4] r37.2).bind fun r38 => (asB r38.1).bind fun b39 => bif !b39 then some (.bool false, r38.2) else (C 16 [x6, .int .i64 1] r38.2).bind fun r40 => (asI .i64 r40.1).bind fun n41 => bif decide (n41 < 0) then some (.bool false, r40.2) else bif n41 != n32 then some (.bool false, r40.2) else some (.bool true, r40.2) := by kernel_rfl
theorem c4 (d : Nat) (args : List Value) (h : AHeap) : call Tp Ms (d + 1) 4 args h = evFn hk0 Tp (call Tp Ms d) M4 d Try.f4 args h := by kernel_rfl
def F11_0 (n1 : Nat) : Nx (Value × AHeap) := evSt hk Tp C M11 N Try.f11 [1, 1, 1, 1, 0, 1, 2, 6] [n1]
def s11_0 (n1 : Nat) (x3 x4 : Value) (x6 : Int) (h : AHeap) := F11_0 hk C N n1 (⟨40, [(3, x3), (4, x4), (6, .int .i64 x6)]⟩) h
theorem e11 (x0 : Value) (h : AHeap) : evFn hk Tp C M11 N Try.f11 [x0] h =
  (aCells x0).bind fun c1 => aNew h 30 c1 fun p2 h3 => aNewS h3 9 [] 0 fun p4 h5 => (aLdN h5 p2 10).bind fun v6 => (C 38 [v6] h5).bind fun r7 => (aExt r7.1 0).bind fun v8 => (aExt r7.1 1).bind fun v9 => (asB v9).bind fun b10 => aNew r7.2 69 [.slice none 0 0, .slice none 0 0] fun p11 h12 => (aSt h12 p11 v8 2).bind fun h13 => bif !b10 then some (p4, h13) else s11_0 hk C N N p4 p11 0 h13 := by kernel_rfl
theorem s11_0_eq (n1 : Nat) (x3 x4 : Value) (x6 : Int) (h : AHeap) : s11_0 hk C N (n1 + 1) x3 x4 x6 h =
  (aOff x4 1).bind fun v14 => (aLd1 h v14).bind fun v15 => (aLen v15).bind fun v16 => (asI .i64 v16).bind fun n17 => bif decide (x6 < n17) then (aOff x4 1).bind fun v18 => (aLd1 h v18).bind fun v19 => (aIdx v19 (.int .i64 x6) 6).bind fun v20 => (aOff v20 0).bind fun v21 => (aLd1 h v21).bind fun v22 => (asI .i64 v22).bind fun n23 => bif n23 == 1 then (aOff x4 1).bind fun v24 => (aLd1 h v24).bind fun v25 => (aIdx v25 (.int .i64 x6) 6).bind fun v26 => (aOff v26 4).bind fun v27 => (aLd1 h v27).bind fun v28 => (asS v28).bind fun t29 => aNewS h 9 [.string t29] 1 fun p30 h31 => (aApp h31 9 1 16 x3 p30).bind fun r32 => s11_0 hk C N n1 r32.1 x4 (IntKind.i64.wrap (x6 + 1)) r32.2 else s11_0 hk C N n1 x3 x4 (IntKind.i64.wrap (x6 + 1)) h else some (x3, h) := by kernel_rfl
theorem c11 (d : Nat) (args : List Value) (h : AHeap) : call Tp Ms (d + 1) 11 args h = evFn hk0 Tp (call Tp Ms d) M11 d Try.f11 args h := by kernel_rfl
def F12_0 (n1 : Nat) : Nx (Value × AHeap) := evSt hk Tp C M12 N Try.f12 [1, 1, 1, 0, 1, 2, 6] [n1]
def s12_0 (n1 : Nat) (x3 x12 : Value) (x13 x14 : Int) (h : AHeap) := F12_0 hk C N n1 (⟨28, [(3, x3), (12, x12), (13, .int .i64 x13), (14, .int .i64 x14)]⟩) h
theorem e12 (x0 : Value) (h : AHeap) : evFn hk Tp C M12 N Try.f12 [x0] h =
  (aCells x0).bind fun c1 => aNew h 30 c1 fun p2 h3 => aNewS h3 9 [] 0 fun p4 h5 => (aLdN h5 p2 10).bind fun v6 => (C 33 [v6] h5).bind fun r7 => (asB r7.1).bind fun b8 => bif !b8 then some (p4, r7.2) else (C 39 [p2] r7.2).bind fun r9 => (aPart r9.1 1 1 false).bind fun v10 => (aLen v10).bind fun v11 => (asI .i64 v11).bind fun n12 => s12_0 hk C N N p4 v10 n12 0 r9.2 := by kernel_rfl
theorem s12_0_eq (n1 : Nat) (x3 x12 : Value) (x13 x14 : Int) (h : AHeap) : s12_0 hk C N (n1 + 1) x3 x12 x13 x14 h =
  bif decide (x14 < x13) then (aIdx x12 (.int .i64 x14) 6).bind fun v13 => (aLdN h v13 6).bind fun v14 => aNew h 73 [.int .i64 0, .int .i64 0, .int .i64 0, .int .i64 0, .string ⟨#[]⟩, .slice none 0 0] fun p15 h16 => (aSt h16 p15 v14 6).bind fun h17 => (aOff p15 0).bind fun v18 => (aLd1 h17 v18).bind fun v19 => (asI .i64 v19).bind fun n20 => bif n20 == 1 then (aOff p15 4).bind fun v21 => (aLd1 h17 v21).bind fun v22 => (asS v22).bind fun t23 => aNewS h17 9 [.string t23] 1 fun p24 h25 => (aApp h25 9 1 16 x3 p24).bind fun r26 => s12_0 hk C N n1 r26.1 x12 x13 (IntKind.i64.wrap (x14 + 1)) r26.2 else s12_0 hk C N n1 x3 x12 x13 (IntKind.i64.wrap (x14 + 1)) h17 else some (x3, h) := by kernel_rfl
theorem c12 (d : Nat) (args : List Value) (h : AHeap) : call Tp Ms (d + 1) 12 args h = evFn hk0 Tp (call Tp Ms d) M12 d Try.f12 args h := by kernel_rfl
def F13_0 (n1 : Nat) : Nx (Value × AHeap) := evSt hk Tp C M13 N Try.f13 [1, 1, 0, 1, 2, 6] [n1]
def s13_0 (n1 : Nat) (x0 x1 : Value) (x5 : Int) (h : AHeap) := F13_0 hk C N n1 (⟨26, [(0, x0), (1, x1), (5, .int .i64 x5)]⟩) h
theorem e13 (x0 x1 : Value) (h : AHeap) : evFn hk Tp C M13 N Try.f13 [x0, x1] h =
  (aLen x0).bind fun v1 => (asI .i64 v1).bind fun n2 => (aLen x1).bind fun v3 => (asI .i64 v3).bind fun n4 => bif n2 != n4 then some (.bool false, h) else s13_0 hk C N N x0 x1 0 h := by kernel_rfl
theorem s13_0_eq (n1 : Nat) (x0 x1 : Value) (x5 : Int) (h : AHeap) : s13_0 hk C N (n1 + 1) x0 x1 x5 h =
  (aLen x0).bind fun v5 => (asI .i64 v5).bind fun n6 => bif decide (x5 < n6) then (aIdx x0 (.int .i64 x5) 1).bind fun v7 => (aLd1 h v7).bind fun v8 => (asS v8).bind fun t9 => (aIdx x1 (.int .i64 x5) 1).bind fun v10 => (aLd1 h v10).bind fun v11 => (asS v11).bind fun t12 => bif !(t9.toList == t12.toList) then some (.bool false, h) else s13_0 hk C N n1 x0 x1 (IntKind.i64.wrap (x5 + 1)) h else some (.bool true, h) := by kernel_rfl
theorem c13 (d : Nat) (args : List Value) (h : AHeap) : call Tp Ms (d + 1) 13 args h = evFn hk0 Tp (call Tp Ms d) M13 d Try.f13 args h := by kernel_rfl
theorem e14 (x0 : Value) (x1 : Int) (h : AHeap) : evFn hk Tp C M14 N Try.f14 [x0, .int .i64 x1] h =
  (aCells x0).bind fun c1 => aNew h 30 c1 fun p2 h3 => (aOff p2 0).bind fun v4 => (aLd1 h3 v4).bind fun v5 => (C 40 [v5, .int .i64 x1] h3).bind fun r6 => (asI .i64 r6.1).bind fun n7 => (aOff p2 9).bind fun v8 => (aLd1 r6.2 v8).bind fun v9 => (C 41 [v9, .int .i64 n7] r6.2).bind fun r10 => (asI .i64 r10.1).bind fun n11 => some (.int .i64 n11, r10.2) := by kernel_rfl
theorem c14 (d : Nat) (args : List Value) (h : AHeap) : call Tp Ms (d + 1) 14 args h = evFn hk0 Tp (call Tp Ms d) M14 d Try.f14 args h := by kernel_rfl
def F15_0 (n1 : Nat) : Nx (Value × AHeap) := evSt hk Tp C M15 N Try.f15 [1, 0, 1, 2, 6] [n1]
def s15_0 (n1 : Nat) (x0 : Value) (x1 x5 : Int) (h : AHeap) := F15_0 hk C N n1 (⟨20, [(0, x0), (1, .int .i64 x1), (5, .int .i64 x5)]⟩) h
theorem e15 (x0 : Value) (x1 : Int) (h : AHeap) : evFn hk Tp C M15 N Try.f15 [x0, .int .i64 x1] h =
  s15_0 hk C N N x0 x1 0 h := by kernel_rfl
theorem s15_0_eq (n1 : Nat) (x0 : Value) (x1 x5 : Int) (h : AHeap) : s15_0 hk C N (n1 + 1) x0 x1 x5 h =
  (aLen x0).bind fun v1 => (asI .i64 v1).bind fun n2 => bif decide (x5 < n2) then (C 42 [.int .i64 x1] h).bind fun r3 => (asS r3.1).bind fun t4 => (aIdx x0 (.int .i64 x5) 1).bind fun v5 => (aSt r3.2 v5 (.string t4) 1).bind fun h6 => s15_0 hk C N n1 x0 (IntKind.i64.wrap (x1 + 1)) (IntKind.i64.wrap (x5 + 1)) h6 else some (.int .i64 x1, h) := by kernel_rfl
theorem c15 (d : Nat) (args : List Value) (h : AHeap) : call Tp Ms (d + 1) 15 args h = evFn hk0 Tp (call Tp Ms d) M15 d Try.f15 args h := by kernel_rfl
def F16_0 (n1 : Nat) : Nx (Value × AHeap) := evSt hk Tp C M16 N Try.f16 [1, 0, 1, 2, 6] [n1]
def s16_0 (n1 : Nat) (x0 : Value) (x1 x5 : Int) (h : AHeap) := F16_0 hk C N n1 (⟨22, [(0, x0), (1, .int .i64 x1), (5, .int .i64 x5)]⟩) h
theorem e16 (x0 : Value) (x1 : Int) (h : AHeap) : evFn hk Tp C M16 N Try.f16 [x0, .int .i64 x1] h =
  s16_0 hk C N N x0 x1 0 h := by kernel_rfl
theorem s16_0_eq (n1 : Nat) (x0 : Value) (x1 x5 : Int) (h : AHeap) : s16_0 hk C N (n1 + 1) x0 x1 x5 h =
  (aLen x0).bind fun v1 => (asI .i64 v1).bind fun n2 => bif decide (x5 < n2) then (aIdx x0 (.int .i64 x5) 1).bind fun v3 => (aLd1 h v3).bind fun v4 => (asS v4).bind fun t5 => (C 42 [.int .i64 x1] h).bind fun r6 => (asS r6.1).bind fun t7 => ((aLd1 r6.2 v3).bind fun v8 => (asS v8).bind fun t9 => some (vbeq (.string t9) (.string t5))).bind fun b10 => bif b10 then bif !(t5.toList == t7.toList) then some (.int .i64 (-1), r6.2) else s16_0 hk C N n1 x0 (IntKind.i64.wrap (x1 + 1)) (IntKind.i64.wrap (x5 + 1)) r6.2 else none else some (.int .i64 x1, h) := by kernel_rfl
theorem c16 (d : Nat) (args : List Value) (h : AHeap) : call Tp Ms (d + 1) 16 args h = evFn hk0 Tp (call Tp Ms d) M16 d Try.f16 args h := by kernel_rfl
def F38_0 (n1 : Nat) : Nx (Value × AHeap) := evSt hk Tp C M38 N Try.f38 [1, 1, 1, 1, 0, 1, 2, 6] [n1]
def s38_0 (n1 : Nat) (x1 x2 x4 x5 : Value) (x6 : Int) (h : AHeap) := F38_0 hk C N n1 (⟨67, [(1, x1), (2, x2), (4, x4), (5, x5), (6, .int .i64 x6)]⟩) h
def F38_1 (n1 : Nat) : Nx (Value × AHeap) := evSt hk Tp C M38 N Try.f38 [1, 1, 1, 1, 1, 0, 1, 2, 6] [n1]
def s38_1 (n1 : Nat) (x1 x2 x4 x5 : Value) (x9 : Int) (h : AHeap) := F38_1 hk C N n1 (⟨67, [(1, x1), (2, x2), (4, x4), (5, x5), (9, .int .i64 x9)]⟩) h
theorem e38 (x0 : Value) (h : AHeap) : evFn hk Tp C M38 N Try.f38 [x0] h =
  (aCells x0).bind fun c1 => aNew h 30 c1 fun p2 h3 => aNew h3 69 [.slice none 0 0, .slice none 0 0] fun p4 h5 => (aLdN h5 p2 10).bind fun v6 => (C 28 [v6] h5).bind fun r7 => (asB r7.1).bind fun b8 => bif !b8 then (aSt r7.2 p4 (.agg (List.toArray [.slice none 0 0, .slice none 0 0])) 2).bind fun h9 => (aLdN h9 p4 2).bind fun v10 => bif List.all [v10, .bool false] isS2 then some (.tuple (List.toArray [v10, .bool false]), h9) else none else aNew r7.2 69 [.slice none 0 0, .slice none 0 0] fun p11 h12 => (aSt h12 p11 (.agg (List.toArray [.slice none 0 0, .slice none 0 0])) 2).bind fun h13 => aNewS h13 3 [] 0 fun p14 h15 => s38_0 hk C N N p2 p4 p11 p14 0 h15 := by kernel_rfl
theorem s38_0_eq (n1 : Nat) (x1 x2 x4 x5 : Value) (x6 : Int) (h : AHeap) : s38_0 hk C N (n1 + 1) x1 x2 x4 x5 x6 h =
  (aOff x1 9).bind fun v16 => (aLd1 h v16).bind fun v17 => (aLen v17).bind fun v18 => (asI .i64 v18).bind fun n19 => bif decide (x6 < n19) then (aLdN h x1 10).bind fun v20 => (aOff x1 9).bind fun v21 => (aLd1 h v21).bind fun v22 => (aIdx v22 (.int .i64 x6) 2).bind fun v23 => (aLdN h v23 2).bind fun v24 => aNew h 59 [.int .i64 0, .int .i64 0] fun p25 h26 => (C 74 [v20, x5, v24] h26).bind fun r27 => (aExt r27.1 0).bind fun v28 => (aExt r27.1 1).bind fun v29 => (aSt r27.2 p25 v29 2).bind fun h30 => (aOff x4 0).bind fun v31 => (aLd1 h30 v31).bind fun v32 => (aLdN h30 p25 2).bind fun v33 => (aFill [.int .i64 0, .int .i64 0] [(0, 2, v33)]).bind fun c34 => aNewS h30 59 c34 1 fun p35 h36 => (aApp h36 59 2 16 v32 p35).bind fun r37 => (aOff x4 0).bind fun v38 => (aSt r37.2 v38 r37.1 1).bind fun h39 => s38_0 hk C N n1 x1 x2 x4 v28 (IntKind.i64.wrap (x6 + 1)) h39 else s38_1 hk C N N x1 x2 x4 x5 0 h := by kernel_rfl
theorem s38_1_eq (n1 : Nat) (x1 x2 x4 x5 : Value) (x9 : Int) (h : AHeap) : s38_1 hk C N (n1 + 1) x1 x2 x4 x5 x9 h =
  (aLen x5).bind fun v40 => (asI .i64 v40).bind fun n41 => bif decide (x9 < n41) then (aLdN h x1 10).bind fun v42 => (aIdx x5 (.int .i64 x9) 1).bind fun v43 => (aLd1 h v43).bind fun v44 => (asI .i64 v44).bind fun n45 => aNew h 73 [.int .i64 0, .int .i64 0, .int .i64 0, .int .i64 0, .string ⟨#[]⟩, .slice none 0 0] fun p46 h47 => (C 75 [v42, x5, .int .i64 n45] h47).bind fun r48 => (aExt r48.1 0).bind fun v49 => (aExt r48.1 1).bind fun v50 => (aSt r48.2 p46 v50 6).bind fun h51 => (aOff x4 1).bind fun v52 => (aLd1 h51 v52).bind fun v53 => (aLdN h51 p46 6).bind fun v54 => (aFill [.int .i64 0, .int .i64 0, .int .i64 0, .int .i64 0, .string ⟨#[]⟩, .slice none 0 0] [(0, 6, v54)]).bind fun c55 => aNewS h51 73 c55 1 fun p56 h57 => (aApp h57 73 6 72 v53 p56).bind fun r58 => (aOff x4 1).bind fun v59 => (aSt r58.2 v59 r58.1 1).bind fun h60 => s38_1 hk C N n1 x1 x2 x4 v49 (IntKind.i64.wrap (x9 + 1)) h60 else (aLdN h x4 2).bind fun v61 => (aSt h x2 v61 2).bind fun h62 => (aLdN h62 x2 2).bind fun v63 => bif List.all [v63, .bool true] isS2 then some (.tuple (List.toArray [v63, .bool true]), h62) else none := by kernel_rfl
theorem c38 (d : Nat) (args : List Value) (h : AHeap) : call Tp Ms (d + 1) 38 args h = evFn hk0 Tp (call Tp Ms d) M38 d Try.f38 args h := by kernel_rfl
def F39_0 (n1 : Nat) : Nx (Value × AHeap) := evSt hk Tp C M39 N Try.f39 [1, 1, 1, 0, 1, 2, 6] [n1]
def s39_0 (n1 : Nat) (x2 x3 x4 x18 : Value) (x19 x20 : Int) (h : AHeap) := F39_0 hk C N n1 (⟨59, [(2, x2), (3, x3), (4, x4), (18, x18), (19, .int .i64 x19), (20, .int .i64 x20)]⟩) h
def F39_1 (n1 : Nat) : Nx (Value × AHeap) := evSt hk Tp C M39 N Try.f39 [1, 1, 1, 1, 0, 1, 2, 6] [n1]
def s39_1 (n1 : Nat) (x2 x3 x4 : Value) (x8 : Int) (h : AHeap) := F39_1 hk C N n1 (⟨59, [(2, x2), (3, x3), (4, x4), (8, .int .i64 x8)]⟩) h
theorem e39 (x0 : Value) (h : AHeap) : evFn hk Tp C M39 N Try.f39 [x0] h =
  aNew h 69 [.slice none 0 0, .slice none 0 0] fun p1 h2 => aNewM h2 fun p3 h4 => (aFill [.pointer none, .map none, .slice none 0 0] [(0, 1, x0), (1, 1, p3)]).bind fun c5 => (aCells (.agg (List.toArray c5))).bind fun c6 => aNew h4 130 c6 fun p7 h8 => aNew h8 69 [.slice none 0 0, .slice none 0 0] fun p9 h10 => (aSt h10 p9 (.agg (List.toArray [.slice none 0 0, .slice none 0 0])) 2).bind fun h11 => (aNil x0).bind fun v12 => (aOff v12 9).bind fun v13 => (aLd1 h11 v13).bind fun v14 => (aLen v14).bind fun v15 => (asI .i64 v15).bind fun n16 => s39_0 hk C N N p1 p7 p9 v14 n16 0 h11 := by kernel_rfl
theorem s39_0_eq (n1 : Nat) (x2 x3 x4 x18 : Value) (x19 x20 : Int) (h : AHeap) : s39_0 hk C N (n1 + 1) x2 x3 x4 x18 x19 x20 h =
  bif decide (x20 < x19) then (aIdx x18 (.int .i64 x20) 2).bind fun v17 => (aLdN h v17 2).bind fun v18 => aNew h 59 [.int .i64 0, .int .i64 0] fun p19 h20 => (aSt h20 p19 v18 2).bind fun h21 => (aLdN h21 p19 2).bind fun v22 => (C 76 [x3, v22] h21).bind fun r23 => aNew r23.2 59 [.int .i64 0, .int .i64 0] fun p24 h25 => (aSt h25 p24 r23.1 2).bind fun h26 => (aOff x4 0).bind fun v27 => (aLd1 h26 v27).bind fun v28 => (aLdN h26 p24 2).bind fun v29 => (aFill [.int .i64 0, .int .i64 0] [(0, 2, v29)]).bind fun c30 => aNewS h26 59 c30 1 fun p31 h32 => (aApp h32 59 2 16 v28 p31).bind fun r33 => (aOff x4 0).bind fun v34 => (aSt r33.2 v34 r33.1 1).bind fun h35 => s39_0 hk C N n1 x2 x3 x4 x18 x19 (IntKind.i64.wrap (x20 + 1)) h35 else s39_1 hk C N N x2 x3 x4 0 h := by kernel_rfl
theorem s39_1_eq (n1 : Nat) (x2 x3 x4 : Value) (x8 : Int) (h : AHeap) : s39_1 hk C N (n1 + 1) x2 x3 x4 x8 h =
  (aNil x3).bind fun v36 => (aOff v36 2).bind fun v37 => (aLd1 h v37).bind fun v38 => (aLen v38).bind fun v39 => (asI .i64 v39).bind fun n40 => bif decide (x8 < n40) then (aNil x3).bind fun v41 => (aOff v41 2).bind fun v42 => (aLd1 h v42).bind fun v43 => (aIdx v43 (.int .i64 x8) 1).bind fun v44 => (aLd1 h v44).bind fun v45 => (asI .i64 v45).bind fun n46 => (C 77 [x3, .int .i64 n46] h).bind fun r47 => aNew r47.2 73 [.int .i64 0, .int .i64 0, .int .i64 0, .int .i64 0, .string ⟨#[]⟩, .slice none 0 0] fun p48 h49 => (aSt h49 p48 r47.1 6).bind fun h50 => (aOff x4 1).bind fun v51 => (aLd1 h50 v51).bind fun v52 => (aLdN h50 p48 6).bind fun v53 => (aFill [.int .i64 0, .int .i64 0, .int .i64 0, .int .i64 0, .string ⟨#[]⟩, .slice none 0 0] [(0, 6, v53)]).bind fun c54 => aNewS h50 73 c54 1 fun p55 h56 => (aApp h56 73 6 72 v52 p55).bind fun r57 => (aOff x4 1).bind fun v58 => (aSt r57.2 v58 r57.1 1).bind fun h59 => s39_1 hk C N n1 x2 x3 x4 (IntKind.i64.wrap (x8 + 1)) h59 else (aLdN h x4 2).bind fun v60 => (aSt h x2 v60 2).bind fun h61 => (aLdN h61 x2 2).bind fun v62 => some (v62, h61) := by kernel_rfl
theorem c39 (d : Nat) (args : List Value) (h : AHeap) : call Tp Ms (d + 1) 39 args h = evFn hk0 Tp (call Tp Ms d) M39 d Try.f39 args h := by kernel_rfl
def F40_0 (n1 : Nat) : Nx (Value × AHeap) := evSt hk Tp C M40 N Try.f40 [1, 0, 1, 2, 6] [n1]
def s40_0 (n1 : Nat) (x0 : Value) (x1 x5 : Int) (h : AHeap) := F40_0 hk C N n1 (⟨20, [(0, x0), (1, .int .i64 x1), (5, .int .i64 x5)]⟩) h
theorem e40 (x0 : Value) (x1 : Int) (h : AHeap) : evFn hk Tp C M40 N Try.f40 [x0, .int .i64 x1] h =
  s40_0 hk C N N x0 x1 0 h := by kernel_rfl
theorem s40_0_eq (n1 : Nat) (x0 : Value) (x1 x5 : Int) (h : AHeap) : s40_0 hk C N (n1 + 1) x0 x1 x5 h =
  (aLen x0).bind fun v1 => (asI .i64 v1).bind fun n2 => bif decide (x5 < n2) then (aIdx x0 (.int .i64 x5) 1).bind fun v3 => (aSt h v3 (.int .u64 (IntKind.u64.wrap x1)) 1).bind fun h4 => s40_0 hk C N n1 x0 (IntKind.i64.wrap (x1 + 1)) (IntKind.i64.wrap (x5 + 1)) h4 else some (.int .i64 x1, h) := by kernel_rfl
theorem c40 (d : Nat) (args : List Value) (h : AHeap) : call Tp Ms (d + 1) 40 args h = evFn hk0 Tp (call Tp Ms d) M40 d Try.f40 args h := by kernel_rfl
def F41_0 (n1 : Nat) : Nx (Value × AHeap) := evSt hk Tp C M41 N Try.f41 [1, 0, 1, 2, 6] [n1]
def s41_0 (n1 : Nat) (x0 : Value) (x1 x5 : Int) (h : AHeap) := F41_0 hk C N n1 (⟨27, [(0, x0), (1, .int .i64 x1), (5, .int .i64 x5)]⟩) h
theorem e41 (x0 : Value) (x1 : Int) (h : AHeap) : evFn hk Tp C M41 N Try.f41 [x0, .int .i64 x1] h =
  s41_0 hk C N N x0 x1 0 h := by kernel_rfl
theorem s41_0_eq (n1 : Nat) (x0 : Value) (x1 x5 : Int) (h : AHeap) : s41_0 hk C N (n1 + 1) x0 x1 x5 h =
  (aLen x0).bind fun v1 => (asI .i64 v1).bind fun n2 => bif decide (x5 < n2) then (aIdx x0 (.int .i64 x5) 2).bind fun v3 => (aOff v3 0).bind fun v4 => (aSt h v4 (.int .i64 x1) 1).bind fun h5 => (aIdx x0 (.int .i64 x5) 2).bind fun v6 => (aOff v6 1).bind fun v7 => (aSt h5 v7 (.int .i64 (IntKind.i64.wrap (x1 + 1))) 1).bind fun h8 => s41_0 hk C N n1 x0 (IntKind.i64.wrap ((IntKind.i64.wrap (x1 + 1)) + 1)) (IntKind.i64.wrap (x5 + 1)) h8 else some (.int .i64 x1, h) := by kernel_rfl
theorem c41 (d : Nat) (args : List Value) (h : AHeap) : call Tp Ms (d + 1) 41 args h = evFn hk0 Tp (call Tp Ms d) M41 d Try.f41 args h := by kernel_rfl
def F42_0 (n1 : Nat) : Nx (Value × AHeap) := evSt hk Tp C M42 N Try.f42 [1, 1, 1, 0, 2, 6] [n1]
def s42_0 (n1 : Nat) (x0 : Int) (x3 : ByteArray) (h : AHeap) := F42_0 hk C N n1 (⟨20, [(0, .int .i64 x0), (3, .string x3)]⟩) h
theorem e42 (x0 : Int) (h : AHeap) : evFn hk Tp C M42 N Try.f42 [.int .i64 x0] h =
  bif decide (x0 ≤ 0) then some (.string (⟨#[109, 48]⟩), h) else s42_0 hk C N N x0 ⟨#[]⟩ h := by kernel_rfl
theorem s42_0_eq (n1 : Nat) (x0 : Int) (x3 : ByteArray) (h : AHeap) : s42_0 hk C N (n1 + 1) x0 x3 h =
  bif decide (x0 > 0) then aNewS h 5 [.int .u8 (IntKind.u8.wrap (IntKind.i64.wrap (48 + (Int.tmod x0 10))))] 1 fun p1 h2 => (aCvStr h2 p1).bind fun v3 => (asS v3).bind fun t4 => (aBin .add (.string t4) (.string x3)).bind fun v5 => (asS v5).bind fun t6 => s42_0 hk C N n1 (IntKind.i64.wrap (Int.tdiv x0 10)) t6 h2 else (aBin .add (.string (⟨#[109]⟩)) (.string x3)).bind fun v7 => (asS v7).bind fun t8 => some (.string t8, h) := by kernel_rfl
theorem c42 (d : Nat) (args : List Value) (h : AHeap) : call Tp Ms (d + 1) 42 args h = evFn hk0 Tp (call Tp Ms d) M42 d Try.f42 args h := by kernel_rfl
end
noncomputable section
variable (hk : Hk (Value × AHeap)) (C : ACall) (N : Nat)
theorem e74 (x0 x1 x2 : Value) (h : AHeap) : evFn hk Tp C M74 N Try.f74 [x0, x1, x2] h =
  (aCells x0).bind fun c1 => aNew h 30 c1 fun p2 h3 => (aCells x2).bind fun c4 => aNew h3 59 c4 fun p5 h6 => aNew h6 59 [.int .i64 0, .int .i64 0] fun p7 h8 => (aLdN h8 p5 2).bind fun v9 => (C 100 [v9] h8).bind fun r10 => (asB r10.1).bind fun b11 => bif !b11 then (aLdN r10.2 p5 2).bind fun v12 => ((aLdN r10.2 p5 2).bind fun v13 => some (vbeq v13 v12)).bind fun b14 => bif b14 then (aSt r10.2 p7 v12 2).bind fun h15 => (aLdN h15 p7 2).bind fun v16 => bif List.all [x1, v16] isS2 then some (.tuple (List.toArray [x1, v16]), h15) else none else none else (aLdN r10.2 p2 10).bind fun v17 => (aOff p5 1).bind fun v18 => (aLd1 r10.2 v18).bind fun v19 => (asI .i64 v19).bind fun n20 => (C 61 [v17, .int .i64 n20] r10.2).bind fun r21 => (asI .i64 r21.1).bind fun n22 => (C 111 [x1, .int .i64 n22] r21.2).bind fun r23 => (aExt r23.1 0).bind fun v24 => (aExt r23.1 1).bind fun v25 => (asI .i64 v25).bind fun n26 => (aOff p5 1).bind fun v27 => (aSt r23.2 v27 (.int .i64 n26) 1).bind fun h28 => (aLdN h28 p5 2).bind fun v29 => ((aLdN h28 p5 2).bind fun v30 => some (vbeq v30 v29)).bind fun b31 => bif b31 then (aSt h28 p7 v29 2).bind fun h32 => (aLdN h32 p7 2).bind fun v33 => bif List.all [v24, v33] isS2 then some (.tuple (List.toArray [v24, v33]), h32) else none else none := by kernel_rfl
theorem c74 (d : Nat) (args : List Value) (h : AHeap) : call Tp Ms (d + 1) 74 args h = evFn hk0 Tp (call Tp Ms d) M74 d Try.f74 args h := by kernel_rfl
def F75_1 : Nx (Value × AHeap) := evSt hk Tp C M75 N Try.f75 [1, 1, 1, 1, 1] []
def s75_1 (x1 : Value) (x2 : Int) (x3 x7 x9 x10 : Value) (h : AHeap) := hk 14 (⟨93, [(1, x1), (2, .int .i64 x2), (3, x3), (7, x7), (9, x9), (10, x10)]⟩) h (F75_1 hk C N)
def F75_0 : Nx (Value × AHeap) := evSt hk Tp C M75 N Try.f75 [1, 1, 1, 1, 0, 1, 2, 1, 5, 1] []
def s75_0 (x1 : Value) (x2 : Int) (x3 x7 x9 x10 : Value) (x30 : Int) (x37 : Bool) (h : AHeap) := hk 100009 (⟨93, [(1, x1), (2, .int .i64 x2), (3, x3), (7, x7), (9, x9), (10, x10), (30, .int .i64 x30), (37, .bool x37)]⟩) h (F75_0 hk C N)
def F75_2 (n1 : Nat) : Nx (Value × AHeap) := evSt hk Tp C M75 N Try.f75 [1, 1, 1, 1, 1, 0, 1, 2, 6] [n1]
def s75_2 (n1 : Nat) (x1 : Value) (x2 : Int) (x3 x7 x9 x10 : Value) (x11 : Int) (h : AHeap) := F75_2 hk C N n1 (⟨93, [(1, x1), (2, .int .i64 x2), (3, x3), (7, x7), (9, x9), (10, x10), (11, .int .i64 x11)]⟩) h
theorem e75 (x0 x1 : Value) (x2 : Int) (h : AHeap) : evFn hk Tp C M75 N Try.f75 [x0, x1, .int .i64 x2] h =
  (aCells x0).bind fun c1 => aNew h 30 c1 fun p2 h3 => aNew h3 73 [.int .i64 0, .int .i64 0, .int .i64 0, .int .i64 0, .string ⟨#[]⟩, .slice none 0 0] fun p4 h5 => (aLdN h5 p2 10).bind fun v6 => (C 55 [v6, .int .i64 x2] h5).bind fun r7 => aNew r7.2 102 [.int .i64 0, .int .i64 0, .int .i64 0] fun p8 h9 => (aSt h9 p8 r7.1 3).bind fun h10 => (aOff p8 0).bind fun v11 => (aLd1 h10 v11).bind fun v12 => (asI .i64 v12).bind fun n13 => (aOff p8 2).bind fun v14 => (aLd1 h10 v14).bind fun v15 => (asI .i64 v15).bind fun n16 => aNew h10 73 [.int .i64 0, .int .i64 0, .int .i64 0, .int .i64 0, .string ⟨#[]⟩, .slice none 0 0] fun p17 h18 => (aSt h18 p17 (.agg (List.toArray [.int .i64 n13, .int .i64 n16, .int .i64 0, .int .i64 0, .string ⟨#[]⟩, .slice none 0 0])) 6).bind fun h19 => (aOff p8 0).bind fun v20 => (aLd1 h19 v20).bind fun v21 => (asI .i64 v21).bind fun n22 => (aOff p8 1).bind fun v23 => (aLd1 h19 v23).bind fun v24 => (asI .i64 v24).bind fun n25 => (C 92 [.int .i64 n22, .int .i64 n25] h19).bind fun r26 => (aOff p8 0).bind fun v27 => (aLd1 r26.2 v27).bind fun v28 => (asI .i64 v28).bind fun n29 => bif n29 == 1 then (aLdN r26.2 p2 10).bind fun v30 => (C 60 [v30, .int .i64 x2] r26.2).bind fun r31 => (asS r31.1).bind fun t32 => (aOff p17 4).bind fun v33 => (aSt r31.2 v33 (.string t32) 1).bind fun h34 => s75_1 hk C N x1 x2 p2 p4 p17 r26.1 h34 else bif n29 == 2 then s75_0 hk C N x1 x2 p2 p4 p17 r26.1 n29 (n29 == 2) r26.2 else s75_0 hk C N x1 x2 p2 p4 p17 r26.1 n29 (n29 == 4) r26.2 := by kernel_rfl
theorem s75_1_j (x1 : Value) (x2 : Int) (x3 x7 x9 x10 : Value) (h : AHeap) : s75_1 hk0 C N x1 x2 x3 x7 x9 x10 h = F75_1 hk0 C N (⟨93, [(1, x1), (2, .int .i64 x2), (3, x3), (7, x7), (9, x9), (10, x10)]⟩) h := by delta s75_1; exact hk0_app _ _ _ _
theorem s75_1_eq (x1 : Value) (x2 : Int) (x3 x7 x9 x10 : Value) (h : AHeap) : F75_1 hk C N (⟨93, [(1, x1), (2, .int .i64 x2), (3, x3), (7, x7), (9, x9), (10, x10)]⟩) h =
  s75_2 hk C N N x1 x2 x3 x7 x9 x10 0 h := by kernel_rfl
theorem s75_0_j (x1 : Value) (x2 : Int) (x3 x7 x9 x10 : Value) (x30 : Int) (x37 : Bool) (h : AHeap) : s75_0 hk0 C N x1 x2 x3 x7 x9 x10 x30 x37 h = F75_0 hk0 C N (⟨93, [(1, x1), (2, .int .i64 x2), (3, x3), (7, x7), (9, x9), (10, x10), (30, .int .i64 x30), (37, .bool x37)]⟩) h := by delta s75_0; exact hk0_app _ _ _ _
theorem s75_0_eq (x1 : Value) (x2 : Int) (x3 x7 x9 x10 : Value) (x30 : Int) (x37 : Bool) (h : AHeap) : F75_0 hk C N (⟨93, [(1, x1), (2, .int .i64 x2), (3, x3), (7, x7), (9, x9), (10, x10), (30, .int .i64 x30), (37, .bool x37)]⟩) h =
  bif x37 then (aLdN h x3 10).bind fun v35 => (C 95 [v35, .int .i64 x2, .int .i64 1] h).bind fun r36 => (asI .i64 r36.1).bind fun n37 => (aOff x9 2).bind fun v38 => (aSt r36.2 v38 (.int .i64 n37) 1).bind fun h39 => s75_1 hk C N x1 x2 x3 x7 x9 x10 h39 else bif x30 == 6 then (aLdN h x3 10).bind fun v40 => (C 95 [v40, .int .i64 x2, .int .i64 1] h).bind fun r41 => (asI .i64 r41.1).bind fun n42 => (aOff x9 2).bind fun v43 => (aSt r41.2 v43 (.int .i64 n42) 1).bind fun h44 => (aLdN h44 x3 10).bind fun v45 => (C 95 [v45, .int .i64 x2, .int .i64 2] h44).bind fun r46 => (asI .i64 r46.1).bind fun n47 => (aOff x9 3).bind fun v48 => (aSt r46.2 v48 (.int .i64 n47) 1).bind fun h49 => (aOff x9 3).bind fun v50 => (aLd1 h49 v50).bind fun v51 => (asI .i64 v51).bind fun n52 => (aSub h49 3 x10 none (some (.int .i64 (IntKind.i64.wrap (n52 + 1)))) 1).bind fun v53 => s75_1 hk C N x1 x2 x3 x7 x9 v53 h49 else s75_1 hk C N x1 x2 x3 x7 x9 x10 h := by kernel_rfl
theorem s75_2_eq (n1 : Nat) (x1 : Value) (x2 : Int) (x3 x7 x9 x10 : Value) (x11 : Int) (h : AHeap) : s75_2 hk C N (n1 + 1) x1 x2 x3 x7 x9 x10 x11 h =
  (aLen x10).bind fun v54 => (asI .i64 v54).bind fun n55 => bif decide (x11 < n55) then (aOff x3 0).bind fun v56 => (aLd1 h v56).bind fun v57 => (aIdx x10 (.int .i64 x11) 1).bind fun v58 => (aLd1 h v58).bind fun v59 => (asI .i64 v59).bind fun n60 => aNew h 59 [.int .i64 0, .int .i64 0] fun p61 h62 => (C 93 [v57, .int .i64 (IntKind.i64.wrap (x2 + n60))] h62).bind fun r63 => (aExt r63.1 0).bind fun v64 => (aExt r63.1 1).bind fun v65 => (asB v65).bind fun b66 => (aSt r63.2 p61 v64 2).bind fun h67 => (aLdN h67 x3 10).bind fun v68 => (aLdN h67 p61 2).bind fun v69 => (C 74 [v68, x1, v69] h67).bind fun r70 => (aExt r70.1 0).bind fun v71 => (aExt r70.1 1).bind fun v72 => aNew r70.2 59 [.int .i64 0, .int .i64 0] fun p73 h74 => (aSt h74 p73 v72 2).bind fun h75 => (aOff x9 5).bind fun v76 => (aLd1 h75 v76).bind fun v77 => (aLdN h75 p73 2).bind fun v78 => (aFill [.int .i64 0, .int .i64 0] [(0, 2, v78)]).bind fun c79 => aNewS h75 59 c79 1 fun p80 h81 => (aApp h81 59 2 16 v77 p80).bind fun r82 => (aOff x9 5).bind fun v83 => (aSt r82.2 v83 r82.1 1).bind fun h84 => s75_2 hk C N n1 v71 x2 x3 x7 x9 x10 (IntKind.i64.wrap (x11 + 1)) h84 else (aLdN h x9 6).bind fun v85 => ((aLdN h x9 6).bind fun v86 => some (vbeq v86 v85)).bind fun b87 => bif b87 then (aSt h x7 v85 6).bind fun h88 => (aLdN h88 x7 6).bind fun v89 => bif List.all [x1, v89] isS2 then some (.tuple (List.toArray [x1, v89]), h88) else none else none := by kernel_rfl
theorem c75 (d : Nat) (args : List Value) (h : AHeap) : call Tp Ms (d + 1) 75 args h = evFn hk0 Tp (call Tp Ms d) M75 d Try.f75 args h := by kernel_rfl
def F76_0 : Nx (Value × AHeap) := evSt hk Tp C M76 N Try.f76 [1, 1, 1, 1, 1] []
def s76_0 (x3 x4 : Value) (x6 : Int) (h : AHeap) := hk 9 (⟨54, [(3, x3), (4, x4), (6, .int .i64 x6)]⟩) h (F76_0 hk C N)
theorem e76 (x0 x1 : Value) (h : AHeap) : evFn hk Tp C M76 N Try.f76 [x0, x1] h =
  (aCells x1).bind fun c1 => aNew h 59 c1 fun p2 h3 => aNew h3 59 [.int .i64 0, .int .i64 0] fun p4 h5 => (aLdN h5 p2 2).bind fun v6 => (C 112 [v6] h5).bind fun r7 => (asB r7.1).bind fun b8 => bif !b8 then (aLdN r7.2 p2 2).bind fun v9 => (aSt r7.2 p4 v9 2).bind fun h10 => (aLdN h10 p4 2).bind fun v11 => some (v11, h10) else (aNil x0).bind fun v12 => (aOff v12 0).bind fun v13 => (aLd1 r7.2 v13).bind fun v14 => (aLdN r7.2 p2 2).bind fun v15 => (C 71 [v14, v15] r7.2).bind fun r16 => (asI .i64 r16.1).bind fun n17 => (aNil x0).bind fun v18 => (aOff v18 1).bind fun v19 => (aLd1 r16.2 v19).bind fun v20 => (aMget r16.2 v20 (.int .i64 n17) (.int .i64 0) true).bind fun v21 => (aExt v21 0).bind fun v22 => (asI .i64 v22).bind fun n23 => (aExt v21 1).bind fun v24 => (asB v24).bind fun b25 => bif !b25 then (aNil x0).bind fun v26 => (aOff v26 2).bind fun v27 => (aLd1 r16.2 v27).bind fun v28 => (aLen v28).bind fun v29 => (asI .i64 v29).bind fun n30 => (aNil x0).bind fun v31 => (aOff v31 1).bind fun v32 => (aLd1 r16.2 v32).bind fun v33 => (aMset r16.2 v33 (.int .i64 n17) (.int .i64 n30)).bind fun h34 => (aNil x0).bind fun v35 => (aOff v35 2).bind fun v36 => (aLd1 h34 v36).bind fun v37 => aNewS h34 3 [.int .i64 n17] 1 fun p38 h39 => (aApp h39 3 1 8 v37 p38).bind fun r40 => (aNil x0).bind fun v41 => (aOff v41 2).bind fun v42 => (aSt r40.2 v42 r40.1 1).bind fun h43 => s76_0 hk C N p2 p4 n30 h43 else s76_0 hk C N p2 p4 n23 r16.2 := by kernel_rfl
theorem s76_0_j (x3 x4 : Value) (x6 : Int) (h : AHeap) : s76_0 hk0 C N x3 x4 x6 h = F76_0 hk0 C N (⟨54, [(3, x3), (4, x4), (6, .int .i64 x6)]⟩) h := by delta s76_0; exact hk0_app _ _ _ _
theorem s76_0_eq (x3 x4 : Value) (x6 : Int) (h : AHeap) : F76_0 hk C N (⟨54, [(3, x3), (4, x4), (6, .int .i64 x6)]⟩) h =
  (aOff x3 0).bind fun v44 => (aLd1 h v44).bind fun v45 => (asI .i64 v45).bind fun n46 => (aSt h x4 (.agg (List.toArray [.int .i64 n46, .int .i64 x6])) 2).bind fun h47 => (aLdN h47 x4 2).bind fun v48 => some (v48, h47) := by kernel_rfl
theorem c76 (d : Nat) (args : List Value) (h : AHeap) : call Tp Ms (d + 1) 76 args h = evFn hk0 Tp (call Tp Ms d) M76 d Try.f76 args h := by kernel_rfl
def F77_0 : Nx (Value × AHeap) := evSt hk Tp C M77 N Try.f77 [1, 1, 1, 1, 0, 1, 2, 1] []
def s77_0 (x0 : Value) (x1 : Int) (x4 x6 x7 : Value) (x28 : Int) (x29 : Bool) (h : AHeap) := hk 100007 (⟨111, [(0, x0), (1, .int .i64 x1), (4, x4), (6, x6), (7, x7), (28, .int .i64 x28), (29, .bool x29)]⟩) h (F77_0 hk C N)
def F77_1 : Nx (Value × AHeap) := evSt hk Tp C M77 N Try.f77 [1, 1, 1, 1, 1] []
def s77_1 (x0 : Value) (x1 : Int) (x4 x6 x7 : Value) (h : AHeap) := hk 14 (⟨111, [(0, x0), (1, .int .i64 x1), (4, x4), (6, x6), (7, x7)]⟩) h (F77_1 hk C N)
def F77_2 (n1 : Nat) : Nx (Value × AHeap) := evSt hk Tp C M77 N Try.f77 [1, 1, 1, 1, 1, 0, 1, 2, 6] [n1]
def s77_2 (n1 : Nat) (x0 : Value) (x1 : Int) (x4 x6 x87 : Value) (x88 x89 : Int) (h : AHeap) := F77_2 hk C N n1 (⟨111, [(0, x0), (1, .int .i64 x1), (4, x4), (6, x6), (87, x87), (88, .int .i64 x88), (89, .int .i64 x89)]⟩) h
theorem e77 (x0 : Value) (x1 : Int) (h : AHeap) : evFn hk Tp C M77 N Try.f77 [x0, .int .i64 x1] h =
  aNew h 73 [.int .i64 0, .int .i64 0, .int .i64 0, .int .i64 0, .string ⟨#[]⟩, .slice none 0 0] fun p1 h2 => (aNil x0).bind fun v3 => (aOff v3 0).bind fun v4 => (aLd1 h2 v4).bind fun v5 => (C 72 [v5, .int .i64 x1] h2).bind fun r6 => aNew r6.2 102 [.int .i64 0, .int .i64 0, .int .i64 0] fun p7 h8 => (aSt h8 p7 r6.1 3).bind fun h9 => (aOff p7 0).bind fun v10 => (aLd1 h9 v10).bind fun v11 => (asI .i64 v11).bind fun n12 => (aOff p7 2).bind fun v13 => (aLd1 h9 v13).bind fun v14 => (asI .i64 v14).bind fun n15 => aNew h9 73 [.int .i64 0, .int .i64 0, .int .i64 0, .int .i64 0, .string ⟨#[]⟩, .slice none 0 0] fun p16 h17 => (aSt h17 p16 (.agg (List.toArray [.int .i64 n12, .int .i64 n15, .int .i64 0, .int .i64 0, .string ⟨#[]⟩, .slice none 0 0])) 6).bind fun h18 => (aOff p7 0).bind fun v19 => (aLd1 h18 v19).bind fun v20 => (asI .i64 v20).bind fun n21 => (aOff p7 1).bind fun v22 => (aLd1 h18 v22).bind fun v23 => (asI .i64 v23).bind fun n24 => (C 113 [.int .i64 n21, .int .i64 n24] h18).bind fun r25 => (aOff p7 0).bind fun v26 => (aLd1 r25.2 v26).bind fun v27 => (asI .i64 v27).bind fun n28 => bif n28 == 2 then s77_0 hk C N x0 x1 p1 p16 r25.1 n28 (n28 == 2) r25.2 else s77_0 hk C N x0 x1 p1 p16 r25.1 n28 (n28 == 4) r25.2 := by kernel_rfl
theorem s77_0_j (x0 : Value) (x1 : Int) (x4 x6 x7 : Value) (x28 : Int) (x29 : Bool) (h : AHeap) : s77_0 hk0 C N x0 x1 x4 x6 x7 x28 x29 h = F77_0 hk0 C N (⟨111, [(0, x0), (1, .int .i64 x1), (4, x4), (6, x6), (7, x7), (28, .int .i64 x28), (29, .bool x29)]⟩) h := by delta s77_0; exact hk0_app _ _ _ _
theorem s77_0_eq (x0 : Value) (x1 : Int) (x4 x6 x7 : Value) (x28 : Int) (x29 : Bool) (h : AHeap) : F77_0 hk C N (⟨111, [(0, x0), (1, .int .i64 x1), (4, x4), (6, x6), (7, x7), (28, .int .i64 x28), (29, .bool x29)]⟩) h =
  bif x29 then (aNil x0).bind fun v29 => (aOff v29 0).bind fun v30 => (aLd1 h v30).bind fun v31 => (aNil v31).bind fun v32 => (aOff v32 0).bind fun v33 => (aLd1 h v33).bind fun v34 => (aIdx v34 (.int .i64 (IntKind.i64.wrap (x1 + 1))) 1).bind fun v35 => (aLd1 h v35).bind fun v36 => (asI .u64 v36).bind fun n37 => (aOff x6 2).bind fun v38 => (aSt h v38 (.int .i64 (IntKind.i64.wrap n37)) 1).bind fun h39 => s77_1 hk C N x0 x1 x4 x6 x7 h39 else bif x28 == 6 then (aNil x0).bind fun v40 => (aOff v40 0).bind fun v41 => (aLd1 h v41).bind fun v42 => (aNil v42).bind fun v43 => (aOff v43 0).bind fun v44 => (aLd1 h v44).bind fun v45 => (aIdx v45 (.int .i64 (IntKind.i64.wrap (x1 + 1))) 1).bind fun v46 => (aLd1 h v46).bind fun v47 => (asI .u64 v47).bind fun n48 => (aOff x6 2).bind fun v49 => (aSt h v49 (.int .i64 (IntKind.i64.wrap n48)) 1).bind fun h50 => (aNil x0).bind fun v51 => (aOff v51 0).bind fun v52 => (aLd1 h50 v52).bind fun v53 => (aNil v53).bind fun v54 => (aOff v54 0).bind fun v55 => (aLd1 h50 v55).bind fun v56 => (aIdx v56 (.int .i64 (IntKind.i64.wrap (x1 + 2))) 1).bind fun v57 => (aLd1 h50 v57).bind fun v58 => (asI .u64 v58).bind fun n59 => (aOff x6 3).bind fun v60 => (aSt h50 v60 (.int .i64 (IntKind.i64.wrap n59)) 1).bind fun h61 => (aOff x6 3).bind fun v62 => (aLd1 h61 v62).bind fun v63 => (asI .i64 v63).bind fun n64 => (aSub h61 3 x7 none (some (.int .i64 (IntKind.i64.wrap (n64 + 1)))) 1).bind fun v65 => s77_1 hk C N x0 x1 x4 x6 v65 h61 else bif x28 == 1 then (aNil x0).bind fun v66 => (aOff v66 0).bind fun v67 => (aLd1 h v67).bind fun v68 => (C 70 [v68, .int .i64 x1] h).bind fun r69 => (asS r69.1).bind fun t70 => (aOff x6 4).bind fun v71 => (aSt r69.2 v71 (.string t70) 1).bind fun h72 => s77_1 hk C N x0 x1 x4 x6 x7 h72 else s77_1 hk C N x0 x1 x4 x6 x7 h := by kernel_rfl
theorem s77_1_j (x0 : Value) (x1 : Int) (x4 x6 x7 : Value) (h : AHeap) : s77_1 hk0 C N x0 x1 x4 x6 x7 h = F77_1 hk0 C N (⟨111, [(0, x0), (1, .int .i64 x1), (4, x4), (6, x6), (7, x7)]⟩) h := by delta s77_1; exact hk0_app _ _ _ _
theorem s77_1_eq (x0 : Value) (x1 : Int) (x4 x6 x7 : Value) (h : AHeap) : F77_1 hk C N (⟨111, [(0, x0), (1, .int .i64 x1), (4, x4), (6, x6), (7, x7)]⟩) h =
  (aLen x7).bind fun v73 => (asI .i64 v73).bind fun n74 => s77_2 hk C N N x0 x1 x4 x6 x7 n74 0 h := by kernel_rfl
theorem s77_2_eq (n1 : Nat) (x0 : Value) (x1 : Int) (x4 x6 x87 : Value) (x88 x89 : Int) (h : AHeap) : s77_2 hk C N (n1 + 1) x0 x1 x4 x6 x87 x88 x89 h =
  bif decide (x89 < x88) then (aIdx x87 (.int .i64 x89) 1).bind fun v75 => (aLd1 h v75).bind fun v76 => (asI .i64 v76).bind fun n77 => (aNil x0).bind fun v78 => (aOff v78 0).bind fun v79 => (aLd1 h v79).bind fun v80 => (C 114 [v80, .int .i64 (IntKind.i64.wrap (x1 + n77))] h).bind fun r81 => (C 76 [x0, r81.1] r81.2).bind fun r82 => aNew r82.2 59 [.int .i64 0, .int .i64 0] fun p83 h84 => (aSt h84 p83 r82.1 2).bind fun h85 => (aOff x6 5).bind fun v86 => (aLd1 h85 v86).bind fun v87 => (aLdN h85 p83 2).bind fun v88 => (aFill [.int .i64 0, .int .i64 0] [(0, 2, v88)]).bind fun c89 => aNewS h85 59 c89 1 fun p90 h91 => (aApp h91 59 2 16 v87 p90).bind fun r92 => (aOff x6 5).bind fun v93 => (aSt r92.2 v93 r92.1 1).bind fun h94 => s77_2 hk C N n1 x0 x1 x4 x6 x87 x88 (IntKind.i64.wrap (x89 + 1)) h94 else (aLdN h x6 6).bind fun v95 => (aSt h x4 v95 6).bind fun h96 => (aLdN h96 x4 6).bind fun v97 => some (v97, h96) := by kernel_rfl
theorem c77 (d : Nat) (args : List Value) (h : AHeap) : call Tp Ms (d + 1) 77 args h = evFn hk0 Tp (call Tp Ms d) M77 d Try.f77 args h := by kernel_rfl
def F111_0 (n1 : Nat) : Nx (Value × AHeap) := evSt hk Tp C M111 N Try.f111 [1, 0, 1, 2, 6] [n1]
def s111_0 (n1 : Nat) (x0 : Value) (x1 x6 : Int) (h : AHeap) := F111_0 hk C N n1 (⟨27, [(0, x0), (1, .int .i64 x1), (6, .int .i64 x6)]⟩) h
theorem e111 (x0 : Value) (x1 : Int) (h : AHeap) : evFn hk Tp C M111 N Try.f111 [x0, .int .i64 x1] h =
  s111_0 hk C N N x0 x1 0 h := by kernel_rfl
theorem s111_0_eq (n1 : Nat) (x0 : Value) (x1 x6 : Int) (h : AHeap) : s111_0 hk C N (n1 + 1) x0 x1 x6 h =
  (aLen x0).bind fun v1 => (asI .i64 v1).bind fun n2 => bif decide (x6 < n2) then (aIdx x0 (.int .i64 x6) 1).bind fun v3 => (aLd1 h v3).bind fun v4 => (asI .i64 v4).bind fun n5 => bif n5 == x1 then bif List.all [x0, .int .i64 x6] isS2 then some (.tuple (List.toArray [x0, .int .i64 x6]), h) else none else s111_0 hk C N n1 x0 x1 (IntKind.i64.wrap (x6 + 1)) h else aNewS h 3 [.int .i64 x1] 1 fun p6 h7 => (aApp h7 3 1 8 x0 p6).bind fun r8 => (aLen x0).bind fun v9 => (asI .i64 v9).bind fun n10 => bif List.all [r8.1, .int .i64 n10] isS2 then some (.tuple (List.toArray [r8.1, .int .i64 n10]), r8.2) else none := by kernel_rfl
theorem c111 (d : Nat) (args : List Value) (h : AHeap) : call Tp Ms (d + 1) 111 args h = evFn hk0 Tp (call Tp Ms d) M111 d Try.f111 args h := by kernel_rfl
end
open Go Go.AH Go.AM
theorem wr0 {k : Nat} (h : k < 4611686018427387904) : IntKind.i64.wrap ((k : Int) + 1) = ((k + 1 : Nat) : Int) := by
 rw [wr (by omega) (by omega)]; rfl
def numM (ps : List Int) (p : Int) : Option (List Int × Int) := if 2000000 < ps.length then none else if p ∈ ps then some (ps, ((ps.idxOf p : Nat) : Int)) else (grow ps p).bind fun l => some (l, (ps.length : Int))
theorem idx_first (p : Int) : ∀ (l : List Int) (k : Nat), ¬ p ∈ l.take k → l[k]? = some p → l.idxOf p = k
 | [], k, _, h => by cases h
 | x :: l, 0, _, h => by cases h; simp
 | x :: l, k + 1, hk, h => by
  rw [List.take_succ_cons, List.mem_cons, not_or] at hk
  rw [List.getElem?_cons_succ] at h
  rw [List.idxOf_cons, show (x == p) = false by simp; exact fun e => hk.1 e.symm, idx_first p l k hk.2 h]
  rfl
def RNum {T : Type} (h : AHeap) (enc : T → Value) (F : List FRow) (rt : Nat) (Q : List ORow) (M : List MRow) : List Int × T → Value → AHeap → Prop :=
 fun r v g => ∃ i, v = .tuple (List.toArray [slc i 0 r.1.length, enc r.2]) ∧ Cx h.size g F (⟨i, rt, 3, true, r.1.map (Value.int .i64)⟩ :: Q) M
theorem tS111_0 {D N : Nat} {h : AHeap} {F : List FRow} {Q : List ORow} {M : List MRow} {i rt : Nat} (ps : List Int) (p : Int) (g : AHeap) (E0 : Ext h.size h g) (y0 : Cx h.size g F (⟨i, rt, 3, true, ps.map (Value.int .i64)⟩ :: Q) M) (hl : ps.length ≤ 2000000) :
  ∀ (f k : Nat), ps.length - k < f → k ≤ ps.length → ¬ p ∈ ps.take k → SmR h (RNum h (Value.int .i64) F rt Q M) (numM ps p) (s111_0 hk0 (call Tp Ms D) N f (slc i 0 ps.length) p (k : Int) g)
 | 0, _, h, _, _ => absurd h (Nat.not_lt_zero _)
 | f + 1, k, hf, hk, hn => by
  rw [s111_0_eq]
  refine Sm.b rfl ?_
  refine Sm.b rfl ?_
  by_cases c : k < ps.length
  ·refine Sm.ct (decide_eq_true (by omega)) ?_
   have er : rd ps (k : Int) = some ps[k] := rd_at c
   obtain ⟨a1, a2⟩ := y0.atS 0 (Value.int .i64) ps rfl (LV.mk _ _) er
   refine Sm.b a1 ?_
   refine Sm.b a2 ?_
   refine Sm.b rfl ?_
   by_cases e : ps[k] = p
   ·refine Sm.ct (beq_iff_eq.2 e) ?_
    refine Sm.ct rfl ?_
    have hm : p ∈ ps := e ▸ List.getElem_mem c
    have : numM ps p = some (ps, (k : Int)) := by
     unfold numM
     rw [if_neg (by omega), if_pos hm, idx_first p ps k hn (by rw [List.getElem?_eq_getElem c, e])]
    rw [this]
    exact Sm.fin E0 ⟨i, rfl, y0⟩
   ·refine Sm.cf (beq_eq_false_iff_ne.2 e) ?_
    rw [wr0 (by omega)]
    refine tS111_0 ps p g E0 y0 hl f (k + 1) (by omega) c (fun hm => ?_)
    rw [List.take_succ_eq_append_getElem c, List.mem_append, List.mem_singleton] at hm
    rcases hm with hm | hm
    ·exact hn hm
    ·exact e hm.symm
  ·refine Sm.cf (decide_eq_false (by omega)) ?_
   have hm : ¬ p ∈ ps := by rw [List.take_of_length_le (by omega)] at hn; exact hn
   have : numM ps p = (grow ps p).bind fun l => some (l, (ps.length : Int)) := by unfold numM; rw [if_neg (by omega), if_neg hm]
   rw [this]
   refine Sm.ns y0 fun p2 g2 X2 y2 => ?_
   have E2 := E0.trans (X2.mono E0.size)
   refine Sm.ap (Value.int .i64) y2 1 ps (by decide) rfl (y2.ldO 0 0 rfl rfl) fun i3 g3 l3 e3 X3 y3 => ?_
   have E3 := E2.trans X3
   refine Sm.b rfl ?_
   refine Sm.b rfl ?_
   refine Sm.ct rfl ?_
   exact Sm.fin E3 ⟨i3, rfl, y3.pick (.cons _ (List.Sublist.refl _))⟩
theorem t111 {D : Nat} {h : AHeap} (hD : 2000002 ≤ D) {F : List FRow} {Q : List ORow} {M : List MRow} {i rt : Nat} (ps : List Int) (p : Int) (g : AHeap) (E0 : Ext h.size h g) (y0 : Cx h.size g F (⟨i, rt, 3, true, ps.map (Value.int .i64)⟩ :: Q) M) :
  SmR h (RNum h (Value.int .i64) F rt Q M) (numM ps p) (call Tp Ms D 111 [slc i 0 ps.length, .int .i64 p] g) := by
 obtain ⟨D, rfl⟩ : ∃ d, D = d + 1 := ⟨D - 1, by omega⟩
 rw [c111, e111]
 by_cases hl : ps.length ≤ 2000000
 case neg =>
  have : numM ps p = none := if_pos (by omega)
  rw [this]; exact Sm.none
 exact tS111_0 ps p g E0 y0 hl D 0 (by omega) (Nat.zero_le _) (by simp)
def val7 (a : Ar) (ps : List Int) (v : Vl) : Option (List Int × Vl) := (m100 v).bind fun b => bif !b then some (ps, v) else (m61 a v.n).bind fun q => (numM ps q).bind fun r => some (r.1, ⟨v.t, r.2⟩)
theorem t74 {D : Nat} {h : AHeap} (hD : 2000003 ≤ D) {wv rv : Value} {a : Ar} (H : ArH h wv rv a) {F : List FRow} {Q : List ORow} {M : List MRow} {i rt : Nat} (ps : List Int) (v : Vl) (g0 : AHeap) (E0 : Ext h.size h g0) (y0 : Cx h.size g0 F (⟨i, rt, 3, true, ps.map (Value.int .i64)⟩ :: Q) M) :
  SmR h (RNum h Vl.v F rt Q M) (val7 a ps v) (call Tp Ms D 74 [arV wv rv a, slc i 0 ps.length, v.v] g0) := by
 obtain ⟨D, rfl⟩ : ∃ d, D = d + 1 := ⟨D - 1, by omega⟩
 rw [c74, e74]
 unfold val7
 refine Sm.b H.cells ?_
 refine Sm.n y0 fun p1 g1 X1 y1 => ?_
 have E1 := E0.trans (X1.mono E0.size)
 refine Sm.b rfl ?_
 refine Sm.n y1 fun p2 g2 X2 y2 => ?_
 have E2 := E1.trans (X2.mono E1.size)
 refine Sm.n y2 fun p3 g3 X3 y3 => ?_
 have E3 := E2.trans (X3.mono E2.size)
 refine Sm.b (y3.ldON 1 rfl rfl) ?_
 refine Sm.c (t100 (by omega) v) fun r4 g4 e4 X4 => ?_
 have y4 := y3.ext X4
 have E4 := E3.trans (X4.mono E3.size)
 refine Sm.b rfl ?_
 refine Sm.i (fun k5 => ?_) (fun k5 => ?_)
 ·refine Sm.b (y4.ldON 1 rfl rfl) ?_
  refine Sm.b (agA (y4.ldON 1 rfl rfl) (vbVl v)) ?_
  refine Sm.ct rfl ?_
  refine Sm.sts y4 0 [.int .i64 v.t, .int .i64 v.n] rfl rfl rfl (by simp) rfl fun g5 X5 y5 => ?_
  have E5 := E4.trans X5
  refine Sm.b (y5.ldON 0 rfl rfl) ?_
  refine Sm.ct rfl ?_
  exact Sm.fin E5 ⟨i, rfl, y5.pick (.cons _ (.cons _ (.cons _ (List.Sublist.refl _))))⟩
 ·refine Sm.b (y4.ldON 2 rfl rfl) ?_
  refine Sm.b rfl ?_
  refine Sm.b (y4.ldO 1 1 rfl rfl) ?_
  refine Sm.b rfl ?_
  refine Sm.c (t61 (by omega) (H.ext E4) v.n) fun r6 g6 e6 X6 => ?_
  have y6 := y4.ext X6
  have E6 := E4.trans (X6.mono E4.size)
  refine Sm.b rfl ?_
  refine Sm.cr (t111 (by omega) ps r6 g6 E6 (y6.front 3 rfl)) fun r7 v7 g7 e7 E7 R7 => ?_
  obtain ⟨i7, rfl, y7⟩ := R7
  refine Sm.b rfl ?_
  refine Sm.b rfl ?_
  refine Sm.b rfl ?_
  refine Sm.b rfl ?_
  refine Sm.sts y7 2 [.int .i64 v.t, .int .i64 r7.2] rfl rfl rfl (by simp) rfl fun g8 X8 y8 => ?_
  have E8 := E7.trans X8
  refine Sm.b (y8.ldON 2 rfl rfl) ?_
  refine Sm.b (agA (y8.ldON 2 rfl rfl) (vbVl ⟨v.t, r7.2⟩)) ?_
  refine Sm.ct rfl ?_
  refine Sm.sts y8 1 [.int .i64 v.t, .int .i64 r7.2] rfl rfl rfl (by simp) rfl fun g9 X9 y9 => ?_
  have E9 := E8.trans X9
  refine Sm.b (y9.ldON 1 rfl rfl) ?_
  refine Sm.ct rfl ?_
  exact Sm.fin E9 ⟨i7, rfl, y9.pick (.cons_cons _ (.cons _ (.cons _ (.cons _ (List.Sublist.refl _)))))⟩
open Go Go.AH Go.AM
theorem vbS (t : ByteArray) : vbeq (.string t) (.string t) = true := by
 simp [vbeq, vbeq1, BEq.beq, ByteArray.beq]
 exact Array.isEqv_self _
structure Nd where
 k : Int
 s : Int
 n : Int
 m : Int
 t : ByteArray
 sl : List Vl
def Nd.cs (x : Nd) (sv : Value) : List Value := [.int .i64 x.k, .int .i64 x.s, .int .i64 x.n, .int .i64 x.m, .string x.t, sv]
theorem vbNd (x : Nd) {sv : Value} (h : vbeq sv sv = true) (hc : isCell sv = true) : vbeq (.agg (List.toArray (x.cs sv))) (.agg (List.toArray (x.cs sv))) = true := by
 have h1 := vb1 h hc
 show (vbeq1 (.int .i64 x.k) (.int .i64 x.k) && (vbeq1 (.int .i64 x.s) (.int .i64 x.s) && (vbeq1 (.int .i64 x.n) (.int .i64 x.n) && (vbeq1 (.int .i64 x.m) (.int .i64 x.m) && (vbeq1 (.string x.t) (.string x.t) && (vbeq1 sv sv && true)))))) = true
 rw [h1, show vbeq1 (.string x.t) (.string x.t) = true from vbS x.t]; simp [vbeq1]
theorem ndCells (x : Nd) {sv : Value} (hc : isCell sv = true) : aCells (.agg (List.toArray (x.cs sv))) = some (x.cs sv) := by
 show (if (List.all (x.cs sv) isCell) = true then some (x.cs sv) else none) = _
 rw [if_pos]
 show (true && (true && (true && (true && (true && (isCell sv && true)))))) = true
 rw [hc]; rfl
def cV (x : Vl) : List Value := [.int .i64 x.t, .int .i64 x.n]
theorem cV_len (x : Vl) : (cV x).length = 2 := rfl
theorem atT {b : Nat} {g : AHeap} {F : List FRow} {O : List ORow} {M : List MRow} (y : Cx b g F O M) (n : Nat) {i rt : Nat} {t : TypeId} {lv : Bool} {α : Type} (c : α → Value) (l : List α) {v : Value} {m : Nat} {x : Int} {w : α} (e : O[n]? = some ⟨i, rt, t, lv, l.map c⟩) (hv : LV v i lv m) (hm : m ≤ l.length)
  (er : rd (l.take m) x = some w) : aIdx v (.int .i64 x) 1 = some (ptr i x.toNat) ∧ aLd1 g (ptr i x.toNat) = some (c w) := by
 obtain ⟨h0, h1, h2⟩ := rd_some er
 rw [List.length_take, Nat.min_eq_left hm] at h1
 have h3 : l[x.toNat]? = some w := by
  rw [List.getElem?_take_of_lt (by omega)] at h2; exact h2
 rcases hv with ⟨_, rfl⟩ | ⟨_, rfl, hz⟩
 ·refine ⟨by simp [aIdx, slc, h0, h1], y.ldO n _ e ?_⟩
  rw [List.getElem?_map, h3]; rfl
 ·omega
def RNode (h : AHeap) (F : List FRow) (rt : Nat) (Q : List ORow) (M : List MRow) : List Int × Nd → Value → AHeap → Prop :=
 fun r v g => ∃ i sv, v = .tuple (List.toArray [slc i 0 r.1.length, .agg (List.toArray (r.2.cs sv))]) ∧ isCell sv = true ∧ Cx h.size g F (⟨i, rt, 3, true, r.1.map (Value.int .i64)⟩ :: Q) M
def mS75_2 (a : Ar) : Nat → Int → List Int → List Int → List Vl → Int → Option (List Int × List Vl)
 | 0, _, _, _, _, _ => none
 | f + 1, p, ls, ps, sl, i => bif decide (i < (ls.length : Int)) then (rd ls i).bind fun k => (m93 a.ws (IntKind.i64.wrap (p + k))).bind fun r => (val7 a ps r.1).bind fun q => (grow sl q.2).bind fun sl' => mS75_2 a f p ls q.1 sl' (IntKind.i64.wrap (i + 1))
  else some (ps, sl)
theorem tS75_2 {D N : Nat} {h : AHeap} (hD : 2000003 ≤ D) (hN : 20000 ≤ N) {wv rv : Value} {a : Ar} (H : ArH h wv rv a) {F : List FRow} {Q : List ORow} {M : List MRow} {rt il rl pn pa pt : Nat} {lvl : Bool} {tmp : List Value} (htmp : tmp.length = 6) (ls : List Int) {m : Nat} {xs : Value} (hx : LV xs il lvl m) (hm : m ≤ ls.length) (p : Int) (nd : Nd) :
  ∀ (f n2 : Nat) (_ : f ≤ n2) (ps : List Int) (i : Nat) (sl : List Vl) (iv rtv : Nat) (lv : Bool) (sv : Value) (_ : LV sv iv lv sl.length) (x : Int) (g : AHeap) (_ : Ext h.size h g)
   (_ : Cx h.size g F (⟨i, rt, 3, true, ps.map (Value.int .i64)⟩ :: ⟨iv, rtv, 59, lv, fl cV sl⟩ :: ⟨pn, pn, 73, true, nd.cs sv⟩ :: ⟨il, rl, 3, lvl, ls.map (Value.int .i64)⟩ :: ⟨pa, pa, 30, true, arCells wv rv a⟩ :: ⟨pt, pt, 73, true, tmp⟩ :: Q) M),
   SmR h (RNode h F rt Q M) ((mS75_2 a f p (ls.take m) ps sl x).bind fun r => some (r.1, { nd with sl := r.2 })) (s75_2 hk0 (call Tp Ms D) N n2 (slc i 0 ps.length) p (ptr pa 0) (ptr pt 0) (ptr pn 0) xs x g) := by
 intro f
 induction f with
 | zero => intros; exact Sm.none
 | succ f ih =>
  intro n2 hf ps i sl iv rtv lv sv hsv x g0 E0 y0
  obtain ⟨n2, rfl⟩ : ∃ k, n2 = k + 1 := ⟨n2 - 1, by omega⟩
  rw [s75_2_eq, mS75_2]
  have hlen : (ls.take m).length = m := by rw [List.length_take, Nat.min_eq_left hm]
  rw [hlen]
  refine Sm.b hx.len ?_
  refine Sm.b rfl ?_
  cases hc : decide (x < (m : Int)) with
  | true =>
   rw [cond_true, cond_true, Option.bind_assoc]
   refine Sm.b rfl ?_
   refine Sm.b (y0.ldO 4 0 rfl rfl) ?_
   refine Sm.mo fun k ek => ?_
   obtain ⟨a1, a2⟩ := atT y0 3 (Value.int .i64) ls rfl hx hm ek
   refine Sm.b a1 ?_
   refine Sm.b a2 ?_
   refine Sm.b rfl ?_
   refine Sm.n y0 fun p1 g1 X1 y1 => ?_
   have E1 := E0.trans (X1.mono E0.size)
   rw [Option.bind_assoc]
   refine Sm.c (t93 (by omega) (H.ext E1).w (IntKind.i64.wrap (p + k))) fun r2 g2 e2 X2 => ?_
   have y2 := y1.ext X2
   have E2 := E1.trans (X2.mono E1.size)
   refine Sm.b rfl ?_
   refine Sm.b rfl ?_
   refine Sm.b rfl ?_
   refine Sm.sts y2 0 [.int .i64 r2.1.t, .int .i64 r2.1.n] rfl rfl rfl (by simp) rfl fun g3 X3 y3 => ?_
   have E3 := E2.trans X3
   refine Sm.b (y3.ldON 5 rfl rfl) ?_
   refine Sm.b (y3.ldON 0 rfl rfl) ?_
   rw [Option.bind_assoc]
   refine Sm.cr (t74 (by omega) H ps r2.1 g3 E3 (y3.front 1 rfl)) fun r4 v4 g4 e4 E4 R4 => ?_
   obtain ⟨i4, rfl, y4⟩ := R4
   refine Sm.b rfl ?_
   refine Sm.b rfl ?_
   refine Sm.n y4 fun p5 g5 X5 y5 => ?_
   have E5 := E4.trans (X5.mono E4.size)
   refine Sm.sts y5 0 [.int .i64 r4.2.t, .int .i64 r4.2.n] rfl rfl rfl (by simp) rfl fun g6 X6 y6 => ?_
   have E6 := E5.trans X6
   refine Sm.b rfl ?_
   refine Sm.b (y6.ldO 4 5 rfl rfl) ?_
   refine Sm.b (y6.ldON 0 rfl rfl) ?_
   refine Sm.b rfl ?_
   refine Sm.ns y6 fun p7 g7 X7 y7 => ?_
   have E7 := E6.trans (X7.mono E6.size)
   rw [Option.bind_assoc]
   refine Sm.apG cV cV_len (by decide) y7 4 sl (z := r4.2) rfl hsv (src1 y7 0 rfl rfl) fun i8 rt8 g8 l8 e8 X8 y8 => ?_
   have E8 := E7.trans X8
   refine Sm.b rfl ?_
   refine Sm.sts y8 5 (nd.cs (slc i8 0 l8.length)) rfl rfl rfl (by simp [Nd.cs]) rfl fun g9 X9 y9 => ?_
   have E9 := E8.trans X9
   exact ih _ (by omega) r4.1 i4 l8 i8 rt8 true (slc i8 0 l8.length) (LV.mk _ _) (IntKind.i64.wrap (x + 1)) _ E9 (((y9.pick (.cons _ (.cons _ (.cons_cons _ (.cons _ (List.Sublist.refl _))))))))
  | false =>
   rw [cond_false, cond_false, oBs]
   have vb := vbNd nd hsv.vb hsv.isc
   refine Sm.b (y0.ldON 2 rfl rfl) ?_
   refine Sm.b (agA (y0.ldON 2 rfl rfl) vb) ?_
   refine Sm.ct rfl ?_
   refine Sm.sts y0 5 (nd.cs sv) rfl (ndCells nd hsv.isc) rfl (by rw [htmp]; simp) (by unfold splice; simp [htmp, Nd.cs]) fun g1 X1 y1 => ?_
   have E1 := E0.trans X1
   refine Sm.b (y1.ldON 5 rfl rfl) ?_
   have hS2 : List.all [slc i 0 ps.length, .agg (List.toArray (nd.cs sv))] isS2 = true := by
    have := hsv.isc
    rcases hsv with ⟨_, rfl⟩ | ⟨_, rfl, _⟩ <;> rfl
   refine Sm.ct hS2 ?_
   exact Sm.fin E1 ⟨i, sv, rfl, hsv.isc, y1.pick (.cons_cons _ (.cons _ (.cons _ (.cons _ (.cons _ (.cons _ (List.Sublist.refl _)))))))⟩
def takeM (l : List Int) (n : Int) : Option (List Int) := if 0 ≤ n ∧ n ≤ l.length ∧ 0 < l.length then some (l.take n.toNat) else none
def slots7 (a : Ar) (p : Int) (ls ps : List Int) (nd : Nd) : Option (List Int × Nd) := (mS75_2 a 20000 p ls ps [] 0).bind fun r => some (r.1, { nd with sl := r.2 })
def node7 (a : Ar) (ps : List Int) (p : Int) : Option (List Int × Nd) :=
 (m55 a p).bind fun h => (m92 h.k h.s).bind fun ls =>
  bif h.k == 1 then (m60 a p).bind fun t => slots7 a p ls ps ⟨h.k, h.n, 0, 0, t, []⟩
  else bif h.k == 2 then (m95 a p 1).bind fun n => slots7 a p ls ps ⟨h.k, h.n, n, 0, ⟨#[]⟩, []⟩
  else bif h.k == 4 then (m95 a p 1).bind fun n => slots7 a p ls ps ⟨h.k, h.n, n, 0, ⟨#[]⟩, []⟩
  else bif h.k == 6 then (m95 a p 1).bind fun n => (m95 a p 2).bind fun m => (takeM ls (IntKind.i64.wrap (m + 1))).bind fun ls' => slots7 a p ls' ps ⟨h.k, h.n, n, m, ⟨#[]⟩, []⟩
  else slots7 a p ls ps ⟨h.k, h.n, 0, 0, ⟨#[]⟩, []⟩
theorem t75_1 {D N : Nat} {h : AHeap} (hD : 2000003 ≤ D) (hN : 20000 ≤ N) {wv rv : Value} {a : Ar} (H : ArH h wv rv a) {F : List FRow} {Q : List ORow} {M : List MRow} {i rt il rl pn pa pt : Nat} {lvl : Bool} {tmp : List Value} (htmp : tmp.length = 6) (ps ls : List Int) {m : Nat} {xs : Value} (hx : LV xs il lvl m) (hm : m ≤ ls.length) (p : Int) (nd : Nd)
  (g : AHeap) (E0 : Ext h.size h g) (y0 : Cx h.size g F (⟨pn, pn, 73, true, nd.cs (.slice none 0 0)⟩ :: ⟨il, rl, 3, lvl, ls.map (Value.int .i64)⟩ :: ⟨pa, pa, 30, true, arCells wv rv a⟩ :: ⟨pt, pt, 73, true, tmp⟩ :: ⟨i, rt, 3, true, ps.map (Value.int .i64)⟩ :: Q) M) :
  SmR h (RNode h F rt Q M) (slots7 a p (ls.take m) ps nd) (s75_1 hk0 (call Tp Ms D) N (slc i 0 ps.length) p (ptr pa 0) (ptr pt 0) (ptr pn 0) xs g) := by
 rw [s75_1_j, s75_1_eq]
 have y1 := y0.add (Ext.refl g.size g) (i := 0) (rt := 0) (e := 59) (cs := []) (lv := false) (fun h => by cases h) (fun _ => rfl)
 have y2 := y1.front 5 rfl
 exact tS75_2 hD hN H htmp ls hx hm p nd 20000 N hN ps i [] 0 0 false (.slice none 0 0) (.inr ⟨rfl, rfl, rfl⟩) 0 g E0 y2
theorem sub0 {b : Nat} {g : AHeap} {F : List FRow} {O : List ORow} {M : List MRow} (y : Cx b g F O M) (n : Nat) {i rt : Nat} {t : TypeId} {lv : Bool} {cs : List Value} {v : Value} {m : Nat} {x : Int} (e : O[n]? = some ⟨i, rt, t, lv, cs⟩) (hv : LV v i lv m) (h0 : 0 ≤ x) (h1 : x ≤ m) (hm : 0 < m) :
  aSub g t v none (some (.int .i64 x)) 1 = some (slc i 0 x.toNat) ∧ lv = true := by
 rcases hv with ⟨hl, rfl⟩ | ⟨_, rfl, hz⟩
 ·subst hl
  obtain ⟨⟨ep, a⟩, _⟩ := (y.ow _ (List.mem_of_getElem? e)).1 rfl
  have a' : g.at? i = _ := a
  have b1 : aBound (.int .i64 x) m = some x.toNat := if_pos ⟨h0, h1⟩
  simp [aSub, slc, a', b1]
 ·omega
theorem ord75 {b : Nat} {g : AHeap} {F : List FRow} {X1 X2 X3 X4 X5 X6 : ORow} {Q : List ORow} {M : List MRow} (y : Cx b g F (X1 :: X2 :: X3 :: X4 :: X5 :: X6 :: Q) M) : Cx b g F (X2 :: X1 :: X5 :: X4 :: X6 :: Q) M :=
 ((((y.pick (O' := X1 :: X2 :: X4 :: X5 :: X6 :: Q) (.cons_cons _ (.cons_cons _ (.cons _ (List.Sublist.refl _))))).front 2 rfl).front 3 rfl).front 2 rfl).front 3 rfl
theorem t75 {D : Nat} {h : AHeap} (hD : 2000004 ≤ D) {wv rv : Value} {a : Ar} (H : ArH h wv rv a) {F : List FRow} {Q : List ORow} {M : List MRow} {i rt : Nat} (ps : List Int) (p : Int) (g0 : AHeap) (E0 : Ext h.size h g0) (y0 : Cx h.size g0 F (⟨i, rt, 3, true, ps.map (Value.int .i64)⟩ :: Q) M) :
  SmR h (RNode h F rt Q M) (node7 a ps p) (call Tp Ms D 75 [arV wv rv a, slc i 0 ps.length, .int .i64 p] g0) := by
 obtain ⟨D, rfl⟩ : ∃ d, D = d + 1 := ⟨D - 1, by omega⟩
 rw [c75, e75]
 unfold node7
 refine Sm.b H.cells ?_
 refine Sm.n y0 fun p1 g1 X1 y1 => ?_
 have E1 := E0.trans (X1.mono E0.size)
 refine Sm.n y1 fun p2 g2 X2 y2 => ?_
 have E2 := E1.trans (X2.mono E1.size)
 refine Sm.b (y2.ldON 1 rfl rfl) ?_
 refine Sm.c (t55 (by omega) (H.ext E2) p) fun r3 g3 e3 X3 => ?_
 have y3 := y2.ext X3
 have E3 := E2.trans (X3.mono E2.size)
 refine Sm.n y3 fun p4 g4 X4 y4 => ?_
 have E4 := E3.trans (X4.mono E3.size)
 refine Sm.sts y4 0 [.int .i64 r3.k, .int .i64 r3.s, .int .i64 r3.n] rfl rfl rfl (by simp) rfl fun g5 X5 y5 => ?_
 have E5 := E4.trans X5
 refine Sm.b rfl ?_
 refine Sm.b (y5.ldO 0 0 rfl rfl) ?_
 refine Sm.b rfl ?_
 refine Sm.b rfl ?_
 refine Sm.b (y5.ldO 0 2 rfl rfl) ?_
 refine Sm.b rfl ?_
 refine Sm.n y5 fun p6 g6 X6 y6 => ?_
 have E6 := E5.trans (X6.mono E5.size)
 refine Sm.sts y6 0 ((⟨r3.k, r3.n, 0, 0, ⟨#[]⟩, []⟩ : Nd).cs (.slice none 0 0)) rfl rfl rfl (by simp) rfl fun g7 X7 y7 => ?_
 have E7 := E6.trans X7
 refine Sm.b rfl ?_
 refine Sm.b (y7.ldO 1 0 rfl rfl) ?_
 refine Sm.b rfl ?_
 refine Sm.b rfl ?_
 refine Sm.b (y7.ldO 1 1 rfl rfl) ?_
 refine Sm.b rfl ?_
 refine Sm.cr (t92 (by omega) r3.k r3.s) fun ls v8 g8 e8 X8 R8 => ?_
 obtain ⟨il, rl, lvl, hx, o8, z8⟩ := R8
 have E8 := E7.trans (X8.mono E7.size)
 have y8 := y7.add X8 o8 z8
 refine Sm.b rfl ?_
 refine Sm.b (y8.ldO 2 0 rfl rfl) ?_
 refine Sm.b rfl ?_
 have whole : ls.take ls.length = ls := List.take_length
 refine Sm.i (fun k9 => ?_) (fun k9 => ?_)
 ·refine Sm.b (y8.ldON 4 rfl rfl) ?_
  refine Sm.c (t60 (by omega) (H.ext E8) p) fun t g10 e10 X10 => ?_
  have y10 := y8.ext X10
  have E10 := E8.trans (X10.mono E8.size)
  refine Sm.b rfl ?_
  refine Sm.b rfl ?_
  refine Sm.sts y10 1 ((⟨r3.k, r3.n, 0, 0, t, []⟩ : Nd).cs (.slice none 0 0)) rfl rfl rfl (by simp [Nd.cs]) rfl fun g11 X11 y11 => ?_
  have E11 := E10.trans X11
  have := t75_1 (D := D) (N := D) (by omega) (by omega) H (by simp) ps ls hx (Nat.le_refl _) p ⟨r3.k, r3.n, 0, 0, t, []⟩ g11 E11 (ord75 y11)
  rw [whole] at this
  exact this
 ·refine Sm.i (fun k10 => ?_) (fun k10 => ?_)
  ·rw [s75_0_j, s75_0_eq]
   refine Sm.ct k10 ?_
   refine Sm.b (y8.ldON 4 rfl rfl) ?_
   refine Sm.c (t95 (by omega) (H.ext E8) p 1) fun n g10 e10 X10 => ?_
   have y10 := y8.ext X10
   have E10 := E8.trans (X10.mono E8.size)
   refine Sm.b rfl ?_
   refine Sm.b rfl ?_
   refine Sm.sts y10 1 ((⟨r3.k, r3.n, n, 0, ⟨#[]⟩, []⟩ : Nd).cs (.slice none 0 0)) rfl rfl rfl (by simp [Nd.cs]) rfl fun g11 X11 y11 => ?_
   have E11 := E10.trans X11
   have := t75_1 (D := D) (N := D) (by omega) (by omega) H (by simp) ps ls hx (Nat.le_refl _) p ⟨r3.k, r3.n, n, 0, ⟨#[]⟩, []⟩ g11 E11 (ord75 y11)
   rw [whole] at this
   exact this
  ·rw [s75_0_j, s75_0_eq]
   refine Sm.i (fun k11 => ?_) (fun k11 => ?_)
   ·refine Sm.b (y8.ldON 4 rfl rfl) ?_
    refine Sm.c (t95 (by omega) (H.ext E8) p 1) fun n g10 e10 X10 => ?_
    have y10 := y8.ext X10
    have E10 := E8.trans (X10.mono E8.size)
    refine Sm.b rfl ?_
    refine Sm.b rfl ?_
    refine Sm.sts y10 1 ((⟨r3.k, r3.n, n, 0, ⟨#[]⟩, []⟩ : Nd).cs (.slice none 0 0)) rfl rfl rfl (by simp [Nd.cs]) rfl fun g11 X11 y11 => ?_
    have E11 := E10.trans X11
    have := t75_1 (D := D) (N := D) (by omega) (by omega) H (by simp) ps ls hx (Nat.le_refl _) p ⟨r3.k, r3.n, n, 0, ⟨#[]⟩, []⟩ g11 E11 (ord75 y11)
    rw [whole] at this
    exact this
   ·refine Sm.i (fun k12 => ?_) (fun k12 => ?_)
    ·refine Sm.b (y8.ldON 4 rfl rfl) ?_
     refine Sm.c (t95 (by omega) (H.ext E8) p 1) fun n g10 e10 X10 => ?_
     have y10 := y8.ext X10
     have E10 := E8.trans (X10.mono E8.size)
     refine Sm.b rfl ?_
     refine Sm.b rfl ?_
     refine Sm.sts y10 1 ((⟨r3.k, r3.n, n, 0, ⟨#[]⟩, []⟩ : Nd).cs (.slice none 0 0)) rfl rfl rfl (by simp [Nd.cs]) rfl fun g11 X11 y11 => ?_
     have E11 := E10.trans X11
     refine Sm.b (y11.ldON 4 rfl rfl) ?_
     refine Sm.c (t95 (by omega) (H.ext E11) p 2) fun m g12 e12 X12 => ?_
     have y12 := y11.ext X12
     have E12 := E11.trans (X12.mono E11.size)
     refine Sm.b rfl ?_
     refine Sm.b rfl ?_
     refine Sm.sts y12 1 ((⟨r3.k, r3.n, n, m, ⟨#[]⟩, []⟩ : Nd).cs (.slice none 0 0)) rfl rfl rfl (by simp [Nd.cs]) rfl fun g13 X13 y13 => ?_
     have E13 := E12.trans X13
     refine Sm.b rfl ?_
     refine Sm.b (y13.ldO 1 3 rfl rfl) ?_
     refine Sm.b rfl ?_
     refine Sm.mo fun ls' e' => ?_
     unfold takeM at e'
     by_cases hc : 0 ≤ IntKind.i64.wrap (m + 1) ∧ IntKind.i64.wrap (m + 1) ≤ ls.length ∧ 0 < ls.length
     ·rw [if_pos hc] at e'
      cases e'
      obtain ⟨s1, s2⟩ := sub0 y13 0 rfl hx hc.1 hc.2.1 hc.2.2
      subst s2
      refine Sm.b s1 ?_
      exact t75_1 (D := D) (N := D) (by omega) (by omega) H (by simp) ps ls (LV.mk il (IntKind.i64.wrap (m + 1)).toNat) (by omega) p ⟨r3.k, r3.n, n, m, ⟨#[]⟩, []⟩ g13 E13 (ord75 y13)
     ·rw [if_neg hc] at e'; cases e'
    ·have := t75_1 (D := D) (N := D) (by omega) (by omega) H (by simp) ps ls hx (Nat.le_refl _) p ⟨r3.k, r3.n, 0, 0, ⟨#[]⟩, []⟩ g8 E8 (ord75 y8)
     rw [whole] at this
     exact this
open Go Go.AH Go.AM
theorem Sm.apX {T : Type} {R : T → Value → AHeap → Prop} {b : Nat} {h0 g : AHeap} {F : List FRow} {O : List ORow} {M : List MRow} {m : Option T} {α : Type} (c : α → List Value) {esz bytes : Nat} (hc : ∀ x, (c x).length = esz) (hb : bytes ≤ 100) {kk : Value × AHeap → Option (Value × AHeap)} (y : Cx b g F O M) (n : Nat)
  {i rt : Nat} {t : TypeId} {lv : Bool} (l : List α) {v x : Value} {z : α} (e : O[n]? = some ⟨i, rt, t, lv, fl c l⟩) (hv : LV v i lv l.length) (hx : aSrc g esz x = some (1, c z)) (hl : l.length ≤ 2000000)
  (hk : ∀ i' rt' g', Ext b g g' → Cx b g' F (O.set n ⟨i', rt', t, true, fl c (l ++ [z])⟩) M → SmR h0 R m (kk (slc i' 0 (l ++ [z]).length, g'))) : SmR h0 R m ((aApp g t esz bytes v x).bind kk) := by
 have e1 : grow l z = some (l ++ [z]) := if_pos hl
 have := Sm.apG (R := R) (h0 := h0) c hc hb (f := fun _ => m) (kk := kk) y n l e hv hx (fun i' rt' g' l' e2 E y' => by
  rw [e1] at e2; cases e2
  exact hk i' rt' g' E y')
 rw [e1, oBs] at this
 exact this
def cN (x : Nd × Value) : List Value := x.1.cs x.2
theorem cN_len (x : Nd × Value) : (cN x).length = 6 := rfl
def mS38_1 (a : Ar) : Nat → List Int → List Nd → Int → Option (List Nd)
 | 0, _, _, _ => none
 | f + 1, ps, ns, i => bif decide (i < (ps.length : Int)) then (rd ps i).bind fun p => (node7 a ps p).bind fun r => (grow ns r.2).bind fun ns' => mS38_1 a f r.1 ns' (IntKind.i64.wrap (i + 1)) else some ns
def mS38_0 (a : Ar) : Nat → List Int → List Vl → Int → Option (List Nd)
 | 0, _, _, _ => none
 | f + 1, ps, vs, i => bif decide (i < (a.rs.length : Int)) then (rd a.rs i).bind fun v => (val7 a ps v).bind fun r => (grow vs r.2).bind fun vs' => mS38_0 a f r.1 vs' (IntKind.i64.wrap (i + 1)) else mS38_1 a 20000 ps [] 0
def m38 (a : Ar) : Option (List Nd × Bool) := (m28 a).bind fun ok => bif !ok then some ([], false) else (mS38_0 a 20000 [] [] 0).bind fun ns => some (ns, true)
def NdL (h : AHeap) (ns : List Nd) (nv : Value) (g : AHeap) : Prop := ∃ i rt lv l, l.map (·.1) = ns ∧ LV nv i lv l.length ∧ (lv = true → OwnI g i rt 73 (fl cN l) ∧ h.size ≤ rt) ∧ (lv = false → fl cN l = []) ∧ ∀ x ∈ l, isCell x.2 = true
def RShape (h : AHeap) : List Nd × Bool → Value → AHeap → Prop := fun r v g => ∃ rv nv, v = .tuple (List.toArray [.agg (List.toArray [rv, nv]), .bool r.2]) ∧ isCell rv = true ∧ isCell nv = true ∧ NdL h r.1 nv g
theorem grow_some {α : Type} {l l' : List α} {x : α} (e : grow l x = some l') : l.length ≤ 2000000 ∧ l' = l ++ [x] := by
 unfold grow at e
 by_cases h : l.length ≤ 2000000
 ·rw [if_pos h] at e; exact ⟨h, (Option.some.inj e).symm⟩
 ·rw [if_neg h] at e; cases e
theorem S2LV {v w : Value} {i n j m : Nat} {b c : Bool} (hv : LV v i b n) (hw : LV w j c m) (t : Bool) : List.all [.agg (List.toArray [v, w]), .bool t] isS2 = true := by
 rcases hv with ⟨_, rfl⟩ | ⟨_, rfl, _⟩ <;> rcases hw with ⟨_, rfl⟩ | ⟨_, rfl, _⟩ <;> rfl
theorem cells2 {v w : Value} (hv : isCell v = true) (hw : isCell w = true) : aCells (.agg (List.toArray [v, w])) = some [v, w] := by
 show (if (List.all [v, w] isCell) = true then some [v, w] else none) = _
 rw [if_pos]
 show (isCell v && (isCell w && true)) = true
 rw [hv, hw]; rfl
theorem tS38_1 {D N : Nat} {h : AHeap} (hD : 2000004 ≤ D) (hN : 20000 ≤ N) {wv rv : Value} {a : Ar} (H : ArH h wv rv a) {rt pa pt po : Nat} {tv : List Value} (htv : tv.length = 2) {rv1 : Value} {ir nr : Nat} {lr : Bool} (hr : LV rv1 ir lr nr) :
  ∀ (f n2 : Nat) (_ : f ≤ n2) (ps : List Int) (i : Nat) (l : List (Nd × Value)) (_ : ∀ x ∈ l, isCell x.2 = true) (iv rtv : Nat) (lv : Bool) (nv : Value) (_ : LV nv iv lv l.length) (x : Int) (g : AHeap) (_ : Ext h.size h g)
   (_ : Cx h.size g [] (⟨i, rt, 3, true, ps.map (Value.int .i64)⟩ :: ⟨iv, rtv, 73, lv, fl cN l⟩ :: ⟨po, po, 69, true, [rv1, nv]⟩ :: ⟨pa, pa, 30, true, arCells wv rv a⟩ :: ⟨pt, pt, 69, true, tv⟩ :: []) []),
   SmR h (RShape h) ((mS38_1 a f ps (l.map (·.1)) x).bind fun ns => some (ns, true)) (s38_1 hk0 (call Tp Ms D) N n2 (ptr pa 0) (ptr pt 0) (ptr po 0) (slc i 0 ps.length) x g) := by
 intro f
 induction f with
 | zero => intros; exact Sm.none
 | succ f ih =>
  intro n2 hf ps i l hl iv rtv lv nv hv x g0 E0 y0
  obtain ⟨n2, rfl⟩ : ∃ k, n2 = k + 1 := ⟨n2 - 1, by omega⟩
  rw [s38_1_eq, mS38_1]
  refine Sm.b rfl ?_
  refine Sm.b rfl ?_
  cases hc : decide (x < (ps.length : Int)) with
  | true =>
   rw [cond_true, cond_true, Option.bind_assoc]
   refine Sm.b (y0.ldON 3 rfl rfl) ?_
   refine Sm.mo fun p ep => ?_
   obtain ⟨a1, a2⟩ := y0.atS 0 (Value.int .i64) ps rfl (LV.mk _ _) ep
   refine Sm.b a1 ?_
   refine Sm.b a2 ?_
   refine Sm.b rfl ?_
   refine Sm.n y0 fun p1 g1 X1 y1 => ?_
   have E1 := E0.trans (X1.mono E0.size)
   rw [Option.bind_assoc]
   refine Sm.cr (t75 (by omega) H ps p g1 E1 (y1.front 1 rfl)) fun r2 v2 g2 e2 E2 R2 => ?_
   obtain ⟨i2, sv2, rfl, hs2, y2⟩ := R2
   refine Sm.b rfl ?_
   refine Sm.b rfl ?_
   refine Sm.sts y2 1 (r2.2.cs sv2) rfl (ndCells r2.2 hs2) rfl (by simp) (by simp [splice, Nd.cs]) fun g3 X3 y3 => ?_
   have E3 := E2.trans X3
   refine Sm.b rfl ?_
   refine Sm.b (y3.ldO 3 1 rfl rfl) ?_
   refine Sm.b (y3.ldON 1 rfl rfl) ?_
   refine Sm.b (show aFill [.int .i64 0, .int .i64 0, .int .i64 0, .int .i64 0, .string ⟨#[]⟩, .slice none 0 0] [(0, 6, .agg (List.toArray (r2.2.cs sv2)))] = some (r2.2.cs sv2) by
    unfold aFill
    rw [ndCells r2.2 hs2, oBs, if_pos ⟨rfl, by simp⟩]
    unfold aFill
    simp [splice, Nd.cs]) ?_
   refine Sm.ns y3 fun p4 g4 X4 y4 => ?_
   have E4 := E3.trans (X4.mono E3.size)
   rw [Option.bind_assoc]
   refine Sm.mo fun ns' en => ?_
   obtain ⟨hlen, rfl⟩ := grow_some en
   rw [List.length_map] at hlen
   refine Sm.apX cN cN_len (by decide) y4 3 l (z := (r2.2, sv2)) rfl hv (src1 y4 0 rfl rfl) hlen fun i5 rt5 g5 X5 y5 => ?_
   have E5 := E4.trans X5
   refine Sm.b rfl ?_
   refine Sm.sts y5 4 [rv1, slc i5 0 (l ++ [(r2.2, sv2)]).length] rfl rfl rfl (by simp) rfl fun g6 X6 y6 => ?_
   have E6 := E5.trans X6
   have := ih n2 (by omega) r2.1 i2 (l ++ [(r2.2, sv2)]) (fun x hx => by
    rcases List.mem_append.1 hx with hx | hx
    ·exact hl x hx
    ·rw [List.mem_singleton.1 hx]; exact hs2) i5 rt5 true _ (LV.mk i5 _) (IntKind.i64.wrap (x + 1)) g6 E6 (y6.pick (.cons _ (.cons_cons _ (.cons _ (List.Sublist.refl _)))))
   rw [List.map_append] at this
   exact this
  | false =>
   rw [cond_false, cond_false, oBs]
   refine Sm.b (y0.ldON 2 rfl rfl) ?_
   refine Sm.sts y0 4 [rv1, nv] rfl (cells2 hr.isc hv.isc) rfl (by rw [htv]; simp) (by unfold splice; simp [htv]) fun g1 X1 y1 => ?_
   have E1 := E0.trans X1
   refine Sm.b (y1.ldON 4 rfl rfl) ?_
   refine Sm.ct (S2LV hr hv true) ?_
   have q := y1.ow _ (List.mem_of_getElem? (show (_ : List ORow)[1]? = some ⟨iv, rtv, 73, lv, fl cN l⟩ from rfl))
   exact Sm.fin E1 ⟨rv1, nv, rfl, hr.isc, hv.isc, iv, rtv, lv, l, rfl, hv, q.1, q.2, hl⟩
theorem vlCells (x : Vl) : aCells x.v = some (cV x) := rfl
theorem tS38_0 {D N : Nat} {h : AHeap} (hD : 2000004 ≤ D) (hN : 20000 ≤ N) {wv rv : Value} {a : Ar} (H : ArH h wv rv a) {rt pa pt po : Nat} {tv : List Value} (htv : tv.length = 2) :
  ∀ (f n2 : Nat) (_ : f ≤ n2) (ps : List Int) (i : Nat) (vs : List Vl) (iv rtv : Nat) (lv : Bool) (rv1 : Value) (_ : LV rv1 iv lv vs.length) (x : Int) (g : AHeap) (_ : Ext h.size h g)
   (_ : Cx h.size g [] (⟨i, rt, 3, true, ps.map (Value.int .i64)⟩ :: ⟨iv, rtv, 59, lv, fl cV vs⟩ :: ⟨po, po, 69, true, [rv1, .slice none 0 0]⟩ :: ⟨pa, pa, 30, true, arCells wv rv a⟩ :: ⟨pt, pt, 69, true, tv⟩ :: []) []),
   SmR h (RShape h) ((mS38_0 a f ps vs x).bind fun ns => some (ns, true)) (s38_0 hk0 (call Tp Ms D) N n2 (ptr pa 0) (ptr pt 0) (ptr po 0) (slc i 0 ps.length) x g) := by
 intro f
 induction f with
 | zero => intros; exact Sm.none
 | succ f ih =>
  intro n2 hf ps i vs iv rtv lv rv1 hv x g0 E0 y0
  obtain ⟨n2, rfl⟩ : ∃ k, n2 = k + 1 := ⟨n2 - 1, by omega⟩
  rw [s38_0_eq, mS38_0]
  refine Sm.b rfl ?_
  refine Sm.b (y0.ldO 3 9 rfl rfl) ?_
  refine Sm.b H.r.len ?_
  refine Sm.b rfl ?_
  cases hc : decide (x < (a.rs.length : Int)) with
  | true =>
   rw [cond_true, cond_true, Option.bind_assoc]
   refine Sm.b (y0.ldON 3 rfl rfl) ?_
   refine Sm.b rfl ?_
   refine Sm.b (y0.ldO 3 9 rfl rfl) ?_
   refine Sm.mo fun v ev => ?_
   obtain ⟨j, o, a1, a2⟩ := H.r.at ev
   refine Sm.b a1 ?_
   refine Sm.b (a2 _ E0).1 ?_
   refine Sm.n y0 fun p1 g1 X1 y1 => ?_
   have E1 := E0.trans (X1.mono E0.size)
   rw [Option.bind_assoc]
   refine Sm.cr (t74 (by omega) H ps v g1 E1 (y1.front 1 rfl)) fun r2 v2 g2 e2 E2 R2 => ?_
   obtain ⟨i2, rfl, y2⟩ := R2
   refine Sm.b rfl ?_
   refine Sm.b rfl ?_
   refine Sm.sts y2 1 (cV r2.2) rfl (vlCells r2.2) rfl (by simp) (by simp [splice, cV]) fun g3 X3 y3 => ?_
   have E3 := E2.trans X3
   refine Sm.b rfl ?_
   refine Sm.b (y3.ldO 3 0 rfl rfl) ?_
   refine Sm.b (y3.ldON 1 rfl rfl) ?_
   refine Sm.b rfl ?_
   refine Sm.ns y3 fun p4 g4 X4 y4 => ?_
   have E4 := E3.trans (X4.mono E3.size)
   rw [Option.bind_assoc]
   refine Sm.mo fun vs' en => ?_
   obtain ⟨hlen, rfl⟩ := grow_some en
   refine Sm.apX cV cV_len (by decide) y4 3 vs (z := r2.2) rfl hv (src1 y4 0 rfl rfl) hlen fun i5 rt5 g5 X5 y5 => ?_
   have E5 := E4.trans X5
   refine Sm.b rfl ?_
   refine Sm.sts y5 4 [slc i5 0 (vs ++ [r2.2]).length, .slice none 0 0] rfl rfl rfl (by simp) rfl fun g6 X6 y6 => ?_
   have E6 := E5.trans X6
   exact ih n2 (by omega) r2.1 i2 (vs ++ [r2.2]) i5 rt5 true _ (LV.mk i5 _) (IntKind.i64.wrap (x + 1)) g6 E6 (y6.pick (.cons _ (.cons_cons _ (.cons _ (List.Sublist.refl _)))))
  | false =>
   rw [cond_false, cond_false]
   have y1 := (y0.pick (O' := _ :: _ :: _ :: _ :: []) (.cons_cons _ (.cons _ (.cons_cons _ (.cons_cons _ (.cons_cons _ .slnil)))))).add (Ext.refl g0.size g0) (i := 0) (rt := 0) (e := 73) (cs := []) (lv := false) (fun h => by cases h) (fun _ => rfl)
   exact tS38_1 hD hN H htv hv 20000 N hN ps i [] (fun x hx => by cases hx) 0 0 false (.slice none 0 0) (.inr ⟨rfl, rfl, rfl⟩) 0 g0 E0 (y1.front 1 rfl)
theorem t38 {D : Nat} {h : AHeap} (hD : 2000005 ≤ D) {wv rv : Value} {a : Ar} (H : ArH h wv rv a) : SmR h (RShape h) (m38 a) (call Tp Ms D 38 [arV wv rv a] h) := by
 obtain ⟨D, rfl⟩ : ∃ d, D = d + 1 := ⟨D - 1, by omega⟩
 rw [c38, e38]
 unfold m38
 have y0 := Cx.start0 h
 have E0 := Ext.refl h.size h
 refine Sm.b H.cells ?_
 refine Sm.n y0 fun p1 g1 X1 y1 => ?_
 have E1 := E0.trans (X1.mono E0.size)
 refine Sm.n y1 fun p2 g2 X2 y2 => ?_
 have E2 := E1.trans (X2.mono E1.size)
 refine Sm.b (y2.ldON 1 rfl rfl) ?_
 refine Sm.c (t28 (by omega) (H.ext E2)) fun ok g3 e3 X3 => ?_
 have y3 := y2.ext X3
 have E3 := E2.trans (X3.mono E2.size)
 refine Sm.b rfl ?_
 refine Sm.i (fun k4 => ?_) (fun k4 => ?_)
 ·refine Sm.sts y3 0 [.slice none 0 0, .slice none 0 0] rfl rfl rfl (by simp) rfl fun g4 X4 y4 => ?_
  have E4 := E3.trans X4
  refine Sm.b (y4.ldON 0 rfl rfl) ?_
  refine Sm.ct rfl ?_
  exact Sm.fin E4 ⟨_, _, rfl, rfl, rfl, 0, 0, false, [], rfl, .inr ⟨rfl, rfl, rfl⟩, (fun h => by cases h), (fun _ => rfl), fun x hx => by cases hx⟩
 ·refine Sm.n y3 fun p4 g4 X4 y4 => ?_
  have E4 := E3.trans (X4.mono E3.size)
  refine Sm.sts y4 0 [.slice none 0 0, .slice none 0 0] rfl rfl rfl (by simp) rfl fun g5 X5 y5 => ?_
  have E5 := E4.trans X5
  refine Sm.ns y5 fun p6 g6 X6 y6 => ?_
  have E6 := E5.trans (X6.mono E5.size)
  have y7 := y6.add (Ext.refl g6.size g6) (i := 0) (rt := 0) (e := 59) (cs := []) (lv := false) (fun h => by cases h) (fun _ => rfl)
  have y8 := ((((y7.front 3 rfl).front 4 rfl).front 4 rfl).front 3 rfl).front 4 rfl
  exact tS38_0 (by omega) (by omega) H rfl 20000 D (by omega) [] p6 [] 0 0 false (.slice none 0 0) (.inr ⟨rfl, rfl, rfl⟩) 0 g6 E6 y8
def mS11_0 : Nat → List Nd → List ByteArray → Int → Option (List ByteArray)
 | 0, _, _, _ => none
 | f + 1, ns, ts, i => bif decide (i < (ns.length : Int)) then (rd ns i).bind fun x => bif x.k == 1 then (grow ts x.t).bind fun ts' => mS11_0 f ns ts' (IntKind.i64.wrap (i + 1)) else mS11_0 f ns ts (IntKind.i64.wrap (i + 1)) else some ts
def m11 (a : Ar) : Option (List ByteArray) := (m38 a).bind fun r => bif !r.2 then some [] else mS11_0 20000 r.1 [] 0
theorem rd_map {α β : Type} (f : α → β) (l : List α) (i : Int) : rd (l.map f) i = (rd l i).map f := by
 unfold rd
 by_cases h : 0 ≤ i
 ·rw [if_pos h, if_pos h, List.getElem?_map]
 ·rw [if_neg h, if_neg h]; rfl
theorem tS11_0 {D N : Nat} {h : AHeap} (hN : 20000 ≤ N) {ps rtn inn : Nat} {lvn : Bool} {nv rv1 : Value} (l : List (Nd × Value)) (hv : LV nv inn lvn l.length) :
  ∀ (f n2 : Nat) (_ : f ≤ n2) (ts : List ByteArray) (it rt : Nat) (x : Int) (g : AHeap) (_ : Ext h.size h g)
   (_ : Cx h.size g [] (⟨it, rt, 9, true, ts.map Value.string⟩ :: ⟨ps, ps, 69, true, [rv1, nv]⟩ :: ⟨inn, rtn, 73, lvn, fl cN l⟩ :: []) []),
   SmR h (RO h Value.string 9) (mS11_0 f (l.map (·.1)) ts x) (s11_0 hk0 (call Tp Ms D) N n2 (slc it 0 ts.length) (ptr ps 0) x g) := by
 intro f
 induction f with
 | zero => intros; exact Sm.none
 | succ f ih =>
  intro n2 hf ts it rt x g0 E0 y0
  obtain ⟨n2, rfl⟩ : ∃ k, n2 = k + 1 := ⟨n2 - 1, by omega⟩
  rw [s11_0_eq, mS11_0, List.length_map]
  refine Sm.b rfl ?_
  refine Sm.b (y0.ldO 1 1 rfl rfl) ?_
  refine Sm.b hv.len ?_
  refine Sm.b rfl ?_
  refine Sm.i (fun k1 => ?_) (fun k1 => ?_)
  ·refine Sm.b rfl ?_
   refine Sm.b (y0.ldO 1 1 rfl rfl) ?_
   refine Sm.mo fun nd en => ?_
   rw [rd_map, Option.map_eq_some_iff] at en
   obtain ⟨z, ez, rfl⟩ := en
   obtain ⟨a1, a2, a3⟩ := y0.atG 2 cN cN_len l rfl hv ez
   refine Sm.b a1 ?_
   refine Sm.b rfl ?_
   refine Sm.b (a3 0 _ rfl) ?_
   refine Sm.b rfl ?_
   refine Sm.i (fun k2 => ?_) (fun k2 => ?_)
   ·refine Sm.b rfl ?_
    refine Sm.b (y0.ldO 1 1 rfl rfl) ?_
    refine Sm.b a1 ?_
    refine Sm.b rfl ?_
    refine Sm.b (a3 4 _ rfl) ?_
    refine Sm.b rfl ?_
    refine Sm.ns y0 fun p3 g3 X3 y3 => ?_
    have E3 := E0.trans (X3.mono E0.size)
    refine Sm.ap Value.string y3 1 ts (by decide) rfl (y3.ldO 0 0 rfl rfl) fun i4 g4 l4 e4 X4 y4 => ?_
    have E4 := E3.trans X4
    exact ih n2 (by omega) l4 i4 _ (IntKind.i64.wrap (x + 1)) g4 E4 (y4.pick (.cons _ (List.Sublist.refl _)))
   ·exact ih n2 (by omega) ts it _ (IntKind.i64.wrap (x + 1)) g0 E0 y0
  ·exact Sm.fin E0 (y0.ro 0 Value.string ts rfl (LV.mk _ _))
theorem t11 {D : Nat} {h : AHeap} (hD : 2000006 ≤ D) {wv rv : Value} {a : Ar} (H : ArH h wv rv a) : SmR h (RO h Value.string 9) (m11 a) (call Tp Ms D 11 [arV wv rv a] h) := by
 obtain ⟨D, rfl⟩ : ∃ d, D = d + 1 := ⟨D - 1, by omega⟩
 rw [c11, e11]
 unfold m11
 have y0 := Cx.start0 h
 have E0 := Ext.refl h.size h
 refine Sm.b H.cells ?_
 refine Sm.n y0 fun p1 g1 X1 y1 => ?_
 have E1 := E0.trans (X1.mono E0.size)
 refine Sm.ns y1 fun p2 g2 X2 y2 => ?_
 have E2 := E1.trans (X2.mono E1.size)
 refine Sm.b (y2.ldON 1 rfl rfl) ?_
 refine Sm.cr (t38 (by omega) (H.ext E2)) fun r3 v3 g3 e3 X3 R3 => ?_
 obtain ⟨rv3, nv3, rfl, hc1, hc2, i3, rt3, lv3, l3, hl3, hv3, o3, z3, _⟩ := R3
 have E3 := E2.trans (X3.mono E2.size)
 have y3 := y2.add X3 o3 z3
 refine Sm.b rfl ?_
 refine Sm.b rfl ?_
 refine Sm.b rfl ?_
 refine Sm.n y3 fun p4 g4 X4 y4 => ?_
 have E4 := E3.trans (X4.mono E3.size)
 refine Sm.sts y4 0 [rv3, nv3] rfl (cells2 hc1 hc2) rfl (by simp) (by simp [splice]) fun g5 X5 y5 => ?_
 have E5 := E4.trans X5
 refine Sm.i (fun k6 => ?_) (fun k6 => ?_)
 ·exact Sm.fin E5 (y5.ro 2 Value.string [] rfl (LV.mk _ _))
 ·rw [← hl3]
  exact tS11_0 (by omega) l3 hv3 20000 D (by omega) [] p2 p2 0 g5 E5 ((y5.pick (O' := _ :: _ :: _ :: []) (.cons_cons _ (.cons_cons _ (.cons_cons _ (.cons _ .slnil))))).front 2 rfl)
open Go Go.AH Go.AM
def c1 (n : Int) : List Value := [.int .i64 n]
theorem c1_len (n : Int) : (c1 n).length = 1 := rfl
def val9 (a : Ar) (ps : List Int) (v : Vl) : Option (List Int × Vl) := (m112 v).bind fun b => bif !b then some (ps, v) else (m71 a v).bind fun q => (numM ps q).bind fun r => some (r.1, ⟨v.t, r.2⟩)
def ShO (ip rtp psh pa m : Nat) (lv : Bool) (pv : Value) (ps : List Int) (Q : List ORow) : List ORow := ⟨ip, rtp, 3, lv, fl c1 ps⟩ :: ⟨psh, psh, 130, true, [ptr pa 0, .map (some m), pv]⟩ :: Q
def RSh {T : Type} (h : AHeap) (V : T → Value → Prop) (F : List FRow) (psh pa m : Nat) (Q : List ORow) (MQ : List MRow) : List Int × T → Value → AHeap → Prop :=
 fun r v g => V r.2 v ∧ ∃ ip rtp lv pv, LV pv ip lv r.1.length ∧ Cx h.size g F (ShO ip rtp psh pa m lv pv r.1 Q) ((m, nEnt r.1) :: MQ)
def EV (x : Vl) (v : Value) : Prop := v = x.v
theorem t76 {D : Nat} {h : AHeap} (hD : 5 ≤ D) {wv rv : Value} {a : Ar} (H : ArH h wv rv a) {pa psh m ip rtp : Nat} {lv : Bool} {pv : Value} {Q : List ORow} {MQ : List MRow} (ps : List Int) (hp : LV pv ip lv ps.length) (v : Vl) (g0 : AHeap) (E0 : Ext h.size h g0)
  (y0 : Cx h.size g0 [(pa, arCells wv rv a)] (ShO ip rtp psh pa m lv pv ps Q) ((m, nEnt ps) :: MQ)) :
  SmR h (RSh h EV [(pa, arCells wv rv a)] psh pa m Q MQ) (val9 a ps v) (call Tp Ms D 76 [ptr psh 0, v.v] g0) := by
 obtain ⟨D, rfl⟩ : ∃ d, D = d + 1 := ⟨D - 1, by omega⟩
 rw [c76, e76]
 unfold val9
 unfold ShO at y0
 refine Sm.b rfl ?_
 refine Sm.n y0 fun p1 g1 X1 y1 => ?_
 have E1 := E0.trans (X1.mono E0.size)
 refine Sm.n y1 fun p2 g2 X2 y2 => ?_
 have E2 := E1.trans (X2.mono E1.size)
 refine Sm.b (y2.ldON 1 rfl rfl) ?_
 refine Sm.c (t112 (by omega) v) fun r3 g3 e3 X3 => ?_
 have y3 := y2.ext X3
 have E3 := E2.trans (X3.mono E2.size)
 refine Sm.b rfl ?_
 refine Sm.i (fun k4 => ?_) (fun k4 => ?_)
 ·refine Sm.b (y3.ldON 1 rfl rfl) ?_
  refine Sm.sts y3 0 (cV v) rfl (vlCells v) rfl (by simp) (by simp [splice, cV]) fun g4 X4 y4 => ?_
  have E4 := E3.trans X4
  refine Sm.b (y4.ldON 0 rfl rfl) ?_
  exact Sm.fin E4 ⟨rfl, ip, rtp, lv, pv, hp, y4.pick (.cons _ (.cons _ (List.Sublist.refl _)))⟩
 ·refine Sm.b rfl ?_
  refine Sm.b rfl ?_
  refine Sm.b (y3.ldO 3 0 rfl rfl) ?_
  refine Sm.b (y3.ldON 1 rfl rfl) ?_
  have RA := y3.rowF 0 rfl
  refine Sm.c (t71 (by omega) (H.ext E3) RA v) fun q g5 e5 X5 => ?_
  have y5 := y3.ext X5
  have E5 := E3.trans (X5.mono E3.size)
  refine Sm.b rfl ?_
  refine Sm.b rfl ?_
  refine Sm.b rfl ?_
  refine Sm.b (y5.ldO 3 1 rfl rfl) ?_
  refine Sm.b (y5.nget 0 rfl q) ?_
  refine Sm.b rfl ?_
  unfold numM
  by_cases hl : 2000000 < ps.length
  ·rw [if_pos hl]; exact Sm.none
  rw [if_neg hl]
  by_cases hm : q ∈ ps
  ·rw [if_pos hm]
   simp only [if_pos hm, decide_eq_true hm]
   refine Sm.b rfl ?_
   refine Sm.b rfl ?_
   refine Sm.b rfl ?_
   refine Sm.cf rfl ?_
   rw [s76_0_j, s76_0_eq]
   refine Sm.b rfl ?_
   refine Sm.b (y5.ldO 1 0 rfl rfl) ?_
   refine Sm.b rfl ?_
   refine Sm.sts y5 0 (cV ⟨v.t, ((ps.idxOf q : Nat) : Int)⟩) rfl rfl rfl (by simp) (by simp [splice, cV]) fun g6 X6 y6 => ?_
   have E6 := E5.trans X6
   refine Sm.b (y6.ldON 0 rfl rfl) ?_
   exact Sm.fin E6 ⟨rfl, ip, rtp, lv, pv, hp, y6.pick (.cons _ (.cons _ (List.Sublist.refl _)))⟩
  ·rw [if_neg hm]
   simp only [if_neg hm, decide_eq_false hm]
   refine Sm.b rfl ?_
   refine Sm.b rfl ?_
   refine Sm.b rfl ?_
   refine Sm.ct rfl ?_
   refine Sm.b rfl ?_
   refine Sm.b rfl ?_
   refine Sm.b (y5.ldO 3 2 rfl rfl) ?_
   refine Sm.b hp.len ?_
   refine Sm.b rfl ?_
   refine Sm.b rfl ?_
   refine Sm.b rfl ?_
   refine Sm.b (y5.ldO 3 1 rfl rfl) ?_
   refine Sm.nst y5 0 rfl hm fun g6 X6 y6 => ?_
   have E6 := E5.trans X6
   refine Sm.b rfl ?_
   refine Sm.b rfl ?_
   refine Sm.b (y6.ldO 3 2 rfl rfl) ?_
   refine Sm.ns y6 fun p7 g7 X7 y7 => ?_
   have E7 := E6.trans (X7.mono E6.size)
   rw [show ((grow ps q).bind fun l => some (l, (ps.length : Int))) = some (ps ++ [q], (ps.length : Int)) by rw [show grow ps q = some (ps ++ [q]) from if_pos (by omega)]; rfl, oBs]
   refine Sm.apX c1 c1_len (by decide) y7 3 ps (z := q) rfl hp (src1 y7 0 rfl rfl) (by omega) fun i8 rt8 g8 X8 y8 => ?_
   have E8 := E7.trans X8
   refine Sm.b rfl ?_
   refine Sm.b rfl ?_
   refine Sm.sts y8 4 [ptr pa 0, .map (some m), slc i8 0 (ps ++ [q]).length] rfl rfl rfl (by simp) rfl fun g9 X9 y9 => ?_
   have E9 := E8.trans X9
   rw [s76_0_j, s76_0_eq]
   refine Sm.b rfl ?_
   refine Sm.b (y9.ldO 2 0 rfl rfl) ?_
   refine Sm.b rfl ?_
   refine Sm.sts y9 1 (cV ⟨v.t, (ps.length : Int)⟩) rfl rfl rfl (by simp) (by simp [splice, cV]) fun g10 X10 y10 => ?_
   have E10 := E9.trans X10
   refine Sm.b (y10.ldON 1 rfl rfl) ?_
   exact Sm.fin E10 ⟨rfl, i8, rt8, true, _, LV.mk i8 _, y10.pick (.cons _ (.cons _ (.cons _ (List.Sublist.refl _))))⟩
end Go.Proofs.Ytajpnemfppaafaa
