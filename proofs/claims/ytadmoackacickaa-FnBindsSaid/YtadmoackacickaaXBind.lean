import Derived.Test.YtadmoackacickaaXParC
/- FnBinds: its texts, and what the plain parser says of them. -/
set_option linter.unusedSimpArgs false
namespace Go.Proofs.Ytadmoackacickaa
open Go Go.AH

def okB (D : Nat) (a b e : ByteArray) : Bool := match parseR D a, parseR D b, parseR D e with
  | some A, some B, some C => A.2.2.1 == 0 && (B.2.2.1 == 0 && (treeEq A B && (decide ((A.1.length : Int) > 5) && (C.2.2.1 == 2 && (decide (A.1.length < 1000) && A.1.all fun n => decide (n.ks.length < 1000))))))
  | _, _, _ => false
def bPre : ByteArray := ⟨#[108, 111, 99, 97, 108, 32, 122, 32, 61, 32]⟩
def bBad : ByteArray := ⟨#[108, 111, 99, 97, 108, 32, 122, 32, 61, 32, 97, 32, 60, 32, 98, 32, 60, 32, 99, 59]⟩
def bTexts : List ByteArray := [⟨#[97, 32, 111, 114, 32, 98, 32, 97, 110, 100, 32, 99, 32, 61, 61, 32, 100, 32, 46, 46, 32, 101, 32, 43, 32, 102, 32, 42, 32, 45, 32, 103]⟩, ⟨#[40, 97, 32, 111, 114, 32, 40, 98, 32, 97, 110, 100, 32, 40, 99, 32, 61, 61, 32, 40, 100, 32, 46, 46, 32, 40, 101, 32, 43, 32, 40, 102, 32, 42, 32, 40, 45, 32, 103, 41, 41, 41, 41, 41, 41, 41]⟩, ⟨#[97, 32, 45, 32, 98, 32, 45, 32, 99]⟩, ⟨#[40, 40, 97, 32, 45, 32, 98, 41, 32, 45, 32, 99, 41]⟩, ⟨#[97, 32, 46, 46, 32, 98, 32, 46, 46, 32, 99]⟩, ⟨#[40, 40, 97, 32, 46, 46, 32, 98, 41, 32, 46, 46, 32, 99, 41]⟩, ⟨#[110, 111, 116, 32, 97, 32, 61, 61, 32, 35, 32, 98]⟩, ⟨#[40, 40, 110, 111, 116, 32, 97, 41, 32, 61, 61, 32, 40, 35, 32, 98, 41, 41]⟩, ⟨#[45, 32, 97, 46, 98, 91, 49, 93, 40, 99, 41, 32, 42, 32, 100]⟩, ⟨#[40, 40, 45, 32, 40, 40, 40, 97, 46, 98, 41, 91, 49, 93, 41, 40, 99, 41, 41, 41, 32, 42, 32, 100, 41]⟩, ⟨#[97, 32, 97, 110, 100, 32, 98, 32, 111, 114, 32, 99, 32, 97, 110, 100, 32, 100]⟩, ⟨#[40, 40, 97, 32, 97, 110, 100, 32, 98, 41, 32, 111, 114, 32, 40, 99, 32, 97, 110, 100, 32, 100, 41, 41]⟩]
def bFull : List ByteArray := [⟨#[108, 111, 99, 97, 108, 32, 122, 32, 61, 32, 97, 32, 111, 114, 32, 98, 32, 97, 110, 100, 32, 99, 32, 61, 61, 32, 100, 32, 46, 46, 32, 101, 32, 43, 32, 102, 32, 42, 32, 45, 32, 103, 59]⟩, ⟨#[108, 111, 99, 97, 108, 32, 122, 32, 61, 32, 40, 97, 32, 111, 114, 32, 40, 98, 32, 97, 110, 100, 32, 40, 99, 32, 61, 61, 32, 40, 100, 32, 46, 46, 32, 40, 101, 32, 43, 32, 40, 102, 32, 42, 32, 40, 45, 32, 103, 41, 41, 41, 41, 41, 41, 41, 59]⟩, ⟨#[108, 111, 99, 97, 108, 32, 122, 32, 61, 32, 97, 32, 45, 32, 98, 32, 45, 32, 99, 59]⟩, ⟨#[108, 111, 99, 97, 108, 32, 122, 32, 61, 32, 40, 40, 97, 32, 45, 32, 98, 41, 32, 45, 32, 99, 41, 59]⟩, ⟨#[108, 111, 99, 97, 108, 32, 122, 32, 61, 32, 97, 32, 46, 46, 32, 98, 32, 46, 46, 32, 99, 59]⟩, ⟨#[108, 111, 99, 97, 108, 32, 122, 32, 61, 32, 40, 40, 97, 32, 46, 46, 32, 98, 41, 32, 46, 46, 32, 99, 41, 59]⟩, ⟨#[108, 111, 99, 97, 108, 32, 122, 32, 61, 32, 110, 111, 116, 32, 97, 32, 61, 61, 32, 35, 32, 98, 59]⟩, ⟨#[108, 111, 99, 97, 108, 32, 122, 32, 61, 32, 40, 40, 110, 111, 116, 32, 97, 41, 32, 61, 61, 32, 40, 35, 32, 98, 41, 41, 59]⟩, ⟨#[108, 111, 99, 97, 108, 32, 122, 32, 61, 32, 45, 32, 97, 46, 98, 91, 49, 93, 40, 99, 41, 32, 42, 32, 100, 59]⟩, ⟨#[108, 111, 99, 97, 108, 32, 122, 32, 61, 32, 40, 40, 45, 32, 40, 40, 40, 97, 46, 98, 41, 91, 49, 93, 41, 40, 99, 41, 41, 41, 32, 42, 32, 100, 41, 59]⟩, ⟨#[108, 111, 99, 97, 108, 32, 122, 32, 61, 32, 97, 32, 97, 110, 100, 32, 98, 32, 111, 114, 32, 99, 32, 97, 110, 100, 32, 100, 59]⟩, ⟨#[108, 111, 99, 97, 108, 32, 122, 32, 61, 32, 40, 40, 97, 32, 97, 110, 100, 32, 98, 41, 32, 111, 114, 32, 40, 99, 32, 97, 110, 100, 32, 100, 41, 41, 59]⟩]
theorem ev0 : okB 3121 ⟨#[108, 111, 99, 97, 108, 32, 122, 32, 61, 32, 97, 32, 111, 114, 32, 98, 32, 97, 110, 100, 32, 99, 32, 61, 61, 32, 100, 32, 46, 46, 32, 101, 32, 43, 32, 102, 32, 42, 32, 45, 32, 103, 59]⟩ ⟨#[108, 111, 99, 97, 108, 32, 122, 32, 61, 32, 40, 97, 32, 111, 114, 32, 40, 98, 32, 97, 110, 100, 32, 40, 99, 32, 61, 61, 32, 40, 100, 32, 46, 46, 32, 40, 101, 32, 43, 32, 40, 102, 32, 42, 32, 40, 45, 32, 103, 41, 41, 41, 41, 41, 41, 41, 59]⟩ bBad = true := by kernel_rfl
theorem ev1 : okB 3121 ⟨#[108, 111, 99, 97, 108, 32, 122, 32, 61, 32, 97, 32, 45, 32, 98, 32, 45, 32, 99, 59]⟩ ⟨#[108, 111, 99, 97, 108, 32, 122, 32, 61, 32, 40, 40, 97, 32, 45, 32, 98, 41, 32, 45, 32, 99, 41, 59]⟩ bBad = true := by kernel_rfl
theorem ev2 : okB 3121 ⟨#[108, 111, 99, 97, 108, 32, 122, 32, 61, 32, 97, 32, 46, 46, 32, 98, 32, 46, 46, 32, 99, 59]⟩ ⟨#[108, 111, 99, 97, 108, 32, 122, 32, 61, 32, 40, 40, 97, 32, 46, 46, 32, 98, 41, 32, 46, 46, 32, 99, 41, 59]⟩ bBad = true := by kernel_rfl
theorem ev3 : okB 3121 ⟨#[108, 111, 99, 97, 108, 32, 122, 32, 61, 32, 110, 111, 116, 32, 97, 32, 61, 61, 32, 35, 32, 98, 59]⟩ ⟨#[108, 111, 99, 97, 108, 32, 122, 32, 61, 32, 40, 40, 110, 111, 116, 32, 97, 41, 32, 61, 61, 32, 40, 35, 32, 98, 41, 41, 59]⟩ bBad = true := by kernel_rfl
theorem ev4 : okB 3121 ⟨#[108, 111, 99, 97, 108, 32, 122, 32, 61, 32, 45, 32, 97, 46, 98, 91, 49, 93, 40, 99, 41, 32, 42, 32, 100, 59]⟩ ⟨#[108, 111, 99, 97, 108, 32, 122, 32, 61, 32, 40, 40, 45, 32, 40, 40, 40, 97, 46, 98, 41, 91, 49, 93, 41, 40, 99, 41, 41, 41, 32, 42, 32, 100, 41, 59]⟩ bBad = true := by kernel_rfl
theorem ev5 : okB 3121 ⟨#[108, 111, 99, 97, 108, 32, 122, 32, 61, 32, 97, 32, 97, 110, 100, 32, 98, 32, 111, 114, 32, 99, 32, 97, 110, 100, 32, 100, 59]⟩ ⟨#[108, 111, 99, 97, 108, 32, 122, 32, 61, 32, 40, 40, 97, 32, 97, 110, 100, 32, 98, 41, 32, 111, 114, 32, 40, 99, 32, 97, 110, 100, 32, 100, 41, 41, 59]⟩ bBad = true := by kernel_rfl
end Go.Proofs.Ytadmoackacickaa
/- FnBinds in the small evaluator. -/
set_option linter.unusedSimpArgs false
namespace Go.Proofs.Ytadmoackacickaa
open Go Go.AH

theorem cat_all : (List.range 12).all (fun k => decide ((bPre ++ (bTexts[k]?).getD E0) ++ ⟨#[59]⟩ = (bFull[k]?).getD E0)) = true := by kernel_rfl
theorem cat_at {k : Nat} (hk : k < 12) : (bPre ++ (bTexts[k]?).getD E0) ++ ⟨#[59]⟩ = (bFull[k]?).getD E0 :=
  of_decide_eq_true (List.all_eq_true.1 cat_all k (List.mem_range.2 hk))
theorem ev_at {k : Nat} (hk : k < 6) : okB 3121 ((bFull[2 * k]?).getD E0) ((bFull[2 * k + 1]?).getD E0) bBad = true := by
  match k, hk with
  | 0, _ => exact ev0
  | 1, _ => exact ev1
  | 2, _ => exact ev2
  | 3, _ => exact ev3
  | 4, _ => exact ev4
  | 5, _ => exact ev5
/-- A slice of bytes. -/
def BSl (h : AHeap) (v : Value) (xs : List Int) : Prop :=
  (v = .slice none 0 0 ∧ xs = []) ∨ (∃ a, v = .slice (some a) 0 0 ∧ xs = []) ∨ ∃ i, v = slc i 0 xs.length ∧ Row h i (xs.map (Value.int .u8))
theorem BSl.len {h : AHeap} {v : Value} {xs : List Int} (x : BSl h v xs) : aLen v = some (.int .i64 (xs.length : Int)) := by
  rcases x with ⟨rfl, rfl⟩ | ⟨a, rfl, rfl⟩ | ⟨i, rfl, _⟩ <;> rfl
theorem BSl.ext {h h' : AHeap} {v : Value} {xs : List Int} (x : BSl h v xs) (e : Ext h.size h h') : BSl h' v xs := by
  rcases x with a | a | ⟨i, a, o, b, c⟩
  · exact .inl a
  · exact .inr (.inl a)
  · exact .inr (.inr ⟨i, a, o, e.at? (at?_obj b).2.1 b, c⟩)
theorem l26 {d : Nat} {h : AHeap} {v : Value} {xs : List Int} (x : BSl h v xs) : call Try.prog Ms (d + 1) 26 [v] h = some (.bool (decide ((xs.length : Int) > 1048576)), h) := by
  rw [c26, e26, x.len, Option.bind_some]
  rfl
theorem l27 {d : Nat} {h : AHeap} {v : Value} {xs : List Int} (x : BSl h v xs) (hx : ∀ z, z ∈ xs → 0 ≤ z ∧ z < 256) : ∃ n : Int, 0 ≤ n ∧ n < 256 ∧ call Try.prog Ms (d + 1) 27 [v, .int .i64 0] h = some (.int .i64 n, h) := by
  rw [c27, e27, x.len, Option.bind_some, show asI .i64 (Value.int .i64 (xs.length : Int)) = some (xs.length : Int) from rfl, Option.bind_some]
  cases xs with
  | nil => exact ⟨0, by omega, by omega, rfl⟩
  | cons z zs =>
    obtain ⟨h0, h1⟩ := hx z (by simp)
    rcases x with ⟨_, h2⟩ | ⟨a, _, h2⟩ | ⟨i, rfl, r⟩
    · cases h2
    · cases h2
    · have hI : ((0 : Int) < ((z :: zs).length : Int)) := by simp
      have hix : aIdx (slc i 0 (z :: zs).length) (.int .i64 0) 1 = some (ptr i 0) := by simp [aIdx, slc]
      have hld : aLd1 h (ptr i 0) = some (.int .u8 z) := r.ld1 rfl
      refine ⟨z, h0, h1, ?_⟩
      rw [decide_eq_true hI, cond_true, hix, Option.bind_some, hld, Option.bind_some, show asI .u8 (Value.int .u8 z) = some z from rfl, Option.bind_some, wr (by omega) (by omega)]
theorem bAdd {a b : ByteArray} (h : a.size + b.size ≤ 1000) : aBin .add (.string a) (.string b) = some (.string (a ++ b)) := by
  show (if a.size + b.size ≤ most then some (Value.string (a ++ b)) else none) = _
  rw [if_pos (by show a.size + b.size ≤ 140737488355328; omega)]
theorem size_all : (List.range 12).all (fun k => decide (bPre.size + ((bTexts[k]?).getD E0).size ≤ 1000) && decide ((bPre ++ (bTexts[k]?).getD E0).size + (⟨#[59]⟩ : ByteArray).size ≤ 1000)) = true := by kernel_rfl
theorem size_at {k : Nat} (hk : k < 12) : bPre.size + ((bTexts[k]?).getD E0).size ≤ 1000 ∧ (bPre ++ (bTexts[k]?).getD E0).size + (⟨#[59]⟩ : ByteArray).size ≤ 1000 := by
  have := List.all_eq_true.1 size_all k (List.mem_range.2 hk)
  rw [Bool.and_eq_true] at this
  exact ⟨of_decide_eq_true this.1, of_decide_eq_true this.2⟩
theorem RowE.pk9 {h h' : AHeap} {i : Nat} {cs : List Value} (x : RowE h i 9 cs) (k : PK none h h') : RowE h' i 9 cs := x.pk k (by decide) (by decide)
theorem NodesH.pk0 {h h' : AHeap} {v : Value} {ns : List Kn} {rn : Option Nat} (x : NodesH h v ns rn) (k : PK none h h') : NodesH h' v ns rn := by
  rcases x with a | ⟨i, rt, cs, a, b, ⟨ep, c⟩, d, f⟩
  · exact .inl a
  · exact .inr ⟨i, rt, cs, a, b, ⟨ep, k.2.1 i _ c (by show (73 : TypeId) ≠ 81; decide) (fun _ => by simp)⟩, d, fun j n hn => by
      obtain ⟨kv, y, z⟩ := f j n hn
      exact ⟨kv, y, z.pk k⟩⟩
/-- A tree is put in a row of the law's own. -/
theorem ownTree (h : AHeap) {nv : Value} (hc : isCell nv = true) (r : Int) :
    ∃ h', aSt (h.new 35 [.slice none 0 0, .int .i64 0]) (ptr h.size 0) (.agg (List.toArray [nv, .int .i64 r])) 2 = some h' ∧ Ext h.size h h' ∧ RowE h' h.size 35 [nv, .int .i64 r] ∧ h'.size = h.size + 1 := by
  have o1 := Own.new (h := h) (b := h.size) (Nat.le_refl _) 35 [.slice none 0 0, .int .i64 0]
  obtain ⟨h', a, b, e, s⟩ := Own.stN (n := 2) (v := .agg (List.toArray [nv, .int .i64 r])) o1 (two35 hc r) rfl rfl
  exact ⟨h', a, (Ext.new (Nat.le_refl h.size) 35 [.slice none 0 0, .int .i64 0]).trans b, Own.rowE e, s⟩
theorem rowTree {h : AHeap} {i : Nat} {nv : Value} {r : Int} (x : RowE h i 35 [nv, .int .i64 r]) : aLdN h (ptr i 0) 2 = some (.agg (List.toArray [nv, .int .i64 r])) := by
  rw [x.row.ldN (by show 0 + 2 ≤ 2; omega)]; rfl
theorem text_at {h : AHeap} {i k : Nat} (x : RowE h i 9 (bTexts.map Value.string)) (hk : k < 12) : aIdx (slc i 0 12) (.int .i64 ((k : Nat) : Int)) 1 = some (ptr i k) ∧ aLd1 h (ptr i k) = some (.string ((bTexts[k]?).getD E0)) := by
  have hl : bTexts.length = 12 := rfl
  have hlt : k < bTexts.length := by omega
  refine ⟨by simp [aIdx, slc]; omega, x.row.ld1 ?_⟩
  rw [List.getElem?_map, List.getElem?_eq_getElem hlt]; rfl
theorem okB_iff {D : Nat} {a b e : ByteArray} (h : okB D a b e = true) : ∃ A B C, parseR D a = some A ∧ parseR D b = some B ∧ parseR D e = some C ∧ A.2.2.1 = 0 ∧ B.2.2.1 = 0 ∧ treeEq A B = true ∧ (A.1.length : Int) > 5 ∧ C.2.2.1 = 2 ∧ A.1.length < 1000 ∧ ∀ n, n ∈ A.1 → n.ks.length < 1000 := by
  unfold okB at h
  match hA : parseR D a, hB : parseR D b, hC : parseR D e, h with
  | some A, some B, some C, h =>
    simp only [Bool.and_eq_true, beq_iff_eq, decide_eq_true_eq, List.all_eq_true] at h
    obtain ⟨h1, h2, h3, h4, h5, h6, h7⟩ := h
    exact ⟨A, B, C, rfl, rfl, rfl, h1, h2, h3, h4, h5, h6, h7⟩
theorem l6 {d : Nat} (hd : 3000 < d) (hD : d + 21 ≤ 1000000) (ev : ∀ k, k < 6 → okB (d + 21) ((bFull[2 * k]?).getD E0) ((bFull[2 * k + 1]?).getD E0) bBad = true) {h : AHeap} {v : Value} {xs : List Int} (x : BSl h v xs) (hx : ∀ z, z ∈ xs → 0 ≤ z ∧ z < 256) :
    ∃ h', call Try.prog Ms (d + 23) 6 [v] h = some (.bool true, h') := by
  have hcall : call Try.prog Ms (d + 23) 6 [v] h = evFn hk0 Try.prog (call Try.prog Ms (d + 22)) M6 (d + 22) Try.f6 [v] h := c6 (d + 22) _ _
  have c26 : call Try.prog Ms (d + 22) 26 [v] h = _ := l26 (d := d + 21) x
  rw [hcall, e6, c26, Option.bind_some]
  simp only [asB, Option.bind_some]
  cases hbig : decide ((xs.length : Int) > 1048576) with
  | true => exact ⟨h, by rw [cond_true]⟩
  | false =>
  rw [cond_false]
  have e1 := Ext.new (Nat.le_refl h.size) 9 (bTexts.map Value.string)
  have r1 := RowE.new h 9 (bTexts.map Value.string)
  have x1 := x.ext e1
  have hnew : ∀ K : Value → AHeap → Option (Value × AHeap), aNewS h 9 (bTexts.map Value.string) 12 K = K (slc h.size 0 12) (h.new 9 (bTexts.map Value.string)) := fun K => rfl
  change ∃ h', aNewS h 9 (bTexts.map Value.string) 12 _ = _
  rw [hnew]
  generalize h.new 9 (bTexts.map Value.string) = h1 at e1 r1 x1 ⊢
  obtain ⟨n6, n0, n1, c27⟩ := l27 (d := d + 21) x1 hx
  have c27' : call Try.prog Ms (d + 22) 27 [v, .int .i64 0] h1 = some (.int .i64 n6, h1) := c27
  rw [c27', Option.bind_some]
  simp only [asI, if_true, Option.bind_some]
  obtain ⟨k, hk, hk6⟩ : ∃ k : Nat, Int.tmod n6 6 = (k : Int) ∧ k < 6 := by
    refine ⟨(Int.tmod n6 6).toNat, ?_, ?_⟩ <;> rw [Int.tmod_eq_emod_of_nonneg n0] <;> omega
  have w1 : IntKind.i64.wrap (2 * (k : Int)) = ((2 * k : Nat) : Int) := by rw [wr (by omega) (by omega)]; omega
  have w2 : IntKind.i64.wrap (((2 * k : Nat) : Int) + 1) = ((2 * k + 1 : Nat) : Int) := by rw [wr (by omega) (by omega)]; omega
  rw [hk, w1, w2]
  obtain ⟨A, B, C, pA, pB, pC, a0, b0, te, a5, c2, al, ak⟩ := okB_iff (ev k hk6)
  obtain ⟨i1, i2⟩ := text_at r1 (k := 2 * k) (by omega)
  obtain ⟨z1, z2⟩ := size_at (k := 2 * k) (by omega)
  obtain ⟨g1, nv1, rn1, q1, nd1, k1, _⟩ := l28 (h := h1) hd hD pA
  rw [i1, Option.bind_some, i2, Option.bind_some]
  simp only [asS, Option.bind_some]
  rw [show (⟨#[108, 111, 99, 97, 108, 32, 122, 32, 61, 32]⟩ : ByteArray) = bPre from rfl, bAdd z1, Option.bind_some]
  simp only [Option.bind_some]
  rw [bAdd z2, Option.bind_some, cat_at (by omega : 2 * k < 12)]
  simp only [Option.bind_some]
  rw [q1, Option.bind_some]
  have x0 : ∀ (nv : Value) (R : PRes), aExt (tval nv R) 0 = some (.agg (List.toArray [nv, .int .i64 R.2.1])) := fun _ _ => rfl
  have x1 : ∀ (nv : Value) (R : PRes), aExt (tval nv R) 1 = some (.int .i64 R.2.2.1) := fun _ _ => rfl
  have x2 : ∀ (nv : Value) (R : PRes), aExt (tval nv R) 2 = some (.int .i64 R.2.2.2) := fun _ _ => rfl
  simp only [x0, x1, x2, Option.bind_some, if_true, aNew]
  obtain ⟨g2, t2, e2, o2, _⟩ := ownTree g1 nd1.cell A.2.1
  rw [t2, Option.bind_some]
  have R2 : RowE g2 h.size 9 (bTexts.map Value.string) := (r1.pk9 k1).pk9 (PK.ext e2)
  obtain ⟨j1, j2⟩ := text_at R2 (k := 2 * k + 1) (by omega)
  obtain ⟨z3, z4⟩ := size_at (k := 2 * k + 1) (by omega)
  rw [j1, Option.bind_some, j2, Option.bind_some]
  simp only [Option.bind_some]
  rw [bAdd z3, Option.bind_some]
  simp only [Option.bind_some]
  rw [bAdd z4, Option.bind_some, cat_at (by omega : 2 * k + 1 < 12)]
  simp only [Option.bind_some]
  obtain ⟨g3, nv3, rn3, q3, nd3, k3, _⟩ := l28 (h := g2) hd hD pB
  rw [q3, Option.bind_some]
  simp only [x0, x1, x2, Option.bind_some, if_true, aNew]
  obtain ⟨g4, t4, e4, o4, _⟩ := ownTree g3 nd3.cell B.2.1
  rw [t4, Option.bind_some]
  obtain ⟨g5, nv5, rn5, q5, nd5, k5, _⟩ := l28 (h := g4) hd hD pC
  rw [show (⟨#[108, 111, 99, 97, 108, 32, 122, 32, 61, 32, 97, 32, 60, 32, 98, 32, 60, 32, 99, 59]⟩ : ByteArray) = bBad from rfl, q5, Option.bind_some]
  simp only [x0, x1, x2, Option.bind_some, if_true, aNew]
  obtain ⟨g6, t6, e6, o6, _⟩ := ownTree g5 nd5.cell C.2.1
  rw [t6, Option.bind_some, a0, b0, show ((0 : Int) == 0) = true from rfl, cond_true]
  have K46 : PK none g4 g6 := k5.trans (.inl rfl) (PK.ext e6)
  have K26 : PK none g2 g6 := (k3.trans (.inl rfl) (PK.ext e4)).trans (.inl rfl) K46
  have O2 : RowE g6 g1.size 35 [nv1, .int .i64 A.2.1] := o2.pk K26 (by decide) (by decide)
  have O4 : RowE g6 g3.size 35 [nv3, .int .i64 B.2.1] := o4.pk K46 (by decide) (by decide)
  have N1 : NodesH g6 nv1 A.1 rn1 := (nd1.ext e2).pk0 K26
  have N3 : NodesH g6 nv3 B.1 rn3 := (nd3.ext e4).pk0 K46
  rw [rowTree O2, Option.bind_some, rowTree O4, Option.bind_some]
  obtain ⟨g7, q7, e7⟩ := l29 (d := d + 18) (a := A) (b := B) N1 N3 (by omega) (by omega) (fun n hn => ⟨by have := ak n hn; omega, by have := ak n hn; omega⟩)
  have q7' : call Try.prog Ms (d + 22) 29 [.agg (List.toArray [nv1, .int .i64 A.2.1]), .agg (List.toArray [nv3, .int .i64 B.2.1])] g6 = some (.bool true, g7) := by rw [← te]; exact q7
  rw [q7', Option.bind_some]
  simp only [asB, Option.bind_some, cond_true]
  have O7 : RowE g7 g1.size 35 [nv1, .int .i64 A.2.1] := O2.pk (PK.ext e7 (rn := none)) (by decide) (by decide)
  have ld7 : aLd1 g7 (ptr g1.size 0) = some nv1 := O7.row.ld1 rfl
  simp only [aOff_ptr, Nat.zero_add, Option.bind_some, if_true, ld7, N1.len]
  rw [decide_eq_true a5, cond_true, c2]
  exact ⟨g7, rfl⟩
end Go.Proofs.Ytadmoackacickaa
