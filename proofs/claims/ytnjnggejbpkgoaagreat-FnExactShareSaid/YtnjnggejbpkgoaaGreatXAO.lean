import Derived.Test.YtnjnggejbpkgoaaGreatXAM
import Derived.Test.YtnjnggejbpkgoaaGreatXAE
set_option linter.unusedSimpArgs false
set_option linter.unusedVariables false
/- Plain: chains of objects; what an object's words tell. -/
namespace Go.Proofs.YtnjnggejbpkgoaaGreat
open Go Go.AH Go.AM
def Ch (sz : Int → Int) : Int → List Int → Int → Prop
 | p, [], e => p = e
 | p, x :: L, e => x = p ∧ 1 ≤ sz x ∧ Ch sz (p + sz x + 1) L e
theorem Ch.le {sz : Int → Int} : ∀ {L : List Int} {p e : Int}, Ch sz p L e → p ≤ e
 | [], p, e, h => by have h' : p = e := h; omega
 | x :: L, p, e, h => by
  obtain ⟨_, h2, h3⟩ := h
  have := h3.le
  omega
theorem Ch.mem {sz : Int → Int} : ∀ {L : List Int} {p e x : Int}, Ch sz p L e → x ∈ L → p ≤ x ∧ 1 ≤ sz x ∧ x + sz x + 1 ≤ e
 | [], _, _, _, _, h => by cases h
 | y :: L, p, e, x, h, hx => by
  obtain ⟨h1, h2, h3⟩ := h
  rcases List.mem_cons.1 hx with rfl | hx
  ·have := h3.le
   omega
  ·have := h3.mem hx
   omega
theorem Ch.apart {sz : Int → Int} : ∀ {L : List Int} {p e x y : Int}, Ch sz p L e → x ∈ L → y ∈ L → x ≠ y → x + sz x + 1 ≤ y ∨ y + sz y + 1 ≤ x
 | [], _, _, _, _, _, h, _, _ => by cases h
 | z :: L, p, e, x, y, h, hx, hy, hn => by
  obtain ⟨h1, h2, h3⟩ := h
  rcases List.mem_cons.1 hx with rfl | hx'
  ·rcases List.mem_cons.1 hy with rfl | hy'
   ·exact absurd rfl hn
   ·have := h3.mem hy'
    omega
  ·rcases List.mem_cons.1 hy with rfl | hy'
   ·have := h3.mem hx'
    omega
   ·exact h3.apart hx' hy' hn
theorem Ch.nodup {sz : Int → Int} : ∀ {L : List Int} {p e : Int}, Ch sz p L e → L.Nodup
 | [], _, _, _ => List.nodup_nil
 | x :: L, p, e, h => by
  obtain ⟨h1, h2, h3⟩ := h
  refine List.nodup_cons.2 ⟨fun hx => ?_, h3.nodup⟩
  have := h3.mem hx
  omega
theorem Ch.congr {sz sz' : Int → Int} : ∀ {L : List Int} {p e : Int}, Ch sz p L e → (∀ x ∈ L, sz' x = sz x) → Ch sz' p L e
 | [], _, _, h, _ => h
 | x :: L, p, e, h, hs => by
  obtain ⟨h1, h2, h3⟩ := h
  have e1 := hs x (by simp)
  exact ⟨h1, by rw [e1]; exact h2, by rw [e1]; exact h3.congr fun y hy => hs y (by simp [hy])⟩
theorem Ch.snoc {sz : Int → Int} : ∀ {L : List Int} {p e : Int}, Ch sz p L e → 1 ≤ sz e → Ch sz p (L ++ [e]) (e + sz e + 1)
 | [], p, e, h, hs => by
  have h' : p = e := h
  subst h'
  exact ⟨rfl, hs, rfl⟩
 | x :: L, p, e, h, hs => by
  obtain ⟨h1, h2, h3⟩ := h
  exact ⟨h1, h2, h3.snoc hs⟩
theorem Ch.app {sz : Int → Int} : ∀ {L K : List Int} {p m e : Int}, Ch sz p L m → Ch sz m K e → Ch sz p (L ++ K) e
 | [], K, p, m, e, h, hk => by have h' : p = m := h; subst h'; exact hk
 | x :: L, K, p, m, e, h, hk => by
  obtain ⟨h1, h2, h3⟩ := h
  exact ⟨h1, h2, h3.app hk⟩
theorem Ch.nil {sz : Int → Int} {L : List Int} {p : Int} (h : Ch sz p L p) : L = [] := by
 cases L with
 | nil => rfl
 | cons x L =>
  obtain ⟨h1, h2, h3⟩ := h
  have := h3.le
  omega
def lft (g : Int → Int) : List Int → Int
 | [] => 0
 | x :: L => g x + lft g L
theorem lft_nn {g : Int → Int} : ∀ {L : List Int}, (∀ x ∈ L, 0 ≤ g x) → 0 ≤ lft g L
 | [], _ => Int.le_refl _
 | x :: L, h => by
  have h1 := h x (by simp)
  have h2 := lft_nn (g := g) (L := L) fun y hy => h y (by simp [hy])
  show 0 ≤ g x + lft g L
  omega
theorem lft_congr {g g' : Int → Int} : ∀ {L : List Int}, (∀ x ∈ L, g' x = g x) → lft g' L = lft g L
 | [], _ => rfl
 | x :: L, h => by
  show g' x + lft g' L = g x + lft g L
  rw [h x (by simp), lft_congr fun y hy => h y (by simp [hy])]
theorem lft_mem {g : Int → Int} : ∀ {L : List Int} {x : Int}, (∀ y ∈ L, 0 ≤ g y) → x ∈ L → g x ≤ lft g L
 | [], _, _, h => by cases h
 | y :: L, x, h, hx => by
  have h1 := h y (by simp)
  have h2 := lft_nn (g := g) (L := L) fun z hz => h z (by simp [hz])
  show g x ≤ g y + lft g L
  rcases List.mem_cons.1 hx with rfl | hx
  ·omega
  ·have := lft_mem (g := g) (fun z hz => h z (by simp [hz])) hx
   omega
theorem lft_out {g g' : Int → Int} {x : Int} : ∀ {L : List Int}, L.Nodup → x ∈ L → g' x = 0 → (∀ y ∈ L, y ≠ x → g' y = g y) → lft g' L = lft g L - g x
 | [], _, h, _, _ => by cases h
 | y :: L, hd, hx, h0, h => by
  obtain ⟨d1, d2⟩ := List.nodup_cons.1 hd
  show g' y + lft g' L = g y + lft g L - g x
  rcases List.mem_cons.1 hx with rfl | hx
  ·rw [h0, lft_congr fun z hz => h z (by simp [hz]) (fun e => d1 (e ▸ hz))]; omega
  ·have hyx : y ≠ x := fun e => d1 (e ▸ hx)
   rw [h y (by simp) hyx, lft_out d2 hx h0 fun z hz => h z (by simp [hz])]; omega
theorem lft_ch {sz : Int → Int} : ∀ {L : List Int} {p e : Int}, Ch sz p L e → lft (fun x => sz x + 1) L = e - p
 | [], p, e, h => by have h' : p = e := h; subst h'; show (0 : Int) = _; omega
 | x :: L, p, e, h => by
  obtain ⟨h1, h2, h3⟩ := h
  show sz x + 1 + lft _ L = _
  rw [lft_ch h3]; omega
def Same (W W' : List Int) (p q s : Int) : Prop := ∀ i, 0 ≤ i → i ≤ s → rd W' (q + i) = rd W (p + i)
theorem hd_same {a a' : Ar} {p q : Int} (h : rd a'.ws q = rd a.ws p) : hd a' q = hd a p := by unfold hd; rw [h]
theorem fw_same {a a' : Ar} {p q : Int} (h : rd a'.ws q = rd a.ws p) : fw a' q = fw a p := by unfold fw; rw [h]
theorem rv_same {a a' : Ar} {i j : Int} (h : rd a'.ws j = rd a.ws i) (h1 : rd a'.ws (j + 1) = rd a.ws (i + 1)) : rv a' j = rv a i := by unfold rv; rw [h, h1]
theorem Same.hd {a a' : Ar} {p q s : Int} (h : Same a.ws a'.ws p q s) (hs : 0 ≤ s) : hd a' q = hd a p := hd_same (by have := h 0 (Int.le_refl _) hs; rw [Int.add_zero, Int.add_zero] at this; exact this)
theorem Same.fw {a a' : Ar} {p q s : Int} (h : Same a.ws a'.ws p q s) (hs : 0 ≤ s) : fw a' q = fw a p := fw_same (by have := h 0 (Int.le_refl _) hs; rw [Int.add_zero, Int.add_zero] at this; exact this)
theorem Same.rv {a a' : Ar} {p q s k : Int} (h : Same a.ws a'.ws p q s) (h0 : 0 ≤ k) (h1 : k + 1 ≤ s) : rv a' (q + k) = rv a (p + k) := rv_same (h k h0 (by omega)) (by have := h (k + 1) (by omega) h1; rw [← Int.add_assoc, ← Int.add_assoc] at this; exact this)
def txOk (a : Ar) (p s : Int) : Prop := ∃ w, rd a.ws (p + 1) = some w ∧ (0 ≤ IntKind.i64.wrap w ∧ IntKind.i64.wrap w ≤ 160) ∧ s = 1 + (IntKind.i64.wrap w + 7) / 8
theorem Same.tx {a a' : Ar} {p q s : Int} (h : Same a.ws a'.ws p q s) (hs : 1 ≤ s) (x : txOk a p s) : txOk a' q s := by
 obtain ⟨w, h1, h2⟩ := x
 exact ⟨w, by rw [h 1 (by omega) hs]; exact h1, h2⟩
structure Ob (a : Ar) (p : Int) : Prop where
 ok : (hd a p).2 = true
 tx : (hd a p).1.k = 1 → txOk a p (hd a p).1.s
 sl : ∀ k ∈ slots (hd a p).1.k (hd a p).1.s, (rv a (p + k)).2 = true
theorem Ob.s {a : Ar} {p : Int} (x : Ob a p) : 1 ≤ (hd a p).1.s ∧ (hd a p).1.s ≤ 256 ∧ 1 ≤ (hd a p).1.k ∧ (hd a p).1.k ≤ 6 := hok_s (hd_hok x.ok)
theorem slots_in {a : Ar} {p k : Int} (h : (hd a p).2 = true) (hk : k ∈ slots (hd a p).1.k (hd a p).1.s) : 1 ≤ k ∧ k + 1 ≤ (hd a p).1.s :=
 (slots_eq (k := (hd a p).1.k) (s := (hd a p).1.s) (n := (hd a p).1.n) (hd_hok h)).2.2 k hk
theorem Ob.same {a a' : Ar} {p q : Int} (x : Ob a p) (h : Same a.ws a'.ws p q (hd a p).1.s) : Ob a' q := by
 have s := x.s
 have e := h.hd (by omega)
 refine ⟨by rw [e]; exact x.ok, fun hk => ?_, fun k hk => ?_⟩
 ·rw [e] at hk ⊢; exact h.tx s.1 (x.tx hk)
 ·rw [e] at hk
  have := slots_in x.ok hk
  rw [h.rv (by omega) this.2]; exact x.sl k hk
def Rf (a : Ar) (S : Int → Prop) (kd : Int → Int) (p : Int) : Prop := ∀ k ∈ slots (hd a p).1.k (hd a p).1.s, kindOf (rv a (p + k)).1.t ≠ 0 → S (rv a (p + k)).1.n ∧ kd (rv a (p + k)).1.n = kindOf (rv a (p + k)).1.t
theorem Rf.same {a a' : Ar} {S S' : Int → Prop} {kd kd' : Int → Int} {p q : Int} (x : Rf a S kd p) (hok : (hd a p).2 = true) (h : Same a.ws a'.ws p q (hd a p).1.s) (hS : ∀ n, S n → S' n ∧ kd' n = kd n) : Rf a' S' kd' q := by
 have s := hok_s (hd_hok hok)
 have e := h.hd (by omega)
 intro k hk hne
 rw [e] at hk
 have hb := slots_in hok hk
 rw [h.rv (by omega) hb.2] at hne ⊢
 obtain ⟨h1, h2⟩ := x k hk hne
 obtain ⟨h3, h4⟩ := hS _ h1
 exact ⟨h3, by rw [h4]; exact h2⟩
open Go Go.AH Go.AM
def wok (a : Ar) : Prop := ∀ x ∈ a.ws, 0 ≤ x ∧ x < 18446744073709551616
theorem wok.ari {a : Ar} (h : wok a) : ArI ⟨a.ws, 0, 0, 0, false, 0, 0, 0, 0, []⟩ := by
 refine ⟨h, fun x hx => (by cases hx), fun x hx => ?_⟩
 simp only [List.mem_cons, List.mem_nil_iff, or_false] at hx
 rcases hx with rfl | rfl | rfl | rfl | rfl | rfl | rfl <;> omega
def cpW (W : List Int) (q p n : Nat) : List Int := W.take q ++ ((W.drop p).take n ++ W.drop (q + n))
theorem cpW_len {W : List Int} {q p n : Nat} (hp : p + n ≤ W.length) (hq : q + n ≤ W.length) : (cpW W q p n).length = W.length := by
 unfold cpW
 simp only [List.length_append, List.length_take, List.length_drop]
 omega
theorem cpW_in {W : List Int} {q p n i : Nat} (hp : p + n ≤ W.length) (hq : q + n ≤ W.length) (hi : i < n) : (cpW W q p n)[q + i]? = W[p + i]? := by
 unfold cpW
 rw [List.getElem?_append_right (by simp; omega), List.length_take, Nat.min_eq_left (by omega), Nat.add_sub_cancel_left, List.getElem?_append_left (by simp; omega), List.getElem?_take_of_lt hi, List.getElem?_drop]
theorem cpW_out {W : List Int} {q p n j : Nat} (hp : p + n ≤ W.length) (hq : q + n ≤ W.length) (hj : j < q ∨ q + n ≤ j) : (cpW W q p n)[j]? = W[j]? := by
 unfold cpW
 rcases hj with h | h
 ·rw [List.getElem?_append_left (by simp; omega), List.getElem?_take_of_lt h]
 ·rw [List.getElem?_append_right (by simp; omega), List.length_take, Nat.min_eq_left (by omega), List.getElem?_append_right (by simp; omega), List.length_take, List.length_drop, Nat.min_eq_left (by omega), List.getElem?_drop]
  congr 1; omega
def cpA (a : Ar) (x : Int) : Ar :=
 { a with ws := (cpW a.ws a.top.toNat x.toNat ((hd a x).1.s + 1).toNat).set x.toNat (9223372036854775808 + a.top), top := a.top + ((hd a x).1.s + 1), cop := a.cop + ((hd a x).1.s + 1) }
theorem cpA_len {a : Ar} {x : Int} (hs : 1 ≤ (hd a x).1.s) (hx : 0 ≤ x) (hx2 : x + (hd a x).1.s + 1 ≤ a.ws.length) (ht : 0 ≤ a.top) (ht2 : a.top + (hd a x).1.s + 1 ≤ a.ws.length) : (cpA a x).ws.length = a.ws.length := by
 show ((cpW a.ws a.top.toNat x.toNat ((hd a x).1.s + 1).toNat).set x.toNat (9223372036854775808 + a.top)).length = _
 rw [List.length_set, cpW_len (by omega) (by omega)]
theorem cpA_in {a : Ar} {x i : Int} (hs : 1 ≤ (hd a x).1.s) (hx : 0 ≤ x) (hx2 : x + (hd a x).1.s + 1 ≤ a.ws.length) (ht : 0 ≤ a.top) (ht2 : a.top + (hd a x).1.s + 1 ≤ a.ws.length) (hap : a.top + (hd a x).1.s + 1 ≤ x ∨ x + (hd a x).1.s + 1 ≤ a.top) (i0 : 0 ≤ i) (i1 : i ≤ (hd a x).1.s) : rd (cpA a x).ws (a.top + i) = rd a.ws (x + i) := by
 show rd ((cpW a.ws a.top.toNat x.toNat ((hd a x).1.s + 1).toNat).set x.toNat (9223372036854775808 + a.top)) _ = _
 rw [rd_set hx (by rw [cpW_len (by omega) (by omega)]; omega), if_neg (by omega)]
 unfold rd
 rw [if_pos (by omega), if_pos (by omega), show (a.top + i).toNat = a.top.toNat + i.toNat by omega, show (x + i).toNat = x.toNat + i.toNat by omega]
 exact cpW_in (by omega) (by omega) (by omega)
theorem cpA_out {a : Ar} {x j : Int} (hs : 1 ≤ (hd a x).1.s) (hx : 0 ≤ x) (hx2 : x + (hd a x).1.s + 1 ≤ a.ws.length) (ht : 0 ≤ a.top) (ht2 : a.top + (hd a x).1.s + 1 ≤ a.ws.length) (hj : j < a.top ∨ a.top + (hd a x).1.s + 1 ≤ j) (hne : j ≠ x) : rd (cpA a x).ws j = rd a.ws j := by
 show rd ((cpW a.ws a.top.toNat x.toNat ((hd a x).1.s + 1).toNat).set x.toNat (9223372036854775808 + a.top)) _ = _
 rw [rd_set hx (by rw [cpW_len (by omega) (by omega)]; omega), if_neg hne]
 unfold rd
 by_cases h : 0 ≤ j
 ·rw [if_pos h, if_pos h]
  exact cpW_out (by omega) (by omega) (by omega)
 ·rw [if_neg h, if_neg h]
theorem cpA_at {a : Ar} {x : Int} (hs : 1 ≤ (hd a x).1.s) (hx : 0 ≤ x) (hx2 : x + (hd a x).1.s + 1 ≤ a.ws.length) (ht : 0 ≤ a.top) (ht2 : a.top + (hd a x).1.s + 1 ≤ a.ws.length) : rd (cpA a x).ws x = some (9223372036854775808 + a.top) := by
 show rd ((cpW a.ws a.top.toNat x.toNat ((hd a x).1.s + 1).toNat).set x.toNat (9223372036854775808 + a.top)) _ = _
 rw [rd_set hx (by rw [cpW_len (by omega) (by omega)]; omega), if_pos rfl]
theorem fwd_word {n : Nat} (h : n ≤ 2147483647) : fwd (9223372036854775808 + n) = ((n : Int), true) := by
 unfold fwd
 have : (9223372036854775808 + n) % 9223372036854775808 = n := by omega
 rw [this, if_pos ⟨by omega, h⟩]
theorem fw_word {a : Ar} {x q : Int} (h : rd a.ws x = some (9223372036854775808 + q)) (h0 : 0 ≤ q) (h1 : q ≤ 2147483647) : fw a x = (q, true) ∧ (hd a x).2 = false := by
 have e : fw a x = (q, true) := by
  unfold fw
  rw [h]
  show fwd (9223372036854775808 + q).toNat = _
  rw [show (9223372036854775808 + q).toNat = 9223372036854775808 + q.toNat by omega, fwd_word (by omega)]
  congr 1; omega
 refine ⟨e, ?_⟩
 cases hh : (hd a x).2 with
 | false => rfl
 | true =>
  have h2 := hd_fw hh
  rw [e] at h2; cases h2
def other (a : Ar) (n : Int) : Prop := (1 - a.to) * a.semi + 1 ≤ n ∧ n ≤ (2 - a.to) * a.semi - 1
def Gd (a : Ar) (n : Int) : Prop := wok a ∧ a.cyc = true ∧ (256 ≤ a.semi ∧ a.semi ≤ 4000) ∧ (a.ws.length : Int) = 2 * a.semi ∧ (a.to = 0 ∨ a.to = 1) ∧ (1 ≤ n ∧ n < a.ws.length) ∧ (n / a.semi = a.to ↔ ¬ other a n)
def Gc (a : Ar) (n : Int) : Prop := (hd a n).2 = true ∧ n + (hd a n).1.s + 1 ≤ a.ws.length ∧ 1 ≤ a.top ∧ a.top + (hd a n).1.s + 1 ≤ a.ws.length ∧ (a.top + (hd a n).1.s + 1 ≤ n ∨ n + (hd a n).1.s + 1 ≤ a.top) ∧ (0 ≤ a.cop ∧ a.cop ≤ 8000)
open Classical in
noncomputable def fwdP (a : Ar) (v : Vl) : Option (Ar × Vl) :=
 if kindOf v.t = 0 then some (a, v) else if ¬ Gd a v.n then none else if v.n / a.semi = a.to then some (a, v) else if (fw a v.n).2 = true then some (a, ⟨v.t, (fw a v.n).1⟩) else if ¬ Gc a v.n then none else some (cpA a v.n, ⟨v.t, a.top⟩)
def fsz (a : Ar) (x : Int) : Int := if (hd a x).2 = true then (hd a x).1.s else (hd a (fw a x).1).1.s
def lvz (a : Ar) (x : Int) : Int := if (hd a x).2 = true then (hd a x).1.s + 1 else 0
def kd (a : Ar) (n : Int) : Int := (hd a (tg a n)).1.k
def tsz (a : Ar) (x : Int) : Int := (hd a x).1.s
structure Cy (a : Ar) (T1 T2 F : List Int) : Prop where
 w : wok a
 semi : 256 ≤ a.semi ∧ a.semi ≤ 4000
 len : (a.ws.length : Int) = 2 * a.semi
 to : a.to = 0 ∨ a.to = 1
 cyc : a.cyc = true
 t1 : Ch (tsz a) (a.to * a.semi + 1) T1 a.scan
 t2 : Ch (tsz a) a.scan T2 a.top
 f : Ch (fsz a) ((1 - a.to) * a.semi + 1) F a.old
 top : a.top ≤ (a.to + 1) * a.semi
 old : a.old ≤ (2 - a.to) * a.semi
 oT : ∀ x, x ∈ T1 ∨ x ∈ T2 → Ob a x
 oF : ∀ x ∈ F, Ob a x ∨ ((hd a x).2 = false ∧ (fw a x).2 = true ∧ ((fw a x).1 ∈ T1 ∨ (fw a x).1 ∈ T2))
 room : lft (lvz a) F ≤ (a.to + 1) * a.semi - a.top
 cop : 0 ≤ a.cop ∧ a.cop + lft (lvz a) F ≤ 8000
 r1 : ∀ x ∈ T1, Rf a (fun n => n ∈ T1 ∨ n ∈ T2) (kd a) x
 r2 : ∀ x ∈ T2, Rf a (fun n => (n ∈ T1 ∨ n ∈ T2) ∨ n ∈ F) (kd a) x
 rF : ∀ x ∈ F, (hd a x).2 = true → Rf a (fun n => n ∈ F) (kd a) x
theorem lvz_nn {a : Ar} {x : Int} : 0 ≤ lvz a x := by
 unfold lvz
 by_cases h : (hd a x).2 = true
 ·rw [if_pos h]
  have := hok_s (hd_hok h)
  omega
 ·rw [if_neg h]; exact Int.le_refl _
structure Fr (a a' : Ar) : Prop where
 semi : a'.semi = a.semi
 to : a'.to = a.to
 cyc : a'.cyc = a.cyc
 scan : a'.scan = a.scan
 old : a'.old = a.old
 ser : a'.ser = a.ser
 rs : a'.rs = a.rs
 len : a'.ws.length = a.ws.length
 top : a.top ≤ a'.top
 below : ∀ i, a.to * a.semi + 1 ≤ i → i < a.top → rd a'.ws i = rd a.ws i
theorem Fr.refl (a : Ar) : Fr a a := ⟨rfl, rfl, rfl, rfl, rfl, rfl, rfl, rfl, Int.le_refl _, fun _ _ _ => rfl⟩
theorem Fr.trans {a b c : Ar} (x : Fr a b) (y : Fr b c) : Fr a c :=
 ⟨y.semi.trans x.semi, y.to.trans x.to, y.cyc.trans x.cyc, y.scan.trans x.scan, y.old.trans x.old, y.ser.trans x.ser, y.rs.trans x.rs, y.len.trans x.len, Int.le_trans x.top y.top, fun i h0 h1 => by
  rw [y.below i (by rw [x.to, x.semi]; exact h0) (by have := x.top; omega), x.below i h0 h1]⟩
section
variable {a : Ar} {T1 T2 F : List Int}
theorem Cy.half (C : Cy a T1 T2 F) : (a.to * a.semi = 0 ∧ (a.to + 1) * a.semi = a.semi ∧ (1 - a.to) * a.semi = a.semi ∧ (2 - a.to) * a.semi = 2 * a.semi ∧ a.to = 0) ∨ (a.to * a.semi = a.semi ∧ (a.to + 1) * a.semi = 2 * a.semi ∧ (1 - a.to) * a.semi = 0 ∧ (2 - a.to) * a.semi = a.semi ∧ a.to = 1) := by
 rcases C.to with h | h
 ·exact .inl ⟨by rw [h]; omega, by rw [h]; omega, by rw [h]; omega, by rw [h]; omega, h⟩
 ·exact .inr ⟨by rw [h]; omega, by rw [h]; omega, by rw [h]; omega, by rw [h]; omega, h⟩
theorem Cy.tT (C : Cy a T1 T2 F) {x : Int} (h : x ∈ T1 ∨ x ∈ T2) : a.to * a.semi + 1 ≤ x ∧ 1 ≤ (hd a x).1.s ∧ x + (hd a x).1.s + 1 ≤ a.top := by
 have l1 := C.t1.le
 have l2 := C.t2.le
 rcases h with h | h
 ·have m := C.t1.mem h
  unfold tsz at m
  omega
 ·have m := C.t2.mem h
  unfold tsz at m
  omega
theorem Cy.tF (C : Cy a T1 T2 F) {x : Int} (h : x ∈ F) : (1 - a.to) * a.semi + 1 ≤ x ∧ 1 ≤ fsz a x ∧ x + fsz a x + 1 ≤ a.old := C.f.mem h
theorem Cy.tgE (C : Cy a T1 T2 F) {x : Int} (h : x ∈ T1 ∨ x ∈ T2) : tg a x = x := by
 unfold tg
 rw [hd_fw (C.oT x h).ok]; rfl
theorem Cy.div (C : Cy a T1 T2 F) {n : Int} (h : (n ∈ T1 ∨ n ∈ T2) ∨ n ∈ F) : Gd a n ∧ (n / a.semi = a.to ↔ (n ∈ T1 ∨ n ∈ T2)) := by
 have hh := C.half
 have hs := C.semi
 have ht := C.top
 have ho := C.old
 have hl := C.len
 rcases h with h | h
 ·have b := C.tT h
  have e : n / a.semi = a.to := by
   rcases hh with hh | hh
   ·rw [hh.2.2.2.2]; exact Int.ediv_eq_zero_of_lt (by omega) (by omega)
   ·rw [hh.2.2.2.2]
    have : n = (n - a.semi) + 1 * a.semi := by omega
    rw [this, Int.add_mul_ediv_right _ _ (by omega), Int.ediv_eq_zero_of_lt (by omega) (by omega)]; rfl
  refine ⟨⟨C.w, C.cyc, hs, hl, C.to, by omega, ⟨fun _ => ?_, fun _ => e⟩⟩, ⟨fun _ => h, fun _ => e⟩⟩
  unfold other
  omega
 ·have b := C.tF h
  have e : n / a.semi ≠ a.to := by
   rcases hh with hh | hh
   ·have : n = (n - a.semi) + 1 * a.semi := by omega
    rw [hh.2.2.2.2, this, Int.add_mul_ediv_right _ _ (by omega), Int.ediv_eq_zero_of_lt (by omega) (by omega)]; decide
   ·rw [hh.2.2.2.2, Int.ediv_eq_zero_of_lt (by omega) (by omega)]; decide
  refine ⟨⟨C.w, C.cyc, hs, hl, C.to, by omega, ⟨fun x => absurd x e, fun x => absurd ⟨by omega, by omega⟩ x⟩⟩, ⟨fun x => absurd x e, fun x => ?_⟩⟩
  have := C.tT x
  omega
end
open Go Go.AH Go.AM
theorem rd_of_mem {W : List Int} {x : Int} (h : x ∈ W) : ∃ i, 0 ≤ i ∧ i < (W.length : Int) ∧ rd W i = some x := by
 obtain ⟨k, hk, e⟩ := List.mem_iff_getElem.1 h
 exact ⟨(k : Int), by omega, by omega, by rw [rd_at hk, e]⟩
theorem Cy.copy {a : Ar} {T1 T2 F : List Int} (C : Cy a T1 T2 F) {x : Int} (hx : x ∈ F) (hl : (hd a x).2 = true) :
  Gc a x ∧ Cy (cpA a x) T1 (T2 ++ [a.top]) F ∧ Fr a (cpA a x) ∧ kd (cpA a x) a.top = kd a x ∧ ∀ n, (n ∈ T1 ∨ n ∈ T2) ∨ n ∈ F → kd (cpA a x) n = kd a n := by
 have hh := C.half
 have hsm := C.semi
 have htop := C.top
 have hold := C.old
 have hlen := C.len
 have l1 := C.t1.le
 have l2 := C.t2.le
 have bx := C.tF hx
 have O : Ob a x := (C.oF x hx).elim id fun h => by rw [hl] at h; cases h.1
 have s := O.s
 have efx : fsz a x = (hd a x).1.s := if_pos hl
 have elx : lvz a x = (hd a x).1.s + 1 := if_pos hl
 rw [efx] at bx
 have hm := lft_mem (g := lvz a) (L := F) (fun y _ => lvz_nn) hx
 rw [elx] at hm
 have hroom := C.room
 have hcop := C.cop
 have hn := lft_nn (g := lvz a) (L := F) (fun y _ => lvz_nn)
 have hap : a.top + (hd a x).1.s + 1 ≤ x ∨ x + (hd a x).1.s + 1 ≤ a.top := by omega
 have x0 : 0 ≤ x := by omega
 have xe : x + (hd a x).1.s + 1 ≤ a.ws.length := by omega
 have t0 : 0 ≤ a.top := by omega
 have te : a.top + (hd a x).1.s + 1 ≤ a.ws.length := by omega
 have G : Gc a x := ⟨hl, xe, by omega, te, hap, hcop.1, by omega⟩
 refine ⟨G, ?_⟩
 have Ein : ∀ i, 0 ≤ i → i ≤ (hd a x).1.s → rd (cpA a x).ws (a.top + i) = rd a.ws (x + i) := fun i i0 i1 => cpA_in s.1 x0 xe t0 te hap i0 i1
 have Eout : ∀ j, (j < a.top ∨ a.top + (hd a x).1.s + 1 ≤ j) → j ≠ x → rd (cpA a x).ws j = rd a.ws j := fun j hj hne => cpA_out s.1 x0 xe t0 te hj hne
 have Eat := cpA_at (a := a) (x := x) s.1 x0 xe t0 te
 have elen : (cpA a x).ws.length = a.ws.length := cpA_len s.1 x0 xe t0 te
 obtain ⟨fx, hx0⟩ := fw_word (a := cpA a x) Eat t0 (by omega)
 have ST : ∀ y, y ∈ T1 ∨ y ∈ T2 → Same a.ws (cpA a x).ws y y (hd a y).1.s := fun y hy i i0 i1 => by
  have b := C.tT hy
  exact Eout (y + i) (.inl (by omega)) (by omega)
 have SF : ∀ y ∈ F, y ≠ x → Same a.ws (cpA a x).ws y y (fsz a y) := fun y hy hne i i0 i1 => by
  have b := C.tF hy
  have ap := C.f.apart hy hx hne
  rw [efx] at ap
  exact Eout (y + i) (by omega) (by omega)
 have SQ : Same a.ws (cpA a x).ws x a.top (hd a x).1.s := fun i i0 i1 => Ein i i0 i1
 have hT : ∀ y, y ∈ T1 ∨ y ∈ T2 → hd (cpA a x) y = hd a y := fun y hy => (ST y hy).hd (by have := C.tT hy; omega)
 have fT : ∀ y, y ∈ T1 ∨ y ∈ T2 → fw (cpA a x) y = fw a y := fun y hy => (ST y hy).fw (by have := C.tT hy; omega)
 have hF : ∀ y ∈ F, y ≠ x → hd (cpA a x) y = hd a y := fun y hy hne => (SF y hy hne).hd (by have := C.tF hy; omega)
 have fF : ∀ y ∈ F, y ≠ x → fw (cpA a x) y = fw a y := fun y hy hne => (SF y hy hne).fw (by have := C.tF hy; omega)
 have hQ : hd (cpA a x) a.top = hd a x := SQ.hd (by omega)
 have zF : ∀ y ∈ F, fsz (cpA a x) y = fsz a y := fun y hy => by
  by_cases hne : y = x
  ·subst hne
   unfold fsz
   rw [hx0, if_neg (by decide), fx, if_pos hl]
   show (hd (cpA a y) a.top).1.s = _
   rw [hQ]
  ·unfold fsz
   rw [hF y hy hne, fF y hy hne]
   rcases C.oF y hy with h | h
   ·rw [if_pos h.ok, if_pos h.ok]
   ·rw [hT _ h.2.2]
 have lF : ∀ y ∈ F, y ≠ x → lvz (cpA a x) y = lvz a y := fun y hy hne => by unfold lvz; rw [hF y hy hne]
 have lx : lvz (cpA a x) x = 0 := by unfold lvz; rw [hx0]; rfl
 have lft' : lft (lvz (cpA a x)) F = lft (lvz a) F - ((hd a x).1.s + 1) := by rw [lft_out C.f.nodup hx lx lF, elx]
 have kT : ∀ n, n ∈ T1 ∨ n ∈ T2 → kd (cpA a x) n = kd a n := fun n hn => by
  have e1 := C.tgE hn
  have e2 : tg (cpA a x) n = n := by unfold tg; rw [fT n hn, hd_fw (C.oT n hn).ok]; rfl
  unfold kd
  rw [e1, e2, hT n hn]
 have kF : ∀ n ∈ F, kd (cpA a x) n = kd a n := fun n hn => by
  by_cases hne : n = x
  ·subst hne
   have e1 : tg a n = n := by unfold tg; rw [hd_fw hl]; rfl
   have e2 : tg (cpA a n) n = a.top := by unfold tg; rw [fx]; rfl
   unfold kd
   rw [e1, e2, hQ]
  ·have e2 : tg (cpA a x) n = tg a n := by unfold tg; rw [fF n hn hne]
   unfold kd
   rw [e2]
   rcases C.oF n hn with h | h
   ·have e1 : tg a n = n := by unfold tg; rw [hd_fw h.ok]; rfl
    rw [e1, hF n hn hne]
   ·have e1 : tg a n = (fw a n).1 := by unfold tg; rw [h.2.1]; rfl
    rw [e1, hT _ h.2.2]
 have kA : ∀ n, (n ∈ T1 ∨ n ∈ T2) ∨ n ∈ F → kd (cpA a x) n = kd a n := fun n h => h.elim (kT n) (kF n)
 have kQ : kd (cpA a x) a.top = kd a x := by
  have e1 : tg a x = x := by unfold tg; rw [hd_fw hl]; rfl
  have e2 : tg (cpA a x) a.top = a.top := by unfold tg; rw [hd_fw (by rw [hQ]; exact hl)]; rfl
  unfold kd
  rw [e1, e2, hQ]
 have mem' : ∀ {y}, y ∈ T1 ∨ y ∈ T2 ++ [a.top] → (y ∈ T1 ∨ y ∈ T2) ∨ y = a.top := fun {y} h => by
  rcases h with h | h
  ·exact .inl (.inl h)
  ·rcases List.mem_append.1 h with h | h
   ·exact .inl (.inr h)
   ·exact .inr (List.mem_singleton.1 h)
 have up : ∀ {y}, y ∈ T1 ∨ y ∈ T2 → y ∈ T1 ∨ y ∈ T2 ++ [a.top] := fun {y} h => h.elim .inl fun h => .inr (List.mem_append_left _ h)
 have inQ : a.top ∈ T1 ∨ a.top ∈ T2 ++ [a.top] := .inr (List.mem_append_right _ (by simp))
 refine ⟨⟨?_, C.semi, by rw [elen]; exact hlen, C.to, C.cyc, ?_, ?_, C.f.congr zF, ?_, C.old, ?_, ?_, ?_, ?_, ?_, ?_, ?_⟩, ⟨rfl, rfl, rfl, rfl, rfl, rfl, rfl, elen, ?_, ?_⟩, kQ, kA⟩
 ·intro w hw
  obtain ⟨i, i0, i1, e⟩ := rd_of_mem hw
  rw [elen] at i1
  by_cases c : i = x
  ·subst c
   rw [Eat] at e
   cases e
   omega
  ·by_cases c2 : i < a.top ∨ a.top + (hd a x).1.s + 1 ≤ i
   ·rw [Eout i c2 c] at e
    exact C.w w (rd_mem e)
   ·rw [show i = a.top + (i - a.top) by omega, Ein (i - a.top) (by omega) (by omega)] at e
    exact C.w w (rd_mem e)
 ·exact C.t1.congr fun y hy => by unfold tsz; rw [hT y (.inl hy)]
 ·have c := (C.t2.congr (sz' := tsz (cpA a x)) fun y hy => by unfold tsz; rw [hT y (.inr hy)]).snoc (by unfold tsz; rw [hQ]; exact s.1)
  have e : a.top + tsz (cpA a x) a.top + 1 = (cpA a x).top := by
   unfold tsz
   rw [hQ]
   show _ = a.top + ((hd a x).1.s + 1)
   omega
  rw [e] at c
  exact c
 ·show a.top + ((hd a x).1.s + 1) ≤ _
  show a.top + ((hd a x).1.s + 1) ≤ (a.to + 1) * a.semi
  omega
 ·intro y hy
  rcases mem' hy with h | rfl
  ·exact (C.oT y h).same (ST y h)
  ·exact O.same SQ
 ·intro y hy
  by_cases hne : y = x
  ·subst hne
   exact .inr ⟨hx0, by rw [fx], by rw [fx]; exact inQ⟩
  ·rcases C.oF y hy with h | h
   ·have e : fsz a y = (hd a y).1.s := if_pos h.ok
    have := SF y hy hne
    rw [e] at this
    exact .inl (h.same this)
   ·exact .inr ⟨by rw [hF y hy hne]; exact h.1, by rw [fF y hy hne]; exact h.2.1, by rw [fF y hy hne]; exact up h.2.2⟩
 ·rw [lft']
  show _ ≤ (a.to + 1) * a.semi - (a.top + ((hd a x).1.s + 1))
  omega
 ·rw [lft']
  show 0 ≤ a.cop + ((hd a x).1.s + 1) ∧ a.cop + ((hd a x).1.s + 1) + _ ≤ 8000
  omega
 ·intro y hy
  exact (C.r1 y hy).same (C.oT y (.inl hy)).ok (ST y (.inl hy)) fun n hn => ⟨up hn, kT n hn⟩
 ·intro y hy
  rcases List.mem_append.1 hy with h | h
  ·exact (C.r2 y h).same (C.oT y (.inr h)).ok (ST y (.inr h)) fun n hn => ⟨hn.elim (fun q => .inl (up q)) .inr, kA n hn⟩
  ·rw [List.mem_singleton.1 h]
   exact (C.rF x hx hl).same hl SQ fun n hn => ⟨.inr hn, kF n hn⟩
 ·intro y hy hok
  have hne : y ≠ x := fun e => by rw [e, hx0] at hok; cases hok
  rw [hF y hy hne] at hok
  have e : fsz a y = (hd a y).1.s := if_pos hok
  have := SF y hy hne
  rw [e] at this
  exact (C.rF y hy hok).same hok this fun n hn => ⟨hn, kF n hn⟩
 ·show a.top ≤ a.top + ((hd a x).1.s + 1)
  omega
 ·intro i i0 i1
  exact Eout i (.inl i1) (by omega)
def VF (a : Ar) (T1 T2 F : List Int) (v : Vl) : Prop := kindOf v.t ≠ 0 → ((v.n ∈ T1 ∨ v.n ∈ T2) ∨ v.n ∈ F) ∧ kd a v.n = kindOf v.t
def VT (a : Ar) (T1 T2 : List Int) (v : Vl) : Prop := kindOf v.t ≠ 0 → (v.n ∈ T1 ∨ v.n ∈ T2) ∧ kd a v.n = kindOf v.t
theorem Cy.fwd {a : Ar} {T1 T2 F : List Int} (C : Cy a T1 T2 F) {v : Vl} (hv : VF a T1 T2 F v) :
  ∃ a' v' K, fwdP a v = some (a', v') ∧ Cy a' T1 (T2 ++ K) F ∧ Fr a a' ∧ v'.t = v.t ∧ (kindOf v.t = 0 → v' = v) ∧ VT a' T1 (T2 ++ K) v' ∧ ∀ n, (n ∈ T1 ∨ n ∈ T2) ∨ n ∈ F → kd a' n = kd a n := by
 unfold fwdP
 by_cases hk : kindOf v.t = 0
 ·rw [if_pos hk]
  exact ⟨a, v, [], rfl, by rw [List.append_nil]; exact C, Fr.refl a, rfl, fun _ => rfl, fun h => absurd hk h, fun n _ => rfl⟩
 ·obtain ⟨hm, hkd⟩ := hv hk
  obtain ⟨G, D⟩ := C.div hm
  rw [if_neg hk, if_neg (fun h => h G)]
  by_cases hT : v.n ∈ T1 ∨ v.n ∈ T2
  ·rw [if_pos (D.2 hT)]
   exact ⟨a, v, [], rfl, by rw [List.append_nil]; exact C, Fr.refl a, rfl, fun h => absurd h hk, fun _ => ⟨by rw [List.append_nil]; exact hT, hkd⟩, fun n _ => rfl⟩
  ·rw [if_neg (fun h => hT (D.1 h))]
   have hF : v.n ∈ F := hm.elim (fun h => absurd h hT) id
   rcases C.oF v.n hF with O | ⟨h1, h2, h3⟩
   ·rw [if_neg (by rw [hd_fw O.ok]; decide)]
    obtain ⟨Gc', C', Fr', kQ, kA⟩ := C.copy hF O.ok
    rw [if_neg (fun h => h Gc')]
    exact ⟨_, _, [a.top], rfl, C', Fr', rfl, fun h => absurd h hk, fun _ => ⟨.inr (List.mem_append_right _ (by simp)), by
     show kd (cpA a v.n) a.top = kindOf v.t
     rw [kQ]; exact hkd⟩, kA⟩
   ·rw [if_pos h2]
    refine ⟨a, _, [], rfl, by rw [List.append_nil]; exact C, Fr.refl a, rfl, fun h => absurd h hk, fun _ => ⟨by rw [List.append_nil]; exact h3, ?_⟩, fun n _ => rfl⟩
    show kd a (fw a v.n).1 = kindOf v.t
    have e1 := C.tgE h3
    have e2 : tg a v.n = (fw a v.n).1 := by unfold tg; rw [h2]; rfl
    unfold kd at hkd ⊢
    rw [e1]
    rw [e2] at hkd
    exact hkd
open Go Go.AH Go.AM
theorem u_i {w : Int} (h0 : 0 ≤ w) (h1 : w < 18446744073709551616) : IntKind.u64.wrap (IntKind.i64.wrap w) = w := by
 by_cases h : w < 9223372036854775808
 ·rw [wr (by omega) (by omega), wu h0 h1]
 ·have hb : IntKind.i64.bits = 64 := rfl
  have e : IntKind.i64.wrap w = w - 18446744073709551616 := by
   unfold IntKind.wrap
   simp only [hb]
   have : w % 2 ^ 64 = w := by omega
   rw [this, if_pos]
   ·rfl
   ·simp; exact ⟨rfl, by omega⟩
  have hu : IntKind.u64.bits = 64 := rfl
  rw [e]
  unfold IntKind.wrap
  simp only [hu]
  have : (w - 18446744073709551616) % 2 ^ 64 = w := by omega
  rw [this, if_neg]
  intro hc
  simp at hc
  exact absurd hc.1 (by decide)
theorem rv_word2 {a : Ar} {i : Int} (h : (rv a i).2 = true) : ∃ w, rd a.ws (i + 1) = some w ∧ (rv a i).1.n = IntKind.i64.wrap w := by
 unfold rv at h ⊢
 cases e : rd a.ws i with
 | none => rw [e] at h; cases h
 | some w =>
  rw [e] at h
  cases e1 : rd a.ws (i + 1) with
  | none => rw [e1] at h; cases h
  | some x =>
   rw [e1] at h
   simp only at h ⊢
   by_cases c : w ≤ 15 ∧ vok ⟨w, IntKind.i64.wrap x⟩ = true
   ·rw [if_pos c]; exact ⟨x, rfl, rfl⟩
   ·rw [if_neg c] at h; cases h
def putA (a : Ar) (i n : Int) : Ar := { a with ws := a.ws.set (i + 1).toNat (IntKind.u64.wrap n) }
theorem putA_same {a : Ar} {i : Int} (W : wok a) (h0 : 0 ≤ i) (h : (rv a i).2 = true) : putA a i (rv a i).1.n = a := by
 obtain ⟨w, e, en⟩ := rv_word2 h
 have b := W w (rd_mem e)
 have hl := rd_lt e
 unfold putA
 rw [en, u_i b.1 b.2]
 have : a.ws.set (i + 1).toNat w = a.ws := by
  refine List.ext_getElem? fun j => ?_
  by_cases c : j = (i + 1).toNat
  ·subst c
   rw [List.getElem?_set_self (by omega)]
   unfold rd at e
   rw [if_pos (by omega)] at e
   exact e.symm
  ·rw [List.getElem?_set_ne (by omega)]
 rw [this]
theorem vok_kind {t n : Int} (hk : kindOf t ≠ 0) (hn : 0 < n) : vok ⟨t, n⟩ = true := by
 unfold vok
 have h0 : t ≠ 0 := fun e => hk (by rw [e]; rfl)
 have h1 : t ≠ 1 := fun e => hk (by rw [e]; rfl)
 have h2 : t ≠ 2 := fun e => hk (by rw [e]; rfl)
 have h7 : t ≠ 7 := fun e => hk (by rw [e]; rfl)
 simp only
 rw [if_neg h0, if_neg h1, if_neg h2, if_neg h7, bne_iff_ne.2 hk, decide_eq_true hn]; rfl
theorem kindOf_15 {t : Int} (hk : kindOf t ≠ 0) : t ≤ 15 := by
 have := kindOf_in hk
 omega
theorem slots_par {k s j i : Int} (hj : j ∈ slots k s) (hi : i ∈ slots k s) : j ≠ i + 1 := by
 unfold slots at hj hi
 split at hj
 ·rename_i h
  rw [if_pos h] at hi
  obtain ⟨u, _, rfl⟩ := sq_mem.1 hj
  obtain ⟨w, _, rfl⟩ := sq_mem.1 hi
  omega
 ·rename_i h
  rw [if_neg h] at hi
  split at hj
  ·rename_i h2
   rw [if_pos h2] at hi
   obtain ⟨u, _, rfl⟩ := sq_mem.1 hj
   obtain ⟨w, _, rfl⟩ := sq_mem.1 hi
   omega
  ·rename_i h2
   rw [if_neg h2] at hi
   split at hj
   ·rename_i h3
    rw [if_pos h3] at hi
    obtain ⟨u, _, rfl⟩ := sq_mem.1 hj
    obtain ⟨w, _, rfl⟩ := sq_mem.1 hi
    omega
   ·cases hj
theorem slots_1 {s j : Int} (hj : j ∈ slots 1 s) : False := by
 unfold slots at hj
 simp at hj
structure Fs (a a' : Ar) : Prop where
 semi : a'.semi = a.semi
 to : a'.to = a.to
 cyc : a'.cyc = a.cyc
 scan : a'.scan = a.scan
 old : a'.old = a.old
 ser : a'.ser = a.ser
 rs : a'.rs = a.rs
 len : a'.ws.length = a.ws.length
 top : a.top ≤ a'.top
theorem Fs.refl (a : Ar) : Fs a a := ⟨rfl, rfl, rfl, rfl, rfl, rfl, rfl, rfl, Int.le_refl _⟩
theorem Fs.trans {a b c : Ar} (x : Fs a b) (y : Fs b c) : Fs a c :=
 ⟨y.semi.trans x.semi, y.to.trans x.to, y.cyc.trans x.cyc, y.scan.trans x.scan, y.old.trans x.old, y.ser.trans x.ser, y.rs.trans x.rs, y.len.trans x.len, Int.le_trans x.top y.top⟩
theorem Fr.fs {a a' : Ar} (x : Fr a a') : Fs a a' := ⟨x.semi, x.to, x.cyc, x.scan, x.old, x.ser, x.rs, x.len, x.top⟩
theorem put_hd {a : Ar} {x k n : Int} (hx : 0 ≤ x) (hk : 1 ≤ k) (hl : x + k + 1 < a.ws.length) (j : Int) (hj : j ≠ x + k + 1) : rd (putA a (x + k) n).ws j = rd a.ws j := by
 show rd (a.ws.set _ _) _ = _
 rw [rd_set (by omega) (by omega), if_neg hj]
theorem put_rv {a : Ar} {x k n : Int} (hx : 0 ≤ x) (hk : 1 ≤ k) (hl : x + k + 1 < a.ws.length) (hr : (rv a (x + k)).2 = true) (hkind : kindOf (rv a (x + k)).1.t ≠ 0) (hn : 0 < n) (hn2 : n < 9223372036854775808) : rv (putA a (x + k) n) (x + k) = (⟨(rv a (x + k)).1.t, n⟩, true) := by
 have e := rv_word hr
 have e0 : rd (putA a (x + k) n).ws (x + k) = some (rv a (x + k)).1.t := by rw [put_hd hx hk hl _ (by omega)]; exact e
 have e1 : rd (putA a (x + k) n).ws (x + k + 1) = some (IntKind.u64.wrap n) := by
  show rd (a.ws.set _ _) _ = _
  rw [rd_set (by omega) (by omega), if_pos rfl]
 have ew : IntKind.i64.wrap (IntKind.u64.wrap n) = n := by rw [wu (by omega) (by omega), wr (by omega) (by omega)]
 unfold rv at *
 rw [e0, e1]
 simp only
 rw [ew, if_pos ⟨kindOf_15 hkind, vok_kind hkind hn⟩]
theorem Cy.put {a : Ar} {T1 R F : List Int} {x : Int} (C : Cy a T1 (x :: R) F) {k n : Int} (hk : k ∈ slots (hd a x).1.k (hd a x).1.s) (hkind : kindOf (rv a (x + k)).1.t ≠ 0) (hv : VT a T1 (x :: R) ⟨(rv a (x + k)).1.t, n⟩) :
  Cy (putA a (x + k) n) T1 (x :: R) F ∧ hd (putA a (x + k) n) x = hd a x ∧ rv (putA a (x + k) n) (x + k) = (⟨(rv a (x + k)).1.t, n⟩, true) ∧
   (∀ j ∈ slots (hd a x).1.k (hd a x).1.s, j ≠ k → rv (putA a (x + k) n) (x + j) = rv a (x + j)) ∧ ∀ m, (m ∈ T1 ∨ m ∈ x :: R) ∨ m ∈ F → kd (putA a (x + k) n) m = kd a m := by
 have hh := C.half
 have hsm := C.semi
 have htop := C.top
 have hold := C.old
 have hlen := C.len
 have O := C.oT x (.inr (by simp))
 have s := O.s
 have bx := C.tT (x := x) (.inr (by simp))
 have bk := slots_in O.ok hk
 have hr := O.sl k hk
 obtain ⟨hm, hkd⟩ := hv hkind
 have bn : 0 < n ∧ n < 9223372036854775808 := by
  have h1 : n ∈ T1 ∨ n ∈ x :: R := hm
  have := C.tT h1
  omega
 have x0 : 0 ≤ x := by omega
 have xl : x + k + 1 < a.ws.length := by omega
 have E := put_hd (a := a) (n := n) x0 bk.1 xl
 have hrv := put_rv x0 bk.1 xl hr hkind bn.1 bn.2
 have ch := C.t1.app C.t2
 have mT : ∀ {y}, y ∈ T1 ∨ y ∈ x :: R → y ∈ T1 ++ x :: R := fun {y} h => List.mem_append.2 h
 have ST : ∀ y, y ∈ T1 ∨ y ∈ x :: R → y ≠ x → Same a.ws (putA a (x + k) n).ws y y (hd a y).1.s := fun y hy hne i i0 i1 => by
  have ap := ch.apart (mT hy) (mT (.inr (by simp))) hne
  unfold tsz at ap
  exact E (y + i) (by omega)
 have SF : ∀ y ∈ F, Same a.ws (putA a (x + k) n).ws y y (fsz a y) := fun y hy i i0 i1 => by
  have b := C.tF hy
  exact E (y + i) (by omega)
 have hT : ∀ y, y ∈ T1 ∨ y ∈ x :: R → hd (putA a (x + k) n) y = hd a y := fun y hy => by
  by_cases e : y = x
  ·rw [e]; exact hd_same (E x (by omega))
  ·exact (ST y hy e).hd (by have := C.tT hy; omega)
 have fT : ∀ y, y ∈ T1 ∨ y ∈ x :: R → fw (putA a (x + k) n) y = fw a y := fun y hy => by
  by_cases e : y = x
  ·rw [e]; exact fw_same (E x (by omega))
  ·exact (ST y hy e).fw (by have := C.tT hy; omega)
 have hF : ∀ y ∈ F, hd (putA a (x + k) n) y = hd a y := fun y hy => (SF y hy).hd (by have := C.tF hy; omega)
 have fF : ∀ y ∈ F, fw (putA a (x + k) n) y = fw a y := fun y hy => (SF y hy).fw (by have := C.tF hy; omega)
 have zF : ∀ y ∈ F, fsz (putA a (x + k) n) y = fsz a y := fun y hy => by
  unfold fsz
  rw [hF y hy, fF y hy]
  rcases C.oF y hy with h | h
  ·rw [if_pos h.ok, if_pos h.ok]
  ·rw [hT _ h.2.2]
 have lF : ∀ y ∈ F, lvz (putA a (x + k) n) y = lvz a y := fun y hy => by unfold lvz; rw [hF y hy]
 have kA : ∀ m, (m ∈ T1 ∨ m ∈ x :: R) ∨ m ∈ F → kd (putA a (x + k) n) m = kd a m := fun m h => by
  rcases h with h | h
  ·have e2 : tg (putA a (x + k) n) m = tg a m := by unfold tg; rw [fT m h]
   unfold kd
   rw [e2, C.tgE h, hT m h]
  ·have e2 : tg (putA a (x + k) n) m = tg a m := by unfold tg; rw [fF m h]
   unfold kd
   rw [e2]
   rcases C.oF m h with o | o
   ·have e1 : tg a m = m := by unfold tg; rw [hd_fw o.ok]; rfl
    rw [e1, hF m h]
   ·have e1 : tg a m = (fw a m).1 := by unfold tg; rw [o.2.1]; rfl
    rw [e1, hT _ o.2.2]
 have oth : ∀ j ∈ slots (hd a x).1.k (hd a x).1.s, j ≠ k → rv (putA a (x + k) n) (x + j) = rv a (x + j) := fun j hj hne => by
  have p1 := slots_par hj hk
  exact rv_same (E _ (by omega)) (E _ (by omega))
 refine ⟨⟨?_, C.semi, by rw [show (putA a (x + k) n).ws.length = a.ws.length by simp [putA]]; exact hlen, C.to, C.cyc, C.t1.congr fun y hy => by unfold tsz; rw [hT y (.inl hy)], C.t2.congr fun y hy => by unfold tsz; rw [hT y (.inr hy)], C.f.congr zF, C.top, C.old, ?_, ?_, ?_, ?_, ?_, ?_, ?_⟩, hT x (.inr (by simp)), hrv, oth, kA⟩
 ·intro w hw
  obtain ⟨i, i0, i1, e⟩ := rd_of_mem hw
  by_cases c : i = x + k + 1
  ·subst c
   have e1 : rd (putA a (x + k) n).ws (x + k + 1) = some (IntKind.u64.wrap n) := by
    show rd (a.ws.set _ _) _ = _
    rw [rd_set (by omega) (by omega), if_pos rfl]
   rw [e1] at e
   cases e
   rw [wu (by omega) (by omega)]
   omega
  ·rw [E i c] at e
   exact C.w w (rd_mem e)
 ·intro y hy
  by_cases e : y = x
  ·subst e
   refine ⟨by rw [hT y hy]; exact O.ok, fun h1 => ?_, fun j hj => ?_⟩
   ·rw [hT y hy] at h1
    rw [h1] at hk
    exact (slots_1 hk).elim
   ·rw [hT y hy] at hj
    by_cases e : j = k
    ·rw [e, hrv]
    ·rw [oth j hj e]; exact O.sl j hj
  ·exact (C.oT y hy).same (ST y hy e)
 ·intro y hy
  rcases C.oF y hy with h | h
  ·have e : fsz a y = (hd a y).1.s := if_pos h.ok
   have := SF y hy
   rw [e] at this
   exact .inl (h.same this)
  ·exact .inr ⟨by rw [hF y hy]; exact h.1, by rw [fF y hy]; exact h.2.1, by rw [fF y hy]; exact h.2.2⟩
 ·rw [lft_congr lF]; exact C.room
 ·rw [lft_congr lF]; exact C.cop
 ·intro y hy
  have hne : y ≠ x := fun e => by
   subst e
   have a1 := C.t1.mem hy
   have a2 := C.t2.mem (x := y) (by simp)
   omega
  exact (C.r1 y hy).same (C.oT y (.inl hy)).ok (ST y (.inl hy) hne) fun m hm => ⟨hm, kA m (.inl hm)⟩
 ·intro y hy
  by_cases e : y = x
  ·subst e
   intro j hj hkj
   rw [hT y (.inr hy)] at hj
   by_cases ej : j = k
   ·subst ej
    rw [hrv]
    exact ⟨.inl hm, by rw [kA n (.inl hm)]; exact hkd⟩
   ·rw [oth j hj ej] at hkj ⊢
    obtain ⟨q1, q2⟩ := C.r2 y hy j hj hkj
    exact ⟨q1, by rw [kA _ q1]; exact q2⟩
  ·exact (C.r2 y hy).same (C.oT y (.inr hy)).ok (ST y (.inr hy) e) fun m hm => ⟨hm, kA m hm⟩
 ·intro y hy hok
  rw [hF y hy] at hok
  have e : fsz a y = (hd a y).1.s := if_pos hok
  have := SF y hy
  rw [e] at this
  exact (C.rF y hy hok).same hok this fun m hm => ⟨hm, kA m (.inr hm)⟩
open Go Go.AH Go.AM
def Gs (a : Ar) (k : Int) : Prop := wok a ∧ (a.ws.length : Int) ≤ 8000 ∧ 0 ≤ a.scan ∧ 1 ≤ k ∧ k ≤ 300 ∧ a.scan + k + 1 < a.ws.length ∧ (rv a (a.scan + k)).2 = true
def Gw (a a' : Ar) (k : Int) (v' : Vl) : Prop := a'.scan = a.scan ∧ a'.ws.length = a.ws.length ∧ rd a'.ws (a.scan + k) = some (rv a (a.scan + k)).1.t ∧ v'.t = (rv a (a.scan + k)).1.t
open Classical in
noncomputable def slotP (a : Ar) (k : Int) : Option Ar :=
 if ¬ Gs a k then none else (fwdP a (rv a (a.scan + k)).1).bind fun r => if Gw a r.1 k r.2 then some (putA r.1 (a.scan + k) r.2.n) else none
noncomputable def slotsP : List Int → Ar → Option Ar
 | [], a => some a
 | k :: ks, a => (slotP a k).bind fun a' => slotsP ks a'
def Dn1 (a : Ar) (T1 T2 : List Int) (x k : Int) : Prop := VT a T1 T2 (rv a (x + k)).1
theorem Cy.slot {a : Ar} {T1 R F : List Int} {x : Int} (C : Cy a T1 (x :: R) F) {k : Int} (hk : k ∈ slots (hd a x).1.k (hd a x).1.s) :
  ∃ a' K, slotP a k = some a' ∧ Cy a' T1 (x :: (R ++ K)) F ∧ Fs a a' ∧ hd a' x = hd a x ∧ Dn1 a' T1 (x :: (R ++ K)) x k ∧
   (∀ j ∈ slots (hd a x).1.k (hd a x).1.s, j ≠ k → rv a' (x + j) = rv a (x + j)) ∧ ∀ m, (m ∈ T1 ∨ m ∈ x :: R) ∨ m ∈ F → kd a' m = kd a m := by
 have hh := C.half
 have hsm := C.semi
 have htop := C.top
 have hlen := C.len
 have O := C.oT x (.inr (by simp))
 have bx := C.tT (x := x) (.inr (by simp))
 have bk := slots_in O.ok hk
 have hr := O.sl k hk
 have s := O.s
 have esc : a.scan = x := by have := C.t2; exact this.1.symm
 have G : Gs a k := by
  refine ⟨C.w, by omega, by omega, bk.1, by omega, by omega, ?_⟩
  rw [esc]; exact hr
 have hv : VF a T1 (x :: R) F (rv a (x + k)).1 := fun h => C.r2 x (by simp) k hk h
 obtain ⟨a1, v1, K, e1, C1, F1, t1, z1, V1, k1⟩ := C.fwd hv
 have C1' : Cy a1 T1 (x :: (R ++ K)) F := C1
 have below : ∀ i, 0 ≤ i → i ≤ (hd a x).1.s → rd a1.ws (x + i) = rd a.ws (x + i) := fun i i0 i1 => F1.below (x + i) (by omega) (by omega)
 have S : Same a.ws a1.ws x x (hd a x).1.s := below
 have h1 : hd a1 x = hd a x := S.hd (by omega)
 have r1 : ∀ j ∈ slots (hd a x).1.k (hd a x).1.s, rv a1 (x + j) = rv a (x + j) := fun j hj => by
  have b := slots_in O.ok hj
  exact S.rv (by omega) b.2
 have GW : Gw a a1 k v1 := by
  refine ⟨F1.scan, F1.len, ?_, by rw [esc]; exact t1⟩
  rw [esc, below k (by omega) (by omega)]
  exact rv_word hr
 have es : slotP a k = some (putA a1 (x + k) v1.n) := by
  unfold slotP
  rw [if_neg (fun h => h G), esc, e1, oBs, if_pos GW]
 rw [es]
 by_cases hkind : kindOf (rv a (x + k)).1.t = 0
 ·have ev := z1 hkind
  have : putA a1 (x + k) v1.n = a1 := by
   rw [ev, ← r1 k hk]
   exact putA_same C1.w (by omega) (by rw [r1 k hk]; exact hr)
  rw [this]
  refine ⟨a1, K, rfl, C1', F1.fs, h1, ?_, fun j hj _ => r1 j hj, k1⟩
  intro h
  rw [r1 k hk] at h
  exact absurd hkind h
 ·have hk1 : k ∈ slots (hd a1 x).1.k (hd a1 x).1.s := by rw [h1]; exact hk
  have hkind1 : kindOf (rv a1 (x + k)).1.t ≠ 0 := by rw [r1 k hk]; exact hkind
  have hV : VT a1 T1 (x :: (R ++ K)) ⟨(rv a1 (x + k)).1.t, v1.n⟩ := fun h => by
   rw [r1 k hk] at h
   obtain ⟨q1, q2⟩ := V1 (by rw [t1]; exact h)
   exact ⟨q1, by rw [r1 k hk, q2, t1]⟩
  obtain ⟨C2, h2, r2, o2, k2⟩ := C1'.put hk1 hkind1 hV
  refine ⟨_, K, rfl, C2, F1.fs.trans ⟨rfl, rfl, rfl, rfl, rfl, rfl, rfl, by simp [putA], Int.le_refl _⟩, by rw [h2, h1], ?_, fun j hj hne => ?_, fun m hm => ?_⟩
  ·intro h
   rw [r2] at h ⊢
   obtain ⟨q1, q2⟩ := hV h
   exact ⟨q1, by
    show kd _ v1.n = _
    rw [k2 _ (.inl q1)]; exact q2⟩
  ·rw [o2 j (by rw [h1]; exact hj) hne, r1 j hj]
  ·have up : (m ∈ T1 ∨ m ∈ x :: (R ++ K)) ∨ m ∈ F := by
    rcases hm with (h | h) | h
    ·exact .inl (.inl h)
    ·rcases List.mem_cons.1 h with rfl | h
     ·exact .inl (.inr (by simp))
     ·exact .inl (.inr (List.mem_cons_of_mem _ (List.mem_append_left _ h)))
    ·exact .inr h
   rw [k2 m up, k1 m hm]
theorem Cy.slots {T1 F : List Int} {x : Int} {h0 : Hd} : ∀ (ks : List Int) (a : Ar) (R : List Int) (dn : Int → Prop), Cy a T1 (x :: R) F → (hd a x).1 = h0 → (∀ k ∈ ks, k ∈ slots h0.k h0.s) → (∀ k, dn k → k ∈ slots h0.k h0.s) → (∀ k, dn k → Dn1 a T1 (x :: R) x k) →
  ∃ a' K, slotsP ks a = some a' ∧ Cy a' T1 (x :: (R ++ K)) F ∧ Fs a a' ∧ (hd a' x).1 = h0 ∧ (∀ k, dn k ∨ k ∈ ks → Dn1 a' T1 (x :: (R ++ K)) x k) ∧ ∀ m, (m ∈ T1 ∨ m ∈ x :: R) ∨ m ∈ F → kd a' m = kd a m
 | [], a, R, dn, C, eh, _, _, hd1 => ⟨a, [], rfl, by rw [List.append_nil]; exact C, Fs.refl a, eh, fun k hk => (by
   rw [List.append_nil]
   rcases hk with h | h
   ·exact hd1 k h
   ·cases h), fun m _ => rfl⟩
 | k :: ks, a, R, dn, C, eh, hks, hdn, hd1 => by
  have hk : k ∈ Go.Proofs.YtnjnggejbpkgoaaGreat.slots (hd a x).1.k (hd a x).1.s := by rw [eh]; exact hks k (by simp)
  obtain ⟨a1, K1, e1, C1, F1, h1, d1, o1, k1⟩ := C.slot hk
  have grow : ∀ {m}, m ∈ T1 ∨ m ∈ x :: R → m ∈ T1 ∨ m ∈ x :: (R ++ K1) := fun {m} h => by
   rcases h with h | h
   ·exact .inl h
   ·rcases List.mem_cons.1 h with rfl | h
    ·exact .inr (by simp)
    ·exact .inr (List.mem_cons_of_mem _ (List.mem_append_left _ h))
  obtain ⟨a2, K2, e2, C2, F2, h2, d2, k2⟩ := Cy.slots ks a1 (R ++ K1) (fun j => dn j ∨ j = k) C1 (by rw [h1, eh]) (fun j hj => hks j (by simp [hj])) (fun j hj => by
   rcases hj with h | rfl
   ·exact hdn j h
   ·exact hks j (by simp)) (fun j hj => by
   by_cases ejk : j = k
   ·rw [ejk]; exact d1
   ·rcases hj with h | h
    ·intro hkk
     have hj' : j ∈ Go.Proofs.YtnjnggejbpkgoaaGreat.slots (hd a x).1.k (hd a x).1.s := by rw [eh]; exact hdn j h
     rw [o1 j hj' ejk] at hkk ⊢
     obtain ⟨q1, q2⟩ := hd1 j h hkk
     exact ⟨grow q1, by rw [k1 _ (.inl q1)]; exact q2⟩
    ·exact absurd h ejk)
  refine ⟨a2, K1 ++ K2, ?_, ?_, F1.trans F2, h2, fun j hj => ?_, fun m hm => ?_⟩
  ·show (slotP a k).bind _ = _
   rw [e1, oBs]; exact e2
  ·rw [← List.append_assoc]; exact C2
  ·rw [← List.append_assoc]
   refine d2 j ?_
   rcases hj with h | h
   ·exact .inl (.inl h)
   ·rcases List.mem_cons.1 h with h | h
    ·exact .inl (.inr h)
    ·exact .inr h
  ·rw [k2 m (hm.elim (fun h => .inl (grow h)) .inr), k1 m hm]
theorem Cy.next {a : Ar} {T1 R F : List Int} {x : Int} (C : Cy a T1 (x :: R) F) (h : ∀ k ∈ Go.Proofs.YtnjnggejbpkgoaaGreat.slots (hd a x).1.k (hd a x).1.s, Dn1 a T1 (x :: R) x k) : Cy { a with scan := x + (hd a x).1.s + 1 } (T1 ++ [x]) R F := by
 have t2 := C.t2
 have esc : a.scan = x := t2.1.symm
 have mm : ∀ {m}, m ∈ T1 ∨ m ∈ x :: R → m ∈ T1 ++ [x] ∨ m ∈ R := fun {m} h => by
  rcases h with h | h
  ·exact .inl (List.mem_append_left _ h)
  ·rcases List.mem_cons.1 h with rfl | h
   ·exact .inl (List.mem_append_right _ (by simp))
   ·exact .inr h
 have mb : ∀ {m}, m ∈ T1 ++ [x] ∨ m ∈ R → m ∈ T1 ∨ m ∈ x :: R := fun {m} h => by
  rcases h with h | h
  ·rcases List.mem_append.1 h with h | h
   ·exact .inl h
   ·exact .inr (by rw [List.mem_singleton.1 h]; simp)
  ·exact .inr (List.mem_cons_of_mem _ h)
 refine ⟨C.w, C.semi, C.len, C.to, C.cyc, ?_, ?_, C.f, C.top, C.old, fun y hy => (C.oT y (mb hy)).same (fun i _ _ => rfl), fun y hy => (C.oF y hy).elim (fun o => .inl (o.same (fun i _ _ => rfl))) fun h => .inr ⟨h.1, h.2.1, mm h.2.2⟩, C.room, C.cop, ?_, ?_, C.rF⟩
 ·have c := C.t1.snoc (sz := tsz a) (by rw [esc]; exact t2.2.1)
  rw [esc] at c
  exact c
 ·have c := t2.2.2
  rw [esc] at c
  exact c
 ·intro y hy
  rcases List.mem_append.1 hy with h1 | h1
  ·intro k hk hne
   obtain ⟨q1, q2⟩ := C.r1 y h1 k hk hne
   exact ⟨mm q1, q2⟩
  ·rw [List.mem_singleton.1 h1]
   intro k hk hne
   obtain ⟨q1, q2⟩ := h k hk hne
   exact ⟨mm q1, q2⟩
 ·intro y hy k hk hne
  obtain ⟨q1, q2⟩ := C.r2 y (List.mem_cons_of_mem _ hy) k hk hne
  exact ⟨q1.elim (fun q => .inl (mm q)) .inr, q2⟩
open Go Go.AH Go.AM
open Classical in
noncomputable def overP (a : Ar) : Ar := if a.cyc = true ∧ a.scan = a.top then { a with cyc := false, scan := 0, old := 0, cop := 0 } else a
structure Nc (a : Ar) (T : List Int) : Prop where
 w : wok a
 semi : 256 ≤ a.semi ∧ a.semi ≤ 4000
 len : (a.ws.length : Int) = 2 * a.semi
 to : a.to = 0 ∨ a.to = 1
 cyc : a.cyc = false
 t : Ch (tsz a) (a.to * a.semi + 1) T a.top
 top : a.top ≤ (a.to + 1) * a.semi
 oT : ∀ x ∈ T, Ob a x
 r : ∀ x ∈ T, Rf a (fun n => n ∈ T) (kd a) x
def RtT (a : Ar) (T : Int → Prop) : Prop := ∀ v ∈ a.rs, kindOf v.t ≠ 0 → T v.n ∧ kd a v.n = kindOf v.t
theorem Nc.of {a a' : Ar} {T : List Int} (C : Nc a T) (hw : a'.ws = a.ws) (h1 : a'.semi = a.semi) (h2 : a'.to = a.to) (h3 : a'.cyc = false) (h4 : a'.top = a.top) : Nc a' T := by
 have hh : ∀ x, hd a' x = hd a x := fun x => hd_same (by rw [hw])
 have ff : ∀ x, fw a' x = fw a x := fun x => fw_same (by rw [hw])
 have sm : ∀ x s, Same a.ws a'.ws x x s := fun x s i _ _ => by rw [hw]
 have kk : ∀ n, kd a' n = kd a n := fun n => by unfold kd tg; rw [ff, hh]
 refine ⟨fun x hx => C.w x (by rw [← hw]; exact hx), by rw [h1]; exact C.semi, by rw [hw, h1]; exact C.len, by rw [h2]; exact C.to, h3, ?_, by rw [h4, h2, h1]; exact C.top, fun x hx => (C.oT x hx).same (sm _ _), fun x hx => (C.r x hx).same (C.oT x hx).ok (sm _ _) fun n hn => ⟨hn, kk n⟩⟩
 rw [h2, h1, h4]
 exact C.t.congr fun x _ => by unfold tsz; rw [hh]
theorem Cy.over {a : Ar} {T F : List Int} (C : Cy a T [] F) : overP a = { a with cyc := false, scan := 0, old := 0, cop := 0 } ∧ Nc (overP a) T := by
 have e : a.scan = a.top := C.t2
 have eo : overP a = { a with cyc := false, scan := 0, old := 0, cop := 0 } := if_pos ⟨C.cyc, e⟩
 refine ⟨eo, ?_⟩
 rw [eo]
 have t1 := C.t1
 rw [e] at t1
 refine ⟨C.w, C.semi, C.len, C.to, rfl, t1, C.top, fun x hx => (C.oT x (.inl hx)).same (fun i _ _ => rfl), fun x hx k hk hne => ?_⟩
 obtain ⟨q1, q2⟩ := C.r1 x hx k hk hne
 exact ⟨q1.elim id (fun h => by cases h), q2⟩
theorem Cy.notover {a : Ar} {T R F : List Int} {x : Int} (C : Cy a T (x :: R) F) : overP a = a ∧ a.scan = x ∧ x < a.top := by
 have t2 := C.t2
 have b := C.tT (x := x) (.inr (by simp))
 have e : a.scan = x := t2.1.symm
 refine ⟨if_neg fun h => ?_, e, by omega⟩
 have := h.2
 omega
theorem over_n {a : Ar} (h : a.cyc = false) : overP a = a := if_neg fun x => by rw [h] at x; cases x.1
def Gh (a : Ar) (d : Nat) : Prop := wok a ∧ d < 8000 ∧ (d : Int) < a.ws.length ∧ (a.ws.length : Int) ≤ 8000 ∧ 0 ≤ a.scan ∧ a.scan < a.ws.length ∧ (hd a a.scan).2 = true
open Classical in
noncomputable def stepP : Nat → Ar → Nat → Option (Ar × Nat)
 | 0, _, _ => none
 | f + 1, a, d => if a.cyc = true then (if ¬ Gh a d then none else (slotsP (slots (hd a a.scan).1.k (hd a a.scan).1.s) a).bind fun a' => if a'.scan = a.scan then stepP f (overP { a' with scan := a.scan + (hd a a.scan).1.s + 1 }) (d + 1) else none) else some (a, d)
structure Fe (a a' : Ar) : Prop where
 semi : a'.semi = a.semi
 to : a'.to = a.to
 ser : a'.ser = a.ser
 rs : a'.rs = a.rs
 len : a'.ws.length = a.ws.length
theorem Fe.refl (a : Ar) : Fe a a := ⟨rfl, rfl, rfl, rfl, rfl⟩
theorem Fe.trans {a b c : Ar} (x : Fe a b) (y : Fe b c) : Fe a c := ⟨y.semi.trans x.semi, y.to.trans x.to, y.ser.trans x.ser, y.rs.trans x.rs, y.len.trans x.len⟩
theorem Fs.fe {a a' : Ar} (x : Fs a a') : Fe a a' := ⟨x.semi, x.to, x.ser, x.rs, x.len⟩
theorem over_fe (a : Ar) : Fe a (overP a) := by
 unfold overP
 split
 ·exact ⟨rfl, rfl, rfl, rfl, rfl⟩
 ·exact Fe.refl a
theorem kd_ws {a a' : Ar} (h : a'.ws = a.ws) (n : Int) : kd a' n = kd a n := by
 unfold kd tg
 rw [fw_same (a := a) (a' := a') (p := n) (q := n) (by rw [h])]
 exact congrArg (fun z : Hd × Bool => z.1.k) (hd_same (by rw [h]))
theorem over_ws (a : Ar) : (overP a).ws = a.ws := by unfold overP; split <;> rfl
theorem steps_end : ∀ (f : Nat) (a : Ar) (T1 T2 F : List Int) (d : Nat), Cy a T1 T2 F → T2 ≠ [] → ((a.to + 1) * a.semi - a.scan).toNat < f → 2 * (d : Int) ≤ a.scan - (a.to * a.semi + 1) →
  ∃ a' T d', stepP f a d = some (a', d') ∧ Nc a' T ∧ Fe a a' ∧ ∀ m, m ∈ T1 ∨ m ∈ T2 → m ∈ T ∧ kd a' m = kd a m
 | 0, _, _, _, _, _, _, _, h, _ => absurd h (Nat.not_lt_zero _)
 | f + 1, a, T1, [], F, d, C, hne, _, _ => absurd rfl hne
 | f + 1, a, T1, x :: R, F, d, C, hne, hf, hd2 => by
  obtain ⟨_, esc, hlt⟩ := C.notover
  have hh := C.half
  have hsm := C.semi
  have htop := C.top
  have hlen := C.len
  have O := C.oT x (.inr (by simp))
  have bx := C.tT (x := x) (.inr (by simp))
  have G : Gh a d := ⟨C.w, by omega, by omega, by omega, by omega, by omega, by rw [esc]; exact O.ok⟩
  obtain ⟨a1, K, e1, C1, F1, h1, d1, k1⟩ := Cy.slots (h0 := (hd a x).1) (Go.Proofs.YtnjnggejbpkgoaaGreat.slots (hd a x).1.k (hd a x).1.s) a R (fun _ => False) C rfl (fun k hk => hk) (fun k h => h.elim) (fun k h => h.elim)
  have C2 := C1.next (fun k hk => by rw [h1] at hk; exact d1 k (.inr hk))
  rw [h1] at C2
  have es : stepP (f + 1) a d = stepP f (overP { a1 with scan := x + (hd a x).1.s + 1 }) (d + 1) := by
   rw [stepP, if_pos C.cyc, if_neg (fun h => h G), esc, e1, oBs, if_pos (by rw [F1.scan, esc])]
  rw [es]
  have up : ∀ {m}, m ∈ T1 ∨ m ∈ x :: R → m ∈ T1 ++ [x] ∨ m ∈ R ++ K := fun {m} h => by
   rcases h with h | h
   ·exact .inl (List.mem_append_left _ h)
   ·rcases List.mem_cons.1 h with rfl | h
    ·exact .inl (List.mem_append_right _ (by simp))
    ·exact .inr (List.mem_append_left _ h)
  have fe1 : Fe a { a1 with scan := x + (hd a x).1.s + 1 } := ⟨F1.semi, F1.to, F1.ser, F1.rs, F1.len⟩
  have k2 : ∀ m, m ∈ T1 ∨ m ∈ x :: R → kd { a1 with scan := x + (hd a x).1.s + 1 } m = kd a m := fun m h => by
   exact (kd_ws (a := a1) rfl m).trans (k1 m (.inl h))
  cases hRK : R ++ K with
  | nil =>
   rw [hRK] at C2 up
   obtain ⟨eo, N⟩ := C2.over
   have en : stepP f (overP { a1 with scan := x + (hd a x).1.s + 1 }) (d + 1) = some (overP { a1 with scan := x + (hd a x).1.s + 1 }, d + 1) := by
    obtain ⟨f, rfl⟩ : ∃ g, f = g + 1 := ⟨f - 1, by omega⟩
    rw [stepP, if_neg (by rw [N.cyc]; decide)]
   refine ⟨_, _, _, en, N, fe1.trans (over_fe _), fun m hm => ⟨(up hm).elim id (fun h => by cases h), ?_⟩⟩
   rw [kd_ws (over_ws _) m]
   exact k2 m hm
  | cons y S =>
   rw [hRK] at C2 up
   obtain ⟨eo, esc2, hlt2⟩ := C2.notover
   rw [eo]
   have b1 : ({ a1 with scan := x + (hd a x).1.s + 1 } : Ar).to = a.to := F1.to
   have b2 : ({ a1 with scan := x + (hd a x).1.s + 1 } : Ar).semi = a.semi := F1.semi
   obtain ⟨a3, T, d3, e1003, N, fe3, k3⟩ := steps_end f _ (T1 ++ [x]) (y :: S) F (d + 1) C2 (by simp) (by
    show ((a1.to + 1) * a1.semi - (x + (hd a x).1.s + 1)).toNat < f
    rw [F1.to, F1.semi]
    omega) (by
    show 2 * ((d + 1 : Nat) : Int) ≤ (x + (hd a x).1.s + 1) - (a1.to * a1.semi + 1)
    rw [F1.to, F1.semi]
    omega)
   refine ⟨a3, T, d3, e1003, N, fe1.trans fe3, fun m hm => ?_⟩
   obtain ⟨q1, q2⟩ := k3 m (up hm)
   exact ⟨q1, by rw [q2]; exact k2 m hm⟩
noncomputable def finP (a : Ar) : Option Ar := (stepP 20000 (overP a) 0).bind fun r => some r.1
theorem fin_cy {a : Ar} {T1 T2 F : List Int} (C : Cy a T1 T2 F) : ∃ a' T, finP a = some a' ∧ Nc a' T ∧ Fe a a' ∧ ∀ m, m ∈ T1 ∨ m ∈ T2 → m ∈ T ∧ kd a' m = kd a m := by
 have hh := C.half
 have hsm := C.semi
 have l1 := C.t1.le
 unfold finP
 cases T2 with
 | nil =>
  obtain ⟨eo, N⟩ := C.over
  refine ⟨overP a, T1, ?_, N, over_fe a, fun m hm => ⟨hm.elim id (fun h => by cases h), kd_ws (over_ws a) m⟩⟩
  rw [show (20000 : Nat) = 19999 + 1 from rfl, stepP, if_neg (by rw [N.cyc]; decide), oBs]
 | cons x R =>
  obtain ⟨eo, esc, hlt⟩ := C.notover
  obtain ⟨a', T, d', e, N, fe, k⟩ := steps_end 20000 a T1 (x :: R) F 0 C (by simp) (by omega) (by omega)
  rw [eo, e]
  exact ⟨a', T, rfl, N, fe, k⟩
theorem fin_nc {a : Ar} {T : List Int} (N : Nc a T) : finP a = some a := by
 unfold finP
 rw [over_n N.cyc, show (20000 : Nat) = 19999 + 1 from rfl, stepP, if_neg (by rw [N.cyc]; decide), oBs]
open Go Go.AH Go.AM
theorem Cy.of {a a' : Ar} {T1 T2 F : List Int} (C : Cy a T1 T2 F) (hw : a'.ws = a.ws) (h1 : a'.semi = a.semi) (h2 : a'.to = a.to) (h3 : a'.cyc = a.cyc) (h4 : a'.top = a.top) (h5 : a'.scan = a.scan) (h6 : a'.old = a.old) (h7 : a'.cop = a.cop) : Cy a' T1 T2 F := by
 have hh : ∀ x, hd a' x = hd a x := fun x => hd_same (by rw [hw])
 have ff : ∀ x, fw a' x = fw a x := fun x => fw_same (by rw [hw])
 have sm : ∀ x s, Same a.ws a'.ws x x s := fun x s i _ _ => by rw [hw]
 have kk : ∀ n, kd a' n = kd a n := fun n => kd_ws hw n
 have lz : lvz a' = lvz a := funext fun x => by unfold lvz; rw [hh]
 refine ⟨fun x hx => C.w x (by rw [← hw]; exact hx), by rw [h1]; exact C.semi, by rw [hw, h1]; exact C.len, by rw [h2]; exact C.to, by rw [h3]; exact C.cyc, ?_, ?_, ?_, by rw [h4, h2, h1]; exact C.top, by rw [h6, h2, h1]; exact C.old, fun x hx => (C.oT x hx).same (sm _ _), fun x hx => ?_, by rw [lz, h2, h1, h4]; exact C.room, by rw [lz, h7]; exact C.cop,
  fun x hx => (C.r1 x hx).same (C.oT x (.inl hx)).ok (sm _ _) fun n hn => ⟨hn, kk n⟩, fun x hx => (C.r2 x hx).same (C.oT x (.inr hx)).ok (sm _ _) fun n hn => ⟨hn, kk n⟩, fun x hx hl => ?_⟩
 ·rw [h2, h1, h5]; exact C.t1.congr fun x _ => by unfold tsz; rw [hh]
 ·rw [h5, h4]; exact C.t2.congr fun x _ => by unfold tsz; rw [hh]
 ·rw [h2, h1, h6]; exact C.f.congr fun x _ => by unfold fsz; rw [hh, ff, hh]
 ·rcases C.oF x hx with h | h
  ·exact .inl (h.same (sm _ _))
  ·exact .inr ⟨by rw [hh]; exact h.1, by rw [ff]; exact h.2.1, by rw [ff]; exact h.2.2⟩
 ·rw [hh] at hl
  exact (C.rF x hx hl).same hl (sm _ _) fun n hn => ⟨hn, kk n⟩
open Classical in
noncomputable def rootsP : Nat → Nat → Ar → Option Ar
 | 0, _, _ => none
 | f + 1, i, a => if h : i < a.rs.length then (fwdP a a.rs[i]).bind fun r => if r.1.rs = a.rs then rootsP f (i + 1) { r.1 with rs := r.1.rs.set i r.2 } else none else some (overP a)
def flp (a : Ar) : Ar := { a with old := a.top, to := 1 - a.to, top := (1 - a.to) * a.semi + 1, scan := (1 - a.to) * a.semi + 1, cop := 0, cyc := true }
noncomputable def flipP (a : Ar) : Option Ar := rootsP 20000 0 (flp a)
theorem Nc.half {a : Ar} {T : List Int} (C : Nc a T) : (a.to * a.semi = 0 ∧ (a.to + 1) * a.semi = a.semi ∧ (1 - a.to) * a.semi = a.semi ∧ (2 - a.to) * a.semi = 2 * a.semi ∧ a.to = 0) ∨ (a.to * a.semi = a.semi ∧ (a.to + 1) * a.semi = 2 * a.semi ∧ (1 - a.to) * a.semi = 0 ∧ (2 - a.to) * a.semi = a.semi ∧ a.to = 1) := by
 rcases C.to with h | h
 ·exact .inl ⟨by rw [h]; omega, by rw [h]; omega, by rw [h]; omega, by rw [h]; omega, h⟩
 ·exact .inr ⟨by rw [h]; omega, by rw [h]; omega, by rw [h]; omega, by rw [h]; omega, h⟩
theorem Nc.flip {a : Ar} {T : List Int} (C : Nc a T) : Cy (flp a) [] [] T := by
 have hh := C.half
 have hs := C.semi
 have htop := C.top
 have hle := C.t.le
 have lz : ∀ x ∈ T, lvz (flp a) x = tsz a x + 1 := fun x hx => by
  show (if (hd a x).2 = true then (hd a x).1.s + 1 else 0) = _
  rw [if_pos (C.oT x hx).ok]; rfl
 have el : lft (lvz (flp a)) T = a.top - (a.to * a.semi + 1) := by
  rw [lft_congr (g := fun x => tsz a x + 1) lz]
  exact lft_ch C.t
 have e1 : (1 - (1 - a.to)) * a.semi = a.to * a.semi := by rw [show 1 - (1 - a.to) = a.to by omega]
 have e2 : (2 - (1 - a.to)) * a.semi = (a.to + 1) * a.semi := by rw [show 2 - (1 - a.to) = a.to + 1 by omega]
 have e1003 : (1 - a.to + 1) * a.semi = (2 - a.to) * a.semi := by rw [show 1 - a.to + 1 = 2 - a.to by omega]
 have kk : ∀ n, kd (flp a) n = kd a n := fun n => kd_ws rfl n
 refine ⟨C.w, C.semi, C.len, ?_, rfl, rfl, rfl, ?_, ?_, ?_, fun x hx => (by rcases hx with h | h <;> cases h), fun x hx => .inl ((C.oT x hx).same (fun i _ _ => rfl)), ?_, ?_, fun x hx => (by cases hx), fun x hx => (by cases hx), fun x hx hl k hk hne => ?_⟩
 ·show 1 - a.to = 0 ∨ 1 - a.to = 1
  have := C.to
  omega
 ·show Ch (fsz (flp a)) ((1 - (1 - a.to)) * a.semi + 1) T a.top
  rw [e1]
  refine C.t.congr fun x hx => ?_
  show (if (hd a x).2 = true then (hd a x).1.s else _) = _
  rw [if_pos (C.oT x hx).ok]; rfl
 ·show (1 - a.to) * a.semi + 1 ≤ (1 - a.to + 1) * a.semi
  rw [e1003]
  omega
 ·show a.top ≤ (2 - (1 - a.to)) * a.semi
  rw [e2]; exact C.top
 ·rw [el]
  show _ ≤ (1 - a.to + 1) * a.semi - ((1 - a.to) * a.semi + 1)
  rw [e1003]
  omega
 ·rw [el]
  show 0 ≤ (0 : Int) ∧ (0 : Int) + _ ≤ 8000
  omega
 ·obtain ⟨q1, q2⟩ := C.r x hx k hk hne
  exact ⟨q1, by rw [kk]; exact q2⟩
theorem roots_all : ∀ (f i : Nat) (a : Ar) (T2 F : List Int), Cy a [] T2 F → a.rs.length - i < f → i ≤ a.rs.length → (∀ j v, a.rs[j]? = some v → (j < i → VT a [] T2 v) ∧ (i ≤ j → VF a [] T2 F v)) →
  ∃ a' T, rootsP f i a = some a' ∧ a'.semi = a.semi ∧ a'.to = a.to ∧ a'.ser = a.ser ∧ a'.rs.length = a.rs.length ∧ a'.ws.length = a.ws.length ∧
   ((∃ R F', Cy a' [] R F' ∧ R = T) ∨ Nc a' T) ∧ RtT a' (fun n => n ∈ T)
 | 0, _, _, _, _, _, h, _, _ => absurd h (Nat.not_lt_zero _)
 | f + 1, i, a, T2, F, C, hf, hi, hv => by
  rw [rootsP]
  by_cases c : i < a.rs.length
  ·rw [dif_pos c]
   obtain ⟨a1, v1, K, e1, C1, F1, t1, _, V1, k1⟩ := C.fwd ((hv i _ (List.getElem?_eq_getElem c)).2 (Nat.le_refl _))
   rw [e1, oBs, if_pos F1.rs]
   have C2 : Cy { a1 with rs := a1.rs.set i v1 } [] (T2 ++ K) F := C1.of rfl rfl rfl rfl rfl rfl rfl rfl
   have kk : ∀ n, kd { a1 with rs := a1.rs.set i v1 } n = kd a1 n := fun n => kd_ws rfl n
   have el : ({ a1 with rs := a1.rs.set i v1 } : Ar).rs.length = a.rs.length := by
    show (a1.rs.set i v1).length = _
    rw [List.length_set, F1.rs]
   obtain ⟨a', T, e, s1, s2, s3, s4, s5, s6, s7⟩ := roots_all f (i + 1) _ (T2 ++ K) F C2 (by rw [el]; omega) (by rw [el]; exact c) (fun j v ev => by
    have ev' : (a.rs.set i v1)[j]? = some v := by rw [← F1.rs]; exact ev
    by_cases ej : j = i
    ·subst ej
     rw [List.getElem?_set_self c] at ev'
     cases ev'
     exact ⟨fun _ hk => by
      obtain ⟨q1, q2⟩ := V1 hk
      exact ⟨q1, (kk _).trans q2⟩, fun h => absurd h (by omega)⟩
    ·rw [List.getElem?_set_ne (fun h => ej h.symm)] at ev'
     obtain ⟨q1, q2⟩ := hv j v ev'
     refine ⟨fun h hk => ?_, fun h hk => ?_⟩
     ·obtain ⟨r1, r2⟩ := q1 (by omega) hk
      exact ⟨r1.elim .inl (fun x => .inr (List.mem_append_left _ x)), by rw [kk, k1 _ (.inl r1)]; exact r2⟩
     ·obtain ⟨r1, r2⟩ := q2 (by omega) hk
      exact ⟨r1.elim (fun x => .inl (x.elim .inl (fun x => .inr (List.mem_append_left _ x)))) .inr, by rw [kk, k1 _ r1]; exact r2⟩)
   refine ⟨a', T, e, s1.trans F1.semi, s2.trans F1.to, s3.trans F1.ser, s4.trans el, s5.trans F1.len, s6, s7⟩
  ·rw [dif_neg c]
   have all : ∀ v ∈ a.rs, VT a [] T2 v := fun v hm => by
    obtain ⟨j, hj, e⟩ := List.mem_iff_getElem.1 hm
    exact (hv j v (by rw [List.getElem?_eq_getElem hj, e])).1 (by omega)
   have fe := over_fe a
   have hr : (overP a).rs = a.rs := fe.rs
   refine ⟨overP a, T2, rfl, fe.semi, fe.to, fe.ser, by rw [hr], fe.len, ?_, fun v hm hk => ?_⟩
   ·cases T2 with
    | nil => exact .inr C.over.2
    | cons x R =>
     obtain ⟨eo, _⟩ := C.notover
     exact .inl ⟨x :: R, F, by rw [eo]; exact C, rfl⟩
   ·rw [hr] at hm
    obtain ⟨q1, q2⟩ := all v hm hk
    exact ⟨q1.elim (fun h => by cases h) id, by rw [kd_ws (over_ws a)]; exact q2⟩
noncomputable def collP (a : Ar) : Option Ar := (finP a).bind fun a1 => (flipP a1).bind fun a2 => finP a2
theorem coll_nc {a : Ar} {T : List Int} (N : Nc a T) (R : RtT a (fun n => n ∈ T)) (hr : a.rs.length ≤ 24) :
  ∃ a1 a2 T', flipP a = some a1 ∧ finP a1 = some a2 ∧ Nc a2 T' ∧ RtT a2 (fun n => n ∈ T') ∧ a2.semi = a.semi ∧ a2.ser = a.ser ∧ a2.rs.length = a.rs.length ∧ a2.ws.length = a.ws.length := by
 obtain ⟨a1, T1, e1, s1, s2, s3, s4, s5, s6, s7⟩ := roots_all 20000 0 (flp a) [] T N.flip (by show a.rs.length - 0 < 20000; omega) (Nat.zero_le _) (fun j v ev => ⟨fun h => absurd h (Nat.not_lt_zero _), fun _ hk => by
  obtain ⟨q1, q2⟩ := R v (List.mem_of_getElem? ev) hk
  exact ⟨.inr q1, (kd_ws (a := a) rfl v.n).trans q2⟩⟩)
 rcases s6 with ⟨S, F', C1, rfl⟩ | N1
 ·obtain ⟨a2, T2, e2, N2, fe, k2⟩ := fin_cy C1
  refine ⟨a1, a2, T2, e1, e2, N2, fun v hv hk => ?_, fe.semi.trans s1, fe.ser.trans s3, by rw [fe.rs]; exact s4, fe.len.trans s5⟩
  rw [fe.rs] at hv
  obtain ⟨q1, q2⟩ := s7 v hv hk
  obtain ⟨r1, r2⟩ := k2 v.n (.inr q1)
  exact ⟨r1, by rw [r2]; exact q2⟩
 ·exact ⟨a1, a1, T1, e1, fin_nc N1, N1, s7, s1, s3, s4, s5⟩
open Go Go.AH Go.AM
theorem Ch.split {sz : Int → Int} : ∀ {L : List Int} {p e x : Int}, Ch sz p L e → x ∈ L → ∃ L1 L2, L = L1 ++ x :: L2 ∧ Ch sz p L1 x ∧ Ch sz x (x :: L2) e
 | [], _, _, _, _, h => by cases h
 | y :: L, p, e, x, h, hx => by
  obtain ⟨h1, h2, h3⟩ := h
  rcases List.mem_cons.1 hx with rfl | hx
  ·exact ⟨[], L, rfl, h1.symm, rfl, h2, by rw [← h1] at h3; exact h3⟩
  ·obtain ⟨L1, L2, e1, c1, c2⟩ := h3.split hx
   exact ⟨y :: L1, L2, by rw [e1]; rfl, ⟨h1, h2, c1⟩, c2⟩
theorem tile1_chain {a : Ar} (ht : a.top ≤ a.ws.length) : ∀ (f : Nat) (M : List Int) (p : Int) (M' : List Int), M.length = a.ws.length → 1 ≤ p → p ≤ a.top → tile1 a f M p = some M' → ∃ T, Ch (tsz a) p T a.top ∧ ∀ q, rd M' q = if q ∈ T then some 1 else rd M q
 | 0, _, _, _, _, _, _, h => by cases h
 | f + 1, M, p, M', hM, h0, h1, h => by
  rw [tile1] at h
  by_cases c : p < a.top
  ·rw [if_pos c] at h
   by_cases d : (hd a p).2 = true ∧ (hd a p).1.n < a.ser ∧ p + (hd a p).1.s + 1 ≤ a.top
   ·rw [if_pos d] at h
    have hs := hok_s (hd_hok d.1)
    obtain ⟨T, t1, t2⟩ := tile1_chain ht f _ _ M' (by simp [hM]) (by omega) d.2.2 h
    refine ⟨p :: T, ⟨rfl, hs.1, t1⟩, fun q => ?_⟩
    rw [t2 q, rd_set (by omega) (by omega)]
    by_cases e1 : q ∈ T
    ·rw [if_pos e1, if_pos (List.mem_cons_of_mem _ e1)]
    ·rw [if_neg e1]
     by_cases e2 : q = p
     ·rw [if_pos e2, if_pos (by rw [e2]; simp)]
     ·rw [if_neg e2, if_neg (by simp [e1, e2])]
   ·rw [if_neg d] at h; cases h
  ·rw [if_neg c] at h
   cases h
   have : p = a.top := by omega
   exact ⟨[], this, fun q => rfl⟩
theorem tile2_chain {a : Ar} (hl : (a.ws.length : Int) ≤ 8000) (ht : a.old ≤ a.ws.length) : ∀ (f : Nat) (M S : List Int) (c p : Int) (M' : List Int), M.length = a.ws.length → 1 ≤ p → p ≤ a.old → (∀ q, rd M q = some 1 → (hd a q).2 = true) → tile2 a f M S c p = some M' →
  ∃ F, Ch (fsz a) p F a.old ∧ lft (lvz a) F = a.old - p - (a.cop - c) ∧ (∀ q, ¬ q ∈ F → rd M' q = rd M q) ∧ ∀ q ∈ F, ((hd a q).2 = true ∧ rd M' q = some 2) ∨ ((hd a q).2 = false ∧ (fw a q).2 = true ∧ rd M (fw a q).1 = some 1 ∧ rd M' q = some 3)
 | 0, _, _, _, _, _, _, _, _, _, h => by cases h
 | f + 1, M, S, c, p, M', hM, h0, h1, hO, h => by
  rw [tile2] at h
  by_cases cc : p < a.old
  ·rw [if_pos cc] at h
   by_cases d : (hd a p).2 = true
   ·rw [if_pos d] at h
    have hs := hok_s (hd_hok d)
    by_cases d2 : (hd a p).1.n < a.ser ∧ p + (hd a p).1.s + 1 ≤ a.old
    ·rw [if_pos d2] at h
     obtain ⟨F, c1, c2, c1003, c1004⟩ := tile2_chain hl ht f _ _ _ _ M' (by simp [hM]) (by omega) d2.2 (fun q hq => hO q (rd1_set (by omega) (by omega) (by decide) hq)) h
     have ez : fsz a p = (hd a p).1.s := if_pos d
     have el : lvz a p = (hd a p).1.s + 1 := if_pos d
     have hp : ¬ p ∈ F := fun hm => by have := c1.mem hm; omega
     refine ⟨p :: F, ⟨rfl, by rw [ez]; exact hs.1, by rw [ez]; exact c1⟩, ?_, fun q hq => ?_, fun q hq => ?_⟩
     ·show lvz a p + lft _ F = _
      rw [c2, el]; omega
     ·rw [List.mem_cons, not_or] at hq
      rw [c1003 q hq.2, rd_set (by omega) (by omega), if_neg hq.1]
     ·rcases List.mem_cons.1 hq with rfl | hq
      ·exact .inl ⟨d, by rw [c1003 _ hp, rd_set (by omega) (by omega), if_pos rfl]⟩
      ·rcases c1004 q hq with x | x
       ·exact .inl x
       ·exact .inr ⟨x.1, x.2.1, rd1_set (by omega) (by omega) (by decide) x.2.2.1, x.2.2.2⟩
    ·rw [if_neg d2] at h; cases h
   ·rw [if_neg d] at h
    by_cases d2 : (fw a p).2 = true ∧ rd M (fw a p).1 = some 1 ∧ ¬ (fw a p).1 ∈ S ∧ p + (hd a (fw a p).1).1.s + 1 ≤ a.old
    ·rw [if_pos d2] at h
     have hs := hok_s (hd_hok (hO _ d2.2.1))
     obtain ⟨F, c1, c2, c1003, c1004⟩ := tile2_chain hl ht f _ _ _ _ M' (by simp [hM]) (by omega) d2.2.2.2 (fun q hq => hO q (rd1_set (by omega) (by omega) (by decide) hq)) h
     have ez : fsz a p = (hd a (fw a p).1).1.s := if_neg d
     have el : lvz a p = 0 := if_neg d
     have hp : ¬ p ∈ F := fun hm => by have := c1.mem hm; omega
     refine ⟨p :: F, ⟨rfl, by rw [ez]; exact hs.1, by rw [ez]; exact c1⟩, ?_, fun q hq => ?_, fun q hq => ?_⟩
     ·show lvz a p + lft _ F = _
      rw [c2, el]; omega
     ·rw [List.mem_cons, not_or] at hq
      rw [c1003 q hq.2, rd_set (by omega) (by omega), if_neg hq.1]
     ·rcases List.mem_cons.1 hq with rfl | hq
      ·exact .inr ⟨by simpa using d, d2.1, d2.2.1, by rw [c1003 _ hp, rd_set (by omega) (by omega), if_pos rfl]⟩
      ·rcases c1004 q hq with x | x
       ·exact .inl x
       ·exact .inr ⟨x.1, x.2.1, rd1_set (by omega) (by omega) (by decide) x.2.2.1, x.2.2.2⟩
    ·rw [if_neg d2] at h; cases h
  ·rw [if_neg cc] at h
   by_cases d : c = a.cop
   ·rw [if_pos d] at h
    cases h
    have : p = a.old := by omega
    exact ⟨[], this, by show (0 : Int) = _; omega, fun q _ => rfl, fun q hq => by cases hq⟩
   ·rw [if_neg d] at h; cases h
theorem okR_ref {a : Ar} {M : List Int} {p fr k j : Int} (h : okR a M p fr k j = true) (hk : kindOf (rv a (p + j)).1.t ≠ 0) : ∃ w, rd M (rv a (p + j)).1.n = some w ∧ ((w = 1 ∧ fr ≠ 3) ∨ ((w = 2 ∨ w = 3) ∧ fr ≠ 1)) ∧ (hd a (tg a (rv a (p + j)).1.n)).1.k = kindOf (rv a (p + j)).1.t := by
 have hv := okR_v h
 unfold okR at h
 rw [hv, Bool.true_and] at h
 cases c : ck a M (rv a (p + j)).1 fr with
 | false => rw [c] at h; cases h
 | true =>
  unfold ck at c
  rw [if_neg hk] at c
  cases e : rd M (rv a (p + j)).1.n with
  | none => rw [e] at c; cases c
  | some w =>
   rw [e] at c
   have := of_decide_eq_true c
   exact ⟨w, rfl, this.1, this.2⟩
theorem ob_of {a : Ar} {M : List Int} (K : Mk a M) (I : ArI a) (A : All M (objR a M) 0) {p : Int} (lp : live M p) : Ob a p := by
 have hl := K.bd.hl
 obtain ⟨h1, ok, hi, hs⟩ := K.obj lp
 have ho := A p (by omega) lp
 unfold objR at ho
 simp only [Bool.and_eq_true] at ho
 refine ⟨ok, fun hk => ?_, fun k hk => okR_v (List.all_eq_true.1 ho.1 k hk)⟩
 have ht : tlR a p 1 (hd a p).1.s = some true := by
  have := ho.2
  rw [hk] at this
  simpa using this
 have h94 : m94 a p (hd a p).1.s = some true := by
  have e : tlR a p 1 (hd a p).1.s = (m94 a p (hd a p).1.s).bind fun r => some r := rfl
  rw [e] at ht
  cases e2 : m94 a p (hd a p).1.s with
  | none => rw [e2] at ht; cases ht
  | some b => rw [e2] at ht; exact ht
 obtain ⟨w, e, hw, he⟩ := text_ok I hl (by omega) ⟨hs.1, hs.2.1⟩ hi h94
 exact ⟨w, e, hw, he⟩
theorem arena_ch {a : Ar} {M : List Int} (K : Mk a M) (I : ArI a) (A : All M (objR a M) 0) (R : a.rs.all (rok a M) = true) :
  (∃ T, Nc a T ∧ RtT a (fun n => n ∈ T)) ∨ ∃ T1 T2 F, Cy a T1 T2 F ∧ RtT a (fun n => n ∈ T1 ∨ n ∈ T2) := by
 have B := K.bd
 obtain ⟨c1, c2, c1003, c1005, c4, c1004⟩ := K.num
 have h01 : a.to = 0 ∨ a.to = 1 := by omega
 have b0 := B.b0
 have b2 := B.b2
 have b3 := B.b3
 have btop := B.top
 have bold := B.old
 obtain ⟨M1, t1, tt⟩ := K.tl
 obtain ⟨T, ch, hT⟩ := tile1_chain B.top 20000 _ _ M1 (by simp) (by omega) (by omega) t1
 have l1 : M1.length = a.ws.length := (tile1_ch B.top 20000 _ _ M1 (by simp) (by omega) (by omega) t1).1
 have hT1 : ∀ q, rd M1 q = some 1 ↔ q ∈ T := fun q => by
  rw [hT q]
  by_cases e : q ∈ T
  ·rw [if_pos e]; exact ⟨fun _ => e, fun _ => rfl⟩
  ·rw [if_neg e]
   exact ⟨fun h => (by have := rd_rep h; omega), fun h => absurd h e⟩
 have slot : ∀ {p}, live M p → ∀ k ∈ slots (hd a p).1.k (hd a p).1.s, okR a M p (frOf a M p) (hd a p).1.k k = true := fun {p} lp k hk => by
  have ho := A p (by have := (K.obj lp).h1; omega) lp
  unfold objR at ho
  simp only [Bool.and_eq_true] at ho
  exact List.all_eq_true.1 ho.1 k hk
 have roots : RtT a (fun n => rd M n = some 1) := fun v hv hk => by
  have ho := List.all_eq_true.1 R v hv
  unfold rok at ho
  simp only [Bool.and_eq_true] at ho
  have c := ho.2
  unfold ck at c
  rw [if_neg hk] at c
  cases e : rd M v.n with
  | none => rw [e] at c; cases c
  | some w =>
   rw [e] at c
   have h := of_decide_eq_true c
   refine ⟨?_, h.2⟩
   rcases h.1 with x | x
   ·show rd M v.n = some 1
    rw [e, x.1]
   ·exact absurd rfl x.2
 rcases tt with ⟨hc, rfl⟩ | ⟨hc, t2⟩
 ·left
  refine ⟨T, ⟨I.w, c1, c2, h01, hc, ch, c1004.2, fun x hx => ob_of K I A (.inl ((hT1 x).2 hx)), fun x hx k hk hne => ?_⟩, fun v hv hk => ?_⟩
  ·obtain ⟨w, e, hw, hkd⟩ := okR_ref (slot (.inl ((hT1 x).2 hx)) k hk) hne
   refine ⟨(hT1 _).1 ?_, hkd⟩
   rcases K.m0 _ _ e with rfl | rfl | rfl | rfl
   ·omega
   ·exact e
   ·have := (K.m2 _ e).1
    rw [hc] at this; cases this
   ·have := (K.m3 _ e).1
    rw [hc] at this; cases this
  ·obtain ⟨q1, q2⟩ := roots v hv hk
   exact ⟨(hT1 _).1 q1, q2⟩
 ·right
  have hcy := K.cy
  unfold cycOk at hcy
  rw [if_pos hc] at hcy
  have hcy := of_decide_eq_true hcy
  have hO : ∀ q, rd M1 q = some 1 → (hd a q).2 = true := fun q e => by
   rcases (tile1_ch B.top 20000 _ _ M1 (by simp) (by omega) (by omega) t1).2 q with x | x
   ·rw [e] at x
    have := rd_rep x.symm
    omega
   ·exact x.2.2.2.1
  obtain ⟨F, f1, f2, f3, f4⟩ := tile2_chain B.hl (by omega) 20000 M1 [] 0 _ M l1 (by omega) (by omega) hO t2
  have dis : ∀ q, q ∈ T → ¬ q ∈ F := fun q h1 h2 => by
   have a1 := ch.mem h1
   have a2 := f1.mem h2
   rcases h01 with h | h <;> rw [h] at a1 a2 c1004 hcy <;> omega
  have hM1 : ∀ q, rd M q = some 1 ↔ q ∈ T := fun q => by
   by_cases e : q ∈ F
   ·refine ⟨fun h => ?_, fun h => absurd e (dis q h)⟩
    rcases f4 q e with x | x
    ·rw [h] at x; cases x.2
    ·rw [h] at x; cases x.2.2.2
   ·rw [f3 q e]; exact hT1 q
  have hM23 : ∀ q w, rd M q = some w → (w = 2 ∨ w = 3) → q ∈ F := fun q w e hw => by
   by_cases h : q ∈ F
   ·exact h
   ·rw [f3 q h, hT q] at e
    by_cases h2 : q ∈ T
    ·rw [if_pos h2] at e
     cases e
     omega
    ·rw [if_neg h2] at e
     have := rd_rep e
     omega
  have key : ∀ T1 T2, T = T1 ++ T2 → Ch (tsz a) (a.to * a.semi + 1) T1 a.scan → Ch (tsz a) a.scan T2 a.top → Cy a T1 T2 F := fun T1 T2 eT ch1 ch2 => by
   have mT : ∀ {q}, q ∈ T → q ∈ T1 ∨ q ∈ T2 := fun {q} h => by rw [eT] at h; exact List.mem_append.1 h
   have mT' : ∀ {q}, q ∈ T1 ∨ q ∈ T2 → q ∈ T := fun {q} h => by rw [eT]; exact List.mem_append.2 h
   refine ⟨I.w, c1, c2, h01, hc, ch1, ch2, f1, c1004.2, by omega, fun x hx => ob_of K I A (.inl ((hM1 x).2 (mT' hx))), fun x hx => ?_, by rw [f2]; omega, by rw [f2]; omega, fun x hx k hk hne => ?_, fun x hx k hk hne => ?_, fun x hx hl k hk hne => ?_⟩
   ·rcases f4 x hx with y | y
    ·exact .inl (ob_of K I A (.inr y.2))
    ·exact .inr ⟨y.1, y.2.1, mT ((hT1 _).1 y.2.2.1)⟩
   ·have hm := (hM1 x).2 (mT' (.inl hx))
    obtain ⟨w, e, hw, hkd⟩ := okR_ref (slot (.inl hm) k hk) hne
    have b := ch1.mem hx
    have efr : frOf a M x = 1 := by
     unfold frOf
     rw [hm, if_neg (by decide), if_neg (fun h => by have := h.2; omega)]
    rw [efr] at hw
    rcases hw with y | y
    ·exact ⟨mT ((hM1 _).1 (by rw [e, y.1])), hkd⟩
    ·exact absurd rfl y.2
   ·have hm := (hM1 x).2 (mT' (.inr hx))
    obtain ⟨w, e, hw, hkd⟩ := okR_ref (slot (.inl hm) k hk) hne
    refine ⟨?_, hkd⟩
    rcases hw with y | y
    ·exact .inl (mT ((hM1 _).1 (by rw [e, y.1])))
    ·exact .inr (hM23 _ w e y.1)
   ·have hm : rd M x = some 2 := by
     rcases f4 x hx with y | y
     ·exact y.2
     ·rw [hl] at y; cases y.1
    obtain ⟨w, e, hw, hkd⟩ := okR_ref (slot (.inr hm) k hk) hne
    have efr : frOf a M x = 3 := by
     unfold frOf
     rw [hm, if_pos rfl]
    rw [efr] at hw
    rcases hw with y | y
    ·exact absurd rfl y.2
    ·exact ⟨hM23 _ w e y.1, hkd⟩
  rcases K.sc hc with h | h
  ·refine ⟨T, [], F, key T [] (by simp) (by rw [h]; exact ch) h, fun v hv hk => ?_⟩
   obtain ⟨q1, q2⟩ := roots v hv hk
   exact ⟨.inl ((hM1 _).1 q1), q2⟩
  ·obtain ⟨L1, L2, e1, k1, k2⟩ := ch.split ((hM1 _).1 h)
   refine ⟨L1, a.scan :: L2, F, key L1 (a.scan :: L2) e1 k1 k2, fun v hv hk => ?_⟩
   obtain ⟨q1, q2⟩ := roots v hv hk
   have := (hM1 _).1 q1
   rw [e1] at this
   exact ⟨List.mem_append.1 this, q2⟩
theorem coll_ok {a : Ar} {M : List Int} (K : Mk a M) (I : ArI a) (A : All M (objR a M) 0) (R : a.rs.all (rok a M) = true) :
  ∃ a1 a2 a3 T, finP a = some a1 ∧ flipP a1 = some a2 ∧ finP a2 = some a3 ∧ Nc a3 T ∧ RtT a3 (fun n => n ∈ T) ∧ a3.semi = a.semi ∧ a3.ser = a.ser ∧ a3.rs.length = a.rs.length ∧ a3.ws.length = a.ws.length := by
 have hr := K.num.roots
 rcases arena_ch K I A R with ⟨T, N, RT⟩ | ⟨T1, T2, F, C, RT⟩
 ·obtain ⟨a2, a3, T', e2, e1003, N3, R3, s1, s2, s3, s4⟩ := coll_nc N RT (by omega)
  exact ⟨a, a2, a3, T', fin_nc N, e2, e1003, N3, R3, s1, s2, s3, s4⟩
 ·obtain ⟨a1, T, e1, N1, fe, k⟩ := fin_cy C
  obtain ⟨a2, a3, T', e2, e1003, N3, R3, s1, s2, s3, s4⟩ := coll_nc N1 (fun v hv hk => by
   rw [fe.rs] at hv
   obtain ⟨q1, q2⟩ := RT v hv hk
   obtain ⟨r1, r2⟩ := k v.n q1
   exact ⟨r1, by rw [r2]; exact q2⟩) (by rw [fe.rs]; omega)
  exact ⟨a1, a2, a3, T', e1, e2, e1003, N3, R3, s1.trans fe.semi, s2.trans fe.ser, by rw [s3, fe.rs], s4.trans fe.len⟩
end Go.Proofs.YtnjnggejbpkgoaaGreat
/- Lists of structs, lists that begin as nil, maps from numbers to numbers. -/
namespace Go.AM
open Go.AH
theorem Cx.reset {b : Nat} {h g : AHeap} {F : List FRow} {O : List ORow} {M : List MRow} (y : Cx b h F O M) (n : Nat) {i rt j r : Nat} {t : TypeId} {ds : List Value} (e : O[n]? = some ⟨i, rt, t, false, []⟩) (E : Ext h.size h g)
  (o : OwnI g j r t ds) (hr : h.size ≤ r) : Cx b g F (O.set n ⟨j, r, t, true, ds⟩) M := by
 have y' := y.ext E
 have hlt := (List.getElem?_eq_some_iff.1 e).1
 have pw := List.pairwise_iff_getElem.1 y.nd
 refine ⟨y'.bh, y'.fr, fun q hq => ?_, ?_, y'.ms, y'.md⟩
 ·rw [List.mem_iff_getElem?] at hq
  obtain ⟨m, hm⟩ := hq
  by_cases hmn : m = n
  ·subst hmn
   rw [List.getElem?_set_self hlt] at hm
   cases hm
   exact ⟨fun _ => ⟨o, Nat.le_trans y.bh hr⟩, fun h => by cases h⟩
  ·rw [List.getElem?_set_ne (fun h => hmn h.symm)] at hm
   exact y'.ow q (List.mem_of_getElem? hm)
 ·rw [List.pairwise_iff_getElem]
  intro m l hm hl hml l1 l2
  rw [List.length_set] at hm hl
  have old : ∀ m (hm : m < O.length), (O[m]).lv = true → (O[m]).rt < h.size := fun m hm hl => by
   have a := (y.ow _ (List.getElem_mem hm)).1 hl
   have := a.1.lt
   omega
  rw [List.getElem_set] at l1 l2 ⊢
  rw [List.getElem_set]
  by_cases hm' : n = m
  ·by_cases hl' : n = l
   ·omega
   ·rw [if_neg hl'] at l2 ⊢
    rw [if_pos hm']
    have := old l hl l2
    show r ≠ _
    omega
  ·rw [if_neg hm'] at l1 ⊢
   by_cases hl' : n = l
   ·rw [if_pos hl']
    have := old m hm l1
    show _ ≠ r
    omega
   ·rw [if_neg hl'] at l2 ⊢
    exact pw m l hm hl hml l1 l2
def fl {α : Type} (c : α → List Value) (l : List α) : List Value := (l.map c).flatten
theorem fl_len {α : Type} (c : α → List Value) {esz : Nat} (hc : ∀ x, (c x).length = esz) : ∀ l : List α, (fl c l).length = l.length * esz
 | [] => by simp [fl]
 | x :: l => by
  have ih := fl_len c hc l
  unfold fl at ih ⊢
  rw [List.map_cons, List.flatten_cons, List.length_append, ih, hc x, List.length_cons, Nat.succ_mul, Nat.add_comm]
theorem fl_snoc {α : Type} (c : α → List Value) (l : List α) (x : α) : fl c (l ++ [x]) = fl c l ++ c x := by simp [fl]
theorem fl_at {α : Type} (c : α → List Value) {esz : Nat} (hc : ∀ x, (c x).length = esz) : ∀ (l : List α) (i : Nat) (x : α), l[i]? = some x → ((fl c l).drop (i * esz)).take esz = c x
 | [], i, x, h => by cases h
 | y :: ys, 0, x, h => by
  cases h
  unfold fl
  rw [List.map_cons, List.flatten_cons, Nat.zero_mul, List.drop_zero, List.take_append_of_le_length (by rw [hc]; exact Nat.le_refl _), List.take_of_length_le (by rw [hc]; exact Nat.le_refl _)]
 | y :: ys, i + 1, x, h => by
  rw [List.getElem?_cons_succ] at h
  rw [← fl_at c hc ys i x h]
  unfold fl
  rw [List.map_cons, List.flatten_cons, List.drop_append, List.drop_eq_nil_of_le (by rw [hc, Nat.succ_mul]; omega), List.nil_append, hc, Nat.succ_mul, Nat.add_sub_cancel]
section
variable {T : Type} {R : T → Value → AHeap → Prop} {b : Nat} {h0 g : AHeap} {F : List FRow} {O : List ORow} {M : List MRow}
theorem src1 (y : Cx b g F O M) (m : Nat) {j rt : Nat} {t : TypeId} {cs : List Value} (e : O[m]? = some ⟨j, rt, t, true, cs⟩) {esz : Nat} (hc : cs.length = esz) : aSrc g esz (slc j 0 1) = some (1, cs) := by
 have r := ((y.ow _ (List.mem_of_getElem? e)).1 rfl).1.row
 have := r.rd (off := 0) (n := 1 * esz) (by rw [← hc]; show 0 + 1 * cs.length ≤ cs.length; omega)
 simp only [aSrc, slc, this, Option.map_some, List.drop_zero]
 rw [Nat.one_mul, ← hc, List.take_length]
theorem Sm.apG {α : Type} (c : α → List Value) {esz bytes : Nat} (hc : ∀ x, (c x).length = esz) (hb : bytes ≤ 100) {f : List α → Option T} {kk : Value × AHeap → Option (Value × AHeap)} (y : Cx b g F O M) (n : Nat) {i rt : Nat} {t : TypeId} {lv : Bool} (l : List α) {v x : Value} {z : α}
  (e : O[n]? = some ⟨i, rt, t, lv, fl c l⟩) (hv : LV v i lv l.length) (hx : aSrc g esz x = some (1, c z))
  (hk : ∀ i' rt' g' l', grow l z = some l' → Ext b g g' → Cx b g' F (O.set n ⟨i', rt', t, true, fl c l'⟩) M → SmR h0 R (f l') (kk (slc i' 0 l'.length, g'))) :
  SmR h0 R ((grow l z).bind f) ((aApp g t esz bytes v x).bind kk) := Sm.mo fun l' el => by
 unfold grow at el
 by_cases hl : l.length ≤ 2000000
 ·rw [if_pos hl] at el; cases el
  have hb1 : (l.length + 1) * bytes ≤ (l.length + 1) * 100 := Nat.mul_le_mul_left _ hb
  rcases hv with ⟨hlv, rfl⟩ | ⟨hlv, rfl, hz⟩
  ·subst hlv
   obtain ⟨i', g', e1, E, y'⟩ := y.app n (esz := esz) (bytes := bytes) (n' := l.length) (m := 1) (ms := c z) e hx (by rw [fl_len c hc]) (by show _ ≤ 140737488355328; omega) (by show _ ≤ 140737488355328; omega)
   rw [e1]
   rw [← fl_snoc] at y'
   have := hk i' rt g' (l ++ [z]) (by unfold grow; rw [if_pos hl]) E y'
   rw [show (l ++ [z]).length = l.length + 1 by simp] at this
   exact this
  ·subst hlv
   have hln : l = [] := List.length_eq_zero_iff.1 hz
   subst hln
   have e1 : aApp g t esz bytes (.slice Option.none 0 0) x = some (slc g.size 0 1, g.new t (c z)) := by
    unfold aApp aAppG
    rw [hx]
    show (if (1 : Nat) = 0 then some (Value.slice Option.none 0 0, g) else if 1 ≤ most ∧ 1 * bytes ≤ most then some (slc g.size 0 1, g.new t (c z)) else Option.none) = _
    rw [if_neg (by decide), if_pos ⟨by decide, by show _ ≤ 140737488355328; omega⟩]
   rw [e1]
   have y' := y.reset n (j := g.size) (r := g.size) (ds := c z) e (Ext.new (Nat.le_refl g.size) t (c z)) ⟨_, at?_new_same g t (c z)⟩ (Nat.le_refl _)
   have := hk g.size g.size _ [z] (by unfold grow; rw [if_pos hl]; rfl) ((Ext.new (Nat.le_refl g.size) t (c z)).mono y.bh) (by
    rw [show fl c [z] = c z by simp [fl]]; exact y')
   exact this
 ·rw [if_neg hl] at el; cases el
theorem Cx.atG (y : Cx b g F O M) (n : Nat) {α : Type} (c : α → List Value) {esz : Nat} (hc : ∀ x, (c x).length = esz) {i rt : Nat} {t : TypeId} {lv : Bool} (l : List α) {v : Value} {x : Int} {w : α} (e : O[n]? = some ⟨i, rt, t, lv, fl c l⟩) (hv : LV v i lv l.length) (er : rd l x = some w) :
  aIdx v (.int .i64 x) esz = some (ptr i (x.toNat * esz)) ∧ aLdN g (ptr i (x.toNat * esz)) esz = some (.agg (c w).toArray) ∧ ∀ (k : Nat) (u : Value), (c w)[k]? = some u → aLd1 g (ptr i (x.toNat * esz + k)) = some u := by
 obtain ⟨h0, h1, h2⟩ := rd_some er
 rcases hv with ⟨hl, rfl⟩ | ⟨_, rfl, hz⟩
 ·subst hl
  have r := ((y.ow _ (List.mem_of_getElem? e)).1 rfl).1.row
  have hlt : x.toNat < l.length := (List.getElem?_eq_some_iff.1 h2).1
  have hle : x.toNat * esz + esz ≤ (fl c l).length := by
   rw [fl_len c hc, ← Nat.succ_mul]; exact Nat.mul_le_mul_right _ hlt
  have ha := fl_at c hc l x.toNat w h2
  refine ⟨by simp [aIdx, slc, h0, h1], ?_, fun k u hk => ?_⟩
  ·rw [r.ldN hle, ha]
  ·have hk2 : k < esz := by rw [← hc w]; exact (List.getElem?_eq_some_iff.1 hk).1
   refine r.ld1 ?_
   rw [← ha, List.getElem?_take_of_lt hk2, List.getElem?_drop] at hk
   exact hk
 ·omega
def nEnt (l : List Int) : List (Value × Value) := l.zipIdx.map fun p => (.int .i64 p.1, .int .i64 (p.2 : Int))
theorem nfind (k : Int) : ∀ (l : List Int) (s : Nat), mfind (.int .i64 k) ((l.zipIdx s).map fun p => (Value.int .i64 p.1, Value.int .i64 (p.2 : Int))) = some (if k ∈ l then some (.int .i64 ((s + l.idxOf k : Nat) : Int)) else none)
 | [], s => rfl
 | x :: l, s => by
  rw [List.zipIdx_cons, List.map_cons]
  show (match keyEq (.int .i64 k) (.int .i64 x) with | some true => some (some _) | some false => mfind (.int .i64 k) _ | none => none) = _
  have : keyEq (.int .i64 k) (.int .i64 x) = some (k == x) := by simp [keyEq]
  rw [this]
  by_cases hx : k = x
  ·subst hx; simp
  ·have h2 : (k == x) = false := by simp [hx]
   rw [h2]
   simp only [nfind k l (s + 1), List.mem_cons, hx, false_or]
   by_cases hk : k ∈ l
   ·rw [if_pos hk, if_pos hk, List.idxOf_cons, show (x == k) = false by simp; exact fun h => hx h.symm]
    simp; omega
   ·rw [if_neg hk, if_neg hk]
theorem nset (k n : Int) : ∀ (l : List (Value × Value)), (mfind (.int .i64 k) l = some none) → mset (.int .i64 k) (.int .i64 n) l = some (l ++ [(.int .i64 k, .int .i64 n)])
 | [], _ => rfl
 | (a, u) :: l, h => by
  unfold mfind at h
  unfold mset
  cases e : keyEq (.int .i64 k) a with
  | none => rw [e] at h; cases h
  | some t =>
   rw [e] at h
   cases t with
   | true => simp at h
   | false =>
    simp only at h ⊢
    rw [nset k n l h]; rfl
theorem nEnt_snoc (l : List Int) (k : Int) : nEnt (l ++ [k]) = nEnt l ++ [(.int .i64 k, .int .i64 (l.length : Int))] := by
 unfold nEnt
 rw [List.zipIdx_append, List.map_append]; simp
theorem nfind0 (k : Int) (l : List Int) : mfind (.int .i64 k) (nEnt l) = some (if k ∈ l then some (.int .i64 (l.idxOf k : Int)) else none) := by
 have := nfind k l 0
 rw [Nat.zero_add] at this
 exact this
theorem Cx.nget (y : Cx b g F O M) (n : Nat) {i : Nat} {l : List Int} (e : M[n]? = some (i, nEnt l)) (k : Int) : aMget g (.map (some i)) (.int .i64 k) (.int .i64 0) true = some (.tuple #[if k ∈ l then .int .i64 (l.idxOf k : Int) else .int .i64 0, .bool (decide (k ∈ l))]) := by
 have m := (y.ms _ (List.mem_of_getElem? e)).1
 show ((g.map i).bind fun l => _) = _
 rw [m]
 show (mfind _ (nEnt l)).map _ = _
 rw [nfind0]
 by_cases hk : k ∈ l <;> simp [hk]
theorem Sm.nst {m : Option T} {kk : AHeap → Option (Value × AHeap)} (y : Cx b g F O M) (n : Nat) {i : Nat} {l : List Int} (e : M[n]? = some (i, nEnt l)) {k : Int} (hk : ¬ k ∈ l)
  (hh : ∀ g', Ext b g g' → Cx b g' F O (M.set n (i, nEnt (l ++ [k]))) → SmR h0 R m (kk g')) : SmR h0 R m ((aMset g (.map (some i)) (.int .i64 k) (.int .i64 (l.length : Int))).bind kk) := by
 have hf : mset (.int .i64 k) (.int .i64 (l.length : Int)) (nEnt l) = some (nEnt (l ++ [k])) := by
  rw [nEnt_snoc]
  exact nset k _ _ (by rw [nfind0, if_neg hk])
 obtain ⟨g', e1, E, y'⟩ := y.msetE n e (v := .int .i64 (l.length : Int)) rfl hf
 exact Sm.b e1 (hh g' E y')
end
theorem SlI.s {k : IntKind} {h : AHeap} {v : Value} {xs : List Int} (x : SlI k h v xs) : SlS k h v xs := fun j w e => x.at e
end Go.AM
