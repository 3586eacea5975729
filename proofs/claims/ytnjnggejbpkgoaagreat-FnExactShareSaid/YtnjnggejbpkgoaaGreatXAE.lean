import Derived.Test.YtnjnggejbpkgoaaGreatXAD
import Derived.Test.YtnjnggejbpkgoaaGreatXAA
import Derived.Test.YtnjnggejbpkgoaaGreatRows
import Derived.Test.YtnjnggejbpkgoaaGreatChecked
import Derived.KernelRfl
import Derived.Test.YtnjnggejbpkgoaaGreatProg
set_option linter.unusedSimpArgs false
set_option linter.unusedVariables false
/- A plain computation beside one of the evaluator: where the plain one answers, so does the other. Slices that can be read. -/
namespace Go.AM
open Go.AH
def SmR {T : Type} (h : AHeap) (R : T → Value → AHeap → Prop) (m : Option T) (o : Option (Value × AHeap)) : Prop := ∀ t, m = some t → ∃ v g, o = some (v, g) ∧ Ext h.size h g ∧ R t v g
abbrev En {T : Type} (enc : T → Value) : T → Value → AHeap → Prop := fun t v _ => v = enc t
abbrev Sm {T : Type} (h : AHeap) (enc : T → Value) (m : Option T) (o : Option (Value × AHeap)) : Prop := SmR h (En enc) m o
section
variable {T U : Type} {h g : AHeap} {R : T → Value → AHeap → Prop} {m : Option T}
theorem Sm.get {enc : T → Value} {o : Option (Value × AHeap)} {v : T} (x : Sm h enc m o) (e : m = some v) : Is h (enc v) o := by
 obtain ⟨u, g, a, b, c⟩ := x v e
 have c' : u = enc v := c
 subst c'
 exact ⟨g, a, b⟩
theorem Sm.none {o : Option (Value × AHeap)} : SmR h R none o := fun v e => by cases e
theorem Sm.b {α : Type} {o : Option α} {k : α → Option (Value × AHeap)} {r : α} (e : o = some r) (x : SmR h R m (k r)) : SmR h R m (o.bind k) := by rw [e]; exact x
theorem Sm.mo {x : Option U} {f : U → Option T} {o : Option (Value × AHeap)} (k : ∀ w, x = some w → SmR h R (f w) o) : SmR h R (x.bind f) o := fun v e => by
 obtain ⟨w, e1, e2⟩ := Option.bind_eq_some_iff.1 e
 exact k w e1 v e2
theorem Sm.i {c : Bool} {a b : Option T} {x y : Option (Value × AHeap)} (k1 : c = true → SmR h R a x) (k2 : c = false → SmR h R b y) : SmR h R (bif c then a else b) (bif c then x else y) := by
 cases c with
 | true => exact k1 rfl
 | false => exact k2 rfl
theorem Sm.ct {c : Bool} {x y : Option (Value × AHeap)} (e : c = true) (k : SmR h R m x) : SmR h R m (bif c then x else y) := by rw [e]; exact k
theorem Sm.cf {c : Bool} {x y : Option (Value × AHeap)} (e : c = false) (k : SmR h R m y) : SmR h R m (bif c then x else y) := by rw [e]; exact k
theorem Sm.cr {R' : U → Value → AHeap → Prop} {x : Option U} {f : U → Option T} {o : Option (Value × AHeap)} {k : Value × AHeap → Option (Value × AHeap)} (s : SmR g R' x o) (n : ∀ w v g', x = some w → Ext g.size g g' → R' w v g' → SmR h R (f w) (k (v, g'))) :
  SmR h R (x.bind f) (o.bind k) := Sm.mo fun w e => by
 obtain ⟨v, g', e1, E, r⟩ := s w e
 rw [e1]
 exact n w v g' e E r
theorem Sm.c {enc' : U → Value} {x : Option U} {f : U → Option T} {o : Option (Value × AHeap)} {k : Value × AHeap → Option (Value × AHeap)} (s : Sm g enc' x o) (n : ∀ w g', x = some w → Ext g.size g g' → SmR h R (f w) (k (enc' w, g'))) :
  SmR h R (x.bind f) (o.bind k) := Sm.cr s fun w v g' e E r => by
 have r' : v = enc' w := r
 subst r'
 exact n w g' e E
theorem Sm.n {b : Nat} {F : List FRow} {O : List ORow} {M : List MRow} {e : TypeId} {cells : List Value} {k : Value → AHeap → Option (Value × AHeap)} (y : Cx b g F O M)
  (hk : ∀ p g', Ext g.size g g' → Cx b g' F (⟨p, p, e, true, cells⟩ :: O) M → SmR h R m (k (ptr p 0) g')) : SmR h R m (aNew g e cells k) := newC (P := SmR h R m) y hk
theorem Sm.ns {b : Nat} {F : List FRow} {O : List ORow} {M : List MRow} {e : TypeId} {cells : List Value} {n : Nat} {k : Value → AHeap → Option (Value × AHeap)} (y : Cx b g F O M)
  (hk : ∀ p g', Ext g.size g g' → Cx b g' F (⟨p, p, e, true, cells⟩ :: O) M → SmR h R m (k (slc p 0 n) g')) : SmR h R m (aNewS g e cells n k) := hk _ _ (Ext.new (Nat.le_refl _) _ _) (y.new e cells)
theorem Sm.st {b : Nat} {F : List FRow} {O : List ORow} {M : List MRow} {k : AHeap → Option (Value × AHeap)} (y : Cx b g F O M) (n : Nat) {i rt off m' : Nat} {t : TypeId} {cs vs : List Value} {v : Value} (e : O[n]? = some ⟨i, rt, t, true, cs⟩) (hv : aCells v = some vs) (hl : vs.length = m') (hn : off + m' ≤ cs.length)
  (hk : ∀ g', Ext b g g' → Cx b g' F (O.set n ⟨i, rt, t, true, splice cs off vs⟩) M → SmR h R m (k g')) : SmR h R m ((aSt g (ptr i off) v m').bind k) := by
 obtain ⟨g', e1, E, y', _⟩ := y.st n e hv hl hn
 exact Sm.b e1 (hk g' E y')
theorem Sm.fin {v : T} {u : Value} (E : Ext h.size h g) (e : R v u g) : SmR h R (some v) (some (u, g)) := fun w hw => by cases hw; exact ⟨u, g, rfl, E, e⟩
end
theorem vbI' (k : IntKind) (x : Int) : vbeq (.int k x) (.int k x) = true := by simp [vbeq, vbeq1]
def rd {α : Type} (xs : List α) (i : Int) : Option α := if 0 ≤ i then xs[i.toNat]? else none
theorem rd_some {α : Type} {xs : List α} {i : Int} {x : α} (e : rd xs i = some x) : 0 ≤ i ∧ i < xs.length ∧ xs[i.toNat]? = some x := by
 unfold rd at e
 by_cases h : 0 ≤ i
 ·rw [if_pos h] at e
  have := (List.getElem?_eq_some_iff.1 e).1
  exact ⟨h, by omega, e⟩
 ·rw [if_neg h] at e; cases e
theorem rd_at {α : Type} {xs : List α} {i : Nat} (h : i < xs.length) : rd xs (i : Int) = some xs[i] := by
 unfold rd; rw [if_pos (by omega)]; simp [h]
def SlI (k : IntKind) (h : AHeap) (v : Value) (xs : List Int) : Prop := (v = .slice none 0 0 ∧ xs = []) ∨ (v = .slice (some ⟨0, 1, none⟩) 0 0 ∧ xs = []) ∨ ∃ i, v = slc i 0 xs.length ∧ Row h i (xs.map (Value.int k)) ∧ i < h.size
section
variable {k : IntKind} {h g : AHeap} {v : Value} {xs : List Int}
theorem SlI.ext (x : SlI k h v xs) (E : Ext h.size h g) : SlI k g v xs := by
 rcases x with x | x | ⟨i, a, r, hi⟩
 ·exact .inl x
 ·exact .inr (.inl x)
 ·exact .inr (.inr ⟨i, a, r.ext E hi, Nat.lt_of_lt_of_le hi E.size⟩)
theorem SlI.len (x : SlI k h v xs) : aLen v = some (.int .i64 (xs.length : Int)) := by
 rcases x with ⟨rfl, rfl⟩ | ⟨rfl, rfl⟩ | ⟨i, rfl, _⟩ <;> rfl
theorem SlI.cell (x : SlI k h v xs) : isCell v = true := by
 rcases x with ⟨rfl, rfl⟩ | ⟨rfl, rfl⟩ | ⟨i, rfl, _⟩ <;> rfl
theorem SlI.vb (x : SlI k h v xs) : vbeq v v = true := by
 rcases x with ⟨rfl, rfl⟩ | ⟨rfl, rfl⟩ | ⟨i, rfl, _⟩ <;> simp [vbeq, vbeq1, slc]
theorem SlI.at (x : SlI k h v xs) {i w : Int} (e : rd xs i = some w) : ∃ p, aIdx v (.int .i64 i) 1 = some p ∧ ∀ g, Ext h.size h g → aLd1 g p = some (.int k w) := by
 obtain ⟨h0, h1, h2⟩ := rd_some e
 rcases x with ⟨rfl, rfl⟩ | ⟨rfl, rfl⟩ | ⟨j, rfl, r, hj⟩
 ·simp at h1; omega
 ·simp at h1; omega
 ·refine ⟨ptr j i.toNat, by simp [aIdx, slc, h0, h1], fun g E => (r.ext E hj).ld1 ?_⟩
  rw [List.getElem?_map, h2]; rfl
end
structure Vl where
 t : Int
 n : Int
def Vl.v (x : Vl) : Value := .agg (List.toArray [.int .i64 x.t, .int .i64 x.n])
def vcells (xs : List Vl) : List Value := (xs.map fun x => [Value.int .i64 x.t, .int .i64 x.n]).flatten
def SlV (h : AHeap) (v : Value) (xs : List Vl) : Prop := (v = .slice none 0 0 ∧ xs = []) ∨ (v = .slice (some ⟨0, 1, none⟩) 0 0 ∧ xs = []) ∨ ∃ i, v = slc i 0 xs.length ∧ Row h i (vcells xs) ∧ i < h.size
theorem vcells_at : ∀ (xs : List Vl) (i : Nat) (x : Vl), xs[i]? = some x → ((vcells xs).drop (i * 2)).take 2 = [Value.int .i64 x.t, .int .i64 x.n]
 | [], i, x, h => by cases h
 | y :: ys, 0, x, h => by cases h; rfl
 | y :: ys, i + 1, x, h => by
  rw [List.getElem?_cons_succ] at h
  rw [← vcells_at ys i x h]
  show (([Value.int .i64 y.t, .int .i64 y.n] ++ vcells ys).drop ((i + 1) * 2)).take 2 = _
  rw [List.drop_append, List.drop_eq_nil_of_le (by show 2 ≤ _; omega), List.nil_append, show (i + 1) * 2 - [Value.int IntKind.i64 y.t, Value.int IntKind.i64 y.n].length = i * 2 by show (i + 1) * 2 - 2 = _; omega]
theorem vcells_len : ∀ xs : List Vl, (vcells xs).length = xs.length * 2
 | [] => rfl
 | y :: ys => by
  show ([Value.int .i64 y.t, .int .i64 y.n] ++ vcells ys).length = _
  rw [List.length_append, vcells_len ys, List.length_cons]; simp; omega
section
variable {h g : AHeap} {v : Value} {xs : List Vl}
theorem SlV.ext (x : SlV h v xs) (E : Ext h.size h g) : SlV g v xs := by
 rcases x with x | x | ⟨i, a, r, hi⟩
 ·exact .inl x
 ·exact .inr (.inl x)
 ·exact .inr (.inr ⟨i, a, r.ext E hi, Nat.lt_of_lt_of_le hi E.size⟩)
theorem SlV.len (x : SlV h v xs) : aLen v = some (.int .i64 (xs.length : Int)) := by
 rcases x with ⟨rfl, rfl⟩ | ⟨rfl, rfl⟩ | ⟨i, rfl, _⟩ <;> rfl
theorem SlV.cell (x : SlV h v xs) : isCell v = true := by
 rcases x with ⟨rfl, rfl⟩ | ⟨rfl, rfl⟩ | ⟨i, rfl, _⟩ <;> rfl
theorem SlV.vb (x : SlV h v xs) : vbeq v v = true := by
 rcases x with ⟨rfl, rfl⟩ | ⟨rfl, rfl⟩ | ⟨i, rfl, _⟩ <;> simp [vbeq, vbeq1, slc]
theorem SlV.at (x : SlV h v xs) {i : Int} {w : Vl} (e : rd xs i = some w) : ∃ j o, aIdx v (.int .i64 i) 2 = some (ptr j o) ∧ ∀ g, Ext h.size h g → aLdN g (ptr j o) 2 = some w.v ∧ aLd1 g (ptr j o) = some (.int .i64 w.t) ∧ aLd1 g (ptr j (o + 1)) = some (.int .i64 w.n) := by
 obtain ⟨h0, h1, h2⟩ := rd_some e
 rcases x with ⟨rfl, rfl⟩ | ⟨rfl, rfl⟩ | ⟨j, rfl, r, hj⟩
 ·simp at h1; omega
 ·simp at h1; omega
 ·refine ⟨j, i.toNat * 2, by simp [aIdx, slc, h0, h1], fun g E => ?_⟩
  have r' := r.ext E hj
  have c := vcells_at xs i.toNat w h2
  have l := vcells_len xs
  have hl : i.toNat * 2 + 2 ≤ (vcells xs).length := by omega
  refine ⟨?_, r'.ld1 ?_, r'.ld1 ?_⟩
  ·rw [r'.ldN hl, c]; rfl
  ·have : ((vcells xs).drop (i.toNat * 2)).take 2 = _ := c
   have e0 := congrArg (fun l => l[0]?) this
   simpa [List.getElem?_take, List.getElem?_drop] using e0
  ·have : ((vcells xs).drop (i.toNat * 2)).take 2 = _ := c
   have e0 := congrArg (fun l => l[1]?) this
   simpa [List.getElem?_take, List.getElem?_drop] using e0
end
structure Ar where
 ws : List Int
 semi : Int
 to : Int
 top : Int
 cyc : Bool
 scan : Int
 old : Int
 cop : Int
 ser : Int
 rs : List Vl
def arCells (wv rv : Value) (a : Ar) : List Value := [wv, .int .i64 a.semi, .int .i64 a.to, .int .i64 a.top, .bool a.cyc, .int .i64 a.scan, .int .i64 a.old, .int .i64 a.cop, .int .i64 a.ser, rv]
def arV (wv rv : Value) (a : Ar) : Value := .agg (List.toArray (arCells wv rv a))
def uT : TypeId := 74
def SlE (t : TypeId) (h : AHeap) (v : Value) : Prop := ∀ i o n m, v = .slice (some ⟨i, o, none⟩) n m → 0 < n → i < h.size ∧ (h.at? i).map (·.elem) = some t
theorem SlE.ext {t : TypeId} {h g : AHeap} {v : Value} (x : SlE t h v) (E : Ext h.size h g) : SlE t g v := fun i o n m e he => by
 obtain ⟨h1, h2⟩ := x i o n m e he
 obtain ⟨q, h3, h4⟩ := Option.map_eq_some_iff.1 h2
 exact ⟨Nat.lt_of_lt_of_le h1 E.size, by rw [E.at? h1 h3]; exact congrArg some h4⟩
structure ArH (h : AHeap) (wv rv : Value) (a : Ar) : Prop where
 we : SlE uT h wv
 w : SlI .u64 h wv a.ws
 r : SlV h rv a.rs
theorem ArH.ext {h g : AHeap} {wv rv : Value} {a : Ar} (x : ArH h wv rv a) (E : Ext h.size h g) : ArH g wv rv a := ⟨x.we.ext E, x.w.ext E, x.r.ext E⟩
theorem ArH.cells {h : AHeap} {wv rv : Value} {a : Ar} (x : ArH h wv rv a) : aCells (arV wv rv a) = some (arCells wv rv a) := by
 show (if (List.all (arCells wv rv a) isCell) = true then some (arCells wv rv a) else none) = _
 rw [if_pos]
 show (isCell wv && (true && (true && (true && (true && (true && (true && (true && (true && (isCell rv && true)))))))))) = true
 rw [x.w.cell, x.r.cell]; rfl
structure Hd where
 k : Int
 s : Int
 n : Int
def Hd.v (x : Hd) : Value := .agg (List.toArray [.int .i64 x.k, .int .i64 x.s, .int .i64 x.n])
def eHB (r : Hd × Bool) : Value := .tuple (List.toArray [r.1.v, .bool r.2])
def eVB (r : Vl × Bool) : Value := .tuple (List.toArray [r.1.v, .bool r.2])
def eIB (r : Int × Bool) : Value := .tuple (List.toArray [.int .i64 r.1, .bool r.2])
def eUB (r : Int × Bool) : Value := .tuple (List.toArray [.int .u64 r.1, .bool r.2])
def eII (r : Int × Int) : Value := .tuple (List.toArray [.int .i64 r.1, .int .i64 r.2])
theorem Cx.start0 (h : AHeap) : Cx h.size h [] [] [] := Cx.start h (fun q hq => by cases hq)
theorem Cx.rowO {b : Nat} {h : AHeap} {F : List FRow} {O : List ORow} {M : List MRow} (y : Cx b h F O M) (n : Nat) {i rt : Nat} {t : TypeId} {cs : List Value} (e : O[n]? = some ⟨i, rt, t, true, cs⟩) : Row h i cs ∧ i < h.size :=
 let x := ((y.ow _ (List.mem_of_getElem? e)).1 rfl).1; ⟨x.row, x.lt.2⟩
theorem Cx.rowF {b : Nat} {h : AHeap} {F : List FRow} {O : List ORow} {M : List MRow} (y : Cx b h F O M) (n : Nat) {i : Nat} {cs : List Value} (e : F[n]? = some (i, cs)) : Row h i cs ∧ i < h.size :=
 let x := y.fr _ (List.mem_of_getElem? e); ⟨x.1, Nat.lt_of_lt_of_le x.2 y.bh⟩
def LV (v : Value) (i : Nat) (lv : Bool) (n : Nat) : Prop := (lv = true ∧ v = slc i 0 n) ∨ (lv = false ∧ v = .slice none 0 0 ∧ n = 0)
theorem LV.len {v : Value} {i n : Nat} {lv : Bool} (x : LV v i lv n) : aLen v = some (.int .i64 (n : Int)) := by
 rcases x with ⟨_, rfl⟩ | ⟨_, rfl, rfl⟩ <;> rfl
theorem LV.vb {v : Value} {i n : Nat} {lv : Bool} (x : LV v i lv n) : vbeq v v = true := by
 rcases x with ⟨_, rfl⟩ | ⟨_, rfl, rfl⟩ <;> simp [vbeq, vbeq1, slc]
theorem LV.mk (i n : Nat) : LV (slc i 0 n) i true n := .inl ⟨rfl, rfl⟩
section
variable {b : Nat} {h g : AHeap} {F : List FRow} {O : List ORow} {M : List MRow}
theorem Cx.atS (y : Cx b h F O M) (n : Nat) {i rt : Nat} {t : TypeId} {lv : Bool} {α : Type} (c : α → Value) (l : List α) {v : Value} {x : Int} {w : α} (e : O[n]? = some ⟨i, rt, t, lv, l.map c⟩) (hv : LV v i lv l.length) (er : rd l x = some w) :
  aIdx v (.int .i64 x) 1 = some (ptr i x.toNat) ∧ aLd1 h (ptr i x.toNat) = some (c w) := by
 obtain ⟨h0, h1, h2⟩ := rd_some er
 rcases hv with ⟨_, rfl⟩ | ⟨_, rfl, hz⟩
 ·refine ⟨by simp [aIdx, slc, h0, h1], y.ldO n _ e ?_⟩
  rw [List.getElem?_map, h2]; rfl
 ·omega
def grow {α : Type} (l : List α) (x : α) : Option (List α) := if l.length ≤ 2000000 then some (l ++ [x]) else none
theorem Sm.ap {T : Type} {R : T → Value → AHeap → Prop} {α : Type} (c : α → Value) {f : List α → Option T} {kk : Value × AHeap → Option (Value × AHeap)} {h0 : AHeap} (y : Cx b g F O M) (n : Nat) {i rt j bytes : Nat} {t : TypeId} (l : List α) {x : α} (hb : bytes ≤ 16)
  (e : O[n]? = some ⟨i, rt, t, true, l.map c⟩) (hx : aLd1 g (ptr j 0) = some (c x))
  (hk : ∀ i' g' l', grow l x = some l' → Ext b g g' → Cx b g' F (O.set n ⟨i', rt, t, true, l'.map c⟩) M → SmR h0 R (f l') (kk (slc i' 0 l'.length, g'))) :
  SmR h0 R ((grow l x).bind f) ((aApp g t 1 bytes (slc i 0 l.length) (slc j 0 1)).bind kk) := Sm.mo fun l' el => by
 unfold grow at el
 by_cases hl : l.length ≤ 2000000
 ·rw [if_pos hl] at el; cases el
  have src : aSrc g 1 (slc j 0 1) = some (1, [c x]) := by
   simp only [aLd1, ptr, Option.bind_eq_some_iff] at hx
   obtain ⟨cs, h1, h2⟩ := hx
   simp only [aSrc, slc, h1]
   have hlen : cs.length = 1 := by
    unfold AHeap.rd at h1
    split at h1
    ·split at h1
     ·cases h1; simp; omega
     ·cases h1
    ·cases h1
   match cs, hlen, h2 with
   | [c], _, h2 => cases h2; simp
  obtain ⟨i', g', e1, E, y'⟩ := y.app n (esz := 1) (bytes := bytes) (n' := l.length) (m := 1) (ms := [c x]) e src (by simp) (by show _ ≤ 140737488355328; omega) (by
   have : (l.length + 1) * bytes ≤ (l.length + 1) * 16 := Nat.mul_le_mul_left _ hb
   show _ ≤ 140737488355328; omega)
  rw [e1]
  have e1003 : l.map c ++ [c x] = (l ++ [x]).map c := by simp
  rw [e1003] at y'
  have := hk i' g' (l ++ [x]) (by unfold grow; rw [if_pos hl]) E y'
  rw [show (l ++ [x]).length = l.length + 1 by simp] at this
  exact this
 ·rw [if_neg hl] at el; cases el
def RO {α : Type} (h : AHeap) (c : α → Value) (e : TypeId) (l : List α) (v : Value) (g : AHeap) : Prop := ∃ i rt lv, LV v i lv l.length ∧ (lv = true → OwnI g i rt e (l.map c) ∧ h.size ≤ rt) ∧ (lv = false → l.map c = [])
theorem Cx.ro {hb : AHeap} (y : Cx hb.size h F O M) (n : Nat) {i rt : Nat} {t : TypeId} {lv : Bool} {α : Type} (c : α → Value) (l : List α) {v : Value} (e : O[n]? = some ⟨i, rt, t, lv, l.map c⟩) (hv : LV v i lv l.length) : RO hb c t l v h :=
 let q := y.ow _ (List.mem_of_getElem? e); ⟨i, rt, lv, hv, q.1, q.2⟩
theorem RO.nil {α : Type} (h g : AHeap) (c : α → Value) (e : TypeId) : RO h c e [] (.slice none 0 0) g := ⟨0, 0, false, .inr ⟨rfl, rfl, rfl⟩, (fun h => by cases h), fun _ => rfl⟩
def upd {α : Type} (l : List α) (i : Int) (x : α) : Option (List α) := if 0 ≤ i ∧ i < l.length then some (l.set i.toNat x) else none
theorem Sm.up1 {T : Type} {R : T → Value → AHeap → Prop} {α : Type} (c : α → Value) (hc : ∀ z, aCells (c z) = some [c z]) {f : List α → Option T} {kk : AHeap → Option (Value × AHeap)} {h0 : AHeap} (y : Cx b g F O M) (n : Nat) {i rt : Nat} {t : TypeId} (l : List α) {x : Int} {z : α}
  (e : O[n]? = some ⟨i, rt, t, true, l.map c⟩)
  (hk : ∀ g' l', upd l x z = some l' → l'.length = l.length → Ext b g g' → Cx b g' F (O.set n ⟨i, rt, t, true, l'.map c⟩) M → SmR h0 R (f l') (kk g')) :
  SmR h0 R ((upd l x z).bind f) ((aIdx (slc i 0 l.length) (.int .i64 x) 1).bind fun p => (aSt g p (c z) 1).bind kk) := Sm.mo fun l' el => by
 unfold upd at el
 by_cases hx : 0 ≤ x ∧ x < l.length
 ·rw [if_pos hx] at el; cases el
  have ix : aIdx (slc i 0 l.length) (.int .i64 x) 1 = some (ptr i x.toNat) := by simp [aIdx, slc, hx]
  obtain ⟨g', e1, E, y', _⟩ := y.st n (off := x.toNat) (m := 1) (vs := [c z]) (v := c z) e (hc z) rfl (by simp; omega)
  refine Sm.b ix (Sm.b e1 (hk g' _ (by unfold upd; rw [if_pos hx]) (by simp) E ?_))
  have : splice (l.map c) x.toNat [c z] = (l.set x.toNat z).map c := by
   unfold splice
   rw [List.map_set, List.set_eq_take_append_cons_drop, if_pos (by simp; omega)]; simp
  rw [this] at y'
  exact y'
 ·rw [if_neg hx] at el; cases el
def mkL {α : Type} (n : Int) (z : α) : Option (List α) := if 0 ≤ n ∧ n ≤ 2000000 then some (List.replicate n.toNat z) else none
theorem Sm.mk {T : Type} {R : T → Value → AHeap → Prop} {α : Type} (c : α → Value) {f : List α → Option T} {kk : Value × AHeap → Option (Value × AHeap)} {h0 : AHeap} (y : Cx b g F O M) {t : TypeId} {bytes : Nat} {n : Int} (z : α) (hb : bytes ≤ 16)
  (hk : ∀ p g' l, mkL n z = some l → Ext g.size g g' → Cx b g' F (⟨p, p, t, true, l.map c⟩ :: O) M → SmR h0 R (f l) (kk (slc p 0 l.length, g'))) :
  SmR h0 R ((mkL n z).bind f) ((aMk g t [c z] bytes (.int .i64 n) (.int .i64 n)).bind kk) := Sm.mo fun l el => by
 unfold mkL at el
 by_cases hn : 0 ≤ n ∧ n ≤ 2000000
 ·rw [if_pos hn] at el; cases el
  have hr : ∀ m : Nat, (List.replicate m [c z]).flatten = (List.replicate m z).map c := fun m => by
   induction m with
   | zero => rfl
   | succ m ih => rw [List.replicate_succ, List.flatten_cons, ih]; simp [List.replicate_succ]
  have e1 : aMk g t [c z] bytes (.int .i64 n) (.int .i64 n) = some (slc g.size 0 n.toNat, g.new t (List.replicate n.toNat [c z]).flatten) := by
   have h1 : n.toNat * bytes ≤ n.toNat * 16 := Nat.mul_le_mul_left _ hb
   exact if_pos ⟨hn.1, Int.le_refl _, by show n ≤ (140737488355328 : Nat); omega, by show _ ≤ 140737488355328; omega⟩
  rw [e1, hr]
  have := hk g.size _ (List.replicate n.toNat z) (by unfold mkL; rw [if_pos hn]) (Ext.new (Nat.le_refl _) _ _) (y.new t ((List.replicate n.toNat z).map c))
  rw [List.length_replicate] at this
  exact this
 ·rw [if_neg hn] at el; cases el
def bstr (l : List Int) : ByteArray := ⟨(l.map fun n => UInt8.ofNat n.toNat).toArray⟩
theorem bytesOf_map : ∀ l : List Int, bytesOf (l.map (Value.int .u8)) = some (l.map fun n => UInt8.ofNat n.toNat)
 | [] => rfl
 | x :: l => by
  rw [List.map_cons, bytesOf, bytesOf_map l]; rfl
theorem Cx.cv (y : Cx b h F O M) (n : Nat) {i rt : Nat} {t : TypeId} (l : List Int) (e : O[n]? = some ⟨i, rt, t, true, l.map (Value.int .u8)⟩) : aCvStr h (slc i 0 l.length) = some (.string (bstr l)) := by
 have r := ((y.ow _ (List.mem_of_getElem? e)).1 rfl).1.row
 have : h.rd i 0 l.length = some (l.map (Value.int .u8)) := by
  have := r.rd (off := 0) (n := l.length) (by simp)
  rw [this, List.drop_zero, List.take_of_length_le (by simp)]
 simp only [aCvStr, slc, this, oBs, bytesOf_map, Option.map_some]
 rfl
end
theorem cI (k : IntKind) : ∀ z, aCells (Value.int k z) = some [Value.int k z] := fun _ => rfl
theorem cB : ∀ z, aCells (Value.bool z) = some [Value.bool z] := fun _ => rfl
def shrM (k : IntKind) (a b : Int) : Option Int := if 0 ≤ b then some (a.fdiv (2 ^ (min b.toNat k.bits))) else none
theorem shr_ok {k k' : IntKind} {a b w : Int} (e : shrM k a b = some w) : aBin .shr (.int k a) (.int k' b) = some (.int k w) := by
 unfold shrM at e
 by_cases h : 0 ≤ b
 ·rw [if_pos h] at e; cases e
  simp [aBin, h]
 ·rw [if_neg h] at e; cases e
def shlM (k : IntKind) (a b : Int) : Option Int := if 0 ≤ b then some (k.wrap (a * 2 ^ (min b.toNat k.bits))) else none
theorem shl_ok {k k' : IntKind} {a b w : Int} (e : shlM k a b = some w) : aBin .shl (.int k a) (.int k' b) = some (.int k w) := by
 unfold shlM at e
 by_cases h : 0 ≤ b
 ·rw [if_pos h] at e; cases e
  simp [aBin, h]
 ·rw [if_neg h] at e; cases e
def remM (a b : Int) : Option Int := if b = 0 then none else some (a.tmod b)
theorem rem_ok {k : IntKind} {a b w : Int} (e : remM a b = some w) : aBin .rem (.int k a) (.int k b) = some (.int k w) := by
 unfold remM at e
 by_cases h : b = 0
 ·rw [if_pos h] at e; cases e
 ·rw [if_neg h] at e; cases e
  simp [aBin, h]
def quoM (k : IntKind) (a b : Int) : Option Int := if b = 0 then none else some (k.wrap (a.tdiv b))
theorem quo_ok {k : IntKind} {a b w : Int} (e : quoM k a b = some w) : aBin .quo (.int k a) (.int k b) = some (.int k w) := by
 unfold quoM at e
 by_cases h : b = 0
 ·rw [if_pos h] at e; cases e
 ·rw [if_neg h] at e; cases e
  simp [aBin, h]
def chr (s : ByteArray) (i : Int) : Option Int := if 0 ≤ i then (s[i.toNat]?).map fun b => (b.toNat : Int) else none
theorem chr_ok {s : ByteArray} {i w : Int} (e : chr s i = some w) : aStrIx (.string s) (.int .i64 i) = some (.int .u8 w) := by
 unfold chr at e
 by_cases h : 0 ≤ i
 ·rw [if_pos h, Option.map_eq_some_iff] at e
  obtain ⟨b, h1, rfl⟩ := e
  simp [aStrIx, h, h1]
 ·rw [if_neg h] at e; cases e
theorem agA {o : Option Value} {v w : Value} (e : o = some v) (hv : vbeq v w = true) : (o.bind fun x => some (vbeq x w)) = some true := by rw [e]; exact congrArg some hv
theorem agI {o : Option Value} {k : IntKind} {x : Int} (e : o = some (.int k x)) : (o.bind fun v => (asI k v).bind fun n => some (vbeq (.int k n) (.int k x))) = some true := by
 rw [e]
 show ((if k = k then some x else none).bind fun n => some (vbeq (.int k n) (.int k x))) = _
 rw [if_pos rfl]
 exact congrArg some (vbI' _ _)
theorem agB {o : Option Value} {x : Bool} (e : o = some (.bool x)) : (o.bind fun v => (asB v).bind fun n => some (vbeq (.bool n) (.bool x))) = some true := by
 rw [e]; cases x <;> rfl
theorem vbHd (x : Hd) : vbeq x.v x.v = true := by simp [Hd.v, vbeq, vbeqL, vbeq1]
theorem vbVl (x : Vl) : vbeq x.v x.v = true := by simp [Vl.v, vbeq, vbeqL, vbeq1]
theorem vb1 {v : Value} (h : vbeq v v = true) (hc : isCell v = true) : vbeq1 v v = true := by
 cases v <;> first | exact h | cases hc
theorem ArH.vb {h : AHeap} {wv rv : Value} {a : Ar} (x : ArH h wv rv a) : vbeq (arV wv rv a) (arV wv rv a) = true := by
 show (vbeq1 wv wv && (vbeq1 (.int .i64 a.semi) (.int .i64 a.semi) && (vbeq1 (.int .i64 a.to) (.int .i64 a.to) && (vbeq1 (.int .i64 a.top) (.int .i64 a.top) && (vbeq1 (.bool a.cyc) (.bool a.cyc) && (vbeq1 (.int .i64 a.scan) (.int .i64 a.scan) &&
  (vbeq1 (.int .i64 a.old) (.int .i64 a.old) && (vbeq1 (.int .i64 a.cop) (.int .i64 a.cop) && (vbeq1 (.int .i64 a.ser) (.int .i64 a.ser) && (vbeq1 rv rv && true)))))))))) = true
 rw [vb1 x.w.vb x.w.cell, vb1 x.r.vb x.r.cell]; simp [vbeq1]
theorem Cx.front {b : Nat} {h : AHeap} {F : List FRow} {O : List ORow} {M : List MRow} (y : Cx b h F O M) (n : Nat) {q : ORow} (e : O[n]? = some q) : Cx b h F (q :: O.eraseIdx n) M := by
 have hl := (List.getElem?_eq_some_iff.1 e).1
 have p : List.Perm O (q :: O.eraseIdx n) := by
  have e1 : O = O.take n ++ q :: O.drop (n + 1) := by
   have e2 : O[n] = q := by rw [List.getElem?_eq_getElem hl] at e; exact Option.some.inj e
   rw [← e2, ← List.drop_eq_getElem_cons hl, List.take_append_drop]
  rw [List.eraseIdx_eq_take_drop_succ]
  exact (List.Perm.of_eq e1).trans List.perm_middle
 exact ⟨y.bh, y.fr, fun r hr => y.ow r (p.mem_iff.2 hr), (p.pairwise_iff (fun {x z} hx l1 l2 he => hx l2 l1 he.symm)).1 y.nd, y.ms, y.md⟩
def RW {T α : Type} (h : AHeap) (enc : T → Value) (c : α → Value) (F : List FRow) (i rt : Nat) (e : TypeId) (Q : List ORow) (M : List MRow) (n : Nat) : T × List α → Value → AHeap → Prop :=
 fun r v g => v = enc r.1 ∧ r.2.length = n ∧ Cx h.size g F (⟨i, rt, e, true, r.2.map c⟩ :: Q) M
theorem Cx.slI {b : Nat} {h : AHeap} {F : List FRow} {O : List ORow} {M : List MRow} (y : Cx b h F O M) (n : Nat) {k : IntKind} {i rt : Nat} {t : TypeId} {lv : Bool} (l : List Int) {v : Value} (e : O[n]? = some ⟨i, rt, t, lv, l.map (Value.int k)⟩) (hv : LV v i lv l.length) : SlI k h v l := by
 have o := y.ow _ (List.mem_of_getElem? e)
 rcases hv with ⟨hl, rfl⟩ | ⟨_, rfl, hz⟩
 ·exact .inr (.inr ⟨i, rfl, (o.1 hl).1.row, (o.1 hl).1.lt.2⟩)
 ·exact .inl ⟨rfl, List.length_eq_zero_iff.1 hz⟩
def mkC {α : Type} (n : Int) : Option (List α) := if 0 ≤ n ∧ n ≤ 2000000 then some [] else none
theorem Sm.mk0 {T : Type} {R : T → Value → AHeap → Prop} {α : Type} (c : α → Value) {b : Nat} {g : AHeap} {F : List FRow} {O : List ORow} {M : List MRow} {f : List α → Option T} {kk : Value × AHeap → Option (Value × AHeap)} {h0 : AHeap} (y : Cx b g F O M) {t : TypeId} {bytes : Nat} {n : Int} (z : α) (hb : bytes ≤ 16)
  (hk : ∀ p g' l, mkC n = some l → Ext g.size g g' → Cx b g' F (⟨p, p, t, true, l.map c⟩ :: O) M → SmR h0 R (f l) (kk (slc p 0 l.length, g'))) :
  SmR h0 R ((mkC n).bind f) ((aMk g t [c z] bytes (.int .i64 0) (.int .i64 n)).bind kk) := Sm.mo fun l el => by
 unfold mkC at el
 by_cases hn : 0 ≤ n ∧ n ≤ 2000000
 ·rw [if_pos hn] at el; cases el
  have e1 : aMk g t [c z] bytes (.int .i64 0) (.int .i64 n) = some (slc g.size 0 0, g.new t []) := by
   have h1 : n.toNat * bytes ≤ n.toNat * 16 := Nat.mul_le_mul_left _ hb
   exact if_pos ⟨Int.le_refl _, hn.1, by show n ≤ (140737488355328 : Nat); omega, by show _ ≤ 140737488355328; omega⟩
  rw [e1]
  exact hk g.size _ [] (by unfold mkC; rw [if_pos hn]) (Ext.new (Nat.le_refl _) _ _) (y.new t [])
 ·rw [if_neg hn] at el; cases el
theorem Cx.noF {b : Nat} {h : AHeap} {F : List FRow} {O : List ORow} {M : List MRow} (y : Cx b h F O M) : Cx b h [] O M := ⟨y.bh, fun q hq => (by cases hq), y.ow, y.nd, y.ms, y.md⟩
theorem vbP (i o : Nat) : vbeq (ptr i o) (ptr i o) = true := by simp [vbeq, vbeq1, ptr]
def SlS (k : IntKind) (h : AHeap) (v : Value) (xs : List Int) : Prop := ∀ j w, rd xs j = some w → ∃ p, aIdx v (.int .i64 j) 1 = some p ∧ ∀ g, Ext h.size h g → aLd1 g p = some (.int k w)
theorem SlS.at {k : IntKind} {h : AHeap} {v : Value} {xs : List Int} (x : SlS k h v xs) {i w : Int} (e : rd xs i = some w) : ∃ p, aIdx v (.int .i64 i) 1 = some p ∧ ∀ g, Ext h.size h g → aLd1 g p = some (.int k w) := x i w e
theorem SlS.ext {k : IntKind} {h g : AHeap} {v : Value} {xs : List Int} (x : SlS k h v xs) (E : Ext h.size h g) : SlS k g v xs := fun j w e => by
 obtain ⟨p, h1, h2⟩ := x j w e
 exact ⟨p, h1, fun g' E' => h2 g' (E.trans (E'.mono E.size))⟩
def subM (xs : List Int) (lo hi : Int) : Option (List Int) := if 0 ≤ lo ∧ lo ≤ hi ∧ hi ≤ xs.length ∧ hi ≤ most ∧ 0 < hi then some ((xs.drop lo.toNat).take (hi.toNat - lo.toNat)) else none
theorem Sm.sub {T : Type} {R : T → Value → AHeap → Prop} {h0 h g : AHeap} {k : IntKind} {t : TypeId} {v : Value} {xs : List Int} {lo hi : Int} {f : List Int → Option T} {kk : Value → Option (Value × AHeap)} (x : SlI k h v xs) (xe : SlE t h v) (E : Ext h.size h g)
  (hk : ∀ l v', subM xs lo hi = some l → SlS k h v' l → SmR h0 R (f l) (kk v')) : SmR h0 R ((subM xs lo hi).bind f) ((aSub g t v (some (.int .i64 lo)) (some (.int .i64 hi)) 1).bind kk) := Sm.mo fun l el => by
 have el0 := el
 unfold subM at el
 by_cases hc : 0 ≤ lo ∧ lo ≤ hi ∧ hi ≤ xs.length ∧ hi ≤ most ∧ 0 < hi
 ·rw [if_pos hc] at el; cases el
  obtain ⟨c1, c2, c1003, c1004, c1005⟩ := hc
  rcases x with ⟨rfl, rfl⟩ | ⟨rfl, rfl⟩ | ⟨j, rfl, r, hj⟩
  ·simp at c1003; omega
  ·simp at c1003; omega
  ·have e1 := ((xe.ext E) j 0 xs.length xs.length rfl (by omega)).2
   have e2 : aSub g t (slc j 0 xs.length) (some (.int .i64 lo)) (some (.int .i64 hi)) 1 = some (slc j lo.toNat (hi.toNat - lo.toNat)) := by
    have b1 : aBound (.int .i64 hi) xs.length = some hi.toNat := if_pos ⟨by omega, c1003⟩
    have b2 : aBound (.int .i64 lo) hi.toNat = some lo.toNat := if_pos ⟨c1, by omega⟩
    simp [aSub, slc, e1, b1, b2]
   refine Sm.b e2 (hk _ _ el0 fun i w e => ?_)
   obtain ⟨h0, h1, h2⟩ := rd_some e
   have hlen : ((xs.drop lo.toNat).take (hi.toNat - lo.toNat)).length = hi.toNat - lo.toNat := by simp; omega
   rw [hlen] at h1
   refine ⟨ptr j (lo.toNat + i.toNat), by simp [aIdx, slc, h0]; omega, fun g' E' => (r.ext E' hj).ld1 ?_⟩
   rw [List.getElem?_take, List.getElem?_drop] at h2
   split at h2
   ·rw [List.getElem?_map, h2]; rfl
   ·cases h2
 ·rw [if_neg hc] at el; cases el
theorem LV.of {v : Value} {i n m : Nat} {b : Bool} (e : m = n) (x : LV v i b n) : LV v i b m := by rw [e]; exact x
section
variable {T : Type} {R : T → Value → AHeap → Prop} {b : Nat} {h0 g : AHeap} {F : List FRow} {O : List ORow} {M : List MRow}
theorem Sm.nM {m : Option T} {k : Value → AHeap → Option (Value × AHeap)} (y : Cx b g F O M) (hk : ∀ p g', Ext g.size g g' → Cx b g' F O ((p, mEnt []) :: M) → SmR h0 R m (k (.map (some p)) g')) : SmR h0 R m (aNewM g k) :=
 hk _ _ (Ext.newM g) y.newM
theorem Sm.mst {m : Option T} {kk : AHeap → Option (Value × AHeap)} (y : Cx b g F O M) (n : Nat) {i : Nat} {l : List Int} (e : M[n]? = some (i, mEnt l)) (k : Int)
  (hk : ∀ g', Ext b g g' → Cx b g' F O (M.set n (i, insM l k)) → SmR h0 R m (kk g')) : SmR h0 R m ((aMset g (.map (some i)) (.int .i64 k) (.bool true)).bind kk) := by
 obtain ⟨g', e1, E, y'⟩ := y.mset n e k
 exact Sm.b e1 (hk g' E y')
theorem Sm.upv {α : Type} (c : α → Value) (hc : ∀ z, aCells (c z) = some [c z]) {f : List α → Option T} {kk : AHeap → Option (Value × AHeap)} (y : Cx b g F O M) (n : Nat) {i rt : Nat} {t : TypeId} (l : List α) {v : Value} (hv : LV v i true l.length) {x : Int} {z : α}
  (e : O[n]? = some ⟨i, rt, t, true, l.map c⟩)
  (hk : ∀ g' l', upd l x z = some l' → l'.length = l.length → LV v i true l'.length → Ext b g g' → Cx b g' F (O.set n ⟨i, rt, t, true, l'.map c⟩) M → SmR h0 R (f l') (kk g')) :
  SmR h0 R ((upd l x z).bind f) ((aIdx v (.int .i64 x) 1).bind fun p => (aSt g p (c z) 1).bind kk) := by
 rcases hv with ⟨_, rfl⟩ | ⟨hl, _⟩
 ·exact Sm.up1 c hc y n l e fun g' l' e1 n1 => hk g' l' e1 n1 (.inl ⟨rfl, by rw [n1]⟩)
 ·cases hl
end
def RWm {T : Type} (h : AHeap) (enc : T → Value) (F : List FRow) (i rt : Nat) (Q : List ORow) (m : Nat) (MQ : List MRow) (n : Nat) : T × List Int × List Int → Value → AHeap → Prop :=
 fun r v g => v = enc r.1 ∧ r.2.1.length = n ∧ Cx h.size g F (⟨i, rt, 5, true, r.2.1.map (Value.int .u8)⟩ :: Q) ((m, r.2.2) :: MQ)
def RMb {T : Type} (h : AHeap) (enc : T → Value) (F : List FRow) (O : List ORow) (m : Nat) (MQ : List MRow) : T × List Int → Value → AHeap → Prop :=
 fun r v g => v = enc r.1 ∧ Cx h.size g F O ((m, r.2) :: MQ)
theorem vcells_set : ∀ (l : List Vl) (i : Nat) (z : Vl), i < l.length → splice (vcells l) (i * 2) [.int .i64 z.t, .int .i64 z.n] = vcells (l.set i z)
 | [], i, z, h => absurd h (Nat.not_lt_zero i)
 | y :: ys, 0, z, h => rfl
 | y :: ys, i + 1, z, h => by
  have ih := vcells_set ys i z (Nat.lt_of_succ_lt_succ h)
  have e : (i + 1) * 2 = 2 + i * 2 := by omega
  show ([Value.int .i64 y.t, .int .i64 y.n] ++ vcells ys).take _ ++ _ ++ ([Value.int .i64 y.t, .int .i64 y.n] ++ vcells ys).drop _ = [Value.int .i64 y.t, .int .i64 y.n] ++ vcells (ys.set i z)
  rw [← ih, e]
  unfold splice
  have a1 : ([Value.int .i64 y.t, .int .i64 y.n] ++ vcells ys).take (2 + i * 2) = [Value.int .i64 y.t, .int .i64 y.n] ++ (vcells ys).take (i * 2) := by
   rw [List.take_append, List.take_of_length_le (by simp)]; congr 2; simp
  have a2 : ([Value.int .i64 y.t, .int .i64 y.n] ++ vcells ys).drop (2 + i * 2 + [Value.int .i64 z.t, .int .i64 z.n].length) = (vcells ys).drop (i * 2 + [Value.int .i64 z.t, .int .i64 z.n].length) := by
   rw [List.drop_append, List.drop_eq_nil_of_le (by simp), List.nil_append]; congr 1; simp; omega
  rw [a1, a2]; simp
section
variable {T : Type} {R : T → Value → AHeap → Prop} {b : Nat} {h0 g : AHeap} {F : List FRow} {O : List ORow} {M : List MRow}
theorem Sm.mkV {f : List Vl → Option T} {kk : Value × AHeap → Option (Value × AHeap)} (y : Cx b g F O M) {t : TypeId} {n : Int}
  (hk : ∀ p g' l, mkL n (⟨0, 0⟩ : Vl) = some l → Ext g.size g g' → Cx b g' F (⟨p, p, t, true, vcells l⟩ :: O) M → SmR h0 R (f l) (kk (slc p 0 l.length, g'))) :
  SmR h0 R ((mkL n (⟨0, 0⟩ : Vl)).bind f) ((aMk g t [.int .i64 0, .int .i64 0] 16 (.int .i64 n) (.int .i64 n)).bind kk) := Sm.mo fun l el => by
 unfold mkL at el
 by_cases hn : 0 ≤ n ∧ n ≤ 2000000
 ·rw [if_pos hn] at el; cases el
  have hr : ∀ m : Nat, (List.replicate m [Value.int .i64 0, .int .i64 0]).flatten = vcells (List.replicate m ⟨0, 0⟩) := fun m => by unfold vcells; rw [List.map_replicate]
  have e1 : aMk g t [.int .i64 0, .int .i64 0] 16 (.int .i64 n) (.int .i64 n) = some (slc g.size 0 n.toNat, g.new t (List.replicate n.toNat [Value.int .i64 0, .int .i64 0]).flatten) :=
   if_pos ⟨hn.1, Int.le_refl _, by show n ≤ (140737488355328 : Nat); omega, by show n.toNat * 16 ≤ 140737488355328; omega⟩
  rw [e1, hr]
  have := hk g.size _ (List.replicate n.toNat ⟨0, 0⟩) (by unfold mkL; rw [if_pos hn]) (Ext.new (Nat.le_refl _) _ _) (y.new t (vcells (List.replicate n.toNat ⟨0, 0⟩)))
  rw [List.length_replicate] at this
  exact this
 ·rw [if_neg hn] at el; cases el
theorem Sm.upV {f : List Vl → Option T} {kk : AHeap → Option (Value × AHeap)} (y : Cx b g F O M) (n : Nat) {i rt : Nat} {t : TypeId} (l : List Vl) {x : Int} {z : Vl} (e : O[n]? = some ⟨i, rt, t, true, vcells l⟩)
  (hk : ∀ g' l', upd l x z = some l' → l'.length = l.length → Ext b g g' → Cx b g' F (O.set n ⟨i, rt, t, true, vcells l'⟩) M → SmR h0 R (f l') (kk g')) :
  SmR h0 R ((upd l x z).bind f) ((aIdx (slc i 0 l.length) (.int .i64 x) 2).bind fun p => (aSt g p z.v 2).bind kk) := Sm.mo fun l' el => by
 unfold upd at el
 by_cases hx : 0 ≤ x ∧ x < l.length
 ·rw [if_pos hx] at el; cases el
  have ix : aIdx (slc i 0 l.length) (.int .i64 x) 2 = some (ptr i (x.toNat * 2)) := by simp [aIdx, slc, hx]
  obtain ⟨g', e1, E, y', _⟩ := y.st n (off := x.toNat * 2) (m := 2) (vs := [.int .i64 z.t, .int .i64 z.n]) (v := z.v) e rfl rfl (by rw [vcells_len]; omega)
  refine Sm.b ix (Sm.b e1 (hk g' _ (by unfold upd; rw [if_pos hx]) (by simp) E ?_))
  rw [vcells_set l x.toNat z (by omega)] at y'
  exact y'
 ·rw [if_neg hx] at el; cases el
def ROV (h : AHeap) (l : List Vl) (v : Value) (g : AHeap) : Prop := ∃ i rt, v = slc i 0 l.length ∧ OwnI g i rt 42 (vcells l) ∧ h.size ≤ rt
theorem Cx.rov {hb h : AHeap} (y : Cx hb.size h F O M) (n : Nat) {i rt : Nat} (l : List Vl) (e : O[n]? = some ⟨i, rt, 42, true, vcells l⟩) : ROV hb l (slc i 0 l.length) h :=
 let q := (y.ow _ (List.mem_of_getElem? e)).1 rfl; ⟨i, rt, rfl, q.1, q.2⟩
end
theorem LV.cells {v : Value} {i n : Nat} {lv : Bool} (x : LV v i lv n) : aCells v = some [v] := by
 rcases x with ⟨_, rfl⟩ | ⟨_, rfl, rfl⟩ <;> rfl
def RAr : Ar → Value → AHeap → Prop := fun a v g => ∃ wv rv, v = arV wv rv a ∧ ArH g wv rv a
section
variable {b : Nat} {h : AHeap} {F : List FRow} {O : List ORow} {M : List MRow}
theorem Cx.slE (y : Cx b h F O M) (n : Nat) {i rt m : Nat} {t : TypeId} {lv : Bool} {cs : List Value} {v : Value} (e : O[n]? = some ⟨i, rt, t, lv, cs⟩) (hv : LV v i lv m) : SlE t h v := fun j o n' m' ev _ => by
 have q := y.ow _ (List.mem_of_getElem? e)
 rcases hv with ⟨hl, rfl⟩ | ⟨_, rfl, _⟩
 ·cases ev
  obtain ⟨⟨ep, a⟩, _⟩ := q.1 hl
  exact ⟨(q.1 hl).1.lt.2, by have a' : h.at? i = _ := a; rw [a']; rfl⟩
 ·cases ev
theorem Cx.slV (y : Cx b h F O M) (n : Nat) {i rt : Nat} {t : TypeId} (l : List Vl) (e : O[n]? = some ⟨i, rt, t, true, vcells l⟩) : SlV h (slc i 0 l.length) l :=
 let o := (y.ow _ (List.mem_of_getElem? e)).1 rfl; .inr (.inr ⟨i, rfl, o.1.row, o.1.lt.2⟩)
end
theorem Sm.cv {T U : Type} {h g : AHeap} {R : T → Value → AHeap → Prop} {m : Option T} {R' : U → Value → AHeap → Prop} {x : Option U} {w : U} {o : Option (Value × AHeap)} {k : Value × AHeap → Option (Value × AHeap)} (e : x = some w) (s : SmR g R' x o)
  (n : ∀ v g', Ext g.size g g' → R' w v g' → SmR h R m (k (v, g'))) : SmR h R m (o.bind k) := by
 obtain ⟨v, g', e1, E, r⟩ := s w e
 rw [e1]; exact n v g' E r
theorem Sm.sts {T : Type} {R : T → Value → AHeap → Prop} {m : Option T} {h g : AHeap} {b : Nat} {F : List FRow} {O : List ORow} {M : List MRow} {k : AHeap → Option (Value × AHeap)} (y : Cx b g F O M) (n : Nat) {i rt off m' : Nat} {t : TypeId} {cs vs : List Value} {v : Value} (ds : List Value)
  (e : O[n]? = some ⟨i, rt, t, true, cs⟩) (hv : aCells v = some vs) (hl : vs.length = m') (hn : off + m' ≤ cs.length) (hd : splice cs off vs = ds)
  (hk : ∀ g', Ext b g g' → Cx b g' F (O.set n ⟨i, rt, t, true, ds⟩) M → SmR h R m (k g')) : SmR h R m ((aSt g (ptr i off) v m').bind k) := by
 subst hd; exact Sm.st y n e hv hl hn hk
theorem LV.isc {v : Value} {i n : Nat} {lv : Bool} (x : LV v i lv n) : isCell v = true := by
 rcases x with ⟨_, rfl⟩ | ⟨_, rfl, rfl⟩ <;> rfl
theorem arCells_ok {wv rv : Value} {a : Ar} (h1 : isCell wv = true) (h2 : isCell rv = true) : aCells (arV wv rv a) = some (arCells wv rv a) := by
 show (if (List.all (arCells wv rv a) isCell) = true then some (arCells wv rv a) else none) = _
 rw [if_pos]
 show (isCell wv && (true && (true && (true && (true && (true && (true && (true && (true && (isCell rv && true)))))))))) = true
 rw [h1, h2]; rfl
end Go.AM
namespace Go.Proofs.YtnjnggejbpkgoaaGreat
open Go Go.AH
noncomputable abbrev Tp : Program := Tryz.prog
def M3 : Masks := ⟨[(10, [1, 4, 5, 6, 7, 8]), (16, [1, 4, 5, 7]), (27, [7, 10]), (100009, [1, 4, 5, 6, 7, 8, 40]), (100015, [1, 4, 5, 7, 61]), (100026, [7, 10, 87])], []⟩
def M4 : Masks := ⟨[], []⟩
def M5 : Masks := ⟨[], [(6, [2, 4, 5, 6]), (11, [2, 4, 5, 7]), (16, [2, 4, 5, 7, 9, 10])]⟩
def M6 : Masks := ⟨[], []⟩
def M7 : Masks := ⟨[], [(7, [2, 4, 5, 28, 29, 30]), (17, [2, 4, 11, 54, 55, 56]), (22, [2, 4, 11, 69, 70, 71]), (26, [2, 4, 11, 15, 69, 70, 71, 81, 82, 83])]⟩
def M8 : Masks := ⟨[], []⟩
def M9 : Masks := ⟨[], []⟩
def M10 : Masks := ⟨[], []⟩
def M11 : Masks := ⟨[], []⟩
def M12 : Masks := ⟨[], []⟩
def M13 : Masks := ⟨[(6, [1, 3]), (100005, [1, 3, 25]), (100010, [1, 3, 4, 50]), (100016, [1, 3, 5, 6, 86]), (100022, [1, 3, 7, 113])], [(7, [1, 3, 4]), (13, [1, 3, 5, 6]), (18, [1, 3, 7])]⟩
def M14 : Masks := ⟨[], []⟩
def M15 : Masks := ⟨[], []⟩
def M16 : Masks := ⟨[(4, [1, 3, 4])], [(3, [1, 3, 4])]⟩
def M17 : Masks := ⟨[(4, [1, 2, 5, 6]), (100006, [1, 2, 5, 6, 35])], [(3, [1, 2, 5, 6])]⟩
def M18 : Masks := ⟨[], []⟩
def M19 : Masks := ⟨[], []⟩
def M20 : Masks := ⟨[(5, [0, 1, 5, 6]), (17, [1, 5, 7]), (100004, [0, 1, 5, 6, 22]), (100011, [1, 5, 7, 30, 31]), (100014, [1, 5, 7, 30, 34])], [(18, [1, 5, 8])]⟩
def M21 : Masks := ⟨[], []⟩
def M22 : Masks := ⟨[], []⟩
def M23 : Masks := ⟨[], [(3, [0, 3, 4])]⟩
def M24 : Masks := ⟨[], [(3, [0, 3, 4])]⟩
def M25 : Masks := ⟨[], []⟩
def M26 : Masks := ⟨[(3, [1]), (100002, [1, 47]), (100008, [3, 79]), (100011, [3, 132])], []⟩
def M27 : Masks := ⟨[], []⟩
def M28 : Masks := ⟨[], [(3, [0, 3, 4])]⟩
def M29 : Masks := ⟨[], []⟩
def M30 : Masks := ⟨[], [(4, [0, 1, 6, 20, 21])]⟩
def M31 : Masks := ⟨[(3, [3, 4])], []⟩
def M32 : Masks := ⟨[(12, [1, 5]), (100006, [1, 8, 9]), (100009, [1, 8, 12])], [(14, [1, 6, 7])]⟩
def M33 : Masks := ⟨[], []⟩
def M34 : Masks := ⟨[], []⟩
def M35 : Masks := ⟨[], [(3, [0, 3, 7, 8, 9])]⟩
def M36 : Masks := ⟨[], [(4, [0, 1, 5])]⟩
def M37 : Masks := ⟨[], [(4, [0, 1, 5])]⟩
def M38 : Masks := ⟨[], [(2, [0, 1, 5])]⟩
def M39 : Masks := ⟨[], [(2, [0, 1, 5])]⟩
def M40 : Masks := ⟨[], [(2, [0, 1, 5])]⟩
def M41 : Masks := ⟨[], [(2, [0, 1, 5])]⟩
def M42 : Masks := ⟨[(3, [1]), (10, [1, 3]), (100002, [1, 34]), (100009, [1, 3, 86])], []⟩
def M43 : Masks := ⟨[(6, [1, 2, 5, 6]), (20, [1, 2, 8, 9, 10, 11, 14]), (26, [1, 2, 8, 9, 10, 11, 13]), (100005, [1, 2, 5, 6, 51]), (100019, [1, 2, 8, 9, 10, 11, 14, 117])], [(2, [1, 2, 5]), (13, [1, 2, 8, 9, 10])]⟩
def M44 : Masks := ⟨[(6, [1, 2, 5, 6])], [(3, [1, 2, 5, 6]), (9, [1, 2, 5, 6, 7, 8])]⟩
def M45 : Masks := ⟨[(7, [1, 2, 3, 7, 8]), (100006, [1, 2, 3, 7, 8, 28]), (100013, [1, 2, 3, 7, 8, 9, 10, 91])], [(9, [1, 2, 3, 7, 8, 9, 10])]⟩
def M46 : Masks := ⟨[(100018, [3, 9, 10, 11, 12, 13, 81])], [(13, [3, 9, 10, 11, 12, 13])]⟩
def M47 : Masks := ⟨[], []⟩
def M48 : Masks := ⟨[(7, [4, 6, 10])], []⟩
def M49 : Masks := ⟨[], []⟩
def M50 : Masks := ⟨[], []⟩
def M51 : Masks := ⟨[], [(8, [1, 2, 3])]⟩
def M52 : Masks := ⟨[], [(4, [1, 2, 5, 6, 7])]⟩
def M53 : Masks := ⟨[(5, [2, 4]), (100004, [2, 4, 30])], []⟩
def M54 : Masks := ⟨[], []⟩
def M55 : Masks := ⟨[], []⟩
def M56 : Masks := ⟨[], []⟩
def M57 : Masks := ⟨[], []⟩
def M58 : Masks := ⟨[], []⟩
def M59 : Masks := ⟨[], []⟩
def M60 : Masks := ⟨[(10, [0, 2, 3, 9, 10, 11, 13]), (17, [0, 2, 3, 9, 10, 11, 15]), (20, [0, 2, 3, 9, 10, 11, 12]), (100008, [0, 2, 3, 9, 10, 11, 13, 40]), (100009, [0, 2, 3, 9, 10, 11, 13, 62]), (100016, [0, 2, 3, 9, 10, 11, 15, 123])], [(4, [0, 2, 3, 9, 10, 11])]⟩
def M61 : Masks := ⟨[], []⟩
def M62 : Masks := ⟨[], []⟩
def M63 : Masks := ⟨[(100005, [1, 10, 11, 12, 28]), (100011, [1, 33, 34, 35, 61])], [(2, [1, 10, 11, 12]), (8, [1, 33, 34, 35])]⟩
def M64 : Masks := ⟨[], []⟩
def M65 : Masks := ⟨[], [(7, [0, 44, 45, 46])]⟩
def M66 : Masks := ⟨[], []⟩
def M67 : Masks := ⟨[], []⟩
def M68 : Masks := ⟨[], []⟩
def M69 : Masks := ⟨[], []⟩
def M70 : Masks := ⟨[(100003, [4, 13])], []⟩
def M71 : Masks := ⟨[(4, [1, 2, 3, 7]), (100003, [1, 2, 3, 7, 22])], []⟩
def M72 : Masks := ⟨[], []⟩
def M73 : Masks := ⟨[(4, [1, 2, 6]), (7, [1, 2, 6]), (100003, [1, 2, 6, 42]), (100006, [1, 2, 6, 58])], [(8, [1, 2, 11])]⟩
def M74 : Masks := ⟨[], []⟩
def M75 : Masks := ⟨[], [(4, [1, 2, 6, 7, 8])]⟩
def M76 : Masks := ⟨[], []⟩
def M77 : Masks := ⟨[(3, [1, 2, 4, 7]), (100002, [1, 2, 4, 7, 19])], [(5, [1, 2, 4, 7, 10, 11])]⟩
def M78 : Masks := ⟨[], []⟩
def M79 : Masks := ⟨[], []⟩
def M80 : Masks := ⟨[(3, [1, 2, 4, 6])], [(2, [1, 2, 4, 6]), (6, [1, 2, 4, 6, 7, 8, 9])]⟩
def M81 : Masks := ⟨[(6, [1, 2]), (100002, [1, 2, 11])], []⟩
def M82 : Masks := ⟨[(3, [2, 3, 4, 5]), (14, [2, 3, 4, 5, 6]), (100002, [2, 3, 4, 5, 22])], [(8, [2, 3, 4, 5, 6, 8, 9])]⟩
def M83 : Masks := ⟨[], []⟩
def M84 : Masks := ⟨[(100003, [4, 13])], []⟩
def M85 : Masks := ⟨[(8, [0, 1, 5, 8, 20, 21, 22]), (100007, [0, 1, 5, 8, 20, 21, 22, 58]), (100011, [0, 1, 5, 20, 21, 22, 59]), (200009, [0, 1, 5, 8, 20, 21, 22, 59]), (200010, [0, 1, 5, 8, 20, 21, 22, 59])], [(3, [0, 1, 5, 20, 21, 22])]⟩
def M86 : Masks := ⟨[], [(12, [0, 5, 7, 8, 9, 62, 63])]⟩
def M87 : Masks := ⟨[], []⟩
def M88 : Masks := ⟨[], []⟩
def M89 : Masks := ⟨[], []⟩
def M90 : Masks := ⟨[(7, [0, 2, 4, 7, 8]), (13, [0, 4]), (100010, [0, 2, 4, 7, 8, 43]), (100012, [0, 4, 50])], []⟩
def M91 : Masks := ⟨[(6, [0, 1, 5])], [(5, [0, 1, 5]), (8, [0, 1, 5, 6, 32, 33, 34])]⟩
def M92 : Masks := ⟨[(3, [0, 3, 4]), (100002, [0, 3, 4, 24])], []⟩
def M93 : Masks := ⟨[(100001, [0, 16])], []⟩
def M94 : Masks := ⟨[], []⟩
def M95 : Masks := ⟨[], [(12, [5, 6, 7])]⟩
def M96 : Masks := ⟨[], []⟩
def M97 : Masks := ⟨[(3, [0, 1, 4]), (100002, [0, 1, 4, 19])], []⟩
def M98 : Masks := ⟨[(4, [0, 1, 2, 7]), (100003, [0, 1, 2, 7, 30])], []⟩
def M99 : Masks := ⟨[(4, [0, 1, 2, 7]), (100003, [0, 1, 2, 7, 47]), (100009, [0, 1, 7, 49, 50, 51, 86])], [(5, [0, 1, 7, 49, 50, 51])]⟩
def M100 : Masks := ⟨[(5, [3])], []⟩
def M101 : Masks := ⟨[], [(4, [0, 1, 5, 8, 9, 21, 22])]⟩
def M102 : Masks := ⟨[], [(2, [0, 1, 7, 8])]⟩
def M103 : Masks := ⟨[], []⟩
def M104 : Masks := ⟨[], []⟩
def M105 : Masks := ⟨[], []⟩
def M106 : Masks := ⟨[], []⟩
def M107 : Masks := ⟨[], []⟩
def M108 : Masks := ⟨[(19, [3]), (100018, [0, 3, 44])], [(10, [5, 6, 30, 31])]⟩
def M109 : Masks := ⟨[], []⟩
theorem hk0_app {R : Type} (i : Nat) (t : Tm) (h : AHeap) (x : Nx R) : hk0 i t h x = x t h := rfl
def Ms (k : Nat) : Masks :=
 (bif Nat.blt k 56 then (bif Nat.blt k 29 then (bif Nat.blt k 16 then (bif Nat.blt k 9 then (bif Nat.blt k 6 then (bif Nat.blt k 4 then (bif Nat.beq k 3 then M3 else ⟨[], []⟩) else (bif Nat.blt k 5 then (bif Nat.beq k 4 then M4 else ⟨[], []⟩) else (bif Nat.beq k 5 then M5 else ⟨[], []⟩))) else (bif Nat.blt k 7 then (bif Nat.beq k 6 then M6 else ⟨[], []⟩) else (bif Nat.blt k 8 then (bif Nat.beq k 7 then M7 else ⟨[], []⟩) else (bif Nat.beq k 8 then M8 else ⟨[], []⟩)))) else (bif Nat.blt k 12 then (bif Nat.blt k 10 then (bif Nat.beq k 9 then M9 else ⟨[], []⟩) else (bif Nat.blt k 11 then (bif Nat.beq k 10 then M10 else ⟨[], []⟩) else (bif Nat.beq k 11 then M11 else ⟨[], []⟩))) else (bif Nat.blt k 14 then (bif Nat.blt k 13 then (bif Nat.beq k 12 then M12 else ⟨[], []⟩) else (bif Nat.beq k 13 then M13 else ⟨[], []⟩)) else (bif Nat.blt k 15 then (bif Nat.beq k 14 then M14 else ⟨[], []⟩) else (bif Nat.beq k 15 then M15 else ⟨[], []⟩))))) else (bif Nat.blt k 22 then (bif Nat.blt k 19 then (bif Nat.blt k 17 then (bif Nat.beq k 16 then M16 else ⟨[], []⟩) else (bif Nat.blt k 18 then (bif Nat.beq k 17 then M17 else ⟨[], []⟩) else (bif Nat.beq k 18 then M18 else ⟨[], []⟩))) else (bif Nat.blt k 20 then (bif Nat.beq k 19 then M19 else ⟨[], []⟩) else (bif Nat.blt k 21 then (bif Nat.beq k 20 then M20 else ⟨[], []⟩) else (bif Nat.beq k 21 then M21 else ⟨[], []⟩)))) else (bif Nat.blt k 25 then (bif Nat.blt k 23 then (bif Nat.beq k 22 then M22 else ⟨[], []⟩) else (bif Nat.blt k 24 then (bif Nat.beq k 23 then M23 else ⟨[], []⟩) else (bif Nat.beq k 24 then M24 else ⟨[], []⟩))) else (bif Nat.blt k 27 then (bif Nat.blt k 26 then (bif Nat.beq k 25 then M25 else ⟨[], []⟩) else (bif Nat.beq k 26 then M26 else ⟨[], []⟩)) else (bif Nat.blt k 28 then (bif Nat.beq k 27 then M27 else ⟨[], []⟩) else (bif Nat.beq k 28 then M28 else ⟨[], []⟩)))))) else (bif Nat.blt k 42 then (bif Nat.blt k 35 then (bif Nat.blt k 32 then (bif Nat.blt k 30 then (bif Nat.beq k 29 then M29 else ⟨[], []⟩) else (bif Nat.blt k 31 then (bif Nat.beq k 30 then M30 else ⟨[], []⟩) else (bif Nat.beq k 31 then M31 else ⟨[], []⟩))) else (bif Nat.blt k 33 then (bif Nat.beq k 32 then M32 else ⟨[], []⟩) else (bif Nat.blt k 34 then (bif Nat.beq k 33 then M33 else ⟨[], []⟩) else (bif Nat.beq k 34 then M34 else ⟨[], []⟩)))) else (bif Nat.blt k 38 then (bif Nat.blt k 36 then (bif Nat.beq k 35 then M35 else ⟨[], []⟩) else (bif Nat.blt k 37 then (bif Nat.beq k 36 then M36 else ⟨[], []⟩) else (bif Nat.beq k 37 then M37 else ⟨[], []⟩))) else (bif Nat.blt k 40 then (bif Nat.blt k 39 then (bif Nat.beq k 38 then M38 else ⟨[], []⟩) else (bif Nat.beq k 39 then M39 else ⟨[], []⟩)) else (bif Nat.blt k 41 then (bif Nat.beq k 40 then M40 else ⟨[], []⟩) else (bif Nat.beq k 41 then M41 else ⟨[], []⟩))))) else (bif Nat.blt k 49 then (bif Nat.blt k 45 then (bif Nat.blt k 43 then (bif Nat.beq k 42 then M42 else ⟨[], []⟩) else (bif Nat.blt k 44 then (bif Nat.beq k 43 then M43 else ⟨[], []⟩) else (bif Nat.beq k 44 then M44 else ⟨[], []⟩))) else (bif Nat.blt k 47 then (bif Nat.blt k 46 then (bif Nat.beq k 45 then M45 else ⟨[], []⟩) else (bif Nat.beq k 46 then M46 else ⟨[], []⟩)) else (bif Nat.blt k 48 then (bif Nat.beq k 47 then M47 else ⟨[], []⟩) else (bif Nat.beq k 48 then M48 else ⟨[], []⟩)))) else (bif Nat.blt k 52 then (bif Nat.blt k 50 then (bif Nat.beq k 49 then M49 else ⟨[], []⟩) else (bif Nat.blt k 51 then (bif Nat.beq k 50 then M50 else ⟨[], []⟩) else (bif Nat.beq k 51 then M51 else ⟨[], []⟩))) else (bif Nat.blt k 54 then (bif Nat.blt k 53 then (bif Nat.beq k 52 then M52 else ⟨[], []⟩) else (bif Nat.beq k 53 then M53 else ⟨[], []⟩)) else (bif Nat.blt k 55 then (bif Nat.beq k 54 then M54 else ⟨[], []⟩) else (bif Nat.beq k 55 then M55 else ⟨[], []⟩))))))) else (bif Nat.blt k 83 then (bif Nat.blt k 69 then (bif Nat.blt k 62 then (bif Nat.blt k 59 then (bif Nat.blt k 57 then (bif Nat.beq k 56 then M56 else ⟨[], []⟩) else (bif Nat.blt k 58 then (bif Nat.beq k 57 then M57 else ⟨[], []⟩) else (bif Nat.beq k 58 then M58 else ⟨[], []⟩))) else (bif Nat.blt k 60 then (bif Nat.beq k 59 then M59 else ⟨[], []⟩) else (bif Nat.blt k 61 then (bif Nat.beq k 60 then M60 else ⟨[], []⟩) else (bif Nat.beq k 61 then M61 else ⟨[], []⟩)))) else (bif Nat.blt k 65 then (bif Nat.blt k 63 then (bif Nat.beq k 62 then M62 else ⟨[], []⟩) else (bif Nat.blt k 64 then (bif Nat.beq k 63 then M63 else ⟨[], []⟩) else (bif Nat.beq k 64 then M64 else ⟨[], []⟩))) else (bif Nat.blt k 67 then (bif Nat.blt k 66 then (bif Nat.beq k 65 then M65 else ⟨[], []⟩) else (bif Nat.beq k 66 then M66 else ⟨[], []⟩)) else (bif Nat.blt k 68 then (bif Nat.beq k 67 then M67 else ⟨[], []⟩) else (bif Nat.beq k 68 then M68 else ⟨[], []⟩))))) else (bif Nat.blt k 76 then (bif Nat.blt k 72 then (bif Nat.blt k 70 then (bif Nat.beq k 69 then M69 else ⟨[], []⟩) else (bif Nat.blt k 71 then (bif Nat.beq k 70 then M70 else ⟨[], []⟩) else (bif Nat.beq k 71 then M71 else ⟨[], []⟩))) else (bif Nat.blt k 74 then (bif Nat.blt k 73 then (bif Nat.beq k 72 then M72 else ⟨[], []⟩) else (bif Nat.beq k 73 then M73 else ⟨[], []⟩)) else (bif Nat.blt k 75 then (bif Nat.beq k 74 then M74 else ⟨[], []⟩) else (bif Nat.beq k 75 then M75 else ⟨[], []⟩)))) else (bif Nat.blt k 79 then (bif Nat.blt k 77 then (bif Nat.beq k 76 then M76 else ⟨[], []⟩) else (bif Nat.blt k 78 then (bif Nat.beq k 77 then M77 else ⟨[], []⟩) else (bif Nat.beq k 78 then M78 else ⟨[], []⟩))) else (bif Nat.blt k 81 then (bif Nat.blt k 80 then (bif Nat.beq k 79 then M79 else ⟨[], []⟩) else (bif Nat.beq k 80 then M80 else ⟨[], []⟩)) else (bif Nat.blt k 82 then (bif Nat.beq k 81 then M81 else ⟨[], []⟩) else (bif Nat.beq k 82 then M82 else ⟨[], []⟩)))))) else (bif Nat.blt k 96 then (bif Nat.blt k 89 then (bif Nat.blt k 86 then (bif Nat.blt k 84 then (bif Nat.beq k 83 then M83 else ⟨[], []⟩) else (bif Nat.blt k 85 then (bif Nat.beq k 84 then M84 else ⟨[], []⟩) else (bif Nat.beq k 85 then M85 else ⟨[], []⟩))) else (bif Nat.blt k 87 then (bif Nat.beq k 86 then M86 else ⟨[], []⟩) else (bif Nat.blt k 88 then (bif Nat.beq k 87 then M87 else ⟨[], []⟩) else (bif Nat.beq k 88 then M88 else ⟨[], []⟩)))) else (bif Nat.blt k 92 then (bif Nat.blt k 90 then (bif Nat.beq k 89 then M89 else ⟨[], []⟩) else (bif Nat.blt k 91 then (bif Nat.beq k 90 then M90 else ⟨[], []⟩) else (bif Nat.beq k 91 then M91 else ⟨[], []⟩))) else (bif Nat.blt k 94 then (bif Nat.blt k 93 then (bif Nat.beq k 92 then M92 else ⟨[], []⟩) else (bif Nat.beq k 93 then M93 else ⟨[], []⟩)) else (bif Nat.blt k 95 then (bif Nat.beq k 94 then M94 else ⟨[], []⟩) else (bif Nat.beq k 95 then M95 else ⟨[], []⟩))))) else (bif Nat.blt k 103 then (bif Nat.blt k 99 then (bif Nat.blt k 97 then (bif Nat.beq k 96 then M96 else ⟨[], []⟩) else (bif Nat.blt k 98 then (bif Nat.beq k 97 then M97 else ⟨[], []⟩) else (bif Nat.beq k 98 then M98 else ⟨[], []⟩))) else (bif Nat.blt k 101 then (bif Nat.blt k 100 then (bif Nat.beq k 99 then M99 else ⟨[], []⟩) else (bif Nat.beq k 100 then M100 else ⟨[], []⟩)) else (bif Nat.blt k 102 then (bif Nat.beq k 101 then M101 else ⟨[], []⟩) else (bif Nat.beq k 102 then M102 else ⟨[], []⟩)))) else (bif Nat.blt k 106 then (bif Nat.blt k 104 then (bif Nat.beq k 103 then M103 else ⟨[], []⟩) else (bif Nat.blt k 105 then (bif Nat.beq k 104 then M104 else ⟨[], []⟩) else (bif Nat.beq k 105 then M105 else ⟨[], []⟩))) else (bif Nat.blt k 108 then (bif Nat.blt k 107 then (bif Nat.beq k 106 then M106 else ⟨[], []⟩) else (bif Nat.beq k 107 then M107 else ⟨[], []⟩)) else (bif Nat.blt k 109 then (bif Nat.beq k 108 then M108 else ⟨[], []⟩) else (bif Nat.beq k 109 then M109 else ⟨[], []⟩))))))))
open Go Go.AH Go.AM Go.RowKit
theorem own : ownKnob Tp.godebug = none := by kernel_rfl
theorem fnOk : Tp.funcs.all (fun (fn : Func) => fn.name != "runtime.NumGoroutine") = true := by kernel_rfl
theorem uBool : Tp.underlying 4 = some .bool := by kernel_rfl
theorem uInt : Tp.underlying 3 = some (.int .i64) := by kernel_rfl
theorem uWord : Tp.underlying 74 = some (.int .u64) := by kernel_rfl
theorem uWords : Tp.underlying 22 = some (.slice 74) := by kernel_rfl
theorem uRoots : Tp.underlying 23 = some (.slice 77) := by kernel_rfl
theorem uVal : Tp.underlying 77 = some (.struct #[⟨"Tag", 3, 0, false, "", "", 0⟩, ⟨"N", 3, 1, false, "", "", 8⟩]) := by kernel_rfl
theorem uArena : Tp.underlying 25 = some (.struct #[⟨"Words", 22, 0, false, "", "", 0⟩, ⟨"Semi", 3, 1, false, "", "", 24⟩, ⟨"To", 3, 2, false, "", "", 32⟩, ⟨"Top", 3, 3, false, "", "", 40⟩, ⟨"Cycle", 4, 4, false, "", "", 48⟩,
 ⟨"Scan", 3, 5, false, "", "", 56⟩, ⟨"Old", 3, 6, false, "", "", 64⟩, ⟨"Copied", 3, 7, false, "", "", 72⟩, ⟨"Serial", 3, 8, false, "", "", 80⟩, ⟨"Roots", 23, 9, false, "", "", 88⟩]) := by kernel_rfl
theorem cArena : Tp.cellsOf 25 = 10 := by kernel_rfl
theorem cInt : Tp.cellsOf 3 = 1 := by kernel_rfl
theorem cBool : Tp.cellsOf 4 = 1 := by kernel_rfl
theorem cWord : Tp.cellsOf 74 = 1 := by kernel_rfl
theorem cWords : Tp.cellsOf 22 = 1 := by kernel_rfl
theorem cRoots : Tp.cellsOf 23 = 1 := by kernel_rfl
theorem cVal : Tp.cellsOf 77 = 2 := by kernel_rfl
theorem zWord : tSize Tp 74 = some 1 := by kernel_rfl
theorem zVal : tSize Tp 77 = some 2 := by kernel_rfl
theorem mixed : Tp.follows .mixedOrders = true := Checked.mixed Tryz.checked
def BlkM (W : World) (b n : Nat) : Prop := ∃ arr el fr, W.heap[b]? = some (.cells arr el fr) ∧ n ≤ arr.size
theorem BlkM.lt {W : World} {b n : Nat} (h : BlkM W b n) : b < W.heap.size := by
 obtain ⟨_, _, _, h1, _⟩ := h
 exact (Array.getElem?_eq_some_iff.1 h1).1
def SM (W : World) (esz : Nat) (v : Value) (cs : List (List Value)) : Prop :=
 (v = .slice none 0 0 ∧ cs = []) ∨ (∃ a, v = .slice (some a) 0 0 ∧ cs = []) ∨
 ∃ b off cap, v = .slice (some ⟨b, off, none⟩) cs.length cap ∧ cs.length ≤ cap ∧ cap ≤ maxLen ∧ BlkM W b (off + cap * esz) ∧ ∀ (j : Nat) (x : List Value), cs[j]? = some x → x.length = esz ∧ ∀ c, c < esz → W.cell? ⟨b, off + (j * esz + c), none⟩ = x[c]?
theorem range_getM {α : Type} (f : Nat → α) {len j : Nat} {x : α} (h : ((List.range len).map f)[j]? = some x) : j < len ∧ x = f j := by
 rw [List.getElem?_map, Option.map_eq_some_iff] at h
 obtain ⟨a, h1, h2⟩ := h
 obtain ⟨h3, h4⟩ := List.getElem?_eq_some_iff.1 h1
 rw [List.getElem_range] at h4
 subst h4
 exact ⟨by simpa using h3, h2.symm⟩
def okI (k : IntKind) (n : Int) : Prop := k.min ≤ n ∧ n ≤ k.max
theorem okI_of {k : IntKind} {n : Int} (h : (Lit.int k n).wf = true) : okI k n := by
 unfold Lit.wf at h
 simp only [Bool.and_eq_true, decide_eq_true_eq] at h
 exact h
section
variable {H : Type} {enc : TypeId × Value → H} {W : World}
theorem openI {k : IntKind} {t : TypeId} {fuel : Nat} {v : Value} {o : Option (DataW H × List MemPlace)} {y : DataW H × List MemPlace} (u : Tp.underlying t = some (.int k)) (h : DataW.trod enc Tp W 0 (fun _ => true) true fuel t [v] = o) (ho : o = some y) : ∃ n, v = .int k n ∧ okI k n := by
 rw [ho] at h
 obtain ⟨n, e, _, hw⟩ := DataW.trod_int u h
 exact ⟨n, by simpa using e, okI_of hw⟩
theorem open_words {fuel : Nat} {v : Value} {x : DataW H × List MemPlace} (h : DataW.trod enc Tp W 0 (fun _ => true) true fuel 22 [v] = some x) : ∃ xs : List Int, SM W 1 v (xs.map fun n => [.int .u64 n]) ∧ ∀ n ∈ xs, okI .u64 n := by
 rcases open_rowM uWords cWord (by decide) h with h0 | ⟨a, h0⟩ | ⟨b, off, len, cap, n, D, Pl, h0, hl, hm, hb, hx⟩
 ·exact ⟨[], .inl ⟨h0, rfl⟩, fun n hn => by cases hn⟩
 ·exact ⟨[], .inr (.inl ⟨a, h0, rfl⟩), fun n hn => by cases hn⟩
 ·have each : ∀ i, i < len → ∃ z : Int, W.cell? ⟨b, off + (i * 1 + 0), none⟩ = some (.int .u64 z) ∧ okI .u64 z := fun i hi => by
   obtain ⟨cs', h1, h2, h3⟩ := hx i hi
   obtain ⟨z, h4, _, hw⟩ := DataW.trod_int uWord h3
   have := h2 0 (by omega)
   rw [h4] at this
   exact ⟨z, by simpa using this, okI_of hw⟩
  obtain ⟨f, hf⟩ := Deep.choose_lt each
  refine ⟨(List.range len).map f, .inr (.inr ⟨b, off, cap, by simpa using h0, by simpa using hl, hm, hb, fun j z hz => ?_⟩), fun n hn => ?_⟩
  ·rw [List.getElem?_map, Option.map_eq_some_iff] at hz
   obtain ⟨w, hw, rfl⟩ := hz
   obtain ⟨hj, rfl⟩ := range_getM f hw
   refine ⟨rfl, fun c hc => ?_⟩
   have : c = 0 := by omega
   subst this
   exact (hf j hj).1
  ·obtain ⟨j, hj, rfl⟩ := List.mem_map.1 hn
   exact (hf j (by simpa using hj)).2
theorem open_val {fuel : Nat} {cs : List Value} {x : DataW H × List MemPlace} (h : DataW.trod enc Tp W 0 (fun _ => true) true fuel 77 cs = some x) : ∃ v : Vl, cs = [.int .i64 v.t, .int .i64 v.n] ∧ okI .i64 v.t ∧ okI .i64 v.n := by
 obtain ⟨xs, k, _, _, hl, hxl, hf⟩ := DataW.trod_struct uVal h
 rw [cVal] at hl
 have hxl' : xs.length = 2 := hxl
 have g0 : DataW.trod enc Tp W 0 (fun _ => true) true k 3 ((cs.drop 0).take (Tp.cellsOf 3)) = xs[0]? := hf 0 _ rfl
 have g1 : DataW.trod enc Tp W 0 (fun _ => true) true k 3 ((cs.drop 1).take (Tp.cellsOf 3)) = xs[1]? := hf 1 _ rfl
 rw [cInt] at g0 g1
 clear hf hxl h
 match xs, hxl', cs, hl with
 | [y0, y1], _, [v0, v1], _ =>
  obtain ⟨n0, e0, o0⟩ := openI uInt (v := v0) g0 rfl
  obtain ⟨n1, e1, o1⟩ := openI uInt (v := v1) g1 rfl
  subst e0 e1
  exact ⟨⟨n0, n1⟩, rfl, o0, o1⟩
theorem open_roots {fuel : Nat} {v : Value} {x : DataW H × List MemPlace} (h : DataW.trod enc Tp W 0 (fun _ => true) true fuel 23 [v] = some x) : ∃ xs : List Vl, SM W 2 v (xs.map fun n => [.int .i64 n.t, .int .i64 n.n]) ∧ ∀ n ∈ xs, okI .i64 n.t ∧ okI .i64 n.n := by
 rcases open_rowM uRoots cVal (by decide) h with h0 | ⟨a, h0⟩ | ⟨b, off, len, cap, n, D, Pl, h0, hl, hm, hb, hx⟩
 ·exact ⟨[], .inl ⟨h0, rfl⟩, fun n hn => by cases hn⟩
 ·exact ⟨[], .inr (.inl ⟨a, h0, rfl⟩), fun n hn => by cases hn⟩
 ·have each : ∀ i, i < len → ∃ z : Vl, (∀ c, c < 2 → W.cell? ⟨b, off + (i * 2 + c), none⟩ = [Value.int .i64 z.t, .int .i64 z.n][c]?) ∧ okI .i64 z.t ∧ okI .i64 z.n := fun i hi => by
   obtain ⟨cs', h1, h2, h3⟩ := hx i hi
   obtain ⟨z, rfl, h4, h5⟩ := open_val h3
   exact ⟨z, h2, h4, h5⟩
  haveI : Inhabited Vl := ⟨⟨0, 0⟩⟩
  obtain ⟨f, hf⟩ := Deep.choose_lt each
  refine ⟨(List.range len).map f, .inr (.inr ⟨b, off, cap, by simpa using h0, by simpa using hl, hm, hb, fun j z hz => ?_⟩), fun n hn => ?_⟩
  ·rw [List.getElem?_map, Option.map_eq_some_iff] at hz
   obtain ⟨w, hw, rfl⟩ := hz
   obtain ⟨hj, rfl⟩ := range_getM f hw
   exact ⟨rfl, (hf j hj).1⟩
  ·obtain ⟨j, hj, rfl⟩ := List.mem_map.1 hn
   exact (hf j (by simpa using hj)).2
structure ArW (W : World) (wv rv : Value) (a : Ar) : Prop where
 w : SM W 1 wv (a.ws.map fun n => [.int .u64 n])
 r : SM W 2 rv (a.rs.map fun n => [.int .i64 n.t, .int .i64 n.n])
 wi : ∀ n ∈ a.ws, okI .u64 n
 ri : ∀ n ∈ a.rs, okI .i64 n.t ∧ okI .i64 n.n
 ii : ∀ x ∈ [a.semi, a.to, a.top, a.scan, a.old, a.cop, a.ser], okI .i64 x
theorem open_arena {v : Value} {cs : Array Value} (hv : v = .agg cs) {d : DataW H} {ps : List MemPlace} (h : DataW.Trod enc Tp W 0 (fun _ => true) true 25 v d ps) : ∃ wv rv a, v = arV wv rv a ∧ ArW W wv rv a := by
 subst hv
 obtain ⟨fuel, h⟩ := h
 obtain ⟨xs, k, _, _, hl, hxl, hf⟩ := DataW.trod_struct uArena h
 rw [cArena] at hl
 have hcs : (Value.agg cs).cells.toList = cs.toList := rfl
 rw [hcs] at hl hf
 obtain ⟨l⟩ := cs
 simp only at hl hf
 have hxl' : xs.length = 10 := hxl
 have g0 : DataW.trod enc Tp W 0 (fun _ => true) true k 22 ((l.drop 0).take (Tp.cellsOf 22)) = xs[0]? := hf 0 _ rfl
 have g1 : DataW.trod enc Tp W 0 (fun _ => true) true k 3 ((l.drop 1).take (Tp.cellsOf 3)) = xs[1]? := hf 1 _ rfl
 have g2 : DataW.trod enc Tp W 0 (fun _ => true) true k 3 ((l.drop 2).take (Tp.cellsOf 3)) = xs[2]? := hf 2 _ rfl
 have g3 : DataW.trod enc Tp W 0 (fun _ => true) true k 3 ((l.drop 3).take (Tp.cellsOf 3)) = xs[3]? := hf 3 _ rfl
 have g4 : DataW.trod enc Tp W 0 (fun _ => true) true k 4 ((l.drop 4).take (Tp.cellsOf 4)) = xs[4]? := hf 4 _ rfl
 have g5 : DataW.trod enc Tp W 0 (fun _ => true) true k 3 ((l.drop 5).take (Tp.cellsOf 3)) = xs[5]? := hf 5 _ rfl
 have g6 : DataW.trod enc Tp W 0 (fun _ => true) true k 3 ((l.drop 6).take (Tp.cellsOf 3)) = xs[6]? := hf 6 _ rfl
 have g7 : DataW.trod enc Tp W 0 (fun _ => true) true k 3 ((l.drop 7).take (Tp.cellsOf 3)) = xs[7]? := hf 7 _ rfl
 have g8 : DataW.trod enc Tp W 0 (fun _ => true) true k 3 ((l.drop 8).take (Tp.cellsOf 3)) = xs[8]? := hf 8 _ rfl
 have g9 : DataW.trod enc Tp W 0 (fun _ => true) true k 23 ((l.drop 9).take (Tp.cellsOf 23)) = xs[9]? := hf 9 _ rfl
 rw [cWords] at g0
 rw [cInt] at g1 g2 g3 g5 g6 g7 g8
 rw [cBool] at g4
 rw [cRoots] at g9
 clear hf hxl h hcs
 match xs, hxl', l, hl with
 | [y0, y1, y2, y3, y4, y5, y6, y7, y8, y9], _, [v0, v1, v2, v3, v4, v5, v6, v7, v8, v9], _ =>
  obtain ⟨ws, e0, w0⟩ := open_words (v := v0) g0
  obtain ⟨n1, e1, o1⟩ := openI uInt (v := v1) g1 rfl
  obtain ⟨n2, e2, o2⟩ := openI uInt (v := v2) g2 rfl
  obtain ⟨n3, e1003, o3⟩ := openI uInt (v := v3) g3 rfl
  obtain ⟨b4, e1004, _⟩ := DataW.trod_bool uBool (show DataW.trod enc Tp W 0 (fun _ => true) true k 4 [v4] = some y4 from g4)
  obtain ⟨n5, e1005, o5⟩ := openI uInt (v := v5) g5 rfl
  obtain ⟨n6, e4, o6⟩ := openI uInt (v := v6) g6 rfl
  obtain ⟨n7, e1007, o7⟩ := openI uInt (v := v7) g7 rfl
  obtain ⟨n8, e6, o8⟩ := openI uInt (v := v8) g8 rfl
  obtain ⟨rs, e1009, w9⟩ := open_roots (v := v9) g9
  simp at e1004
  subst e1 e2 e1003 e1004 e1005 e4 e1007 e6
  refine ⟨v0, v9, ⟨ws, n1, n2, n3, b4, n5, n6, n7, n8, rs⟩, rfl, e0, e1009, w0, w9, fun x hx => ?_⟩
  simp only [List.mem_cons, List.mem_nil_iff, or_false] at hx
  rcases hx with rfl | rfl | rfl | rfl | rfl | rfl | rfl <;> assumption
end
open Go Go.AH Go.AM Go.RowKit
theorem flatN {esz : Nat} : ∀ (l : List (List Value)), (∀ x ∈ l, x.length = esz) → l.flatten.length = l.length * esz ∧ ∀ (idx : Nat) (v : Value), l.flatten[idx]? = some v → ∃ (j c : Nat) (x : List Value), idx = j * esz + c ∧ c < esz ∧ l[j]? = some x ∧ x[c]? = some v
 | [], _ => ⟨by simp, fun idx v h => by simp at h⟩
 | x :: l, h => by
  obtain ⟨h1, h2⟩ := flatN l fun y hy => h y (by simp [hy])
  have hx := h x (by simp)
  refine ⟨by rw [List.flatten_cons, List.length_append, h1, hx, List.length_cons, Nat.succ_mul, Nat.add_comm], fun idx v hv => ?_⟩
  rw [List.flatten_cons] at hv
  by_cases c : idx < x.length
  ·rw [List.getElem?_append_left c] at hv
   exact ⟨0, idx, x, by omega, by omega, rfl, hv⟩
  ·rw [List.getElem?_append_right (by omega)] at hv
   obtain ⟨j, c', y, e1, e2, e1003, e1004⟩ := h2 _ _ hv
   exact ⟨j + 1, c', y, by rw [Nat.succ_mul]; omega, e2, by simpa using e1003, e1004⟩
def SlAt (W : World) (esz i : Nat) (el : TypeId) (cs : List (List Value)) (v va : Value) (pl : Option AH.Place) : Prop :=
 (v = .slice none 0 0 ∧ va = .slice none 0 0 ∧ cs = [] ∧ pl = none) ∨
 (∃ a, v = .slice (some a) 0 0 ∧ va = .slice (some ⟨0, 1, none⟩) 0 0 ∧ cs = [] ∧ pl = none) ∨
 ∃ b off cap, v = .slice (some ⟨b, off, none⟩) cs.length cap ∧ cs.length ≤ cap ∧ va = slc i 0 cs.length ∧ pl = some ⟨b, off, cap * esz, esz, true, el⟩ ∧ BlkM W b (off + cap * esz) ∧
  ∀ (j : Nat) (x : List Value), cs[j]? = some x → x.length = esz ∧ ∀ c, c < esz → W.cell? ⟨b, off + (j * esz + c), none⟩ = x[c]?
theorem sl_at {W : World} {esz : Nat} {v : Value} {cs : List (List Value)} (h : SM W esz v cs) (i : Nat) (el : TypeId) : ∃ va pl, SlAt W esz i el cs v va pl := by
 rcases h with ⟨h1, h2⟩ | ⟨a, h1, h2⟩ | ⟨b, off, cap, h1, h2, _, h4, h5⟩
 ·exact ⟨_, _, .inl ⟨h1, rfl, h2, rfl⟩⟩
 ·exact ⟨_, _, .inr (.inl ⟨a, h1, rfl, h2, rfl⟩)⟩
 ·exact ⟨_, _, .inr (.inr ⟨b, off, cap, h1, h2, rfl, rfl, h4, h5⟩)⟩
theorem SlAt.s0 {W : World} {esz i : Nat} {el : TypeId} {cs : List (List Value)} {v va : Value} {pl : Option AH.Place} (h : SlAt W esz i el cs v va pl) (ι : Inj) (hι : ι.pl i = pl) : S0 ι va v := by
 rcases h with ⟨k1, k2, _, _⟩ | ⟨a, k1, k2, _, _⟩ | ⟨b, off, cap, k1, k2, k3, k4, _⟩
 ·rw [k1, k2]; exact .slcNil 0
 ·rw [k1, k2]; exact .slcEmp 0 1 0 a (by omega)
 ·rw [k1, k3]
  rw [k4] at hι
  exact S0.slc (ι := ι) i 0 cs.length cs.length ⟨b, off, cap * esz, esz, true, el⟩ cap hι k2 (by show 0 + cap * esz ≤ cap * esz; omega)
theorem SlAt.row {W : World} {esz i : Nat} {el : TypeId} {cs : List (List Value)} {v va : Value} {p : AH.Place} (h : SlAt W esz i el cs v va (some p)) (hz : tSize Tp el = some esz) (hi : ∀ x ∈ cs, ∀ y ∈ x, ∃ k n, y = Value.int k n) (ι : Inj) :
  p.Ok Tp W W ∧ p.ro = true ∧ cs.flatten.length ≤ p.cap ∧ ∀ (idx : Nat) y, cs.flatten[idx]? = some y → ∃ y', W.cell? ⟨p.blk, p.base + idx, none⟩ = some y' ∧ S1 ι y y' := by
 rcases h with ⟨_, _, _, k4⟩ | ⟨_, _, _, _, k4⟩ | ⟨b, off, cap, k1, k2, k3, k4, k5, k6⟩
 ·cases k4
 ·cases k4
 ·cases k4
  have hl : ∀ x ∈ cs, x.length = esz := fun x hx => by
   obtain ⟨j, hj, e⟩ := List.mem_iff_getElem.1 hx
   exact (k6 j x (by rw [List.getElem?_eq_getElem hj, e])).1
  obtain ⟨f1, f2⟩ := flatN cs hl
  refine ⟨⟨?_, (fun e => by cases e), fun _ => k5.lt, hz⟩, rfl, by rw [f1]; exact Nat.mul_le_mul_right _ k2, fun idx y hy => ?_⟩
  ·obtain ⟨arr, el', fr, g1, g2⟩ := k5
   exact ⟨arr, el', fr, g1, g2, fun e => by cases e⟩
  ·obtain ⟨j, c, x, e1, e2, e1003, e1004⟩ := f2 idx y hy
   have := (k6 j x e1003).2 c e2
   obtain ⟨k, n, rfl⟩ := hi x (List.mem_of_getElem? e1003) y (List.mem_of_getElem? e1004)
   refine ⟨.int k n, ?_, .s0 (.int k n)⟩
   subst e1
   rw [← e1004]; exact this
theorem flat1 : ∀ ws : List Int, (ws.map fun n => [Value.int .u64 n]).flatten = ws.map (Value.int .u64)
 | [] => rfl
 | x :: l => by
  rw [List.map_cons, List.flatten_cons, flat1 l]; rfl
theorem start_arena {W : World} {wv rv : Value} {a : Ar} (h : ArW W wv rv a) : ∃ (ah : AHeap) (ι : Inj) (wa ra : Value), HRel Tp W ι ah W ∧ S0 ι wa wv ∧ S0 ι ra rv ∧ ArH ah wa ra a := by
 obtain ⟨wa, pw, hw⟩ := sl_at h.w 0 74
 obtain ⟨ra, pr, hr⟩ := sl_at h.r 1 77
 let R : Nat → Option (AH.Place × List Value) := fun i => match i with
  | 0 => pw.map fun p => (p, (a.ws.map fun n => [Value.int .u64 n]).flatten)
  | 1 => pr.map fun p => (p, (a.rs.map fun n => [Value.int .i64 n.t, .int .i64 n.n]).flatten)
  | _ + 2 => none
 have R0 : R 0 = pw.map fun p => (p, (a.ws.map fun n => [Value.int .u64 n]).flatten) := rfl
 have R1 : R 1 = pr.map fun p => (p, (a.rs.map fun n => [Value.int .i64 n.t, .int .i64 n.n]).flatten) := rfl
 have RS : ∀ j, R (j + 2) = none := fun _ => rfl
 have hn : ∀ i r, R i = some r → i < 2 := fun i r e => by
  match i with
  | 0 => omega
  | 1 => omega
  | j + 2 => rw [RS j] at e; cases e
 have H : HRel Tp W (iRows R) (hRows 2 R) W := by
  refine start_rows hn fun i r e => ?_
  match i with
  | 0 =>
   rw [R0, Option.map_eq_some_iff] at e
   obtain ⟨p, hp, rfl⟩ := e
   subst hp
   exact hw.row zWord (fun x hx y hy => by
    obtain ⟨n, _, rfl⟩ := List.mem_map.1 hx
    exact ⟨.u64, n, by simpa using hy⟩) _
  | 1 =>
   rw [R1, Option.map_eq_some_iff] at e
   obtain ⟨p, hp, rfl⟩ := e
   subst hp
   exact hr.row zVal (fun x hx y hy => by
    obtain ⟨n, _, rfl⟩ := List.mem_map.1 hx
    simp only [List.mem_cons, List.mem_nil_iff, or_false] at hy
    rcases hy with rfl | rfl
    ·exact ⟨_, _, rfl⟩
    ·exact ⟨_, _, rfl⟩) _
  | j + 2 => rw [RS j] at e; cases e
 have pl0 : (iRows R).pl 0 = pw := by
  show (R 0).map (·.1) = pw
  rw [R0]; cases pw <;> rfl
 have pl1 : (iRows R).pl 1 = pr := by
  show (R 1).map (·.1) = pr
  rw [R1]; cases pr <;> rfl
 refine ⟨hRows 2 R, iRows R, wa, ra, H, hw.s0 _ pl0, hr.s0 _ pl1, ⟨fun i o n m e hpos => ?_, ?_, ?_⟩⟩
 ·rcases hw with ⟨_, k2, _, _⟩ | ⟨_, _, k2, _, _⟩ | ⟨b, off, cap, _, _, k3, k4, _, _⟩
  ·rw [k2] at e; cases e
  ·rw [k2] at e; cases e; omega
  ·rw [k3] at e; cases e
   refine ⟨by show 0 < 2; omega, ?_⟩
   rw [rows_at (r := (⟨b, off, cap * 1, 1, true, 74⟩, _)) (by omega) (by rw [R0, k4]; rfl)]
   rfl
 ·rcases hw with ⟨_, k2, k3, _⟩ | ⟨_, _, k2, k3, _⟩ | ⟨b, off, cap, _, _, k3, k4, _, _⟩
  ·exact .inl ⟨k2, by simpa using k3⟩
  ·exact .inr (.inl ⟨k2, by simpa using k3⟩)
  ·refine .inr (.inr ⟨0, by rw [k3]; simp, ⟨_, rows_at (r := (⟨b, off, cap * 1, 1, true, 74⟩, _)) (by omega) (by rw [R0, k4]; rfl), ?_⟩, by show 0 < 2; omega⟩)
   exact flat1 a.ws
 ·rcases hr with ⟨_, k2, k3, _⟩ | ⟨_, _, k2, k3, _⟩ | ⟨b, off, cap, _, _, k3, k4, _, _⟩
  ·exact .inl ⟨k2, by simpa using k3⟩
  ·exact .inr (.inl ⟨k2, by simpa using k3⟩)
  ·exact .inr (.inr ⟨1, by rw [k3]; simp, ⟨_, rows_at (r := (⟨b, off, cap * 2, 2, true, 77⟩, _)) (by omega) (by rw [R1, k4]; rfl), rfl⟩, by show 1 < 2; omega⟩)
theorem ArW.len {W : World} {wv rv : Value} {a : Ar} (h : ArW W wv rv a) : a.ws.length ≤ maxLen ∧ a.rs.length ≤ maxLen := by
 refine ⟨?_, ?_⟩
 ·rcases h.w with ⟨_, e⟩ | ⟨_, _, e⟩ | ⟨_, _, cap, _, h2, h3, _⟩
  ·rw [List.map_eq_nil_iff.1 e]; exact Nat.zero_le _
  ·rw [List.map_eq_nil_iff.1 e]; exact Nat.zero_le _
  ·rw [List.length_map] at h2; omega
 ·rcases h.r with ⟨_, e⟩ | ⟨_, _, e⟩ | ⟨_, _, cap, _, h2, h3, _⟩
  ·rw [List.map_eq_nil_iff.1 e]; exact Nat.zero_le _
  ·rw [List.map_eq_nil_iff.1 e]; exact Nat.zero_le _
  ·rw [List.length_map] at h2; omega
noncomputable section
variable (hk : Hk (Value × AHeap)) (C : ACall) (N : Nat)
theorem e4 (x0 : Value) (x1 : Int) (h : AHeap) : evFn hk Tp C M4 N Tryz.f4 [x0, .int .i64 x1] h =
  (aCells x0).bind fun c1 => aNew h 25 c1 fun p2 h3 => (aOff p2 0).bind fun v4 => (aLd1 h3 v4).bind fun v5 => (C 11 [v5, .int .i64 x1] h3).bind fun r6 => (asI .i64 r6.1).bind fun n7 => bif decide (n7 < 0) then some (.int .i64 (-1), r6.2) else (aOff p2 9).bind fun v8 => (aLd1 r6.2 v8).bind fun v9 => (C 12 [v9, .int .i64 n7] r6.2).bind fun r10 => (asI .i64 r10.1).bind fun n11 => bif decide (n11 < 0) then some (.int .i64 (-1), r10.2) else some (.int .i64 n11, r10.2) := by kernel_rfl
theorem c4 (d : Nat) (args : List Value) (h : AHeap) : call Tp Ms (d + 1) 4 args h = evFn hk0 Tp (call Tp Ms d) M4 d Tryz.f4 args h := by kernel_rfl
theorem e6 (x0 : Value) (h : AHeap) : evFn hk Tp C M6 N Tryz.f6 [x0] h =
  (aCells x0).bind fun c1 => aNew h 25 c1 fun p2 h3 => aNew h3 29 [.slice none 0 0, .int .i64 0, .int .i64 0, .int .i64 0, .bool false, .int .i64 0, .int .i64 0, .int .i64 0, .int .i64 0, .slice none 0 0] fun p4 h5 => aNew h5 29 [.slice none 0 0, .int .i64 0, .int .i64 0, .int .i64 0, .bool false, .int .i64 0, .int .i64 0, .int .i64 0, .int .i64 0, .slice none 0 0] fun p6 h7 => (aOff p2 0).bind fun v8 => (aLd1 h7 v8).bind fun v9 => (C 23 [v9] h7).bind fun r10 => (aOff p6 0).bind fun v11 => (aSt r10.2 v11 r10.1 1).bind fun h12 => (aOff p2 1).bind fun v13 => (aLd1 h12 v13).bind fun v14 => (asI .i64 v14).bind fun n15 => (aOff p6 1).bind fun v16 => (aSt h12 v16 (.int .i64 n15) 1).bind fun h17 => (aOff p2 2).bind fun v18 => (aLd1 h17 v18).bind fun v19 => (asI .i64 v19).bind fun n20 => (aOff p6 2).bind fun v21 => (aSt h17 v21 (.int .i64 n20) 1).bind fun h22 => (aOff p2 3).bind fun v23 => (aLd1 h22 v23).bind fun v24 => (asI .i64 v24).bind fun n25 => (aOff p6 3).bind fun v26 => (aSt h22 v26 (.int .i64 n25) 1).bind fun h27 => (aOff p2 4).bind fun v28 => (aLd1 h27 v28).bind fun v29 => (asB v29).bind fun b30 => (aOff p6 4).bind fun v31 => (aSt h27 v31 (.bool b30) 1).bind fun h32 => (aOff p2 5).bind fun v33 => (aLd1 h32 v33).bind fun v34 => (asI .i64 v34).bind fun n35 => (aOff p6 5).bind fun v36 => (aSt h32 v36 (.int .i64 n35) 1).bind fun h37 => (aOff p2 6).bind fun v38 => (aLd1 h37 v38).bind fun v39 => (asI .i64 v39).bind fun n40 => (aOff p6 6).bind fun v41 => (aSt h37 v41 (.int .i64 n40) 1).bind fun h42 => (aOff p2 7).bind fun v43 => (aLd1 h42 v43).bind fun v44 => (asI .i64 v44).bind fun n45 => (aOff p6 7).bind fun v46 => (aSt h42 v46 (.int .i64 n45) 1).bind fun h47 => (aOff p2 8).bind fun v48 => (aLd1 h47 v48).bind fun v49 => (asI .i64 v49).bind fun n50 => (aOff p6 8).bind fun v51 => (aSt h47 v51 (.int .i64 n50) 1).bind fun h52 => (aOff p2 9).bind fun v53 => (aLd1 h52 v53).bind fun v54 => (C 24 [v54] h52).bind fun r55 => (aOff p6 9).bind fun v56 => (aSt r55.2 v56 r55.1 1).bind fun h57 => (aLdN h57 p6 10).bind fun v58 => (aSt h57 p4 v58 10).bind fun h59 => (aLdN h59 p4 10).bind fun v60 => some (v60, h59) := by kernel_rfl
theorem c6 (d : Nat) (args : List Value) (h : AHeap) : call Tp Ms (d + 1) 6 args h = evFn hk0 Tp (call Tp Ms d) M6 d Tryz.f6 args h := by kernel_rfl
theorem e8 (x0 x1 : Value) (h : AHeap) : evFn hk Tp C M8 N Tryz.f8 [x0, x1] h =
  (aCells x0).bind fun c1 => aNew h 29 c1 fun p2 h3 => (aCells x1).bind fun c4 => aNew h3 29 c4 fun p5 h6 => (aOff p2 0).bind fun v7 => (aLd1 h6 v7).bind fun v8 => (aOff p5 0).bind fun v9 => (aLd1 h6 v9).bind fun v10 => (C 36 [v8, v10] h6).bind fun r11 => (asB r11.1).bind fun b12 => bif !b12 then some (.bool false, r11.2) else (aOff p2 1).bind fun v13 => (aLd1 r11.2 v13).bind fun v14 => (asI .i64 v14).bind fun n15 => (aOff p5 1).bind fun v16 => (aLd1 r11.2 v16).bind fun v17 => (asI .i64 v17).bind fun n18 => bif n15 != n18 then some (.bool false, r11.2) else (aOff p2 2).bind fun v19 => (aLd1 r11.2 v19).bind fun v20 => (asI .i64 v20).bind fun n21 => (aOff p5 2).bind fun v22 => (aLd1 r11.2 v22).bind fun v23 => (asI .i64 v23).bind fun n24 => bif n21 != n24 then some (.bool false, r11.2) else (aOff p2 3).bind fun v25 => (aLd1 r11.2 v25).bind fun v26 => (asI .i64 v26).bind fun n27 => (aOff p5 3).bind fun v28 => (aLd1 r11.2 v28).bind fun v29 => (asI .i64 v29).bind fun n30 => bif n27 != n30 then some (.bool false, r11.2) else (aOff p2 4).bind fun v31 => (aLd1 r11.2 v31).bind fun v32 => (asB v32).bind fun b33 => (aOff p5 4).bind fun v34 => (aLd1 r11.2 v34).bind fun v35 => (asB v35).bind fun b36 => bif !(b33 == b36) then some (.bool false, r11.2) else (aOff p2 5).bind fun v37 => (aLd1 r11.2 v37).bind fun v38 => (asI .i64 v38).bind fun n39 => (aOff p5 5).bind fun v40 => (aLd1 r11.2 v40).bind fun v41 => (asI .i64 v41).bind fun n42 => bif n39 != n42 then some (.bool false, r11.2) else (aOff p2 6).bind fun v43 => (aLd1 r11.2 v43).bind fun v44 => (asI .i64 v44).bind fun n45 => (aOff p5 6).bind fun v46 => (aLd1 r11.2 v46).bind fun v47 => (asI .i64 v47).bind fun n48 => bif n45 != n48 then some (.bool false, r11.2) else (aOff p2 7).bind fun v49 => (aLd1 r11.2 v49).bind fun v50 => (asI .i64 v50).bind fun n51 => (aOff p5 7).bind fun v52 => (aLd1 r11.2 v52).bind fun v53 => (asI .i64 v53).bind fun n54 => bif n51 != n54 then some (.bool false, r11.2) else (aOff p2 8).bind fun v55 => (aLd1 r11.2 v55).bind fun v56 => (asI .i64 v56).bind fun n57 => (aOff p5 8).bind fun v58 => (aLd1 r11.2 v58).bind fun v59 => (asI .i64 v59).bind fun n60 => bif n57 != n60 then some (.bool false, r11.2) else (aOff p2 9).bind fun v61 => (aLd1 r11.2 v61).bind fun v62 => (aOff p5 9).bind fun v63 => (aLd1 r11.2 v63).bind fun v64 => (C 37 [v62, v64] r11.2).bind fun r65 => (asB r65.1).bind fun b66 => bif !b66 then some (.bool false, r65.2) else some (.bool true, r65.2) := by kernel_rfl
theorem c8 (d : Nat) (args : List Value) (h : AHeap) : call Tp Ms (d + 1) 8 args h = evFn hk0 Tp (call Tp Ms d) M8 d Tryz.f8 args h := by kernel_rfl
theorem e9 (x0 : Value) (x1 : Int) (h : AHeap) : evFn hk Tp C M9 N Tryz.f9 [x0, .int .i64 x1] h =
  (aCells x0).bind fun c1 => aNew h 29 c1 fun p2 h3 => (aOff p2 0).bind fun v4 => (aLd1 h3 v4).bind fun v5 => (C 38 [v5, .int .i64 x1] h3).bind fun r6 => (asI .i64 r6.1).bind fun n7 => (aOff p2 9).bind fun v8 => (aLd1 r6.2 v8).bind fun v9 => (C 39 [v9, .int .i64 n7] r6.2).bind fun r10 => (asI .i64 r10.1).bind fun n11 => some (.int .i64 n11, r10.2) := by kernel_rfl
theorem c9 (d : Nat) (args : List Value) (h : AHeap) : call Tp Ms (d + 1) 9 args h = evFn hk0 Tp (call Tp Ms d) M9 d Tryz.f9 args h := by kernel_rfl
theorem e11 (x0 : Value) (x1 : Int) (h : AHeap) : evFn hk Tp C M11 N Tryz.f11 [x0, .int .i64 x1] h =
  (aLen x0).bind fun v1 => (asI .i64 v1).bind fun n2 => bif decide ((IntKind.i64.wrap (x1 - n2)) < 0) then some (.int .i64 (-1), h) else some (.int .i64 (IntKind.i64.wrap (x1 - n2)), h) := by kernel_rfl
theorem c11 (d : Nat) (args : List Value) (h : AHeap) : call Tp Ms (d + 1) 11 args h = evFn hk0 Tp (call Tp Ms d) M11 d Tryz.f11 args h := by kernel_rfl
theorem e12 (x0 : Value) (x1 : Int) (h : AHeap) : evFn hk Tp C M12 N Tryz.f12 [x0, .int .i64 x1] h =
  (aLen x0).bind fun v1 => (asI .i64 v1).bind fun n2 => bif decide ((IntKind.i64.wrap (x1 - n2)) < 0) then some (.int .i64 (-1), h) else some (.int .i64 (IntKind.i64.wrap (x1 - n2)), h) := by kernel_rfl
theorem c12 (d : Nat) (args : List Value) (h : AHeap) : call Tp Ms (d + 1) 12 args h = evFn hk0 Tp (call Tp Ms d) M12 d Tryz.f12 args h := by kernel_rfl
def F13_0 : Nx (Value × AHeap) := evSt hk Tp C M13 N Tryz.f13 [1, 1, 1, 0, 1] []
def s13_0 (x1 x3 : Value) (x25 : Bool) (h : AHeap) := hk 100005 (⟨114, [(1, x1), (3, x3), (25, .bool x25)]⟩) h (F13_0 hk C N)
def F13_1 : Nx (Value × AHeap) := evSt hk Tp C M13 N Tryz.f13 [1, 1, 1, 1] []
def s13_1 (x1 x3 : Value) (h : AHeap) := hk 6 (⟨114, [(1, x1), (3, x3)]⟩) h (F13_1 hk C N)
def F13_2 (n1 : Nat) : Nx (Value × AHeap) := evSt hk Tp C M13 N Tryz.f13 [1, 1, 1, 1, 0, 1, 2, 6] [n1]
def s13_2 (n1 : Nat) (x1 x3 : Value) (x4 : Int) (h : AHeap) := F13_2 hk C N n1 (⟨114, [(1, x1), (3, x3), (4, .int .i64 x4)]⟩) h
def F13_3 (n1 : Nat) : Nx (Value × AHeap) := evSt hk Tp C M13 N Tryz.f13 [1, 1, 1, 1, 0, 1, 2, 3, 1, 0, 2, 1] [n1]
def s13_3 (n1 : Nat) (x1 x3 : Value) (x4 : Int) (x50 : Bool) (h : AHeap) := hk 100010 (⟨114, [(1, x1), (3, x3), (4, .int .i64 x4), (50, .bool x50)]⟩) h (F13_3 hk C N n1)
def F13_4 (n1 : Nat) : Nx (Value × AHeap) := evSt hk Tp C M13 N Tryz.f13 [1, 1, 1, 1, 1, 1, 0, 1, 2, 6] [n1]
def s13_4 (n1 : Nat) (x1 x3 x5 : Value) (x6 : Int) (h : AHeap) := F13_4 hk C N n1 (⟨114, [(1, x1), (3, x3), (5, x5), (6, .int .i64 x6)]⟩) h
def F13_5 (n1 : Nat) : Nx (Value × AHeap) := evSt hk Tp C M13 N Tryz.f13 [1, 1, 1, 1, 1, 1, 0, 1, 2, 3, 1, 0, 2, 1] [n1]
def s13_5 (n1 : Nat) (x1 x3 x5 : Value) (x6 : Int) (x86 : Bool) (h : AHeap) := hk 100016 (⟨114, [(1, x1), (3, x3), (5, x5), (6, .int .i64 x6), (86, .bool x86)]⟩) h (F13_5 hk C N n1)
def F13_6 (n1 : Nat) : Nx (Value × AHeap) := evSt hk Tp C M13 N Tryz.f13 [1, 1, 1, 1, 1, 1, 1, 0, 1, 2, 6] [n1]
def s13_6 (n1 : Nat) (x1 x3 : Value) (x7 : Int) (h : AHeap) := F13_6 hk C N n1 (⟨114, [(1, x1), (3, x3), (7, .int .i64 x7)]⟩) h
def F13_7 (n1 : Nat) : Nx (Value × AHeap) := evSt hk Tp C M13 N Tryz.f13 [1, 1, 1, 1, 1, 1, 1, 0, 1, 2, 3, 1, 0, 2, 1, 1] [n1]
def s13_7 (n1 : Nat) (x1 x3 : Value) (x7 : Int) (x113 : Bool) (h : AHeap) := hk 100022 (⟨114, [(1, x1), (3, x3), (7, .int .i64 x7), (113, .bool x113)]⟩) h (F13_7 hk C N n1)
theorem e13 (x0 : Value) (h : AHeap) : evFn hk Tp C M13 N Tryz.f13 [x0] h =
  (aCells x0).bind fun c1 => aNew h 29 c1 fun p2 h3 => (aLdN h3 p2 10).bind fun v4 => (C 42 [v4] h3).bind fun r5 => (asB r5.1).bind fun b6 => bif !b6 then some (.bool false, r5.2) else (aOff p2 0).bind fun v7 => (aLd1 r5.2 v7).bind fun v8 => (aLen v8).bind fun v9 => (asI .i64 v9).bind fun n10 => (aMk r5.2 3 [.int .i64 0] 8 (.int .i64 n10) (.int .i64 n10)).bind fun r11 => (aLdN r11.2 p2 10).bind fun v12 => (C 43 [v12, r11.1] r11.2).bind fun r13 => (asB r13.1).bind fun b14 => bif !b14 then s13_0 hk C N p2 r11.1 true r13.2 else (aLdN r13.2 p2 10).bind fun v15 => (C 44 [v15, r11.1] r13.2).bind fun r16 => (asB r16.1).bind fun b17 => s13_0 hk C N p2 r11.1 (!b17) r16.2 := by kernel_rfl
theorem s13_0_j (x1 x3 : Value) (x25 : Bool) (h : AHeap) : s13_0 hk0 C N x1 x3 x25 h = F13_0 hk0 C N (⟨114, [(1, x1), (3, x3), (25, .bool x25)]⟩) h := by delta s13_0; exact hk0_app _ _ _ _
theorem s13_0_eq (x1 x3 : Value) (x25 : Bool) (h : AHeap) : F13_0 hk C N (⟨114, [(1, x1), (3, x3), (25, .bool x25)]⟩) h =
  bif x25 then some (.bool false, h) else s13_1 hk C N x1 x3 h := by kernel_rfl
theorem s13_1_j (x1 x3 : Value) (h : AHeap) : s13_1 hk0 C N x1 x3 h = F13_1 hk0 C N (⟨114, [(1, x1), (3, x3)]⟩) h := by delta s13_1; exact hk0_app _ _ _ _
theorem s13_1_eq (x1 x3 : Value) (h : AHeap) : F13_1 hk C N (⟨114, [(1, x1), (3, x3)]⟩) h =
  s13_2 hk C N N x1 x3 0 h := by kernel_rfl
theorem s13_2_eq (n1 : Nat) (x1 x3 : Value) (x4 : Int) (h : AHeap) : s13_2 hk C N (n1 + 1) x1 x3 x4 h =
  (aLen x3).bind fun v18 => (asI .i64 v18).bind fun n19 => bif decide (x4 < n19) then (aIdx x3 (.int .i64 x4) 1).bind fun v20 => (aLd1 h v20).bind fun v21 => (asI .i64 v21).bind fun n22 => bif n22 == 1 then (aLdN h x1 10).bind fun v23 => (C 45 [v23, x3, .int .i64 x4] h).bind fun r24 => (asB r24.1).bind fun b25 => s13_3 hk C N n1 x1 x3 x4 (!b25) r24.2 else (aIdx x3 (.int .i64 x4) 1).bind fun v26 => (aLd1 h v26).bind fun v27 => (asI .i64 v27).bind fun n28 => bif n28 == 2 then (aLdN h x1 10).bind fun v29 => (C 45 [v29, x3, .int .i64 x4] h).bind fun r30 => (asB r30.1).bind fun b31 => s13_3 hk C N n1 x1 x3 x4 (!b31) r30.2 else s13_3 hk C N n1 x1 x3 x4 false h else (aOff x1 0).bind fun v32 => (aLd1 h v32).bind fun v33 => (aLen v33).bind fun v34 => (asI .i64 v34).bind fun n35 => (aMk h 4 [.bool false] 1 (.int .i64 n35) (.int .i64 n35)).bind fun r36 => s13_4 hk C N N x1 x3 r36.1 0 r36.2 := by kernel_rfl
theorem s13_3_j (n1 : Nat) (x1 x3 : Value) (x4 : Int) (x50 : Bool) (h : AHeap) : s13_3 hk0 C N n1 x1 x3 x4 x50 h = F13_3 hk0 C N n1 (⟨114, [(1, x1), (3, x3), (4, .int .i64 x4), (50, .bool x50)]⟩) h := by delta s13_3; exact hk0_app _ _ _ _
theorem s13_3_eq (n1 : Nat) (x1 x3 : Value) (x4 : Int) (x50 : Bool) (h : AHeap) : F13_3 hk C N n1 (⟨114, [(1, x1), (3, x3), (4, .int .i64 x4), (50, .bool x50)]⟩) h =
  bif x50 then some (.bool false, h) else s13_2 hk C N n1 x1 x3 (IntKind.i64.wrap (x4 + 1)) h := by kernel_rfl
theorem s13_4_eq (n1 : Nat) (x1 x3 x5 : Value) (x6 : Int) (h : AHeap) : s13_4 hk C N (n1 + 1) x1 x3 x5 x6 h =
  (aLen x3).bind fun v37 => (asI .i64 v37).bind fun n38 => bif decide (x6 < n38) then (aIdx x3 (.int .i64 x6) 1).bind fun v39 => (aLd1 h v39).bind fun v40 => (asI .i64 v40).bind fun n41 => bif n41 == 1 then (aLdN h x1 10).bind fun v42 => (C 19 [v42, .int .i64 x6] h).bind fun r43 => (aPart r43.1 0 1 false).bind fun v44 => (asI .i64 v44).bind fun n45 => bif n45 == 2 then (aLdN r43.2 x1 10).bind fun v46 => (C 46 [v46, .int .i64 x6, x5] r43.2).bind fun r47 => (asB r47.1).bind fun b48 => s13_5 hk C N n1 x1 x3 x5 x6 (!b48) r47.2 else s13_5 hk C N n1 x1 x3 x5 x6 false r43.2 else (aIdx x3 (.int .i64 x6) 1).bind fun v49 => (aLd1 h v49).bind fun v50 => (asI .i64 v50).bind fun n51 => bif n51 == 2 then (aLdN h x1 10).bind fun v52 => (C 19 [v52, .int .i64 x6] h).bind fun r53 => (aPart r53.1 0 1 false).bind fun v54 => (asI .i64 v54).bind fun n55 => bif n55 == 2 then (aLdN r53.2 x1 10).bind fun v56 => (C 46 [v56, .int .i64 x6, x5] r53.2).bind fun r57 => (asB r57.1).bind fun b58 => s13_5 hk C N n1 x1 x3 x5 x6 (!b58) r57.2 else s13_5 hk C N n1 x1 x3 x5 x6 false r53.2 else s13_5 hk C N n1 x1 x3 x5 x6 false h else s13_6 hk C N N x1 x3 0 h := by kernel_rfl
theorem s13_5_j (n1 : Nat) (x1 x3 x5 : Value) (x6 : Int) (x86 : Bool) (h : AHeap) : s13_5 hk0 C N n1 x1 x3 x5 x6 x86 h = F13_5 hk0 C N n1 (⟨114, [(1, x1), (3, x3), (5, x5), (6, .int .i64 x6), (86, .bool x86)]⟩) h := by delta s13_5; exact hk0_app _ _ _ _
theorem s13_5_eq (n1 : Nat) (x1 x3 x5 : Value) (x6 : Int) (x86 : Bool) (h : AHeap) : F13_5 hk C N n1 (⟨114, [(1, x1), (3, x3), (5, x5), (6, .int .i64 x6), (86, .bool x86)]⟩) h =
  bif x86 then some (.bool false, h) else s13_4 hk C N n1 x1 x3 x5 (IntKind.i64.wrap (x6 + 1)) h := by kernel_rfl
theorem s13_6_eq (n1 : Nat) (x1 x3 : Value) (x7 : Int) (h : AHeap) : s13_6 hk C N (n1 + 1) x1 x3 x7 h =
  (aOff x1 9).bind fun v59 => (aLd1 h v59).bind fun v60 => (aLen v60).bind fun v61 => (asI .i64 v61).bind fun n62 => bif decide (x7 < n62) then (aOff x1 9).bind fun v63 => (aLd1 h v63).bind fun v64 => (aIdx v64 (.int .i64 x7) 2).bind fun v65 => (aLdN h v65 2).bind fun v66 => aNew h 42 [.int .i64 0, .int .i64 0] fun p67 h68 => (aSt h68 p67 v66 2).bind fun h69 => (aLdN h69 p67 2).bind fun v70 => (C 47 [v70] h69).bind fun r71 => (asB r71.1).bind fun b72 => bif !b72 then s13_7 hk C N n1 x1 x3 x7 true r71.2 else (aOff p67 0).bind fun v73 => (aLd1 r71.2 v73).bind fun v74 => (asI .i64 v74).bind fun n75 => bif n75 == 8 then s13_7 hk C N n1 x1 x3 x7 true r71.2 else (aLdN r71.2 x1 10).bind fun v76 => (aLdN r71.2 p67 2).bind fun v77 => (C 48 [v76, x3, v77, .int .i64 1] r71.2).bind fun r78 => (asB r78.1).bind fun b79 => s13_7 hk C N n1 x1 x3 x7 (!b79) r78.2 else some (.bool true, h) := by kernel_rfl
theorem s13_7_j (n1 : Nat) (x1 x3 : Value) (x7 : Int) (x113 : Bool) (h : AHeap) : s13_7 hk0 C N n1 x1 x3 x7 x113 h = F13_7 hk0 C N n1 (⟨114, [(1, x1), (3, x3), (7, .int .i64 x7), (113, .bool x113)]⟩) h := by delta s13_7; exact hk0_app _ _ _ _
theorem s13_7_eq (n1 : Nat) (x1 x3 : Value) (x7 : Int) (x113 : Bool) (h : AHeap) : F13_7 hk C N n1 (⟨114, [(1, x1), (3, x3), (7, .int .i64 x7), (113, .bool x113)]⟩) h =
  bif x113 then some (.bool false, h) else s13_6 hk C N n1 x1 x3 (IntKind.i64.wrap (x7 + 1)) h := by kernel_rfl
theorem c13 (d : Nat) (args : List Value) (h : AHeap) : call Tp Ms (d + 1) 13 args h = evFn hk0 Tp (call Tp Ms d) M13 d Tryz.f13 args h := by kernel_rfl
def F95_0 (n1 : Nat) : Nx (Value × AHeap) := evSt hk Tp C M95 N Tryz.f95 [1, 0, 1, 2, 1, 5, 1, 5, 1, 5, 1, 4, 1, 1, 0, 1, 2, 6] [n1]
def s95_0 (n1 : Nat) (x5 : ByteArray) (x6 x7 : Int) (h : AHeap) := F95_0 hk C N n1 (⟨56, [(5, .string x5), (6, .int .i64 x6), (7, .int .i64 x7)]⟩) h
theorem e95 (x0 x1 : Value) (h : AHeap) : evFn hk Tp C M95 N Tryz.f95 [x0, x1] h =
  (aCells x0).bind fun c1 => aNew h 29 c1 fun p2 h3 => (aCells x1).bind fun c4 => aNew h3 42 c4 fun p5 h6 => (aOff p5 0).bind fun v7 => (aLd1 h6 v7).bind fun v8 => (asI .i64 v8).bind fun n9 => bif n9 == 1 then (aOff p5 1).bind fun v10 => (aLd1 h6 v10).bind fun v11 => (asI .i64 v11).bind fun n12 => some (.int .i64 n12, h6) else bif n9 == 2 then (aOff p5 1).bind fun v13 => (aLd1 h6 v13).bind fun v14 => (asI .i64 v14).bind fun n15 => some (.int .i64 (IntKind.i64.wrap (Int.tmod (IntKind.u64.wrap n15) 1000003)), h6) else bif n9 == 7 then (aOff p5 1).bind fun v16 => (aLd1 h6 v16).bind fun v17 => (asI .i64 v17).bind fun n18 => some (.int .i64 (IntKind.i64.wrap (n18 + 7)), h6) else bif n9 == 3 then (aLdN h6 p2 10).bind fun v19 => (aLdN h6 p2 10).bind fun v20 => (aOff p5 1).bind fun v21 => (aLd1 h6 v21).bind fun v22 => (asI .i64 v22).bind fun n23 => (C 74 [v20, .int .i64 n23] h6).bind fun r24 => (asI .i64 r24.1).bind fun n25 => ((aLdN r24.2 p2 10).bind fun v26 => some (vbeq v26 v19)).bind fun b27 => bif b27 then (C 52 [v19, .int .i64 n25] r24.2).bind fun r28 => (asS r28.1).bind fun t29 => s95_0 hk C N N t29 5381 0 r28.2 else none else (aLdN h6 p2 10).bind fun v30 => (aLdN h6 p2 10).bind fun v31 => (aOff p5 1).bind fun v32 => (aLd1 h6 v32).bind fun v33 => (asI .i64 v33).bind fun n34 => (C 74 [v31, .int .i64 n34] h6).bind fun r35 => (asI .i64 r35.1).bind fun n36 => ((aLdN r35.2 p2 10).bind fun v37 => some (vbeq v37 v30)).bind fun b38 => bif b38 then (C 19 [v30, .int .i64 n36] r35.2).bind fun r39 => (aPart r39.1 2 1 false).bind fun v40 => (asI .i64 v40).bind fun n41 => some (.int .i64 n41, r39.2) else none := by kernel_rfl
theorem s95_0_eq (n1 : Nat) (x5 : ByteArray) (x6 x7 : Int) (h : AHeap) : s95_0 hk C N (n1 + 1) x5 x6 x7 h =
  bif decide (x7 < (ByteArray.size x5 : Int)) then (aStrIx (.string x5) (.int .i64 x7)).bind fun v42 => (asI .u8 v42).bind fun n43 => s95_0 hk C N n1 x5 (Int.tmod (IntKind.i64.wrap ((IntKind.i64.wrap (33 * x6)) + (IntKind.i64.wrap n43))) 1000003) (IntKind.i64.wrap (x7 + 1)) h else some (.int .i64 x6, h) := by kernel_rfl
theorem c95 (d : Nat) (args : List Value) (h : AHeap) : call Tp Ms (d + 1) 95 args h = evFn hk0 Tp (call Tp Ms d) M95 d Tryz.f95 args h := by kernel_rfl
def F23_0 (n1 : Nat) : Nx (Value × AHeap) := evSt hk Tp C M23 N Tryz.f23 [1, 1, 0, 1, 2, 6] [n1]
def s23_0 (n1 : Nat) (x0 x3 : Value) (x4 : Int) (h : AHeap) := F23_0 hk C N n1 (⟨22, [(0, x0), (3, x3), (4, .int .i64 x4)]⟩) h
theorem e23 (x0 : Value) (h : AHeap) : evFn hk Tp C M23 N Tryz.f23 [x0] h =
  (aLen x0).bind fun v1 => (asI .i64 v1).bind fun n2 => (aMk h 74 [.int .u64 0] 8 (.int .i64 n2) (.int .i64 n2)).bind fun r3 => s23_0 hk C N N x0 r3.1 0 r3.2 := by kernel_rfl
theorem s23_0_eq (n1 : Nat) (x0 x3 : Value) (x4 : Int) (h : AHeap) : s23_0 hk C N (n1 + 1) x0 x3 x4 h =
  (aLen x0).bind fun v4 => (asI .i64 v4).bind fun n5 => bif decide (x4 < n5) then (aIdx x0 (.int .i64 x4) 1).bind fun v6 => (aLd1 h v6).bind fun v7 => (asI .u64 v7).bind fun n8 => (aIdx x3 (.int .i64 x4) 1).bind fun v9 => (aSt h v9 (.int .u64 n8) 1).bind fun h10 => s23_0 hk C N n1 x0 x3 (IntKind.i64.wrap (x4 + 1)) h10 else some (x3, h) := by kernel_rfl
theorem c23 (d : Nat) (args : List Value) (h : AHeap) : call Tp Ms (d + 1) 23 args h = evFn hk0 Tp (call Tp Ms d) M23 d Tryz.f23 args h := by kernel_rfl
def F24_0 (n1 : Nat) : Nx (Value × AHeap) := evSt hk Tp C M24 N Tryz.f24 [1, 1, 0, 1, 2, 6] [n1]
def s24_0 (n1 : Nat) (x0 x3 : Value) (x4 : Int) (h : AHeap) := F24_0 hk C N n1 (⟨23, [(0, x0), (3, x3), (4, .int .i64 x4)]⟩) h
theorem e24 (x0 : Value) (h : AHeap) : evFn hk Tp C M24 N Tryz.f24 [x0] h =
  (aLen x0).bind fun v1 => (asI .i64 v1).bind fun n2 => (aMk h 42 [.int .i64 0, .int .i64 0] 16 (.int .i64 n2) (.int .i64 n2)).bind fun r3 => s24_0 hk C N N x0 r3.1 0 r3.2 := by kernel_rfl
theorem s24_0_eq (n1 : Nat) (x0 x3 : Value) (x4 : Int) (h : AHeap) : s24_0 hk C N (n1 + 1) x0 x3 x4 h =
  (aLen x0).bind fun v4 => (asI .i64 v4).bind fun n5 => bif decide (x4 < n5) then (aIdx x0 (.int .i64 x4) 2).bind fun v6 => (aLdN h v6 2).bind fun v7 => (C 55 [v7] h).bind fun r8 => (aIdx x3 (.int .i64 x4) 2).bind fun v9 => (aSt r8.2 v9 r8.1 2).bind fun h10 => s24_0 hk C N n1 x0 x3 (IntKind.i64.wrap (x4 + 1)) h10 else some (x3, h) := by kernel_rfl
theorem c24 (d : Nat) (args : List Value) (h : AHeap) : call Tp Ms (d + 1) 24 args h = evFn hk0 Tp (call Tp Ms d) M24 d Tryz.f24 args h := by kernel_rfl
def F26_0 : Nx (Value × AHeap) := evSt hk Tp C M26 N Tryz.f26 [1, 0, 1] []
def s26_0 (x1 : Value) (x47 : Bool) (h : AHeap) := hk 100002 (⟨135, [(1, x1), (47, .bool x47)]⟩) h (F26_0 hk C N)
def F26_1 : Nx (Value × AHeap) := evSt hk Tp C M26 N Tryz.f26 [1, 1] []
def s26_1 (x1 : Value) (h : AHeap) := hk 3 (⟨135, [(1, x1)]⟩) h (F26_1 hk C N)
def F26_2 : Nx (Value × AHeap) := evSt hk Tp C M26 N Tryz.f26 [1, 1, 1, 1, 0, 1, 4, 1] []
def s26_2 (x3 : Value) (x79 : Bool) (h : AHeap) := hk 100008 (⟨135, [(3, x3), (79, .bool x79)]⟩) h (F26_2 hk C N)
def F26_3 : Nx (Value × AHeap) := evSt hk Tp C M26 N Tryz.f26 [1, 1, 1, 1, 0, 1, 5, 1, 1] []
def s26_3 (x3 : Value) (x132 : Bool) (h : AHeap) := hk 100011 (⟨135, [(3, x3), (132, .bool x132)]⟩) h (F26_3 hk C N)
theorem e26 (x0 : Value) (h : AHeap) : evFn hk Tp C M26 N Tryz.f26 [x0] h =
  (aCells x0).bind fun c1 => aNew h 29 c1 fun p2 h3 => (aOff p2 1).bind fun v4 => (aLd1 h3 v4).bind fun v5 => (asI .i64 v5).bind fun n6 => (C 57 [.int .i64 n6, .int .i64 256, .int .i64 4000] h3).bind fun r7 => (asB r7.1).bind fun b8 => bif !b8 then s26_0 hk C N p2 true r7.2 else (aOff p2 0).bind fun v9 => (aLd1 r7.2 v9).bind fun v10 => (aLen v10).bind fun v11 => (asI .i64 v11).bind fun n12 => (aOff p2 1).bind fun v13 => (aLd1 r7.2 v13).bind fun v14 => (asI .i64 v14).bind fun n15 => bif n12 != (IntKind.i64.wrap (2 * n15)) then s26_0 hk C N p2 true r7.2 else (aOff p2 2).bind fun v16 => (aLd1 r7.2 v16).bind fun v17 => (asI .i64 v17).bind fun n18 => (C 57 [.int .i64 n18, .int .i64 0, .int .i64 1] r7.2).bind fun r19 => (asB r19.1).bind fun b20 => bif !b20 then s26_0 hk C N p2 true r19.2 else (aOff p2 3).bind fun v21 => (aLd1 r19.2 v21).bind fun v22 => (asI .i64 v22).bind fun n23 => (aOff p2 2).bind fun v24 => (aLd1 r19.2 v24).bind fun v25 => (asI .i64 v25).bind fun n26 => (aOff p2 2).bind fun v27 => (aLd1 r19.2 v27).bind fun v28 => (asI .i64 v28).bind fun n29 => (C 58 [p2, .int .i64 n26] r19.2).bind fun r30 => (asI .i64 r30.1).bind fun n31 => ((aLd1 r30.2 v21).bind fun v32 => (asI .i64 v32).bind fun n33 => some (vbeq (.int .i64 n33) (.int .i64 n23))).bind fun b34 => bif b34 then ((aLd1 r30.2 v27).bind fun v35 => (asI .i64 v35).bind fun n36 => some (vbeq (.int .i64 n36) (.int .i64 n29))).bind fun b37 => bif b37 then (C 59 [p2, .int .i64 n29] r30.2).bind fun r38 => (asI .i64 r38.1).bind fun n39 => ((aLd1 r38.2 v21).bind fun v40 => (asI .i64 v40).bind fun n41 => some (vbeq (.int .i64 n41) (.int .i64 n23))).bind fun b42 => bif b42 then (C 57 [.int .i64 n23, .int .i64 n31, .int .i64 n39] r38.2).bind fun r43 => (asB r43.1).bind fun b44 => bif !b44 then s26_0 hk C N p2 true r43.2 else (aOff p2 8).bind fun v45 => (aLd1 r43.2 v45).bind fun v46 => (asI .i64 v46).bind fun n47 => (C 57 [.int .i64 n47, .int .i64 1, .int .i64 1000000000] r43.2).bind fun r48 => (asB r48.1).bind fun b49 => bif !b49 then s26_0 hk C N p2 true r48.2 else (aOff p2 9).bind fun v50 => (aLd1 r48.2 v50).bind fun v51 => (aLen v51).bind fun v52 => (asI .i64 v52).bind fun n53 => s26_0 hk C N p2 (decide (n53 > 24)) r48.2 else none else none else none := by kernel_rfl
theorem s26_0_j (x1 : Value) (x47 : Bool) (h : AHeap) : s26_0 hk0 C N x1 x47 h = F26_0 hk0 C N (⟨135, [(1, x1), (47, .bool x47)]⟩) h := by delta s26_0; exact hk0_app _ _ _ _
theorem s26_0_eq (x1 : Value) (x47 : Bool) (h : AHeap) : F26_0 hk C N (⟨135, [(1, x1), (47, .bool x47)]⟩) h =
  bif x47 then some (.bool false, h) else s26_1 hk C N x1 h := by kernel_rfl
theorem s26_1_j (x1 : Value) (h : AHeap) : s26_1 hk0 C N x1 h = F26_1 hk0 C N (⟨135, [(1, x1)]⟩) h := by delta s26_1; exact hk0_app _ _ _ _
theorem s26_1_eq (x1 : Value) (h : AHeap) : F26_1 hk C N (⟨135, [(1, x1)]⟩) h =
  (aOff x1 0).bind fun v54 => (aLd1 h v54).bind fun v55 => (aLen v55).bind fun v56 => (asI .i64 v56).bind fun n57 => (aMk h 5 [.int .u8 0] 1 (.int .i64 n57) (.int .i64 n57)).bind fun r58 => aNewM r58.2 fun p59 h60 => aNewM h60 fun p61 h62 => (aFill [.pointer none, .slice none 0 0, .map none, .map none] [(0, 1, x1), (1, 1, r58.1), (2, 1, p59), (3, 1, p61)]).bind fun c63 => (aCells (.agg (List.toArray c63))).bind fun c64 => aNew h62 85 c64 fun p65 h66 => (aOff x1 2).bind fun v67 => (aLd1 h66 v67).bind fun v68 => (asI .i64 v68).bind fun n69 => (aOff x1 3).bind fun v70 => (aLd1 h66 v70).bind fun v71 => (asI .i64 v71).bind fun n72 => (C 58 [x1, .int .i64 n69] h66).bind fun r73 => (asI .i64 r73.1).bind fun n74 => ((aLd1 r73.2 v70).bind fun v75 => (asI .i64 v75).bind fun n76 => some (vbeq (.int .i64 n76) (.int .i64 n72))).bind fun b77 => bif b77 then (C 60 [p65, .int .i64 n74, .int .i64 n72, .int .u8 1] r73.2).bind fun r78 => (asB r78.1).bind fun b79 => bif !b79 then some (.bool false, r78.2) else (aOff x1 4).bind fun v80 => (aLd1 r78.2 v80).bind fun v81 => (asB v81).bind fun b82 => bif !b82 then (aOff x1 5).bind fun v83 => (aLd1 r78.2 v83).bind fun v84 => (asI .i64 v84).bind fun n85 => bif n85 != 0 then s26_2 hk C N p65 true r78.2 else (aOff x1 6).bind fun v86 => (aLd1 r78.2 v86).bind fun v87 => (asI .i64 v87).bind fun n88 => bif n88 != 0 then s26_2 hk C N p65 true r78.2 else (aOff x1 7).bind fun v89 => (aLd1 r78.2 v89).bind fun v90 => (asI .i64 v90).bind fun n91 => s26_2 hk C N p65 (n91 != 0) r78.2 else (C 61 [x1] r78.2).bind fun r92 => (asI .i64 r92.1).bind fun n93 => (C 58 [x1, .int .i64 n93] r92.2).bind fun r94 => (asI .i64 r94.1).bind fun n95 => (aOff x1 5).bind fun v96 => (aLd1 r94.2 v96).bind fun v97 => (asI .i64 v97).bind fun n98 => (aOff x1 3).bind fun v99 => (aLd1 r94.2 v99).bind fun v100 => (asI .i64 v100).bind fun n101 => (C 57 [.int .i64 n98, .int .i64 1, .int .i64 n101] r94.2).bind fun r102 => (asB r102.1).bind fun b103 => bif !b103 then s26_3 hk C N p65 true r102.2 else (aOff x1 5).bind fun v104 => (aLd1 r102.2 v104).bind fun v105 => (asI .i64 v105).bind fun n106 => (aOff x1 3).bind fun v107 => (aLd1 r102.2 v107).bind fun v108 => (asI .i64 v108).bind fun n109 => bif n106 != n109 then (aNil p65).bind fun v110 => (aOff v110 1).bind fun v111 => (aLd1 r102.2 v111).bind fun v112 => (aOff x1 5).bind fun v113 => (aLd1 r102.2 v113).bind fun v114 => (asI .i64 v114).bind fun n115 => (aIdx v112 (.int .i64 n115) 1).bind fun v116 => (aLd1 r102.2 v116).bind fun v117 => (asI .u8 v117).bind fun n118 => bif n118 != 1 then s26_3 hk C N p65 true r102.2 else (aOff x1 6).bind fun v119 => (aLd1 r102.2 v119).bind fun v120 => (asI .i64 v120).bind fun n121 => (C 61 [x1] r102.2).bind fun r122 => (asI .i64 r122.1).bind fun n123 => ((aLd1 r122.2 v119).bind fun v124 => (asI .i64 v124).bind fun n125 => some (vbeq (.int .i64 n125) (.int .i64 n121))).bind fun b126 => bif b126 then (C 59 [x1, .int .i64 n123] r122.2).bind fun r127 => (asI .i64 r127.1).bind fun n128 => ((aLd1 r127.2 v119).bind fun v129 => (asI .i64 v129).bind fun n130 => some (vbeq (.int .i64 n130) (.int .i64 n121))).bind fun b131 => bif b131 then (C 57 [.int .i64 n121, .int .i64 n95, .int .i64 n128] r127.2).bind fun r132 => (asB r132.1).bind fun b133 => bif !b133 then s26_3 hk C N p65 true r132.2 else (aOff x1 6).bind fun v134 => (aLd1 r132.2 v134).bind fun v135 => (asI .i64 v135).bind fun n136 => (C 60 [p65, .int .i64 n95, .int .i64 n136, .int .u8 2] r132.2).bind fun r137 => (asB r137.1).bind fun b138 => bif !b138 then s26_3 hk C N p65 true r137.2 else (aOff x1 3).bind fun v139 => (aLd1 r137.2 v139).bind fun v140 => (asI .i64 v140).bind fun n141 => (aOff x1 2).bind fun v142 => (aLd1 r137.2 v142).bind fun v143 => (asI .i64 v143).bind fun n144 => (C 62 [x1] r137.2).bind fun r145 => (asI .i64 r145.1).bind fun n146 => ((aLd1 r145.2 v139).bind fun v147 => (asI .i64 v147).bind fun n148 => some (vbeq (.int .i64 n148) (.int .i64 n141))).bind fun b149 => bif b149 then ((aLd1 r145.2 v142).bind fun v150 => (asI .i64 v150).bind fun n151 => some (vbeq (.int .i64 n151) (.int .i64 n144))).bind fun b152 => bif b152 then (C 59 [x1, .int .i64 n144] r145.2).bind fun r153 => (asI .i64 r153.1).bind fun n154 => ((aLd1 r153.2 v139).bind fun v155 => (asI .i64 v155).bind fun n156 => some (vbeq (.int .i64 n156) (.int .i64 n141))).bind fun b157 => bif b157 then s26_3 hk C N p65 (decide ((IntKind.i64.wrap (n141 + n146)) > n154)) r153.2 else none else none else none else none else none else (aOff x1 6).bind fun v158 => (aLd1 r102.2 v158).bind fun v159 => (asI .i64 v159).bind fun n160 => (C 61 [x1] r102.2).bind fun r161 => (asI .i64 r161.1).bind fun n162 => ((aLd1 r161.2 v158).bind fun v163 => (asI .i64 v163).bind fun n164 => some (vbeq (.int .i64 n164) (.int .i64 n160))).bind fun b165 => bif b165 then (C 59 [x1, .int .i64 n162] r161.2).bind fun r166 => (asI .i64 r166.1).bind fun n167 => ((aLd1 r166.2 v158).bind fun v168 => (asI .i64 v168).bind fun n169 => some (vbeq (.int .i64 n169) (.int .i64 n160))).bind fun b170 => bif b170 then (C 57 [.int .i64 n160, .int .i64 n95, .int .i64 n167] r166.2).bind fun r171 => (asB r171.1).bind fun b172 => bif !b172 then s26_3 hk C N p65 true r171.2 else (aOff x1 6).bind fun v173 => (aLd1 r171.2 v173).bind fun v174 => (asI .i64 v174).bind fun n175 => (C 60 [p65, .int .i64 n95, .int .i64 n175, .int .u8 2] r171.2).bind fun r176 => (asB r176.1).bind fun b177 => bif !b177 then s26_3 hk C N p65 true r176.2 else (aOff x1 3).bind fun v178 => (aLd1 r176.2 v178).bind fun v179 => (asI .i64 v179).bind fun n180 => (aOff x1 2).bind fun v181 => (aLd1 r176.2 v181).bind fun v182 => (asI .i64 v182).bind fun n183 => (C 62 [x1] r176.2).bind fun r184 => (asI .i64 r184.1).bind fun n185 => ((aLd1 r184.2 v178).bind fun v186 => (asI .i64 v186).bind fun n187 => some (vbeq (.int .i64 n187) (.int .i64 n180))).bind fun b188 => bif b188 then ((aLd1 r184.2 v181).bind fun v189 => (asI .i64 v189).bind fun n190 => some (vbeq (.int .i64 n190) (.int .i64 n183))).bind fun b191 => bif b191 then (C 59 [x1, .int .i64 n183] r184.2).bind fun r192 => (asI .i64 r192.1).bind fun n193 => ((aLd1 r192.2 v178).bind fun v194 => (asI .i64 v194).bind fun n195 => some (vbeq (.int .i64 n195) (.int .i64 n180))).bind fun b196 => bif b196 then s26_3 hk C N p65 (decide ((IntKind.i64.wrap (n180 + n185)) > n193)) r192.2 else none else none else none else none else none else none := by kernel_rfl
theorem s26_2_j (x3 : Value) (x79 : Bool) (h : AHeap) : s26_2 hk0 C N x3 x79 h = F26_2 hk0 C N (⟨135, [(3, x3), (79, .bool x79)]⟩) h := by delta s26_2; exact hk0_app _ _ _ _
theorem s26_2_eq (x3 : Value) (x79 : Bool) (h : AHeap) : F26_2 hk C N (⟨135, [(3, x3), (79, .bool x79)]⟩) h =
  bif x79 then some (.bool false, h) else (C 63 [x3] h).bind fun r197 => (asB r197.1).bind fun b198 => some (.bool b198, r197.2) := by kernel_rfl
theorem s26_3_j (x3 : Value) (x132 : Bool) (h : AHeap) : s26_3 hk0 C N x3 x132 h = F26_3 hk0 C N (⟨135, [(3, x3), (132, .bool x132)]⟩) h := by delta s26_3; exact hk0_app _ _ _ _
theorem s26_3_eq (x3 : Value) (x132 : Bool) (h : AHeap) : F26_3 hk C N (⟨135, [(3, x3), (132, .bool x132)]⟩) h =
  bif x132 then some (.bool false, h) else (C 63 [x3] h).bind fun r199 => (asB r199.1).bind fun b200 => some (.bool b200, r199.2) := by kernel_rfl
theorem c26 (d : Nat) (args : List Value) (h : AHeap) : call Tp Ms (d + 1) 26 args h = evFn hk0 Tp (call Tp Ms d) M26 d Tryz.f26 args h := by kernel_rfl
def F108_0 (n1 : Nat) : Nx (Value × AHeap) := evSt hk Tp C M108 N Tryz.f108 [1, 0, 1, 2, 1, 5, 1, 5, 1, 4, 1, 1, 0, 1, 2, 6] [n1]
def s108_0 (n1 : Nat) (x5 : Int) (x6 : ByteArray) (x30 x31 : Int) (h : AHeap) := F108_0 hk C N n1 (⟨56, [(5, .int .i64 x5), (6, .string x6), (30, .int .i64 x30), (31, .int .i64 x31)]⟩) h
def F108_1 : Nx (Value × AHeap) := evSt hk Tp C M108 N Tryz.f108 [1, 0, 1, 2, 1, 5, 1, 5, 1, 5, 1] []
def s108_1 (x0 x3 : Value) (x44 : Bool) (h : AHeap) := hk 100018 (⟨56, [(0, x0), (3, x3), (44, .bool x44)]⟩) h (F108_1 hk C N)
def F108_2 : Nx (Value × AHeap) := evSt hk Tp C M108 N Tryz.f108 [1, 1] []
def s108_2 (x3 : Value) (h : AHeap) := hk 19 (⟨56, [(3, x3)]⟩) h (F108_2 hk C N)
theorem e108 (x0 x1 : Value) (h : AHeap) : evFn hk Tp C M108 N Tryz.f108 [x0, x1] h =
  (aCells x1).bind fun c1 => aNew h 42 c1 fun p2 h3 => (aOff p2 0).bind fun v4 => (aLd1 h3 v4).bind fun v5 => (asI .i64 v5).bind fun n6 => bif n6 == 2 then (aOff p2 1).bind fun v7 => (aLd1 h3 v7).bind fun v8 => (asI .i64 v8).bind fun n9 => some (.int .i64 (IntKind.i64.wrap (Int.tmod (IntKind.u64.wrap n9) 1000003)), h3) else bif n6 == 7 then (aOff p2 1).bind fun v10 => (aLd1 h3 v10).bind fun v11 => (asI .i64 v11).bind fun n12 => some (.int .i64 (IntKind.i64.wrap (n12 + 7)), h3) else bif n6 == 3 then (aLdN h3 p2 2).bind fun v13 => (C 100 [x0, v13] h3).bind fun r14 => (asI .i64 r14.1).bind fun n15 => (C 30 [x0, .int .i64 n15] r14.2).bind fun r16 => (asS r16.1).bind fun t17 => s108_0 hk C N N 5381 t17 (ByteArray.size t17 : Int) 0 r16.2 else bif n6 == 4 then s108_1 hk C N x0 p2 (n6 == 4) h3 else bif n6 == 5 then s108_1 hk C N x0 p2 (n6 == 5) h3 else s108_1 hk C N x0 p2 (n6 == 6) h3 := by kernel_rfl
theorem s108_0_eq (n1 : Nat) (x5 : Int) (x6 : ByteArray) (x30 x31 : Int) (h : AHeap) : s108_0 hk C N (n1 + 1) x5 x6 x30 x31 h =
  bif decide (x31 < x30) then (aStrIx (.string x6) (.int .i64 x31)).bind fun v18 => (asI .u8 v18).bind fun n19 => s108_0 hk C N n1 (Int.tmod (IntKind.i64.wrap ((IntKind.i64.wrap (33 * x5)) + (IntKind.i64.wrap n19))) 1000003) x6 x30 (IntKind.i64.wrap (x31 + 1)) h else some (.int .i64 x5, h) := by kernel_rfl
theorem s108_1_j (x0 x3 : Value) (x44 : Bool) (h : AHeap) : s108_1 hk0 C N x0 x3 x44 h = F108_1 hk0 C N (⟨56, [(0, x0), (3, x3), (44, .bool x44)]⟩) h := by delta s108_1; exact hk0_app _ _ _ _
theorem s108_1_eq (x0 x3 : Value) (x44 : Bool) (h : AHeap) : F108_1 hk C N (⟨56, [(0, x0), (3, x3), (44, .bool x44)]⟩) h =
  bif x44 then (aLdN h x3 2).bind fun v20 => (C 100 [x0, v20] h).bind fun r21 => (asI .i64 r21.1).bind fun n22 => (C 29 [x0, .int .i64 n22] r21.2).bind fun r23 => (aPart r23.1 2 1 false).bind fun v24 => (asI .i64 v24).bind fun n25 => some (.int .i64 n25, r23.2) else s108_2 hk C N x3 h := by kernel_rfl
theorem s108_2_j (x3 : Value) (h : AHeap) : s108_2 hk0 C N x3 h = F108_2 hk0 C N (⟨56, [(3, x3)]⟩) h := by delta s108_2; exact hk0_app _ _ _ _
theorem s108_2_eq (x3 : Value) (h : AHeap) : F108_2 hk C N (⟨56, [(3, x3)]⟩) h =
  (aOff x3 1).bind fun v26 => (aLd1 h v26).bind fun v27 => (asI .i64 v27).bind fun n28 => some (.int .i64 n28, h) := by kernel_rfl
theorem c108 (d : Nat) (args : List Value) (h : AHeap) : call Tp Ms (d + 1) 108 args h = evFn hk0 Tp (call Tp Ms d) M108 d Tryz.f108 args h := by kernel_rfl
end
end Go.Proofs.YtnjnggejbpkgoaaGreat
