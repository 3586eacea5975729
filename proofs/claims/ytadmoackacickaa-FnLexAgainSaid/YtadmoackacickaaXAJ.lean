import Derived.Test.YtadmoackacickaaXAI
import Derived.Test.YtadmoackacickaaXAD
import Derived.KernelRfl
import Derived.Test.YtadmoackacickaaProg
/- What is printed of a node, plainly; small steps. -/
set_option linter.unusedSimpArgs false
namespace Go.Proofs.Ytadmoackacickaa
open Go Go.AH

abbrev BA := ByteArray
def Kn.kd (n : Kn) (j : Nat) : Int := n.ks.getD j 0
/-! ### kids that can be read -/
structure IRd (g : AHeap) (v : Value) (xs : List Int) : Prop where
  len : aLen v = some (.int .i64 xs.length)
  at' : ∀ (j : Nat), j < xs.length → aIdx v (.int .i64 (j : Int)) 1 = some (ixP v j) ∧ ∀ g', LF g g' → aLd1 g' (ixP v j) = some (.int .i64 (xs.getD j 0))
theorem IRd.lf {g g' : AHeap} {v : Value} {xs : List Int} (x : IRd g v xs) (e : LF g g') : IRd g' v xs := ⟨x.len, fun j hj => ⟨(x.at' j hj).1, fun k ek => (x.at' j hj).2 k (e.trans ek)⟩⟩
theorem ISl.ird {c : Nat} {g : AHeap} {v : Value} {xs : List Int} (x : ISl c g v xs) : IRd g v xs := by
  refine ⟨x.len, fun j hj => ⟨(x.ix hj).1, fun g' e => ?_⟩⟩
  have := ((x.lf e).ix hj).2
  rw [this]; simp [hj]
/-- A node in hand: the tree, and the node, in structs of their own. -/
structure Env (g : AHeap) (p2 p5 : Nat) (nv : Value) (top : Int) (T : List Kn) (n : Kn) (kv : Value) : Prop where
  r2 : RowE g p2 35 [nv, .int .i64 top]
  r5 : RowE g p5 73 (knCells n kv)
  ksl : KSe g.size g nv T
  isl : ISl g.size g kv n.ks
section
variable {g : AHeap} {p2 p5 : Nat} {nv : Value} {top : Int} {T : List Kn} {n : Kn} {kv : Value}
theorem Env.lf {g' : AHeap} (y : Env g p2 p5 nv top T n kv) (e : LF g g') : Env g' p2 p5 nv top T n kv :=
  ⟨y.r2.lf e (by decide) (by decide) (by decide), y.r5.lf e (by decide) (by decide) (by decide), (y.ksl.lf e).mono e.1, (y.isl.lf e).mono e.1⟩
theorem Env.ext {g' : AHeap} (y : Env g p2 p5 nv top T n kv) (e : Ext g.size g g') : Env g' p2 p5 nv top T n kv := y.lf (SF.ext e).lf
theorem Env.t (y : Env g p2 p5 nv top T n kv) : aLdN g (ptr p2 0) 2 = some (trVal nv top) := (ld2 y.r2.row).2.2
theorem Env.f0 (y : Env g p2 p5 nv top T n kv) : aLd1 g (ptr p5 0) = some (.int .i64 n.k) := (ld4 y.r5.row).1
theorem Env.f1 (y : Env g p2 p5 nv top T n kv) : aLd1 g (ptr p5 1) = some (.string n.t) := (ld4 y.r5.row).2.1
theorem Env.f2 (y : Env g p2 p5 nv top T n kv) : aLd1 g (ptr p5 2) = some (.int .i64 n.i) := (ld4 y.r5.row).2.2.1
theorem Env.f3 (y : Env g p2 p5 nv top T n kv) : aLd1 g (ptr p5 3) = some kv := (ld4 y.r5.row).2.2.2.1
theorem Env.all (y : Env g p2 p5 nv top T n kv) : aLdN g (ptr p5 0) 4 = some (knVal n kv) := (ld4 y.r5.row).2.2.2.2
theorem Env.q0 (y : Env g p2 p5 nv top T n kv) (h : 0 < n.ks.length) : aIdx kv (.int .i64 0) 1 = some (ixP kv 0) := (y.isl.ird.at' 0 h).1
theorem Env.q1 (y : Env g p2 p5 nv top T n kv) (h : 1 < n.ks.length) : aIdx kv (.int .i64 1) 1 = some (ixP kv 1) := (y.isl.ird.at' 1 h).1
theorem Env.q2 (y : Env g p2 p5 nv top T n kv) (h : 2 < n.ks.length) : aIdx kv (.int .i64 2) 1 = some (ixP kv 2) := (y.isl.ird.at' 2 h).1
theorem Env.r (y : Env g p2 p5 nv top T n kv) {j : Nat} (h : j < n.ks.length) : aLd1 g (ixP kv j) = some (.int .i64 (n.kd j)) := (y.isl.ird.at' j h).2 g (LF.refl _)
theorem Env.len (y : Env g p2 p5 nv top T n kv) : aLen kv = some (.int .i64 n.ks.length) := y.isl.len
theorem Env.vb (y : Env g p2 p5 nv top T n kv) : vbeq kv kv = true := y.isl.vbeq
theorem Env.vt (y : Env g p2 p5 nv top T n kv) : vbeq (trVal nv top) (trVal nv top) = true := tr_vbeq y.ksl.ksl top
end
theorem Env.s {g : AHeap} {p2 p5 : Nat} {nv : Value} {top : Int} {T : List Kn} {n : Kn} {kv : Value} (y : Env g p2 p5 nv top T n kv) : aLdN g (ptr p2 0) 2 = some (trVal nv top) ∧ aLd1 g (ptr p5 0) = some (.int .i64 n.k) ∧ aLd1 g (ptr p5 1) = some (.string n.t) ∧ aLd1 g (ptr p5 2) = some (.int .i64 n.i) ∧ aLd1 g (ptr p5 3) = some kv ∧
    aLdN g (ptr p5 0) 4 = some (knVal n kv) ∧ aLen kv = some (.int .i64 n.ks.length) ∧ vbeq kv kv = true ∧ vbeq (trVal nv top) (trVal nv top) = true := ⟨y.t, y.f0, y.f1, y.f2, y.f3, y.all, y.len, y.vb, y.vt⟩
theorem Env.b0 {g : AHeap} {p2 p5 : Nat} {nv : Value} {top : Int} {T : List Kn} {n : Kn} {kv : Value} (y : Env g p2 p5 nv top T n kv) (h : 0 < n.ks.length) : aIdx kv (.int .i64 0) 1 = some (ixP kv 0) ∧ aLd1 g (ixP kv 0) = some (.int .i64 (n.kd 0)) := ⟨y.q0 h, y.r h⟩
theorem Env.b1 {g : AHeap} {p2 p5 : Nat} {nv : Value} {top : Int} {T : List Kn} {n : Kn} {kv : Value} (y : Env g p2 p5 nv top T n kv) (h : 1 < n.ks.length) : aIdx kv (.int .i64 1) 1 = some (ixP kv 1) ∧ aLd1 g (ixP kv 1) = some (.int .i64 (n.kd 1)) := ⟨y.q1 h, y.r h⟩
theorem Env.b2 {g : AHeap} {p2 p5 : Nat} {nv : Value} {top : Int} {T : List Kn} {n : Kn} {kv : Value} (y : Env g p2 p5 nv top T n kv) (h : 2 < n.ks.length) : aIdx kv (.int .i64 2) 1 = some (ixP kv 2) ∧ aLd1 g (ixP kv 2) = some (.int .i64 (n.kd 2)) := ⟨y.q2 h, y.r h⟩
theorem sAdd {a b : ByteArray} (h : a.size + b.size ≤ 100000000000000) : aBin .add (.string a) (.string b) = some (.string (a ++ b)) := by
  show (if a.size + b.size ≤ most then some (Value.string (a ++ b)) else none) = _
  rw [if_pos (by show a.size + b.size ≤ 140737488355328; omega)]

/-! ### cuts of kids -/
def cutL : Value → Value
  | .slice a n _ => .slice a (n - 1) (n - 1)
  | v => v
theorem isl_row {c : Nat} {g : AHeap} {v : Value} {xs : List Int} (x : ISl c g v xs) (hx : 0 < xs.length) : ∃ i o, v = slc i 0 xs.length ∧ g.at? i = some o ∧ o.elem = 3 ∧ o.cells = ints xs := by
  rcases x with ⟨rfl, rfl⟩ | ⟨a, n, rfl, rfl⟩ | ⟨i, o, h1, h2, h3, h4, _⟩
  · simp at hx
  · simp at hx
  · exact ⟨i, o, h1, h2, h3, h4⟩
theorem ISl.ctL {c : Nat} {g : AHeap} {v : Value} {xs : List Int} (x : ISl c g v xs) (hx : 0 < xs.length) :
    aSub g 3 v none (some (.int .i64 ((xs.length - 1 : Nat) : Int))) 1 = some (cutL v) ∧ IRd g (cutL v) xs.dropLast ∧ Go.AH.vbeq (cutL v) (cutL v) = true := by
  obtain ⟨i, o, rfl, h2, h3, h4⟩ := isl_row x hx
  have hd : xs.dropLast.length = xs.length - 1 := by simp
  have hix : ∀ j, j < xs.length - 1 → aIdx (cutL (slc i 0 xs.length)) (.int .i64 (j : Int)) 1 = some (ptr i j) := fun j hj => by simp [cutL, slc, aIdx, hj]
  refine ⟨?_, ⟨?_, fun j hj => ⟨?_, fun g' e => ?_⟩⟩, ?_⟩
  · have hb : aBound (.int .i64 ((xs.length - 1 : Nat) : Int)) xs.length = some (xs.length - 1) := by
      show (if 0 ≤ ((xs.length - 1 : Nat) : Int) ∧ ((xs.length - 1 : Nat) : Int) ≤ xs.length then some (((xs.length - 1 : Nat) : Int)).toNat else none) = _
      rw [if_pos ⟨by omega, by omega⟩]; simp
    show (if (g.at? i).map (·.elem) = some 3 then (aBound (.int .i64 ((xs.length - 1 : Nat) : Int)) xs.length).bind fun h => (some 0).bind fun l => some (Value.slice (some ⟨i, 0 + l * 1, none⟩) (h - l) (h - l)) else none) = _
    rw [if_pos (by rw [h2]; simp [h3]), hb]; rfl
  · rw [hd]; rfl
  · rw [hd] at hj; rw [hix j hj]; unfold ixP; rw [hix j hj]; rfl
  · rw [hd] at hj
    unfold ixP; rw [hix j hj]
    have r : Row g' i (ints xs) := ⟨o, e.2 i o h2 (by rw [h3]; decide) (by rw [h3]; decide) (by rw [h3]; decide), h4⟩
    show aLd1 g' (ptr i j) = _
    rw [r.ld1 (v := .int .i64 xs[j]) (by simp [ints, show j < xs.length by omega])]
    have : j < xs.dropLast.length := by simp; omega
    simp [List.getD_eq_getElem?_getD, List.getElem?_eq_getElem this, List.getElem_dropLast]
  · exact vbeq1_self (.slice (some ⟨i, 0, none⟩) (xs.length - 1) (xs.length - 1)) rfl (fun _ _ _ h => by cases h)
theorem Env.cl {g : AHeap} {p2 p5 : Nat} {nv : Value} {top : Int} {T : List Kn} {n : Kn} {kv : Value} (y : Env g p2 p5 nv top T n kv) (h : 0 < n.ks.length) {i : Int} (hi : i = ((n.ks.length - 1 : Nat) : Int)) : aSub g 3 kv none (some (.int .i64 i)) 1 = some (cutL kv) := by rw [hi]; exact (y.isl.ctL h).1
section
variable {h : AHeap} {T : List BA}
theorem RS.b {α : Type} {o : Option α} {k : α → Option (Value × AHeap)} {v : α} (e : o = some v) (hk : RS h T (k v)) : RS h T (o.bind k) := by rw [e]; exact hk
theorem RS.cf {c : Bool} {a b : Option (Value × AHeap)} (e : c = false) (hk : RS h T b) : RS h T (bif c then a else b) := by rw [e]; exact hk
theorem RS.c {o : Option (Value × AHeap)} {k : Value × AHeap → Option (Value × AHeap)} {Q : Value → AHeap → Prop} (ho : ∃ v g, o = some (v, g) ∧ Q v g) (hk : ∀ v g, Q v g → RS h T (k (v, g))) : RS h T (o.bind k) := bind_step (P := RS h T) ho hk
end
theorem RS.fin {h g : AHeap} {b : Nat} {xs ys : List BA} {v : Value} (e : Ext h.size h g) (o : SOwn b g v xs) (hb : h.size ≤ b) (hx : xs = ys) : RS h ys (some (v, g)) := ⟨v, g, rfl, e, hx ▸ o.mono hb⟩
/-- How many kids a right node has. -/
theorem Good.len {T : List Kn} {j : Nat} {n : Kn} (g : Good T j n) : (shape n.k n.ks.length).length = n.ks.length := by
  have := g.shp
  unfold shP at this
  simp only [Bool.and_eq_true, decide_eq_true_eq, List.length_map] at this
  exact this.1
end Go.Proofs.Ytadmoackacickaa
/- Right trees; nodes in the heap. -/
set_option linter.unusedSimpArgs false
namespace Go.Proofs.Ytadmoackacickaa
open Go Go.AH

structure Right (T : List Kn) (top : Int) : Prop where
  len : T.length ≤ 3000
  pos : 0 < T.length
  top : top = (T.length : Int) - 1
  good : ∀ (j : Nat) (n : Kn), T[j]? = some n → Good T j n
  num : numP T (T.length + 1) ((T.length : Int) - 1) 0 = (T.length : Int)
  blk : kd T ((T.length : Int) - 1) = 21
theorem KSg.ext {e : TypeId} {c : Nat} {h g : AHeap} {v : Value} {ns : List Kn} (x : KSg e c h v ns) (k : Ext c h g) : KSg e c g v ns := by
  rcases x with x | x | ⟨i, o, a1, a2, a6, a3, a4, a5⟩
  · exact .inl x
  · exact .inr (.inl x)
  · exact .inr (.inr ⟨i, o, a1, k.at? a3 a2, a6, a3, a4, fun j n hn => let ⟨kv, a, b⟩ := a5 j n hn; ⟨kv, a, b.ext k⟩⟩)
theorem RowE.ext' {h g : AHeap} {i : Nat} {e : TypeId} {cs : List Value} (x : RowE h i e cs) (k : Ext h.size h g) : RowE g i e cs := let ⟨o, a, b, c⟩ := x; ⟨o, k.at? (at?_obj a).2.1 a, b, c⟩
end Go.Proofs.Ytadmoackacickaa
/- Fold: the model of the folded nodes. -/
set_option linter.unusedSimpArgs false
namespace Go.Proofs.Ytadmoackacickaa
open Go Go.AH

/-- What a node is folded to: a node of its own, or one of the tree's. -/
inductive RT where
  | c (n : Kn)
  | o (j : Nat)
def kN (T : List Kn) (j : Nat) : Kn := T.getD j ⟨0, ⟨#[]⟩, 0, []⟩
def RT.nd (T : List Kn) : RT → Kn
  | .c n => n
  | .o j => kN T j
section
variable {T : List Kn}
theorem Good.two {j : Nat} {n : Kn} (g : Good T j n) (h : n.k = 10 ∨ n.k = 12 ∨ n.k = 13) : n.ks.length = 2 := by
  have := g.len
  rcases h with h | h | h <;> (rw [h] at this; exact this.symm)
theorem Good.one {j : Nat} {n : Kn} (g : Good T j n) (h : n.k = 11) : n.ks.length = 1 := by
  have := g.len
  rw [h] at this; exact this.symm
def RtOk (T : List Kn) (i : Nat) : RT → Prop
  | .c n => n.ks = [] ∧ n.t.size ≤ 1048576 ∧ (n.k = 2 → n.i = 0 ∨ n.i = 1)
  | .o j => j ≤ i
theorem RtOk.mono {i j : Nat} {r : RT} (x : RtOk T i r) (h : i ≤ j) : RtOk T j r := by
  cases r with
  | c n => exact x
  | o q => exact Nat.le_trans x h
/-! ### the nodes, one behind the other -/
end
end Go.Proofs.Ytadmoackacickaa
set_option linter.unusedVariables false
namespace Go.Proofs.Ytadmoackacickaa
open Go Go.AH
/-! 109 (*loop.example/g00101/impl.parser).want -/
/-! 110 (*loop.example/g00101/impl.parser).whole -/
/-! 111 (*loop.example/g00101/impl.parser).block -/
/-! 112 (*loop.example/g00101/impl.parser).begun -/
/-! 120 slices.Index[[]string,string] -/
/-! 154 (*loop.example/g00101/impl.parser).is -/
/-! 155 (*loop.example/g00101/impl.parser).peek -/
/-! 156 (*loop.example/g00101/impl.parser).fail -/
/-! 157 (*loop.example/g00101/impl.parser).open -/
/-! 158 (*loop.example/g00101/impl.parser).or -/
/-! 172 loop.example/g00101/impl.opTexts -/
/-! 188 (*loop.example/g00101/impl.parser).and -/
end Go.Proofs.Ytadmoackacickaa
set_option linter.unusedVariables false
namespace Go.Proofs.Ytadmoackacickaa
open Go Go.AH
/-! 74 loop.example/g00101/impl.bound -/
/-! 75 slices.Contains[[]string,string] -/
theorem c75 (d : Nat) (args : List Value) (h : AHeap) : call Try.prog Ms (d + 1) 75 args h = evFn hk0 Try.prog (call Try.prog Ms d) M75 d Try.f75 args h := by kernel_rfl

/-! 119 (*loop.example/g00101/impl.binder).walk -/
/-! 163 (*loop.example/g00101/impl.binder).names -/
/-! 10 loop.example/g00101/laws.FnExactFold -/
noncomputable def F10_0 (hk : Hk (Value × AHeap)) (C : ACall) (N : Nat) : Nx (Value × AHeap) := evSt hk Try.prog C M10 N Try.f10 [1, 1, 1, 1, 1, 1, 1, 0, 1] []
noncomputable def s10_0 (hk : Hk (Value × AHeap)) (C : ACall) (N : Nat) (x1 : Value) (x4 : Value) (x5 : Bool) (x6 : Value) (x7 : Value) (x8 : Bool) (x40 : Bool) (h : AHeap) := hk 100009 (⟨96, [(1, x1), (4, x4), (5, .bool x5), (6, x6), (7, x7), (8, .bool x8), (40, .bool x40)]⟩) h (F10_0 hk C N)
theorem e10 (hk : Hk (Value × AHeap)) (C : ACall) (N : Nat) (x0 : Value) (h : AHeap) : evFn hk Try.prog C M10 N Try.f10 [x0] h =
    (aCells x0).bind fun c1 => aNew h 30 c1 fun p2 h3 => (aLdN h3 p2 2).bind fun v4 => (C 19 [v4, .int .i64 1048576] h3).bind fun r5 => (asI .i64 r5.1).bind fun n6 => bif decide (n6 < 0) then some (.bool true, r5.2) else (aLdN r5.2 p2 2).bind fun v7 => (C 21 [v7] r5.2).bind fun r8 => (C 42 [r8.1] r8.2).bind fun r9 => (aExt r9.1 0).bind fun v10 => (aExt r9.1 1).bind fun v11 => (asB v11).bind fun b12 => aNew r9.2 35 [.slice none 0 0, .int .i64 0] fun p13 h14 => (aSt h14 p13 v10 2).bind fun h15 => (aLdN h15 p2 2).bind fun v16 => (C 21 [v16] h15).bind fun r17 => aNew r17.2 35 [.slice none 0 0, .int .i64 0] fun p18 h19 => (aSt h19 p18 r17.1 2).bind fun h20 => (aLdN h20 p18 2).bind fun v21 => (C 43 [v21] h20).bind fun r22 => (aExt r22.1 0).bind fun v23 => (aExt r22.1 1).bind fun v24 => (asB v24).bind fun b25 => aNew r22.2 35 [.slice none 0 0, .int .i64 0] fun p26 h27 => (aSt h27 p26 v23 2).bind fun h28 => (aLdN h28 p26 2).bind fun v29 => (aLdN h28 p13 2).bind fun v30 => (C 23 [v29, v30] h28).bind fun r31 => (asB r31.1).bind fun b32 => bif !b32 then s10_0 hk C N p2 p13 b12 p18 p26 b25 true r31.2 else s10_0 hk C N p2 p13 b12 p18 p26 b25 (!(b25 == b12)) r31.2 := by kernel_rfl
theorem c10 (d : Nat) (args : List Value) (h : AHeap) : call Try.prog Ms (d + 1) 10 args h = evFn hk0 Try.prog (call Try.prog Ms d) M10 d Try.f10 args h := by kernel_rfl

/-! 42 loop.example/g00101/spec.Fold -/
theorem c42 (d : Nat) (args : List Value) (h : AHeap) : call Try.prog Ms (d + 1) 42 args h = evFn hk0 Try.prog (call Try.prog Ms d) M42 d Try.f42 args h := by kernel_rfl

/-! 43 loop.example/g00101/impl.Fold -/
theorem c43 (d : Nat) (args : List Value) (h : AHeap) : call Try.prog Ms (d + 1) 43 args h = evFn hk0 Try.prog (call Try.prog Ms d) M43 d Try.f43 args h := by kernel_rfl

/-! 44 loop.example/g00101/laws.heldTree -/
theorem c44 (d : Nat) (args : List Value) (h : AHeap) : call Try.prog Ms (d + 1) 44 args h = evFn hk0 Try.prog (call Try.prog Ms d) M44 d Try.f44 args h := by kernel_rfl

/-! 76 loop.example/g00101/spec.l19Fold -/
/-! 77 (*loop.example/g00101/impl.Tree).lay -/
/-! 78 (*loop.example/g00101/impl.Tree).twigOf -/
/-! 79 loop.example/g00101/laws.heldKnotS -/
end Go.Proofs.Ytadmoackacickaa
/- Slices of strings that stay; what looks for a string; marks on strings. -/
set_option linter.unusedSimpArgs false
namespace Go.Proofs.Ytadmoackacickaa
open Go Go.AH

/-- A slice of strings that can be read; its row lies below c. -/
def SSl (c : Nat) (h : AHeap) (v : Value) (xs : List BA) : Prop :=
  (v = .slice none 0 0 ∧ xs = []) ∨ ∃ i o, v = slc i 0 xs.length ∧ h.at? i = some o ∧ o.elem = 9 ∧ o.cells = strs xs ∧ i < c
section
variable {c d : Nat} {h g : AHeap} {v : Value} {xs : List BA}
theorem SSl.ext (x : SSl c h v xs) (e : Ext c h g) : SSl c g v xs := by
  rcases x with x | ⟨i, o, h1, h2, h3, h4, h5⟩
  · exact .inl x
  · exact .inr ⟨i, o, h1, e.at? h5 h2, h3, h4, h5⟩
theorem SSl.mono (x : SSl c h v xs) (hd : c ≤ d) : SSl d h v xs := by
  rcases x with x | ⟨i, o, h1, h2, h3, h4, h5⟩
  · exact .inl x
  · exact .inr ⟨i, o, h1, h2, h3, h4, by omega⟩
theorem SSl.up (x : SSl h.size h v xs) (e : Ext h.size h g) : SSl g.size g v xs := (x.ext e).mono e.size
theorem SSl.src (x : SSl c h v xs) : SSrc h v xs := by
  rcases x with ⟨rfl, rfl⟩ | ⟨i, o, rfl, h2, h3, h4, _⟩
  · exact SSrc.nil h
  · exact SSrc.of ⟨o, h2, h3, h4⟩
theorem SSl.s2 (x : SSl c h v xs) : isS2 v = true := by
  rcases x with ⟨rfl, _⟩ | ⟨i, o, rfl, _⟩ <;> rfl
end
theorem SSrc.ld {h : AHeap} {v : Value} {xs : List BA} (x : SSrc h v xs) {j : Nat} (hj : j < xs.length) : aLd1 h (ixP v j) = some (.string xs[j]) := (x.at' j hj).2 h (SF.refl _)
/-! ### alike -/
/-! ### marks -/
/-- Rows of strings of one family turn, all else stays. -/
def Ks (e : TypeId) (root : Nat) (h h' : AHeap) : Prop := ∀ j o, h.at? j = some o → (o.elem ≠ e ∨ o.root ≠ root) → h'.at? j = some o
theorem Ks.refl (e : TypeId) (root : Nat) (h : AHeap) : Ks e root h h := fun _ _ h _ => h
theorem Ks.trans {e : TypeId} {root : Nat} {h h' h'' : AHeap} (x : Ks e root h h') (y : Ks e root h' h'') : Ks e root h h'' := fun j o a b => y j o (x j o a b) b
theorem Ks.ext {e : TypeId} {root : Nat} {h h' : AHeap} (x : Ext h.size h h') : Ks e root h h' := fun j o a _ => x.at? (at?_obj a).2.1 a
/-- A cell of a row of one's own is written. -/
theorem stOwn {b : Nat} {h : AHeap} {r rt j : Nat} {e : TypeId} {cs : List Value} {v : Value} (o : OwnR h r rt e cs) (hb : b ≤ rt) (hj : j < cs.length) (hv : isCell v = true) :
    ∃ h', aSt h (ptr r j) v 1 = some h' ∧ Ext b h h' ∧ Ks e rt h h' ∧ OwnR h' r rt e (cs.set j v) ∧ h'.size = h.size := by
  obtain ⟨ep, ha⟩ := o
  have hsp : splice cs j [v] = cs.set j v := by
    unfold splice
    rw [List.set_eq_take_append_cons_drop, if_pos hj]; simp
  refine ⟨h.put r ⟨rt, ep, false, e, cs⟩ (cs.set j v), ?_, Ext.put (Nat.le_trans hb (at?_obj ha).2.2.1) hb _, fun k o hk hf => ?_, ⟨_, at?_put_same ha _⟩, rfl⟩
  · have : j + 1 ≤ cs.length := hj
    simp [aSt, ptr, ha, aCells_one hv, this, hsp]
  · refine at?_put_other hk (fun e' => ?_) _ (fun x => hf.elim (fun f => f x.1) fun f => f x.2)
    subst e'; rw [ha] at hk; cases hk
    exact hf.elim (fun f => f rfl) fun f => f rfl
theorem OwnR.ks {h h' : AHeap} {i root rt : Nat} {e e' : TypeId} {cs : List Value} (x : OwnR h i root e cs) (k : Ks e' rt h h') (hr : e ≠ e' ∨ root ≠ rt) : OwnR h' i root e cs := let ⟨ep, a⟩ := x; ⟨ep, k i _ a hr⟩
theorem OwnR.ext {h h' : AHeap} {i root : Nat} {e : TypeId} {cs : List Value} (x : OwnR h i root e cs) (k : Ext h.size h h') : OwnR h' i root e cs := let ⟨ep, a⟩ := x; ⟨ep, k.at? (at?_obj a).2.1 a⟩
end Go.Proofs.Ytadmoackacickaa
/- Fold: nodes that are put one behind the other. -/
set_option linter.unusedSimpArgs false
namespace Go.Proofs.Ytadmoackacickaa
open Go Go.AH

/-- All stays but the struct's row and the nodes' family. -/
def K2 (es : TypeId) (p rn : Nat) (h h' : AHeap) : Prop := h.size ≤ h'.size ∧ ∀ j o, h.at? j = some o → ¬ (o.elem = es ∧ o.root = p) → ¬ (o.elem = 73 ∧ o.root = rn) → h'.at? j = some o
theorem K2.refl (es : TypeId) (p rn : Nat) (h : AHeap) : K2 es p rn h h := ⟨Nat.le_refl _, fun _ _ a _ _ => a⟩
theorem K2.trans {es : TypeId} {p rn rn1 : Nat} {h h1 h2 : AHeap} (x : K2 es p rn h h1) (y : K2 es p rn1 h1 h2) (hr : rn1 = rn ∨ h.size ≤ rn1) : K2 es p rn h h2 :=
  ⟨Nat.le_trans x.1 y.1, fun j o a q r => y.2 j o (x.2 j o a q r) q fun e => by
    rcases hr with rfl | hr
    · exact r e
    · have := at?_obj a; omega⟩
theorem K2.ext {es : TypeId} {p rn : Nat} {h h' : AHeap} (x : Ext h.size h h') : K2 es p rn h h' := ⟨x.size, fun j o a _ _ => x.at? (at?_obj a).2.1 a⟩
theorem K2.own {es e : TypeId} {p rn i root : Nat} {h h' : AHeap} {cs : List Value} (k : K2 es p rn h h') (x : OwnR h i root e cs) (h1 : e ≠ es ∨ root ≠ p) (h2 : e ≠ 73 ∨ root ≠ rn) : OwnR h' i root e cs :=
  let ⟨ep, a⟩ := x; ⟨ep, k.2 i _ a (fun z => h1.elim (fun f => f z.1) fun f => f z.2) fun z => h2.elim (fun f => f z.1) fun f => f z.2⟩
theorem K2.rowE {es e : TypeId} {p rn i : Nat} {h h' : AHeap} {cs : List Value} (k : K2 es p rn h h') (x : RowE h i e cs) (h1 : e ≠ es) (h2 : e ≠ 73) : RowE h' i e cs :=
  let ⟨o, a, q1, q2⟩ := x; ⟨o, k.2 i o a (fun z => h1 (q1 ▸ z.1)) fun z => h2 (q1 ▸ z.1), q1, q2⟩
/-- A node's kids: none, or a row of their own. -/
def KZ (h : AHeap) (kv : Value) (ks : List Int) (rt : Nat) : Prop := (kv = .slice none 0 0 ∧ ks = []) ∨ ∃ id, kv = slc id 0 ks.length ∧ OwnR h id rt 3 (ints ks)
theorem KZ.isl {h : AHeap} {kv : Value} {ks : List Int} {rt : Nat} (x : KZ h kv ks rt) : ISl h.size h kv ks := by
  rcases x with x | ⟨id, rfl, ep, a⟩
  · exact .inl x
  · exact .inr (.inr ⟨id, _, rfl, a, rfl, rfl, (at?_obj a).2.1⟩)
theorem KZ.keep {h g : AHeap} {kv : Value} {ks : List Int} {rt : Nat} (x : KZ h kv ks rt) (k : ∀ j o, h.at? j = some o → o.elem = 3 → o.root = rt → g.at? j = some o) : KZ g kv ks rt := by
  rcases x with x | ⟨id, rfl, ep, a⟩
  · exact .inl x
  · exact .inr ⟨id, rfl, ep, k id _ a rfl rfl⟩
theorem getD_mem {xs : List Nat} {i : Nat} (h : i < xs.length) : xs.getD i 0 ∈ xs := by simp [h]
/-- Nodes in a row of their own. -/
def NS (b p : Nat) (h : AHeap) (v : Value) (ns : List Kn) (rts : List Nat) (rn : Nat) : Prop :=
  (v = .slice none 0 0 ∧ ns = [] ∧ rts = [] ∧ rn = p) ∨
  (b ≤ rn ∧ rn < h.size ∧ rts.length = ns.length ∧ rts.Nodup ∧ (∀ q ∈ rts, b ≤ q ∧ q < h.size) ∧ ∃ r cells, v = slc r 0 ns.length ∧ OwnR h r rn 73 cells ∧ ns.length * 4 ≤ cells.length ∧
    ∀ (i : Nat) (n : Kn), ns[i]? = some n → ∃ kv, (cells.drop (i * 4)).take 4 = knCells n kv ∧ KZ h kv n.ks (rts.getD i 0))
/-- The row holds no more than the nodes. -/
def NX (h : AHeap) (v : Value) (ns : List Kn) : Prop := ∃ r rt cells, v = slc r 0 ns.length ∧ OwnR h r rt 73 cells ∧ cells.length = ns.length * 4
theorem NX.keep {h g : AHeap} {v : Value} {ns : List Kn} (x : NX h v ns) (k : ∀ j o, h.at? j = some o → o.elem = 73 → o.cells.length = ns.length * 4 → v = slc j 0 ns.length → g.at? j = some o) : NX g v ns := by
  obtain ⟨r, rt, cells, h1, ⟨ep, a⟩, h3⟩ := x
  exact ⟨r, rt, cells, h1, ⟨ep, k r _ a rfl h3 h1⟩, h3⟩
section
variable {b p : Nat} {h g : AHeap} {v : Value} {ns : List Kn} {rts : List Nat} {rn : Nat}
theorem NS.lo {c : Nat} (x : NS b p h v ns rts rn) (hc : c ≤ b) : NS c p h v ns rts rn := by
  rcases x with x | ⟨h1, h2, h3, h4, h5, x⟩
  · exact .inl x
  · exact .inr ⟨by omega, h2, h3, h4, fun q hq => by have := h5 q hq; omega, x⟩
theorem NS.keep (x : NS b p h v ns rts rn) (hs : h.size ≤ g.size) (k : ∀ j o, h.at? j = some o → (o.elem = 73 ∧ o.root = rn) ∨ (o.elem = 3 ∧ o.root ∈ rts) → g.at? j = some o) : NS b p g v ns rts rn := by
  rcases x with x | ⟨h1, h2, h3, h4, h5, r, cells, h6, ⟨ep, a⟩, h8, h9⟩
  · exact .inl x
  · exact .inr ⟨h1, by omega, h3, h4, fun q hq => by have := h5 q hq; omega, r, cells, h6, ⟨ep, k r _ a (.inl ⟨rfl, rfl⟩)⟩, h8, fun i n hn => let ⟨kv, a, z⟩ := h9 i n hn; ⟨kv, a, z.keep fun j o ho he hr => k j o ho (.inr ⟨he, hr ▸ getD_mem (by rw [h3]; exact (List.getElem?_eq_some_iff.1 hn).1)⟩)⟩⟩
theorem NS.ext (x : NS b p h v ns rts rn) (e : Ext h.size h g) : NS b p g v ns rts rn := x.keep e.size fun j o a _ => e.at? (at?_obj a).2.1 a
theorem NS.len (x : NS b p h v ns rts rn) : aLen v = some (.int .i64 (ns.length : Int)) := by
  rcases x with ⟨rfl, rfl, _⟩ | ⟨_, _, _, _, _, r, cells, rfl, _⟩ <;> rfl
theorem NS.vb (x : NS b p h v ns rts rn) : vbeq v v = true := by
  rcases x with ⟨rfl, rfl, _⟩ | ⟨_, _, _, _, _, r, cells, rfl, _⟩
  · rfl
  · simp [vbeq, vbeq1, slc]
theorem NS.cell (x : NS b p h v ns rts rn) : isCell v = true := by
  rcases x with ⟨rfl, rfl, _⟩ | ⟨_, _, _, _, _, r, cells, rfl, _⟩ <;> rfl
theorem drop4 {cells : List Value} {i : Nat} {n : Kn} {kv : Value} (h : (cells.drop (i * 4)).take 4 = knCells n kv) : cells[i * 4]? = some (.int .i64 n.k) ∧ cells[i * 4 + 1]? = some (.string n.t) ∧ cells[i * 4 + 2]? = some (.int .i64 n.i) ∧ cells[i * 4 + 3]? = some kv := by
  have q : ∀ c, c < 4 → cells[i * 4 + c]? = (knCells n kv)[c]? := fun c hc => by
    rw [← h, List.getElem?_take, if_pos hc, List.getElem?_drop]
  exact ⟨q 0 (by decide), q 1 (by decide), q 2 (by decide), q 3 (by decide)⟩
theorem NS.at (x : NS b p h v ns rts rn) {i : Nat} (hi : i < ns.length) : ∃ r kv, aIdx v (.int .i64 (i : Int)) 4 = some (ptr r (i * 4)) ∧ aLdN h (ptr r (i * 4)) 4 = some (knVal ns[i] kv) ∧ aLd1 h (ptr r (i * 4)) = some (.int .i64 ns[i].k) ∧ ISl h.size h kv ns[i].ks := by
  rcases x with ⟨_, rfl, _⟩ | ⟨_, _, _, _, _, r, cells, rfl, o, h8, h9⟩
  · simp at hi
  · have hn : ns[i]? = some ns[i] := by simp [hi]
    obtain ⟨kv, a, z⟩ := h9 i _ hn
    obtain ⟨d0, d1, d2, d3⟩ := drop4 a
    refine ⟨r, kv, by simp [aIdx, slc, hi], ?_, o.row.ld1 d0, z.isl⟩
    have := o.row.ldN (off := i * 4) (n := 4) (by omega)
    rw [this, a]; rfl
theorem NS.push (x : NS b p h v ns rts rn) (hb : b ≤ h.size) {n : Kn} {kv : Value} {rt : Nat} (z : KZ h kv n.ks rt) (hr : rt ∉ rts) (hr1 : b ≤ rt) (hr2 : rt < h.size) (hl : ns.length ≤ 1000000) :
    ∃ v' g rn', aApp (h.new 73 (knCells n kv)) 73 4 56 v (slc h.size 0 1) = some (v', g) ∧ NS b p g v' (ns ++ [n]) (rts ++ [rt]) rn' ∧ Ext b h g ∧ h.size ≤ g.size ∧ (∀ j o, h.at? j = some o → ¬ (o.elem = 73 ∧ o.root = rn) → g.at? j = some o) ∧ (rn' = rn ∨ h.size ≤ rn') ∧ NX g v' (ns ++ [n]) := by
  have e1 := Ext.new (Nat.le_refl h.size) 73 (knCells n kv)
  have w := (Own.new (b := 0) (Nat.zero_le h.size) 73 (knCells n kv)).row
  have hS : (h.new 73 (knCells n kv)).size = h.size + 1 := rfl
  have hsrc : aSrc (h.new 73 (knCells n kv)) 4 (slc h.size 0 1) = some (1, knCells n kv) := w.src (n := 1) (esz := 4) (by show 0 + 1 * 4 ≤ 4; omega)
  have x1 := x.ext e1
  have z1 : KZ (h.new 73 (knCells n kv)) kv n.ks rt := z.keep fun j o a _ _ => e1.at? (at?_obj a).2.1 a
  have k1 : ∀ j o, h.at? j = some o → (h.new 73 (knCells n kv)).at? j = some o := fun j o a => e1.at? (at?_obj a).2.1 a
  generalize h.new 73 (knCells n kv) = g1 at e1 w hS hsrc x1 z1 k1 ⊢
  rcases x1 with ⟨rfl, rfl, rfl, rfl⟩ | ⟨h1, h2, h3, h4, h5, r, cells, rfl, o, h8, h9⟩
  · have e2 := Ext.new (Nat.le_refl g1.size) 73 (knCells n kv)
    have q1 : (1 : Nat) ≤ most ∧ 1 * 56 ≤ most := by unfold most; omega
    have : aApp g1 73 4 56 (.slice none 0 0) (slc h.size 0 1) = ((some (1, knCells n kv)).bind fun my : Nat × List Value => if my.1 = 0 then some (.slice none 0 0, g1) else if my.1 ≤ most ∧ my.1 * 56 ≤ most then some (slc g1.size 0 my.1, g1.new 73 my.2) else none) := by rw [← hsrc]; rfl
    refine ⟨slc g1.size 0 1, g1.new 73 (knCells n kv), g1.size, ?_, ?_, (Ext.tr e1 e2).mono hb, (Ext.tr e1 e2).size, fun j o a _ => e2.at? (by have := (at?_obj a).2.1; omega) (k1 j o a), .inr (by omega), ⟨g1.size, g1.size, knCells n kv, rfl, OwnR.new _ _ _, rfl⟩⟩
    · rw [this, Option.bind_some, if_neg (show ¬ (1:Nat) = 0 by decide), if_pos q1]
    · refine .inr ⟨by omega, by show g1.size < g1.size + 1; omega, rfl, by simp, fun q hq => ?_, g1.size, knCells n kv, rfl, OwnR.new _ _ _, by show (0 + 1) * 4 ≤ 4; decide, fun i m hm => ?_⟩
      · have : q = rt := by simpa using hq
        subst this
        show _ ∧ q < g1.size + 1
        omega
      · have hi : i = 0 := by have := (List.getElem?_eq_some_iff.1 hm).1; simp at this; exact this
        subst hi
        cases hm
        exact ⟨kv, rfl, z1.keep fun j o a _ _ => e2.at? (at?_obj a).2.1 a⟩
  · obtain ⟨ep, a⟩ := o
    have q1 : ns.length * 4 ≤ cells.length ∧ ns.length + 1 ≤ most ∧ (ns.length + 1) * 56 ≤ most := by unfold most; omega
    have hcall : aApp g1 73 4 56 (slc r 0 ns.length) (slc h.size 0 1) = some (slc g1.size 0 (ns.length + 1), g1.app ⟨rn, ep, false, 73, cells⟩ (ns.length * 4) (cells.take (ns.length * 4) ++ knCells n kv)) := by
      have : aApp g1 73 4 56 (slc r 0 ns.length) (slc h.size 0 1) = aAppG g1 73 4 56 (slc r 0 ns.length) (some (1, knCells n kv)) := by rw [← hsrc]; rfl
      rw [this]
      simp [aAppG, slc, a, q1]
    have kk : ∀ j o', g1.at? j = some o' → ¬ (o'.elem = 73 ∧ o'.root = rn) → (g1.app ⟨rn, ep, false, 73, cells⟩ (ns.length * 4) (cells.take (ns.length * 4) ++ knCells n kv)).at? j = some o' := fun j o' ho hk => at?_app_old ho _ fun hh => absurd hh hk
    have ko : OwnR (g1.app ⟨rn, ep, false, 73, cells⟩ (ns.length * 4) (cells.take (ns.length * 4) ++ knCells n kv)) g1.size rn 73 (cells.take (ns.length * 4) ++ knCells n kv) := ⟨_, at?_app_same a _ _⟩
    have ks : (g1.app ⟨rn, ep, false, 73, cells⟩ (ns.length * 4) (cells.take (ns.length * 4) ++ knCells n kv)).size = g1.size + 1 := rfl
    have ke : Ext b g1 (g1.app ⟨rn, ep, false, 73, cells⟩ (ns.length * 4) (cells.take (ns.length * 4) ++ knCells n kv)) := Ext.app (by omega) h1 _ _
    generalize g1.app ⟨rn, ep, false, 73, cells⟩ (ns.length * 4) (cells.take (ns.length * 4) ++ knCells n kv) = g2 at hcall kk ko ks ke
    have hct : (cells.take (ns.length * 4)).length = ns.length * 4 := by simp; omega
    refine ⟨_, g2, rn, hcall, .inr ⟨h1, by omega, by simp [h3], ?_, fun q hq => ?_, g1.size, _, by simp, ko, ?_, fun i m hm => ?_⟩, (e1.mono hb).trans ke, by omega, fun j o' ho hk => kk j o' (k1 j o' ho) hk, .inl rfl, ⟨g1.size, rn, _, by simp, ko, by rw [List.length_append, List.length_append, hct]; show _ + 4 = (_ + 1) * 4; omega⟩⟩
    · rw [List.nodup_append]
      exact ⟨h4, by simp, fun q hq s hs => by rw [List.mem_singleton.1 hs]; exact fun e => hr (e ▸ hq)⟩
    · rcases List.mem_append.1 hq with hq | hq
      · have := h5 q hq; omega
      · rw [List.mem_singleton.1 hq]; omega
    · rw [List.length_append, List.length_append, hct]; show (_ + 1) * 4 ≤ _ + 4; omega
    · have hi : i < ns.length + 1 := by have := (List.getElem?_eq_some_iff.1 hm).1; simpa using this
      by_cases hlt : i < ns.length
      · rw [List.getElem?_append_left hlt] at hm
        obtain ⟨kv', a', z'⟩ := h9 i m hm
        refine ⟨kv', ?_, ?_⟩
        · rw [← a', List.drop_append_of_le_length (by omega), List.take_append_of_le_length (by rw [List.length_drop]; omega), List.drop_take, List.take_take, Nat.min_eq_left (by omega)]
        · rw [List.getD_eq_getElem?_getD, List.getElem?_append_left (by omega), ← List.getD_eq_getElem?_getD]
          exact z'.keep fun j o ho he _ => kk j o ho fun e => by rw [he] at e; exact absurd e.1 (by decide)
      · have : i = ns.length := by omega
        subst this
        rw [List.getElem?_append_right (Nat.le_refl _), Nat.sub_self] at hm
        cases hm
        refine ⟨kv, ?_, ?_⟩
        · rw [List.drop_append, List.drop_of_length_le (by omega), hct, Nat.sub_self]; rfl
        · rw [List.getD_eq_getElem?_getD, List.getElem?_append_right (by omega), h3, Nat.sub_self]
          exact z1.keep fun j o ho he _ => kk j o ho fun e => by rw [he] at e; exact absurd e.1 (by decide)
end
end Go.Proofs.Ytadmoackacickaa
set_option linter.unusedVariables false
namespace Go.Proofs.Ytadmoackacickaa
open Go Go.AH
/-! 121 loop.example/g00101/spec.l19Plain -/
/-! 122 loop.example/g00101/spec.l19True -/
/-! 123 loop.example/g00101/spec.l19Two -/
/-! 124 loop.example/g00101/spec.l19Bool -/
/-! 125 (*loop.example/g00101/impl.twig).folded -/
/-! 164 loop.example/g00101/spec.l19Number -/
/-! 165 loop.example/g00101/impl.numbers -/
/-! 166 (*loop.example/g00101/impl.twig).isLit -/
/-! 167 loop.example/g00101/impl.boolTwig -/
/-! 168 (*loop.example/g00101/impl.twig).truth -/
/-! 196 loop.example/g00101/impl.whole -/
/-! 8 loop.example/g00101/laws.FnLexAgain -/
noncomputable def F8_0 (hk : Hk (Value × AHeap)) (C : ACall) (N : Nat) : Nx (Value × AHeap) := evSt hk Try.prog C M8 N Try.f8 [1, 1, 1, 1, 1, 0, 1] []
noncomputable def s8_0 (hk : Hk (Value × AHeap)) (C : ACall) (N : Nat) (x4 : Value) (x8 : Int) (x46 : Bool) (h : AHeap) := hk 100007 (⟨164, [(4, x4), (8, .int .i64 x8), (46, .bool x46)]⟩) h (F8_0 hk C N)
noncomputable def F8_1 (hk : Hk (Value × AHeap)) (C : ACall) (N : Nat) : Nx (Value × AHeap) := evSt hk Try.prog C M8 N Try.f8 [1, 1, 1, 1, 1, 1] []
noncomputable def s8_1 (hk : Hk (Value × AHeap)) (C : ACall) (N : Nat) (x4 : Value) (x8 : Int) (h : AHeap) := hk 8 (⟨164, [(4, x4), (8, .int .i64 x8)]⟩) h (F8_1 hk C N)
noncomputable def F8_2 (hk : Hk (Value × AHeap)) (C : ACall) (N : Nat) (n1 : Nat) : Nx (Value × AHeap) := evSt hk Try.prog C M8 N Try.f8 [1, 1, 1, 1, 1, 1, 1, 0, 1, 2, 6] [n1]
noncomputable def s8_2 (hk : Hk (Value × AHeap)) (C : ACall) (N : Nat) (n1 : Nat) (x4 : Value) (x8 : Int) (x10 : ByteArray) (x11 : Int) (h : AHeap) := F8_2 hk C N n1 (⟨164, [(4, x4), (8, .int .i64 x8), (10, .string x10), (11, .int .i64 x11)]⟩) h
noncomputable def F8_3 (hk : Hk (Value × AHeap)) (C : ACall) (N : Nat) (n1 : Nat) : Nx (Value × AHeap) := evSt hk Try.prog C M8 N Try.f8 [1, 1, 1, 1, 1, 1, 1, 0, 1, 2, 3, 1, 0, 2, 0, 1] [n1]
noncomputable def s8_3 (hk : Hk (Value × AHeap)) (C : ACall) (N : Nat) (n1 : Nat) (x4 : Value) (x8 : Int) (x10 : ByteArray) (x11 : Int) (x68 : Bool) (h : AHeap) := hk 100013 (⟨164, [(4, x4), (8, .int .i64 x8), (10, .string x10), (11, .int .i64 x11), (68, .bool x68)]⟩) h (F8_3 hk C N n1)
noncomputable def F8_5 (hk : Hk (Value × AHeap)) (C : ACall) (N : Nat) : Nx (Value × AHeap) := evSt hk Try.prog C M8 N Try.f8 [1, 1, 1, 1, 1, 1, 1, 1, 0, 1] []
noncomputable def s8_5 (hk : Hk (Value × AHeap)) (C : ACall) (N : Nat) (x4 : Value) (x8 : Int) (x10 : ByteArray) (x98 : Bool) (h : AHeap) := hk 100018 (⟨164, [(4, x4), (8, .int .i64 x8), (10, .string x10), (98, .bool x98)]⟩) h (F8_5 hk C N)
noncomputable def F8_4 (hk : Hk (Value × AHeap)) (C : ACall) (N : Nat) (n1 : Nat) : Nx (Value × AHeap) := evSt hk Try.prog C M8 N Try.f8 [1, 1, 1, 1, 1, 1, 1, 0, 1, 2, 3, 1, 0, 2, 1] [n1]
noncomputable def s8_4 (hk : Hk (Value × AHeap)) (C : ACall) (N : Nat) (n1 : Nat) (x4 : Value) (x8 : Int) (x10 : ByteArray) (x11 : Int) (h : AHeap) := hk 14 (⟨164, [(4, x4), (8, .int .i64 x8), (10, .string x10), (11, .int .i64 x11)]⟩) h (F8_4 hk C N n1)
noncomputable def F8_6 (hk : Hk (Value × AHeap)) (C : ACall) (N : Nat) : Nx (Value × AHeap) := evSt hk Try.prog C M8 N Try.f8 [1, 1, 1, 1, 1, 1, 1, 1, 1] []
noncomputable def s8_6 (hk : Hk (Value × AHeap)) (C : ACall) (N : Nat) (x4 : Value) (x10 : ByteArray) (h : AHeap) := hk 19 (⟨164, [(4, x4), (10, .string x10)]⟩) h (F8_6 hk C N)
noncomputable def F8_7 (hk : Hk (Value × AHeap)) (C : ACall) (N : Nat) : Nx (Value × AHeap) := evSt hk Try.prog C M8 N Try.f8 [1, 1, 1, 1, 1, 1, 1, 1, 1, 1, 0, 1] []
noncomputable def s8_7 (hk : Hk (Value × AHeap)) (C : ACall) (N : Nat) (x4 : Value) (x12 : Value) (x120 : Bool) (h : AHeap) := hk 100021 (⟨164, [(4, x4), (12, x12), (120, .bool x120)]⟩) h (F8_7 hk C N)
noncomputable def F8_8 (hk : Hk (Value × AHeap)) (C : ACall) (N : Nat) : Nx (Value × AHeap) := evSt hk Try.prog C M8 N Try.f8 [1, 1, 1, 1, 1, 1, 1, 1, 1, 1, 1] []
noncomputable def s8_8 (hk : Hk (Value × AHeap)) (C : ACall) (N : Nat) (x4 : Value) (x12 : Value) (h : AHeap) := hk 22 (⟨164, [(4, x4), (12, x12)]⟩) h (F8_8 hk C N)
noncomputable def F8_9 (hk : Hk (Value × AHeap)) (C : ACall) (N : Nat) (n1 : Nat) : Nx (Value × AHeap) := evSt hk Try.prog C M8 N Try.f8 [1, 1, 1, 1, 1, 1, 1, 1, 1, 1, 1, 0, 1, 2, 6] [n1]
noncomputable def s8_9 (hk : Hk (Value × AHeap)) (C : ACall) (N : Nat) (n1 : Nat) (x4 : Value) (x12 : Value) (x15 : Int) (h : AHeap) := F8_9 hk C N n1 (⟨164, [(4, x4), (12, x12), (15, .int .i64 x15)]⟩) h
noncomputable def F8_10 (hk : Hk (Value × AHeap)) (C : ACall) (N : Nat) (n1 : Nat) : Nx (Value × AHeap) := evSt hk Try.prog C M8 N Try.f8 [1, 1, 1, 1, 1, 1, 1, 1, 1, 1, 1, 0, 1, 2, 3, 1, 0, 2, 1] [n1]
noncomputable def s8_10 (hk : Hk (Value × AHeap)) (C : ACall) (N : Nat) (n1 : Nat) (x4 : Value) (x12 : Value) (x15 : Int) (x163 : Bool) (h : AHeap) := hk 100026 (⟨164, [(4, x4), (12, x12), (15, .int .i64 x15), (163, .bool x163)]⟩) h (F8_10 hk C N n1)
theorem e8 (hk : Hk (Value × AHeap)) (C : ACall) (N : Nat) (x0 : Value) (h : AHeap) : evFn hk Try.prog C M8 N Try.f8 [x0] h =
    (C 26 [x0] h).bind fun r1 => (asB r1.1).bind fun b2 => bif b2 then some (.bool true, r1.2) else (C 36 [x0] r1.2).bind fun r3 => (asS r3.1).bind fun t4 => (C 15 [.string t4] r3.2).bind fun r5 => (aExt r5.1 0).bind fun v6 => (aExt r5.1 1).bind fun v7 => (asI .i64 v7).bind fun n8 => (aExt r5.1 2).bind fun v9 => (asI .i64 v9).bind fun n10 => (C 14 [.string t4] r5.2).bind fun r11 => (aExt r11.1 0).bind fun v12 => (aExt r11.1 1).bind fun v13 => (asI .i64 v13).bind fun n14 => (aExt r11.1 2).bind fun v15 => (asI .i64 v15).bind fun n16 => bif n8 != n14 then s8_0 hk C N v6 n14 true r11.2 else bif n10 != n16 then s8_0 hk C N v6 n14 true r11.2 else (aLen v6).bind fun v17 => (asI .i64 v17).bind fun n18 => (aLen v12).bind fun v19 => (asI .i64 v19).bind fun n20 => s8_0 hk C N v6 n14 (n18 != n20) r11.2 := by kernel_rfl
theorem s8_0_j (C : ACall) (N : Nat) (x4 : Value) (x8 : Int) (x46 : Bool) (h : AHeap) : s8_0 hk0 C N x4 x8 x46 h = F8_0 hk0 C N (⟨164, [(4, x4), (8, .int .i64 x8), (46, .bool x46)]⟩) h := by delta s8_0; exact hk0_app _ _ _ _
theorem s8_0_eq (hk : Hk (Value × AHeap)) (C : ACall) (N : Nat) (x4 : Value) (x8 : Int) (x46 : Bool) (h : AHeap) : F8_0 hk C N (⟨164, [(4, x4), (8, .int .i64 x8), (46, .bool x46)]⟩) h =
    bif x46 then some (.bool false, h) else s8_1 hk C N x4 x8 h := by kernel_rfl
theorem s8_1_j (C : ACall) (N : Nat) (x4 : Value) (x8 : Int) (h : AHeap) : s8_1 hk0 C N x4 x8 h = F8_1 hk0 C N (⟨164, [(4, x4), (8, .int .i64 x8)]⟩) h := by delta s8_1; exact hk0_app _ _ _ _
theorem s8_1_eq (hk : Hk (Value × AHeap)) (C : ACall) (N : Nat) (x4 : Value) (x8 : Int) (h : AHeap) : F8_1 hk C N (⟨164, [(4, x4), (8, .int .i64 x8)]⟩) h =
    s8_2 hk C N N x4 x8 ⟨#[]⟩ 0 h := by kernel_rfl
theorem s8_2_eq (hk : Hk (Value × AHeap)) (C : ACall) (N : Nat) (n1 : Nat) (x4 : Value) (x8 : Int) (x10 : ByteArray) (x11 : Int) (h : AHeap) : s8_2 hk C N (n1 + 1) x4 x8 x10 x11 h =
    (aLen x4).bind fun v21 => (asI .i64 v21).bind fun n22 => bif decide (x11 < n22) then bif decide (x11 > 0) then (aIdx x4 (.int .i64 (IntKind.i64.wrap (x11 - 1))) 4).bind fun v23 => (aOff v23 1).bind fun v24 => (aLd1 h v24).bind fun v25 => (asI .i64 v25).bind fun n26 => (aIdx x4 (.int .i64 x11) 4).bind fun v27 => (aOff v27 1).bind fun v28 => (aLd1 h v28).bind fun v29 => (asI .i64 v29).bind fun n30 => s8_3 hk C N n1 x4 x8 x10 x11 (decide (n26 ≥ n30)) h else s8_3 hk C N n1 x4 x8 x10 x11 false h else bif x8 != 0 then s8_5 hk C N x4 x8 x10 true h else s8_5 hk C N x4 x8 x10 (decide ((ByteArray.size x10 : Int) > 3000)) h := by kernel_rfl
theorem s8_3_j (C : ACall) (N : Nat) (n1 : Nat) (x4 : Value) (x8 : Int) (x10 : ByteArray) (x11 : Int) (x68 : Bool) (h : AHeap) : s8_3 hk0 C N n1 x4 x8 x10 x11 x68 h = F8_3 hk0 C N n1 (⟨164, [(4, x4), (8, .int .i64 x8), (10, .string x10), (11, .int .i64 x11), (68, .bool x68)]⟩) h := by delta s8_3; exact hk0_app _ _ _ _
theorem s8_3_eq (hk : Hk (Value × AHeap)) (C : ACall) (N : Nat) (n1 : Nat) (x4 : Value) (x8 : Int) (x10 : ByteArray) (x11 : Int) (x68 : Bool) (h : AHeap) : F8_3 hk C N n1 (⟨164, [(4, x4), (8, .int .i64 x8), (10, .string x10), (11, .int .i64 x11), (68, .bool x68)]⟩) h =
    bif x68 then some (.bool false, h) else s8_4 hk C N n1 x4 x8 x10 x11 h := by kernel_rfl
theorem s8_5_j (C : ACall) (N : Nat) (x4 : Value) (x8 : Int) (x10 : ByteArray) (x98 : Bool) (h : AHeap) : s8_5 hk0 C N x4 x8 x10 x98 h = F8_5 hk0 C N (⟨164, [(4, x4), (8, .int .i64 x8), (10, .string x10), (98, .bool x98)]⟩) h := by delta s8_5; exact hk0_app _ _ _ _
theorem s8_5_eq (hk : Hk (Value × AHeap)) (C : ACall) (N : Nat) (x4 : Value) (x8 : Int) (x10 : ByteArray) (x98 : Bool) (h : AHeap) : F8_5 hk C N (⟨164, [(4, x4), (8, .int .i64 x8), (10, .string x10), (98, .bool x98)]⟩) h =
    bif x98 then bif x8 == 0 then some (.bool true, h) else (aLen x4).bind fun v31 => (asI .i64 v31).bind fun n32 => some (.bool (n32 == 0), h) else s8_6 hk C N x4 x10 h := by kernel_rfl
theorem s8_4_j (C : ACall) (N : Nat) (n1 : Nat) (x4 : Value) (x8 : Int) (x10 : ByteArray) (x11 : Int) (h : AHeap) : s8_4 hk0 C N n1 x4 x8 x10 x11 h = F8_4 hk0 C N n1 (⟨164, [(4, x4), (8, .int .i64 x8), (10, .string x10), (11, .int .i64 x11)]⟩) h := by delta s8_4; exact hk0_app _ _ _ _
theorem s8_4_eq (hk : Hk (Value × AHeap)) (C : ACall) (N : Nat) (n1 : Nat) (x4 : Value) (x8 : Int) (x10 : ByteArray) (x11 : Int) (h : AHeap) : F8_4 hk C N n1 (⟨164, [(4, x4), (8, .int .i64 x8), (10, .string x10), (11, .int .i64 x11)]⟩) h =
    (aIdx x4 (.int .i64 x11) 4).bind fun v33 => (aOff v33 0).bind fun v34 => (aLd1 h v34).bind fun v35 => (asI .i64 v35).bind fun n36 => bif n36 == 4 then (aBin .add (.string x10) (.string (⟨#[34]⟩))).bind fun v37 => (asS v37).bind fun t38 => (aIdx x4 (.int .i64 x11) 4).bind fun v39 => (aOff v39 2).bind fun v40 => (aLd1 h v40).bind fun v41 => (asS v41).bind fun t42 => (aBin .add (.string t38) (.string t42)).bind fun v43 => (asS v43).bind fun t44 => (aBin .add (.string t44) (.string (⟨#[34, 32]⟩))).bind fun v45 => (asS v45).bind fun t46 => s8_2 hk C N n1 x4 x8 t46 (IntKind.i64.wrap (x11 + 1)) h else (aIdx x4 (.int .i64 x11) 4).bind fun v47 => (aOff v47 2).bind fun v48 => (aLd1 h v48).bind fun v49 => (asS v49).bind fun t50 => (aBin .add (.string x10) (.string t50)).bind fun v51 => (asS v51).bind fun t52 => (aBin .add (.string t52) (.string (⟨#[32]⟩))).bind fun v53 => (asS v53).bind fun t54 => s8_2 hk C N n1 x4 x8 t54 (IntKind.i64.wrap (x11 + 1)) h := by kernel_rfl
theorem s8_6_j (C : ACall) (N : Nat) (x4 : Value) (x10 : ByteArray) (h : AHeap) : s8_6 hk0 C N x4 x10 h = F8_6 hk0 C N (⟨164, [(4, x4), (10, .string x10)]⟩) h := by delta s8_6; exact hk0_app _ _ _ _
theorem s8_6_eq (hk : Hk (Value × AHeap)) (C : ACall) (N : Nat) (x4 : Value) (x10 : ByteArray) (h : AHeap) : F8_6 hk C N (⟨164, [(4, x4), (10, .string x10)]⟩) h =
    (C 15 [.string x10] h).bind fun r55 => (aExt r55.1 0).bind fun v56 => (aExt r55.1 1).bind fun v57 => (asI .i64 v57).bind fun n58 => (aExt r55.1 2).bind fun v59 => (asI .i64 v59).bind fun n60 => bif n58 != 0 then s8_7 hk C N x4 v56 true r55.2 else (aLen v56).bind fun v61 => (asI .i64 v61).bind fun n62 => (aLen x4).bind fun v63 => (asI .i64 v63).bind fun n64 => s8_7 hk C N x4 v56 (n62 != n64) r55.2 := by kernel_rfl
theorem s8_7_j (C : ACall) (N : Nat) (x4 : Value) (x12 : Value) (x120 : Bool) (h : AHeap) : s8_7 hk0 C N x4 x12 x120 h = F8_7 hk0 C N (⟨164, [(4, x4), (12, x12), (120, .bool x120)]⟩) h := by delta s8_7; exact hk0_app _ _ _ _
theorem s8_7_eq (hk : Hk (Value × AHeap)) (C : ACall) (N : Nat) (x4 : Value) (x12 : Value) (x120 : Bool) (h : AHeap) : F8_7 hk C N (⟨164, [(4, x4), (12, x12), (120, .bool x120)]⟩) h =
    bif x120 then some (.bool false, h) else s8_8 hk C N x4 x12 h := by kernel_rfl
theorem s8_8_j (C : ACall) (N : Nat) (x4 : Value) (x12 : Value) (h : AHeap) : s8_8 hk0 C N x4 x12 h = F8_8 hk0 C N (⟨164, [(4, x4), (12, x12)]⟩) h := by delta s8_8; exact hk0_app _ _ _ _
theorem s8_8_eq (hk : Hk (Value × AHeap)) (C : ACall) (N : Nat) (x4 : Value) (x12 : Value) (h : AHeap) : F8_8 hk C N (⟨164, [(4, x4), (12, x12)]⟩) h =
    s8_9 hk C N N x4 x12 0 h := by kernel_rfl
theorem s8_9_eq (hk : Hk (Value × AHeap)) (C : ACall) (N : Nat) (n1 : Nat) (x4 : Value) (x12 : Value) (x15 : Int) (h : AHeap) : s8_9 hk C N (n1 + 1) x4 x12 x15 h =
    (aLen x4).bind fun v65 => (asI .i64 v65).bind fun n66 => bif decide (x15 < n66) then (aIdx x12 (.int .i64 x15) 4).bind fun v67 => (aOff v67 0).bind fun v68 => (aLd1 h v68).bind fun v69 => (asI .i64 v69).bind fun n70 => (aIdx x4 (.int .i64 x15) 4).bind fun v71 => (aOff v71 0).bind fun v72 => (aLd1 h v72).bind fun v73 => (asI .i64 v73).bind fun n74 => bif n70 != n74 then s8_10 hk C N n1 x4 x12 x15 true h else (aIdx x12 (.int .i64 x15) 4).bind fun v75 => (aOff v75 2).bind fun v76 => (aLd1 h v76).bind fun v77 => (asS v77).bind fun t78 => (aIdx x4 (.int .i64 x15) 4).bind fun v79 => (aOff v79 2).bind fun v80 => (aLd1 h v80).bind fun v81 => (asS v81).bind fun t82 => bif !(t78.toList == t82.toList) then s8_10 hk C N n1 x4 x12 x15 true h else (aIdx x12 (.int .i64 x15) 4).bind fun v83 => (aOff v83 3).bind fun v84 => (aLd1 h v84).bind fun v85 => (asI .i64 v85).bind fun n86 => (aIdx x4 (.int .i64 x15) 4).bind fun v87 => (aOff v87 3).bind fun v88 => (aLd1 h v88).bind fun v89 => (asI .i64 v89).bind fun n90 => s8_10 hk C N n1 x4 x12 x15 (n86 != n90) h else some (.bool true, h) := by kernel_rfl
theorem s8_10_j (C : ACall) (N : Nat) (n1 : Nat) (x4 : Value) (x12 : Value) (x15 : Int) (x163 : Bool) (h : AHeap) : s8_10 hk0 C N n1 x4 x12 x15 x163 h = F8_10 hk0 C N n1 (⟨164, [(4, x4), (12, x12), (15, .int .i64 x15), (163, .bool x163)]⟩) h := by delta s8_10; exact hk0_app _ _ _ _
theorem s8_10_eq (hk : Hk (Value × AHeap)) (C : ACall) (N : Nat) (n1 : Nat) (x4 : Value) (x12 : Value) (x15 : Int) (x163 : Bool) (h : AHeap) : F8_10 hk C N n1 (⟨164, [(4, x4), (12, x12), (15, .int .i64 x15), (163, .bool x163)]⟩) h =
    bif x163 then some (.bool false, h) else s8_9 hk C N n1 x4 x12 (IntKind.i64.wrap (x15 + 1)) h := by kernel_rfl
theorem c8 (d : Nat) (args : List Value) (h : AHeap) : call Try.prog Ms (d + 1) 8 args h = evFn hk0 Try.prog (call Try.prog Ms d) M8 d Try.f8 args h := by kernel_rfl
end Go.Proofs.Ytadmoackacickaa
/- Fold: the reference's reckoning of two nodes. -/
set_option linter.unusedSimpArgs false
namespace Go.Proofs.Ytadmoackacickaa
open Go Go.AH

section
variable {P : Option (Value × AHeap) → Prop}
theorem pb {α : Type} {o : Option α} {k : α → Option (Value × AHeap)} {v : α} (e : o = some v) (hk : P (k v)) : P (o.bind k) := by rw [e]; exact hk
theorem pcf {c : Bool} {x y : Option (Value × AHeap)} (e : c = false) (hk : P y) : P (bif c then x else y) := by rw [e]; exact hk
theorem pct {c : Bool} {x y : Option (Value × AHeap)} (e : c = true) (hk : P x) : P (bif c then x else y) := by rw [e]; exact hk
end
end Go.Proofs.Ytadmoackacickaa
set_option linter.unusedVariables false
namespace Go.Proofs.Ytadmoackacickaa
open Go Go.AH
/-! 36 loop.example/g00101/spec.DrawLex -/
theorem e36 (hk : Hk (Value × AHeap)) (C : ACall) (N : Nat) (x0 : Value) (h : AHeap) : evFn hk Try.prog C M36 N Try.f36 [x0] h =
    (C 69 [x0] h).bind fun r1 => (C 70 [r1.1, x0] r1.2).bind fun r2 => (asS r2.1).bind fun t3 => (C 71 [r1.1, .int .i64 6] r2.2).bind fun r4 => (asB r4.1).bind fun b5 => bif b5 then (C 72 [r1.1, .string t3] r4.2).bind fun r6 => (asS r6.1).bind fun t7 => (C 72 [r1.1, .string t7] r6.2).bind fun r8 => (asS r8.1).bind fun t9 => (aBin .add (.string t9) (.string (⟨#[45, 45, 32, 97, 32, 114, 101, 109, 97, 114, 107]⟩))).bind fun v10 => (asS v10).bind fun t11 => some (.string t11, r8.2) else some (.string t3, r4.2) := by kernel_rfl
theorem c36 (d : Nat) (args : List Value) (h : AHeap) : call Try.prog Ms (d + 1) 36 args h = evFn hk0 Try.prog (call Try.prog Ms d) M36 d Try.f36 args h := by kernel_rfl

/-! 69 loop.example/g00101/spec.l1New -/
noncomputable def F69_0 (hk : Hk (Value × AHeap)) (C : ACall) (N : Nat) (n1 : Nat) : Nx (Value × AHeap) := evSt hk Try.prog C M69 N Try.f69 [1, 1, 0, 1, 2, 6] [n1]
noncomputable def s69_0 (hk : Hk (Value × AHeap)) (C : ACall) (N : Nat) (n1 : Nat) (x0 : Value) (x3 : Int) (x4 : Int) (h : AHeap) := F69_0 hk C N n1 (⟨32, [(0, x0), (3, .int .i64 x3), (4, .int .i64 x4)]⟩) h
noncomputable def F69_1 (hk : Hk (Value × AHeap)) (C : ACall) (N : Nat) (n1 : Nat) : Nx (Value × AHeap) := evSt hk Try.prog C M69 N Try.f69 [1, 1, 0, 1, 2, 3, 1] [n1]
noncomputable def s69_1 (hk : Hk (Value × AHeap)) (C : ACall) (N : Nat) (n1 : Nat) (x0 : Value) (x3 : Int) (x4 : Int) (h : AHeap) := hk 5 (⟨32, [(0, x0), (3, .int .i64 x3), (4, .int .i64 x4)]⟩) h (F69_1 hk C N n1)
theorem e69 (hk : Hk (Value × AHeap)) (C : ACall) (N : Nat) (x0 : Value) (h : AHeap) : evFn hk Try.prog C M69 N Try.f69 [x0] h =
    (aLen x0).bind fun v1 => (asI .i64 v1).bind fun n2 => s69_0 hk C N N x0 (IntKind.i64.wrap (10101 + n2)) 0 h := by kernel_rfl
theorem s69_0_eq (hk : Hk (Value × AHeap)) (C : ACall) (N : Nat) (n1 : Nat) (x0 : Value) (x3 : Int) (x4 : Int) (h : AHeap) : s69_0 hk C N (n1 + 1) x0 x3 x4 h =
    (aLen x0).bind fun v3 => (asI .i64 v3).bind fun n4 => bif decide (x4 < n4) then bif decide (x4 < 4000) then s69_1 hk C N n1 x0 x3 x4 h else (aFill [.slice none 0 0, .int .i64 0, .int .i64 0] [(0, 1, x0), (2, 1, .int .i64 x3)]).bind fun c5 => (aCells (.agg (List.toArray c5))).bind fun c6 => aNew h 143 c6 fun p7 h8 => some (p7, h8) else (aFill [.slice none 0 0, .int .i64 0, .int .i64 0] [(0, 1, x0), (2, 1, .int .i64 x3)]).bind fun c9 => (aCells (.agg (List.toArray c9))).bind fun c10 => aNew h 143 c10 fun p11 h12 => some (p11, h12) := by kernel_rfl
theorem s69_1_j (C : ACall) (N : Nat) (n1 : Nat) (x0 : Value) (x3 : Int) (x4 : Int) (h : AHeap) : s69_1 hk0 C N n1 x0 x3 x4 h = F69_1 hk0 C N n1 (⟨32, [(0, x0), (3, .int .i64 x3), (4, .int .i64 x4)]⟩) h := by delta s69_1; exact hk0_app _ _ _ _
theorem s69_1_eq (hk : Hk (Value × AHeap)) (C : ACall) (N : Nat) (n1 : Nat) (x0 : Value) (x3 : Int) (x4 : Int) (h : AHeap) : F69_1 hk C N n1 (⟨32, [(0, x0), (3, .int .i64 x3), (4, .int .i64 x4)]⟩) h =
    (aIdx x0 (.int .i64 x4) 1).bind fun v13 => (aLd1 h v13).bind fun v14 => (asI .u8 v14).bind fun n15 => s69_0 hk C N n1 x0 (IntKind.i64.wrap (BitVec.ofInt IntKind.i64.bits (IntKind.i64.wrap ((IntKind.i64.wrap ((IntKind.i64.wrap (x3 * 131)) + (IntKind.i64.wrap n15))) + 7)) &&& BitVec.ofInt IntKind.i64.bits 1073741823).toNat) (IntKind.i64.wrap (x4 + 1)) h := by kernel_rfl
theorem c69 (d : Nat) (args : List Value) (h : AHeap) : call Try.prog Ms (d + 1) 69 args h = evFn hk0 Try.prog (call Try.prog Ms d) M69 d Try.f69 args h := by kernel_rfl

/-! 70 loop.example/g00101/spec.l10Some -/
theorem e70 (hk : Hk (Value × AHeap)) (C : ACall) (N : Nat) (x0 : Value) (x1 : Value) (h : AHeap) : evFn hk Try.prog C M70 N Try.f70 [x0, x1] h =
    (C 71 [x0, .int .i64 15] h).bind fun r1 => (asB r1.1).bind fun b2 => bif b2 then (C 113 [x0] r1.2).bind fun r3 => (asS r3.1).bind fun t4 => some (.string t4, r3.2) else (C 115 [x1, .int .i64 14] r1.2).bind fun r5 => (asI .i64 r5.1).bind fun n6 => (C 71 [x0, .int .i64 4] r5.2).bind fun r7 => (asB r7.1).bind fun b8 => (C 114 [x0, .int .i64 (IntKind.i64.wrap (3 + n6)), .bool b8] r7.2).bind fun r9 => (asS r9.1).bind fun t10 => (C 71 [x0, .int .i64 4] r9.2).bind fun r11 => (asB r11.1).bind fun b12 => bif b12 then (C 72 [x0, .string t10] r11.2).bind fun r13 => (asS r13.1).bind fun t14 => some (.string t14, r13.2) else some (.string t10, r11.2) := by kernel_rfl
theorem c70 (d : Nat) (args : List Value) (h : AHeap) : call Try.prog Ms (d + 1) 70 args h = evFn hk0 Try.prog (call Try.prog Ms d) M70 d Try.f70 args h := by kernel_rfl

/-! 71 loop.example/g00101/spec.l1Once -/
theorem e71 (hk : Hk (Value × AHeap)) (C : ACall) (N : Nat) (x0 : Value) (x1 : Int) (h : AHeap) : evFn hk Try.prog C M71 N Try.f71 [x0, .int .i64 x1] h =
    (C 116 [x0, .int .i64 x1] h).bind fun r1 => (asI .i64 r1.1).bind fun n2 => some (.bool (n2 == 0), r1.2) := by kernel_rfl
theorem c71 (d : Nat) (args : List Value) (h : AHeap) : call Try.prog Ms (d + 1) 71 args h = evFn hk0 Try.prog (call Try.prog Ms d) M71 d Try.f71 args h := by kernel_rfl

/-! 72 loop.example/g00101/spec.l10Broken -/
theorem e72 (hk : Hk (Value × AHeap)) (C : ACall) (N : Nat) (x0 : Value) (x1 : ByteArray) (h : AHeap) : evFn hk Try.prog C M72 N Try.f72 [x0, .string x1] h =
    bif (ByteArray.size x1 : Int) == 0 then some (.string (⟨#[120]⟩), h) else (C 116 [x0, .int .i64 (ByteArray.size x1 : Int)] h).bind fun r1 => (asI .i64 r1.1).bind fun n2 => (C 116 [x0, .int .i64 4] r1.2).bind fun r3 => (asI .i64 r3.1).bind fun n4 => bif n4 == 0 then (aSubS (.string x1) none (some (.int .i64 n2))).bind fun v5 => (asS v5).bind fun t6 => some (.string t6, r3.2) else bif n4 == 1 then (aSubS (.string x1) none (some (.int .i64 n2))).bind fun v7 => (asS v7).bind fun t8 => (aSubS (.string x1) (some (.int .i64 n2)) none).bind fun v9 => (asS v9).bind fun t10 => aNewS r3.2 9 [.string (⟨#[32, 59, 32]⟩), .string (⟨#[123]⟩), .string (⟨#[125]⟩), .string (⟨#[40]⟩), .string (⟨#[32, 101, 108, 115, 101, 32]⟩), .string (⟨#[61, 61]⟩), .string (⟨#[32, 97, 32]⟩), .string (⟨#[57, 122]⟩), .string (⟨#[126]⟩), .string (⟨#[32, 108, 111, 110, 103, 108, 111, 110, 103, 108, 111, 110, 103, 110, 97, 109, 101, 32]⟩), .string (⟨#[91, 49, 93]⟩), .string (⟨#[46]⟩), .string (⟨#[34]⟩), .string (⟨#[45, 45, 32, 120]⟩)] 14 fun p11 h12 => ((aSubS (.string x1) none (some (.int .i64 n2))).bind fun v13 => (asS v13).bind fun t14 => some (vbeq (.string t14) (.string t8))).bind fun b15 => bif b15 then ((aSubS (.string x1) (some (.int .i64 n2)) none).bind fun v16 => (asS v16).bind fun t17 => some (vbeq (.string t17) (.string t10))).bind fun b18 => bif b18 then (C 117 [x0, p11] h12).bind fun r19 => (asS r19.1).bind fun t20 => ((aSubS (.string x1) none (some (.int .i64 n2))).bind fun v21 => (asS v21).bind fun t22 => some (vbeq (.string t22) (.string t8))).bind fun b23 => bif b23 then ((aSubS (.string x1) (some (.int .i64 n2)) none).bind fun v24 => (asS v24).bind fun t25 => some (vbeq (.string t25) (.string t10))).bind fun b26 => bif b26 then (aBin .add (.string t8) (.string t20)).bind fun v27 => (asS v27).bind fun t28 => (aBin .add (.string t28) (.string t10)).bind fun v29 => (asS v29).bind fun t30 => some (.string t30, r19.2) else none else none else none else none else bif n4 == 2 then (aSubS (.string x1) none (some (.int .i64 n2))).bind fun v31 => (asS v31).bind fun t32 => (aSubS (.string x1) (some (.int .i64 (IntKind.i64.wrap (n2 + 1)))) none).bind fun v33 => (asS v33).bind fun t34 => (aBin .add (.string t32) (.string t34)).bind fun v35 => (asS v35).bind fun t36 => some (.string t36, r3.2) else (aSubS (.string x1) none (some (.int .i64 n2))).bind fun v37 => (asS v37).bind fun t38 => (aSubS (.string x1) (some (.int .i64 (IntKind.i64.wrap (n2 + 1)))) none).bind fun v39 => (asS v39).bind fun t40 => aNewS r3.2 9 [.string (⟨#[61]⟩), .string (⟨#[32]⟩), .string (⟨#[60]⟩), .string (⟨#[46]⟩), .string (⟨#[48]⟩), .string (⟨#[120]⟩), .string (⟨#[35]⟩)] 7 fun p41 h42 => ((aSubS (.string x1) none (some (.int .i64 n2))).bind fun v43 => (asS v43).bind fun t44 => some (vbeq (.string t44) (.string t38))).bind fun b45 => bif b45 then ((aSubS (.string x1) (some (.int .i64 (IntKind.i64.wrap (n2 + 1)))) none).bind fun v46 => (asS v46).bind fun t47 => some (vbeq (.string t47) (.string t40))).bind fun b48 => bif b48 then (C 117 [x0, p41] h42).bind fun r49 => (asS r49.1).bind fun t50 => ((aSubS (.string x1) none (some (.int .i64 n2))).bind fun v51 => (asS v51).bind fun t52 => some (vbeq (.string t52) (.string t38))).bind fun b53 => bif b53 then ((aSubS (.string x1) (some (.int .i64 (IntKind.i64.wrap (n2 + 1)))) none).bind fun v54 => (asS v54).bind fun t55 => some (vbeq (.string t55) (.string t40))).bind fun b56 => bif b56 then (aBin .add (.string t38) (.string t50)).bind fun v57 => (asS v57).bind fun t58 => (aBin .add (.string t58) (.string t40)).bind fun v59 => (asS v59).bind fun t60 => some (.string t60, r49.2) else none else none else none else none := by kernel_rfl
theorem c72 (d : Nat) (args : List Value) (h : AHeap) : call Try.prog Ms (d + 1) 72 args h = evFn hk0 Try.prog (call Try.prog Ms d) M72 d Try.f72 args h := by kernel_rfl

/-! 113 loop.example/g00101/spec.l10Deep -/
noncomputable def F113_0 (hk : Hk (Value × AHeap)) (C : ACall) (N : Nat) (n1 : Nat) : Nx (Value × AHeap) := evSt hk Try.prog C M113 N Try.f113 [1, 1, 1, 0, 1, 2, 6] [n1]
noncomputable def s113_0 (hk : Hk (Value × AHeap)) (C : ACall) (N : Nat) (n1 : Nat) (x0 : Value) (x3 : Int) (x4 : ByteArray) (x5 : Int) (h : AHeap) := F113_0 hk C N n1 (⟨31, [(0, x0), (3, .int .i64 x3), (4, .string x4), (5, .int .i64 x5)]⟩) h
noncomputable def F113_1 (hk : Hk (Value × AHeap)) (C : ACall) (N : Nat) (n1 : Nat) : Nx (Value × AHeap) := evSt hk Try.prog C M113 N Try.f113 [1, 1, 1, 1, 1, 0, 1, 2, 6] [n1]
noncomputable def s113_1 (hk : Hk (Value × AHeap)) (C : ACall) (N : Nat) (n1 : Nat) (x3 : Int) (x4 : ByteArray) (x6 : Int) (h : AHeap) := F113_1 hk C N n1 (⟨31, [(3, .int .i64 x3), (4, .string x4), (6, .int .i64 x6)]⟩) h
theorem e113 (hk : Hk (Value × AHeap)) (C : ACall) (N : Nat) (x0 : Value) (h : AHeap) : evFn hk Try.prog C M113 N Try.f113 [x0] h =
    (C 116 [x0, .int .i64 5] h).bind fun r1 => (asI .i64 r1.1).bind fun n2 => s113_0 hk C N N x0 (IntKind.i64.wrap (27 + n2)) (⟨#[108, 111, 99, 97, 108, 32, 120, 32, 61, 32]⟩) 0 r1.2 := by kernel_rfl
theorem s113_0_eq (hk : Hk (Value × AHeap)) (C : ACall) (N : Nat) (n1 : Nat) (x0 : Value) (x3 : Int) (x4 : ByteArray) (x5 : Int) (h : AHeap) : s113_0 hk C N (n1 + 1) x0 x3 x4 x5 h =
    bif decide (x5 < x3) then aNewS h 9 [.string (⟨#[40]⟩), .string (⟨#[35]⟩), .string (⟨#[40]⟩)] 3 fun p3 h4 => (C 117 [x0, p3] h4).bind fun r5 => (asS r5.1).bind fun t6 => (aBin .add (.string x4) (.string t6)).bind fun v7 => (asS v7).bind fun t8 => s113_0 hk C N n1 x0 x3 t8 (IntKind.i64.wrap (x5 + 1)) r5.2 else (aBin .add (.string x4) (.string (⟨#[49]⟩))).bind fun v9 => (asS v9).bind fun t10 => s113_1 hk C N N x3 t10 0 h := by kernel_rfl
theorem s113_1_eq (hk : Hk (Value × AHeap)) (C : ACall) (N : Nat) (n1 : Nat) (x3 : Int) (x4 : ByteArray) (x6 : Int) (h : AHeap) : s113_1 hk C N (n1 + 1) x3 x4 x6 h =
    bif decide (x6 < x3) then (aBin .add (.string x4) (.string (⟨#[41]⟩))).bind fun v11 => (asS v11).bind fun t12 => s113_1 hk C N n1 x3 t12 (IntKind.i64.wrap (x6 + 1)) h else (aBin .add (.string x4) (.string (⟨#[59, 32]⟩))).bind fun v13 => (asS v13).bind fun t14 => some (.string t14, h) := by kernel_rfl
theorem c113 (d : Nat) (args : List Value) (h : AHeap) : call Try.prog Ms (d + 1) 113 args h = evFn hk0 Try.prog (call Try.prog Ms d) M113 d Try.f113 args h := by kernel_rfl

/-! 114 loop.example/g00101/spec.l10Program -/
noncomputable def F114_0 (hk : Hk (Value × AHeap)) (C : ACall) (N : Nat) (n1 : Nat) : Nx (Value × AHeap) := evSt hk Try.prog C M114 N Try.f114 [1, 1, 1, 1, 0, 1, 2, 6] [n1]
noncomputable def s114_0 (hk : Hk (Value × AHeap)) (C : ACall) (N : Nat) (n1 : Nat) (x0 : Value) (x2 : Bool) (x7 : Value) (x8 : ByteArray) (x9 : Int) (x10 : Int) (h : AHeap) := F114_0 hk C N n1 (⟨67, [(0, x0), (2, .bool x2), (7, x7), (8, .string x8), (9, .int .i64 x9), (10, .int .i64 x10)]⟩) h
noncomputable def F114_1 (hk : Hk (Value × AHeap)) (C : ACall) (N : Nat) (n1 : Nat) : Nx (Value × AHeap) := evSt hk Try.prog C M114 N Try.f114 [1, 1, 1, 1, 1, 0, 1, 4, 1, 1, 1, 1, 2, 6] [n1]
noncomputable def s114_1 (hk : Hk (Value × AHeap)) (C : ACall) (N : Nat) (n1 : Nat) (x0 : Value) (x7 : Value) (x8 : ByteArray) (x12 : Int) (x13 : Int) (h : AHeap) := F114_1 hk C N n1 (⟨67, [(0, x0), (7, x7), (8, .string x8), (12, .int .i64 x12), (13, .int .i64 x13)]⟩) h
noncomputable def F114_2 (hk : Hk (Value × AHeap)) (C : ACall) (N : Nat) : Nx (Value × AHeap) := evSt hk Try.prog C M114 N Try.f114 [1, 1, 1, 1, 1, 1] []
noncomputable def s114_2 (hk : Hk (Value × AHeap)) (C : ACall) (N : Nat) (x8 : ByteArray) (h : AHeap) := hk 16 (⟨67, [(8, .string x8)]⟩) h (F114_2 hk C N)
theorem e114 (hk : Hk (Value × AHeap)) (C : ACall) (N : Nat) (x0 : Value) (x1 : Int) (x2 : Bool) (h : AHeap) : evFn hk Try.prog C M114 N Try.f114 [x0, .int .i64 x1, .bool x2] h =
    (aCells (.agg (List.toArray [.slice none 0 0, .slice none 0 0, .int .i64 0, .int .i64 x1, .bool false, .bool x2]))).bind fun c1 => aNew h 184 c1 fun p2 h3 => (C 116 [x0, .int .i64 4] h3).bind fun r4 => (asI .i64 r4.1).bind fun n5 => s114_0 hk C N N x0 x2 p2 ⟨#[]⟩ (IntKind.i64.wrap (2 + n5)) 0 r4.2 := by kernel_rfl
theorem s114_0_eq (hk : Hk (Value × AHeap)) (C : ACall) (N : Nat) (n1 : Nat) (x0 : Value) (x2 : Bool) (x7 : Value) (x8 : ByteArray) (x9 : Int) (x10 : Int) (h : AHeap) : s114_0 hk C N (n1 + 1) x0 x2 x7 x8 x9 x10 h =
    bif decide (x10 < x9) then (C 159 [x0, x7, .int .i64 4] h).bind fun r6 => (asS r6.1).bind fun t7 => (aBin .add (.string x8) (.string t7)).bind fun v8 => (asS v8).bind fun t9 => s114_0 hk C N n1 x0 x2 x7 t9 x9 (IntKind.i64.wrap (x10 + 1)) r6.2 else bif x2 then (C 160 [x0, x7, .int .i64 3] h).bind fun r10 => (asS r10.1).bind fun t11 => (aBin .add (.string x8) (.string (⟨#[108, 111, 99, 97, 108, 32, 99, 99, 32, 61, 32, 99, 111, 40]⟩))).bind fun v12 => (asS v12).bind fun t13 => (aBin .add (.string t13) (.string t11)).bind fun v14 => (asS v14).bind fun t15 => (aBin .add (.string t15) (.string (⟨#[41, 59, 32, 112, 114, 105, 110, 116, 40, 114, 101, 115, 117, 109, 101, 40, 99, 99, 44, 32]⟩))).bind fun v16 => (asS v16).bind fun t17 => (C 161 [x0, x7, .int .i64 1] r10.2).bind fun r18 => (asS r18.1).bind fun t19 => (aBin .add (.string t17) (.string t19)).bind fun v20 => (asS v20).bind fun t21 => (aBin .add (.string t21) (.string (⟨#[41, 41, 59, 32, 112, 114, 105, 110, 116, 40, 115, 116, 97, 116, 101, 40, 99, 99, 41, 41, 59, 32]⟩))).bind fun v22 => (asS v22).bind fun t23 => (C 116 [x0, .int .i64 3] r18.2).bind fun r24 => (asI .i64 r24.1).bind fun n25 => s114_1 hk C N N x0 x7 t23 n25 0 r24.2 else s114_2 hk C N x8 h := by kernel_rfl
theorem s114_1_eq (hk : Hk (Value × AHeap)) (C : ACall) (N : Nat) (n1 : Nat) (x0 : Value) (x7 : Value) (x8 : ByteArray) (x12 : Int) (x13 : Int) (h : AHeap) : s114_1 hk C N (n1 + 1) x0 x7 x8 x12 x13 h =
    bif decide (x13 < x12) then (aBin .add (.string x8) (.string (⟨#[112, 114, 105, 110, 116, 40, 112, 99, 97, 108, 108, 40, 102, 110, 40, 120, 41, 32, 123, 32, 114, 101, 116, 117, 114, 110, 32, 114, 101, 115, 117, 109, 101, 40, 99, 99, 44, 32, 120, 41, 59, 32, 125, 44, 32]⟩))).bind fun v26 => (asS v26).bind fun t27 => (C 161 [x0, x7, .int .i64 1] h).bind fun r28 => (asS r28.1).bind fun t29 => (aBin .add (.string t27) (.string t29)).bind fun v30 => (asS v30).bind fun t31 => (aBin .add (.string t31) (.string (⟨#[41, 41, 59, 32]⟩))).bind fun v32 => (asS v32).bind fun t33 => (C 159 [x0, x7, .int .i64 3] r28.2).bind fun r34 => (asS r34.1).bind fun t35 => (aBin .add (.string t33) (.string t35)).bind fun v36 => (asS v36).bind fun t37 => s114_1 hk C N n1 x0 x7 t37 x12 (IntKind.i64.wrap (x13 + 1)) r34.2 else s114_2 hk C N x8 h := by kernel_rfl
theorem s114_2_j (C : ACall) (N : Nat) (x8 : ByteArray) (h : AHeap) : s114_2 hk0 C N x8 h = F114_2 hk0 C N (⟨67, [(8, .string x8)]⟩) h := by delta s114_2; exact hk0_app _ _ _ _
theorem s114_2_eq (hk : Hk (Value × AHeap)) (C : ACall) (N : Nat) (x8 : ByteArray) (h : AHeap) : F114_2 hk C N (⟨67, [(8, .string x8)]⟩) h =
    bif decide ((ByteArray.size x8 : Int) > 3000) then some (.string (⟨#[112, 114, 105, 110, 116, 40, 49, 41, 59, 32]⟩), h) else some (.string x8, h) := by kernel_rfl
theorem c114 (d : Nat) (args : List Value) (h : AHeap) : call Try.prog Ms (d + 1) 114 args h = evFn hk0 Try.prog (call Try.prog Ms d) M114 d Try.f114 args h := by kernel_rfl

/-! 115 loop.example/g00101/spec.l1Size -/
theorem e115 (hk : Hk (Value × AHeap)) (C : ACall) (N : Nat) (x0 : Value) (x1 : Int) (h : AHeap) : evFn hk Try.prog C M115 N Try.f115 [x0, .int .i64 x1] h =
    (aLen x0).bind fun v1 => (asI .i64 v1).bind fun n2 => bif decide ((IntKind.i64.wrap (2 + (IntKind.i64.wrap (Int.tdiv n2 20)))) > x1) then some (.int .i64 x1, h) else some (.int .i64 (IntKind.i64.wrap (2 + (IntKind.i64.wrap (Int.tdiv n2 20)))), h) := by kernel_rfl
theorem c115 (d : Nat) (args : List Value) (h : AHeap) : call Try.prog Ms (d + 1) 115 args h = evFn hk0 Try.prog (call Try.prog Ms d) M115 d Try.f115 args h := by kernel_rfl

/-! 116 loop.example/g00101/spec.l1Below -/
theorem e116 (hk : Hk (Value × AHeap)) (C : ACall) (N : Nat) (x0 : Value) (x1 : Int) (h : AHeap) : evFn hk Try.prog C M116 N Try.f116 [x0, .int .i64 x1] h =
    bif decide (x1 ≤ 0) then some (.int .i64 0, h) else bif decide (x1 ≤ 256) then (C 162 [x0] h).bind fun r1 => (asI .i64 r1.1).bind fun n2 => (aBin .rem (.int .i64 n2) (.int .i64 x1)).bind fun v3 => (asI .i64 v3).bind fun n4 => some (.int .i64 n4, r1.2) else (C 162 [x0] h).bind fun r5 => (asI .i64 r5.1).bind fun n6 => (C 162 [x0] r5.2).bind fun r7 => (asI .i64 r7.1).bind fun n8 => (C 162 [x0] r7.2).bind fun r9 => (asI .i64 r9.1).bind fun n10 => (C 162 [x0] r9.2).bind fun r11 => (asI .i64 r11.1).bind fun n12 => (aBin .rem (.int .i64 (IntKind.i64.wrap ((IntKind.i64.wrap ((IntKind.i64.wrap ((IntKind.i64.wrap (n6 * 16777216)) + (IntKind.i64.wrap (n8 * 65536)))) + (IntKind.i64.wrap (n10 * 256)))) + n12))) (.int .i64 x1)).bind fun v13 => (asI .i64 v13).bind fun n14 => some (.int .i64 n14, r11.2) := by kernel_rfl
theorem c116 (d : Nat) (args : List Value) (h : AHeap) : call Try.prog Ms (d + 1) 116 args h = evFn hk0 Try.prog (call Try.prog Ms d) M116 d Try.f116 args h := by kernel_rfl

/-! 117 loop.example/g00101/spec.l1Pick -/
theorem e117 (hk : Hk (Value × AHeap)) (C : ACall) (N : Nat) (x0 : Value) (x1 : Value) (h : AHeap) : evFn hk Try.prog C M117 N Try.f117 [x0, x1] h =
    (aLen x1).bind fun v1 => (asI .i64 v1).bind fun n2 => (C 116 [x0, .int .i64 n2] h).bind fun r3 => (asI .i64 r3.1).bind fun n4 => (aIdx x1 (.int .i64 n4) 1).bind fun v5 => (aLd1 r3.2 v5).bind fun v6 => (asS v6).bind fun t7 => some (.string t7, r3.2) := by kernel_rfl
theorem c117 (d : Nat) (args : List Value) (h : AHeap) : call Try.prog Ms (d + 1) 117 args h = evFn hk0 Try.prog (call Try.prog Ms d) M117 d Try.f117 args h := by kernel_rfl

/-! 159 loop.example/g00101/spec.l10Line -/
noncomputable def F159_0 (hk : Hk (Value × AHeap)) (C : ACall) (N : Nat) : Nx (Value × AHeap) := evSt hk Try.prog C M159 N Try.f159 [1, 1, 0, 1] []
noncomputable def s159_0 (hk : Hk (Value × AHeap)) (C : ACall) (N : Nat) (x0 : Value) (x1 : Value) (x2 : Int) (x35 : Bool) (h : AHeap) := hk 100003 (⟨231, [(0, x0), (1, x1), (2, .int .i64 x2), (35, .bool x35)]⟩) h (F159_0 hk C N)
noncomputable def F159_1 (hk : Hk (Value × AHeap)) (C : ACall) (N : Nat) : Nx (Value × AHeap) := evSt hk Try.prog C M159 N Try.f159 [1, 1, 1] []
noncomputable def s159_1 (hk : Hk (Value × AHeap)) (C : ACall) (N : Nat) (x0 : Value) (x1 : Value) (x2 : Int) (h : AHeap) := hk 4 (⟨231, [(0, x0), (1, x1), (2, .int .i64 x2)]⟩) h (F159_1 hk C N)
noncomputable def F159_2 (hk : Hk (Value × AHeap)) (C : ACall) (N : Nat) : Nx (Value × AHeap) := evSt hk Try.prog C M159 N Try.f159 [1, 1, 1, 0, 1, 2, 1] []
noncomputable def s159_2 (hk : Hk (Value × AHeap)) (C : ACall) (N : Nat) (x0 : Value) (x1 : Value) (x2 : Int) (x42 : Int) (x43 : Bool) (h : AHeap) := hk 100007 (⟨231, [(0, x0), (1, x1), (2, .int .i64 x2), (42, .int .i64 x42), (43, .bool x43)]⟩) h (F159_2 hk C N)
noncomputable def F159_3 (hk : Hk (Value × AHeap)) (C : ACall) (N : Nat) : Nx (Value × AHeap) := evSt hk Try.prog C M159 N Try.f159 [1, 1, 1, 0, 1, 2, 1, 5, 1, 5, 1] []
noncomputable def s159_3 (hk : Hk (Value × AHeap)) (C : ACall) (N : Nat) (x0 : Value) (x1 : Value) (x2 : Int) (x42 : Int) (x68 : Bool) (h : AHeap) := hk 100014 (⟨231, [(0, x0), (1, x1), (2, .int .i64 x2), (42, .int .i64 x42), (68, .bool x68)]⟩) h (F159_3 hk C N)
noncomputable def F159_5 (hk : Hk (Value × AHeap)) (C : ACall) (N : Nat) : Nx (Value × AHeap) := evSt hk Try.prog C M159 N Try.f159 [1, 1, 1, 1] []
noncomputable def s159_5 (hk : Hk (Value × AHeap)) (C : ACall) (N : Nat) (x0 : Value) (x1 : Value) (h : AHeap) := hk 46 (⟨231, [(0, x0), (1, x1)]⟩) h (F159_5 hk C N)
noncomputable def F159_4 (hk : Hk (Value × AHeap)) (C : ACall) (N : Nat) : Nx (Value × AHeap) := evSt hk Try.prog C M159 N Try.f159 [1, 1, 1, 0, 1, 2, 1, 5, 1, 5, 1, 5, 1, 5, 1, 5, 1] []
noncomputable def s159_4 (hk : Hk (Value × AHeap)) (C : ACall) (N : Nat) (x0 : Value) (x1 : Value) (x2 : Int) (x42 : Int) (x112 : Bool) (h : AHeap) := hk 100026 (⟨231, [(0, x0), (1, x1), (2, .int .i64 x2), (42, .int .i64 x42), (112, .bool x112)]⟩) h (F159_4 hk C N)
theorem e159 (hk : Hk (Value × AHeap)) (C : ACall) (N : Nat) (x0 : Value) (x1 : Value) (x2 : Int) (h : AHeap) : evFn hk Try.prog C M159 N Try.f159 [x0, x1, .int .i64 x2] h =
    (aNil x1).bind fun v1 => (aOff v1 3).bind fun v2 => (aLd1 h v2).bind fun v3 => (asI .i64 v3).bind fun n4 => (aNil x1).bind fun v5 => (aOff v5 3).bind fun v6 => (aSt h v6 (.int .i64 (IntKind.i64.wrap (n4 - 1))) 1).bind fun h7 => (aNil x1).bind fun v8 => (aOff v8 3).bind fun v9 => (aLd1 h7 v9).bind fun v10 => (asI .i64 v10).bind fun n11 => bif decide (n11 < 0) then s159_0 hk C N x0 x1 x2 true h7 else s159_0 hk C N x0 x1 x2 (decide (x2 ≤ 0)) h7 := by kernel_rfl
theorem s159_0_j (C : ACall) (N : Nat) (x0 : Value) (x1 : Value) (x2 : Int) (x35 : Bool) (h : AHeap) : s159_0 hk0 C N x0 x1 x2 x35 h = F159_0 hk0 C N (⟨231, [(0, x0), (1, x1), (2, .int .i64 x2), (35, .bool x35)]⟩) h := by delta s159_0; exact hk0_app _ _ _ _
theorem s159_0_eq (hk : Hk (Value × AHeap)) (C : ACall) (N : Nat) (x0 : Value) (x1 : Value) (x2 : Int) (x35 : Bool) (h : AHeap) : F159_0 hk C N (⟨231, [(0, x0), (1, x1), (2, .int .i64 x2), (35, .bool x35)]⟩) h =
    bif x35 then (C 161 [x0, x1, .int .i64 1] h).bind fun r12 => (asS r12.1).bind fun t13 => (aBin .add (.string (⟨#[112, 114, 105, 110, 116, 40]⟩)) (.string t13)).bind fun v14 => (asS v14).bind fun t15 => (aBin .add (.string t15) (.string (⟨#[41, 59, 32]⟩))).bind fun v16 => (asS v16).bind fun t17 => some (.string t17, r12.2) else s159_1 hk C N x0 x1 x2 h := by kernel_rfl
theorem s159_1_j (C : ACall) (N : Nat) (x0 : Value) (x1 : Value) (x2 : Int) (h : AHeap) : s159_1 hk0 C N x0 x1 x2 h = F159_1 hk0 C N (⟨231, [(0, x0), (1, x1), (2, .int .i64 x2)]⟩) h := by delta s159_1; exact hk0_app _ _ _ _
theorem s159_1_eq (hk : Hk (Value × AHeap)) (C : ACall) (N : Nat) (x0 : Value) (x1 : Value) (x2 : Int) (h : AHeap) : F159_1 hk C N (⟨231, [(0, x0), (1, x1), (2, .int .i64 x2)]⟩) h =
    (C 116 [x0, .int .i64 14] h).bind fun r18 => (asI .i64 r18.1).bind fun n19 => bif n19 == 0 then s159_2 hk C N x0 x1 x2 n19 (n19 == 0) r18.2 else s159_2 hk C N x0 x1 x2 n19 (n19 == 1) r18.2 := by kernel_rfl
theorem s159_2_j (C : ACall) (N : Nat) (x0 : Value) (x1 : Value) (x2 : Int) (x42 : Int) (x43 : Bool) (h : AHeap) : s159_2 hk0 C N x0 x1 x2 x42 x43 h = F159_2 hk0 C N (⟨231, [(0, x0), (1, x1), (2, .int .i64 x2), (42, .int .i64 x42), (43, .bool x43)]⟩) h := by delta s159_2; exact hk0_app _ _ _ _
theorem s159_2_eq (hk : Hk (Value × AHeap)) (C : ACall) (N : Nat) (x0 : Value) (x1 : Value) (x2 : Int) (x42 : Int) (x43 : Bool) (h : AHeap) : F159_2 hk C N (⟨231, [(0, x0), (1, x1), (2, .int .i64 x2), (42, .int .i64 x42), (43, .bool x43)]⟩) h =
    bif x43 then (C 161 [x0, x1, .int .i64 2] h).bind fun r20 => (asS r20.1).bind fun t21 => (C 189 [x1, .int .i64 1] r20.2).bind fun r22 => (asS r22.1).bind fun t23 => (aBin .add (.string (⟨#[108, 111, 99, 97, 108, 32]⟩)) (.string t23)).bind fun v24 => (asS v24).bind fun t25 => (aBin .add (.string t25) (.string (⟨#[32, 61, 32]⟩))).bind fun v26 => (asS v26).bind fun t27 => (aBin .add (.string t27) (.string t21)).bind fun v28 => (asS v28).bind fun t29 => (aBin .add (.string t29) (.string (⟨#[59, 32]⟩))).bind fun v30 => (asS v30).bind fun t31 => some (.string t31, r22.2) else bif x42 == 2 then (C 190 [x0, x1, .int .i64 2] h).bind fun r32 => (asS r32.1).bind fun t33 => (C 189 [x1, .int .i64 2] r32.2).bind fun r34 => (asS r34.1).bind fun t35 => (aBin .add (.string (⟨#[108, 111, 99, 97, 108, 32]⟩)) (.string t35)).bind fun v36 => (asS v36).bind fun t37 => (aBin .add (.string t37) (.string (⟨#[32, 61, 32]⟩))).bind fun v38 => (asS v38).bind fun t39 => (aBin .add (.string t39) (.string t33)).bind fun v40 => (asS v40).bind fun t41 => (aBin .add (.string t41) (.string (⟨#[59, 32]⟩))).bind fun v42 => (asS v42).bind fun t43 => some (.string t43, r34.2) else bif x42 == 3 then s159_3 hk C N x0 x1 x2 x42 (x42 == 3) h else s159_3 hk C N x0 x1 x2 x42 (x42 == 4) h := by kernel_rfl
theorem s159_3_j (C : ACall) (N : Nat) (x0 : Value) (x1 : Value) (x2 : Int) (x42 : Int) (x68 : Bool) (h : AHeap) : s159_3 hk0 C N x0 x1 x2 x42 x68 h = F159_3 hk0 C N (⟨231, [(0, x0), (1, x1), (2, .int .i64 x2), (42, .int .i64 x42), (68, .bool x68)]⟩) h := by delta s159_3; exact hk0_app _ _ _ _
theorem s159_3_eq (hk : Hk (Value × AHeap)) (C : ACall) (N : Nat) (x0 : Value) (x1 : Value) (x2 : Int) (x42 : Int) (x68 : Bool) (h : AHeap) : F159_3 hk C N (⟨231, [(0, x0), (1, x1), (2, .int .i64 x2), (42, .int .i64 x42), (68, .bool x68)]⟩) h =
    bif x68 then (C 191 [x0, x1, .int .i64 2] h).bind fun r44 => (asS r44.1).bind fun t45 => (C 189 [x1, .int .i64 3] r44.2).bind fun r46 => (asS r46.1).bind fun t47 => (aBin .add (.string (⟨#[108, 111, 99, 97, 108, 32]⟩)) (.string t47)).bind fun v48 => (asS v48).bind fun t49 => (aBin .add (.string t49) (.string (⟨#[32, 61, 32]⟩))).bind fun v50 => (asS v50).bind fun t51 => (aBin .add (.string t51) (.string t45)).bind fun v52 => (asS v52).bind fun t53 => (aBin .add (.string t53) (.string (⟨#[59, 32]⟩))).bind fun v54 => (asS v54).bind fun t55 => some (.string t55, r46.2) else bif x42 == 5 then (C 160 [x0, x1, .int .i64 (IntKind.i64.wrap (x2 - 1))] h).bind fun r56 => (asS r56.1).bind fun t57 => (C 189 [x1, .int .i64 4] r56.2).bind fun r58 => (asS r58.1).bind fun t59 => (aBin .add (.string (⟨#[108, 111, 99, 97, 108, 32]⟩)) (.string t59)).bind fun v60 => (asS v60).bind fun t61 => (aBin .add (.string t61) (.string (⟨#[32, 61, 32]⟩))).bind fun v62 => (asS v62).bind fun t63 => (aBin .add (.string t63) (.string t57)).bind fun v64 => (asS v64).bind fun t65 => (aBin .add (.string t65) (.string (⟨#[59, 32]⟩))).bind fun v66 => (asS v66).bind fun t67 => some (.string t67, r58.2) else bif x42 == 6 then (C 192 [x1, .int .i64 1] h).bind fun r68 => (aLen r68.1).bind fun v69 => (asI .i64 v69).bind fun n70 => bif decide (n70 > 0) then (C 117 [x0, r68.1] r68.2).bind fun r71 => (asS r71.1).bind fun t72 => (aBin .add (.string t72) (.string (⟨#[32, 61, 32]⟩))).bind fun v73 => (asS v73).bind fun t74 => (C 161 [x0, x1, .int .i64 2] r71.2).bind fun r75 => (asS r75.1).bind fun t76 => (aBin .add (.string t74) (.string t76)).bind fun v77 => (asS v77).bind fun t78 => (aBin .add (.string t78) (.string (⟨#[59, 32]⟩))).bind fun v79 => (asS v79).bind fun t80 => some (.string t80, r75.2) else s159_5 hk C N x0 x1 r68.2 else bif x42 == 7 then s159_4 hk C N x0 x1 x2 x42 (x42 == 7) h else s159_4 hk C N x0 x1 x2 x42 (x42 == 8) h := by kernel_rfl
theorem s159_5_j (C : ACall) (N : Nat) (x0 : Value) (x1 : Value) (h : AHeap) : s159_5 hk0 C N x0 x1 h = F159_5 hk0 C N (⟨231, [(0, x0), (1, x1)]⟩) h := by delta s159_5; exact hk0_app _ _ _ _
theorem s159_5_eq (hk : Hk (Value × AHeap)) (C : ACall) (N : Nat) (x0 : Value) (x1 : Value) (h : AHeap) : F159_5 hk C N (⟨231, [(0, x0), (1, x1)]⟩) h =
    (C 193 [x0, x1, .int .i64 3] h).bind fun r81 => (asS r81.1).bind fun t82 => (aBin .add (.string (⟨#[112, 114, 105, 110, 116, 40]⟩)) (.string t82)).bind fun v83 => (asS v83).bind fun t84 => (aBin .add (.string t84) (.string (⟨#[41, 59, 32]⟩))).bind fun v85 => (asS v85).bind fun t86 => some (.string t86, r81.2) := by kernel_rfl
theorem s159_4_j (C : ACall) (N : Nat) (x0 : Value) (x1 : Value) (x2 : Int) (x42 : Int) (x112 : Bool) (h : AHeap) : s159_4 hk0 C N x0 x1 x2 x42 x112 h = F159_4 hk0 C N (⟨231, [(0, x0), (1, x1), (2, .int .i64 x2), (42, .int .i64 x42), (112, .bool x112)]⟩) h := by delta s159_4; exact hk0_app _ _ _ _
theorem s159_4_eq (hk : Hk (Value × AHeap)) (C : ACall) (N : Nat) (x0 : Value) (x1 : Value) (x2 : Int) (x42 : Int) (x112 : Bool) (h : AHeap) : F159_4 hk C N (⟨231, [(0, x0), (1, x1), (2, .int .i64 x2), (42, .int .i64 x42), (112, .bool x112)]⟩) h =
    bif x112 then (C 192 [x1, .int .i64 3] h).bind fun r87 => (aLen r87.1).bind fun v88 => (asI .i64 v88).bind fun n89 => bif decide (n89 > 0) then (C 117 [x0, r87.1] r87.2).bind fun r90 => (asS r90.1).bind fun t91 => (aBin .add (.string t91) (.string (⟨#[91]⟩))).bind fun v92 => (asS v92).bind fun t93 => (C 193 [x0, x1, .int .i64 1] r90.2).bind fun r94 => (asS r94.1).bind fun t95 => (aBin .add (.string t93) (.string t95)).bind fun v96 => (asS v96).bind fun t97 => (aBin .add (.string t97) (.string (⟨#[93, 32, 61, 32]⟩))).bind fun v98 => (asS v98).bind fun t99 => (C 193 [x0, x1, .int .i64 2] r94.2).bind fun r100 => (asS r100.1).bind fun t101 => (aBin .add (.string t99) (.string t101)).bind fun v102 => (asS v102).bind fun t103 => (aBin .add (.string t103) (.string (⟨#[59, 32]⟩))).bind fun v104 => (asS v104).bind fun t105 => some (.string t105, r100.2) else s159_5 hk C N x0 x1 r87.2 else bif x42 == 9 then (C 194 [x0, x1, .int .i64 2] h).bind fun r106 => (asS r106.1).bind fun t107 => (aBin .add (.string (⟨#[105, 102, 32]⟩)) (.string t107)).bind fun v108 => (asS v108).bind fun t109 => (aBin .add (.string t109) (.string (⟨#[32]⟩))).bind fun v110 => (asS v110).bind fun t111 => (C 195 [x0, x1, .int .i64 (IntKind.i64.wrap (x2 - 1)), .bool false] r106.2).bind fun r112 => (asS r112.1).bind fun t113 => (aBin .add (.string t111) (.string t113)).bind fun v114 => (asS v114).bind fun t115 => (aBin .add (.string t115) (.string (⟨#[32]⟩))).bind fun v116 => (asS v116).bind fun t117 => (C 71 [x0, .int .i64 2] r112.2).bind fun r118 => (asB r118.1).bind fun b119 => bif b119 then (aBin .add (.string t117) (.string (⟨#[101, 108, 115, 101, 32]⟩))).bind fun v120 => (asS v120).bind fun t121 => (C 195 [x0, x1, .int .i64 (IntKind.i64.wrap (x2 - 1)), .bool false] r118.2).bind fun r122 => (asS r122.1).bind fun t123 => (aBin .add (.string t121) (.string t123)).bind fun v124 => (asS v124).bind fun t125 => (aBin .add (.string t125) (.string (⟨#[32]⟩))).bind fun v126 => (asS v126).bind fun t127 => some (.string t127, r122.2) else some (.string t117, r118.2) else bif x42 == 10 then (C 189 [x1, .int .i64 5] h).bind fun r128 => (asS r128.1).bind fun t129 => (aBin .add (.string (⟨#[108, 111, 99, 97, 108, 32]⟩)) (.string t129)).bind fun v130 => (asS v130).bind fun t131 => (aBin .add (.string t131) (.string (⟨#[32, 61, 32, 48, 59, 32, 119, 104, 105, 108, 101, 32]⟩))).bind fun v132 => (asS v132).bind fun t133 => (aBin .add (.string t133) (.string t129)).bind fun v134 => (asS v134).bind fun t135 => (aBin .add (.string t135) (.string (⟨#[32, 60, 32]⟩))).bind fun v136 => (asS v136).bind fun t137 => aNewS r128.2 9 [.string (⟨#[50]⟩), .string (⟨#[51]⟩), .string (⟨#[53]⟩)] 3 fun p138 h139 => (C 117 [x0, p138] h139).bind fun r140 => (asS r140.1).bind fun t141 => (aBin .add (.string t137) (.string t141)).bind fun v142 => (asS v142).bind fun t143 => (aBin .add (.string t143) (.string (⟨#[32, 123, 32]⟩))).bind fun v144 => (asS v144).bind fun t145 => (aBin .add (.string t145) (.string t129)).bind fun v146 => (asS v146).bind fun t147 => (aBin .add (.string t147) (.string (⟨#[32, 61, 32]⟩))).bind fun v148 => (asS v148).bind fun t149 => (aBin .add (.string t149) (.string t129)).bind fun v150 => (asS v150).bind fun t151 => (aBin .add (.string t151) (.string (⟨#[32, 43, 32, 49, 59, 32]⟩))).bind fun v152 => (asS v152).bind fun t153 => (C 159 [x0, x1, .int .i64 (IntKind.i64.wrap (x2 - 1))] r140.2).bind fun r154 => (asS r154.1).bind fun t155 => (aBin .add (.string t153) (.string t155)).bind fun v156 => (asS v156).bind fun t157 => (aBin .add (.string t157) (.string (⟨#[125, 32]⟩))).bind fun v158 => (asS v158).bind fun t159 => some (.string t159, r154.2) else bif x42 == 11 then (C 192 [x1, .int .i64 4] h).bind fun r160 => (aLen r160.1).bind fun v161 => (asI .i64 v161).bind fun n162 => bif decide (n162 > 0) then (C 117 [x0, r160.1] r160.2).bind fun r163 => (asS r163.1).bind fun t164 => (aBin .add (.string (⟨#[112, 114, 105, 110, 116, 40, 112, 99, 97, 108, 108, 40]⟩)) (.string t164)).bind fun v165 => (asS v165).bind fun t166 => (aBin .add (.string t166) (.string (⟨#[44, 32]⟩))).bind fun v167 => (asS v167).bind fun t168 => (C 193 [x0, x1, .int .i64 1] r163.2).bind fun r169 => (asS r169.1).bind fun t170 => (aBin .add (.string t168) (.string t170)).bind fun v171 => (asS v171).bind fun t172 => (aBin .add (.string t172) (.string (⟨#[41, 41, 59, 32, 112, 114, 105, 110, 116, 40, 102, 97, 105, 108, 101, 100, 40, 41, 41, 59, 32]⟩))).bind fun v173 => (asS v173).bind fun t174 => some (.string t174, r169.2) else s159_5 hk C N x0 x1 r160.2 else bif x42 == 12 then (C 192 [x1, .int .i64 3] h).bind fun r175 => (aLen r175.1).bind fun v176 => (asI .i64 v176).bind fun n177 => bif decide (n177 > 0) then (C 117 [x0, r175.1] r175.2).bind fun r178 => (asS r178.1).bind fun t179 => (aBin .add (.string (⟨#[112, 114, 105, 110, 116, 40, 110, 101, 120, 116, 40]⟩)) (.string t179)).bind fun v180 => (asS v180).bind fun t181 => (aBin .add (.string t181) (.string (⟨#[44, 32]⟩))).bind fun v182 => (asS v182).bind fun t183 => (C 193 [x0, x1, .int .i64 1] r178.2).bind fun r184 => (asS r184.1).bind fun t185 => aNewS r184.2 9 [.string (⟨#[110, 105, 108]⟩), .string (⟨#[49]⟩), .string t185] 3 fun p186 h187 => (C 117 [x0, p186] h187).bind fun r188 => (asS r188.1).bind fun t189 => (aBin .add (.string t183) (.string t189)).bind fun v190 => (asS v190).bind fun t191 => (aBin .add (.string t191) (.string (⟨#[41, 41, 59, 32]⟩))).bind fun v192 => (asS v192).bind fun t193 => some (.string t193, r188.2) else s159_5 hk C N x0 x1 r175.2 else s159_5 hk C N x0 x1 h := by kernel_rfl
theorem c159 (d : Nat) (args : List Value) (h : AHeap) : call Try.prog Ms (d + 1) 159 args h = evFn hk0 Try.prog (call Try.prog Ms d) M159 d Try.f159 args h := by kernel_rfl

/-! 160 loop.example/g00101/spec.l10Lambda -/
theorem e160 (hk : Hk (Value × AHeap)) (C : ACall) (N : Nat) (x0 : Value) (x1 : Value) (x2 : Int) (h : AHeap) : evFn hk Try.prog C M160 N Try.f160 [x0, x1, .int .i64 x2] h =
    (aNil x1).bind fun v1 => (aOff v1 0).bind fun v2 => (aLd1 h v2).bind fun v3 => (aNil x1).bind fun v4 => (aOff v4 1).bind fun v5 => (aLd1 h v5).bind fun v6 => (aNil x1).bind fun v7 => (aOff v7 4).bind fun v8 => (aLd1 h v8).bind fun v9 => (asB v9).bind fun b10 => ((aLd1 h v5).bind fun v11 => some (vbeq v11 v6)).bind fun b12 => bif b12 then ((aLd1 h v8).bind fun v13 => (asB v13).bind fun b14 => some (vbeq (.bool b14) (.bool b10))).bind fun b15 => bif b15 then ((aLd1 h v8).bind fun v16 => (asB v16).bind fun b17 => some (vbeq (.bool b17) (.bool b10))).bind fun b18 => bif b18 then (aNil x1).bind fun v19 => (aOff v19 4).bind fun v20 => (aSt h v20 (.bool true) 1).bind fun h21 => (C 189 [x1, .int .i64 1] h21).bind fun r22 => (asS r22.1).bind fun t23 => (aBin .add (.string (⟨#[102, 110, 40]⟩)) (.string t23)).bind fun v24 => (asS v24).bind fun t25 => (aBin .add (.string t25) (.string (⟨#[41, 32]⟩))).bind fun v26 => (asS v26).bind fun t27 => (C 195 [x0, x1, .int .i64 (IntKind.i64.wrap (x2 - 1)), .bool true] r22.2).bind fun r28 => (asS r28.1).bind fun t29 => (aBin .add (.string t27) (.string t29)).bind fun v30 => (asS v30).bind fun t31 => (aNil x1).bind fun v32 => (aOff v32 0).bind fun v33 => (aSt r28.2 v33 v3 1).bind fun h34 => (aNil x1).bind fun v35 => (aOff v35 1).bind fun v36 => (aSt h34 v36 v6 1).bind fun h37 => (aNil x1).bind fun v38 => (aOff v38 4).bind fun v39 => (aSt h37 v39 (.bool b10) 1).bind fun h40 => some (.string t31, h40) else none else none else none := by kernel_rfl
theorem c160 (d : Nat) (args : List Value) (h : AHeap) : call Try.prog Ms (d + 1) 160 args h = evFn hk0 Try.prog (call Try.prog Ms d) M160 d Try.f160 args h := by kernel_rfl
end Go.Proofs.Ytadmoackacickaa
