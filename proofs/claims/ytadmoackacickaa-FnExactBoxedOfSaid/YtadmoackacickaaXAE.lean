import Derived.Test.YtadmoackacickaaXAD
import Derived.KernelRfl
import Derived.Test.YtadmoackacickaaProg
import Derived.Test.YtadmoackacickaaRows
import Derived.Test.YtadmoackacickaaChecked
import Derived.Carry
set_option linter.unusedSimpArgs false
set_option linter.unusedVariables false
namespace Go.Proofs.Ytadmoackacickaa
open Go Go.AH
noncomputable section
variable (hk : Hk (Value × AHeap)) (C : ACall) (N : Nat)
def F61_0 (n1 : Nat) : Nx (Value × AHeap) := evSt hk Tp C M61 N Try.f61 [1, 1, 0, 1, 2, 6] [n1]
def s61_0 (n1 : Nat) (x0 x1 : Value) (x5 : Int) (h : AHeap) := F61_0 hk C N n1 (⟨27, [(0, x0), (1, x1), (5, .int .i64 x5)]⟩) h
theorem e61 (x0 x1 : Value) (h : AHeap) : evFn hk Tp C M61 N Try.f61 [x0, x1] h =
  (aLen x0).bind fun v1 => (asI .i64 v1).bind fun n2 => (aLen x1).bind fun v3 => (asI .i64 v3).bind fun n4 => bif n2 != n4 then some (.bool false, h) else s61_0 hk C N N x0 x1 0 h := by kernel_rfl
theorem s61_0_eq (n1 : Nat) (x0 x1 : Value) (x5 : Int) (h : AHeap) : s61_0 hk C N (n1 + 1) x0 x1 x5 h =
  (aLen x0).bind fun v5 => (asI .i64 v5).bind fun n6 => bif decide (x5 < n6) then (aIdx x0 (.int .i64 x5) 4).bind fun v7 => (aLdN h v7 4).bind fun v8 => (aIdx x1 (.int .i64 x5) 4).bind fun v9 => (aLdN h v9 4).bind fun v10 => (C 106 [v8, v10] h).bind fun r11 => (asB r11.1).bind fun b12 => bif !b12 then some (.bool false, r11.2) else s61_0 hk C N n1 x0 x1 (IntKind.i64.wrap (x5 + 1)) r11.2 else some (.bool true, h) := by kernel_rfl
theorem c61 (d : Nat) (args : List Value) (h : AHeap) : call Tp Ms (d + 1) 61 args h = evFn hk0 Tp (call Tp Ms d) M61 d Try.f61 args h := by kernel_rfl
theorem e97 (x0 : Value) (x1 : Int) (h : AHeap) : evFn hk Tp C M97 N Try.f97 [x0, .int .i64 x1] h =
  (aCells x0).bind fun c1 => aNew h 133 c1 fun p2 h3 => (aOff p2 1).bind fun v4 => (aLd1 h3 v4).bind fun v5 => (asS v5).bind fun t6 => bif decide ((IntKind.i64.wrap (x1 - (ByteArray.size t6 : Int))) < 0) then some (.int .i64 (-1), h3) else (aOff p2 3).bind fun v7 => (aLd1 h3 v7).bind fun v8 => (C 144 [v8, .int .i64 (IntKind.i64.wrap (x1 - (ByteArray.size t6 : Int)))] h3).bind fun r9 => (asI .i64 r9.1).bind fun n10 => bif decide (n10 < 0) then some (.int .i64 (-1), r9.2) else some (.int .i64 n10, r9.2) := by kernel_rfl
theorem c97 (d : Nat) (args : List Value) (h : AHeap) : call Tp Ms (d + 1) 97 args h = evFn hk0 Tp (call Tp Ms d) M97 d Try.f97 args h := by kernel_rfl
theorem e98 (x0 x1 x2 : Int) (h : AHeap) : evFn hk Tp C M98 N Try.f98 [.int .i64 x0, .int .i64 x1, .int .i64 x2] h =
  bif decide (x0 ≥ x1) then some (.bool (decide (x0 ≤ x2)), h) else some (.bool false, h) := by kernel_rfl
theorem c98 (d : Nat) (args : List Value) (h : AHeap) : call Tp Ms (d + 1) 98 args h = evFn hk0 Tp (call Tp Ms d) M98 d Try.f98 args h := by kernel_rfl
def F99_0 : Nx (Value × AHeap) := evSt hk Tp C M99 N Try.f99 [1, 0, 2, 1] []
def s99_0 (x0 : Int) (x3 : Bool) (h : AHeap) := hk 100002 (⟨30, [(0, .int .i64 x0), (3, .bool x3)]⟩) h (F99_0 hk C N)
def F99_1 : Nx (Value × AHeap) := evSt hk Tp C M99 N Try.f99 [1, 0, 2, 1, 5, 1] []
def s99_1 (x0 : Int) (x10 : Bool) (h : AHeap) := hk 100004 (⟨30, [(0, .int .i64 x0), (10, .bool x10)]⟩) h (F99_1 hk C N)
def F99_2 : Nx (Value × AHeap) := evSt hk Tp C M99 N Try.f99 [1, 0, 2, 1, 5, 1, 5, 1, 5, 1, 5, 1] []
def s99_2 (x23 : Bool) (h : AHeap) := hk 100010 (⟨30, [(23, .bool x23)]⟩) h (F99_2 hk C N)
theorem e99 (x0 : Int) (h : AHeap) : evFn hk Tp C M99 N Try.f99 [.int .i64 x0] h =
  bif decide (x0 ≥ 1) then s99_0 hk C N x0 (decide (x0 ≤ 13)) h else s99_0 hk C N x0 false h := by kernel_rfl
theorem s99_0_j (x0 : Int) (x3 : Bool) (h : AHeap) : s99_0 hk0 C N x0 x3 h = F99_0 hk0 C N (⟨30, [(0, .int .i64 x0), (3, .bool x3)]⟩) h := by delta s99_0; exact hk0_app _ _ _ _
theorem s99_0_eq (x0 : Int) (x3 : Bool) (h : AHeap) : F99_0 hk C N (⟨30, [(0, .int .i64 x0), (3, .bool x3)]⟩) h =
  bif x3 then some (.int .i64 1, h) else bif decide (x0 ≥ 14) then s99_1 hk C N x0 (decide (x0 ≤ 20)) h else s99_1 hk C N x0 false h := by kernel_rfl
theorem s99_1_j (x0 : Int) (x10 : Bool) (h : AHeap) : s99_1 hk0 C N x0 x10 h = F99_1 hk0 C N (⟨30, [(0, .int .i64 x0), (10, .bool x10)]⟩) h := by delta s99_1; exact hk0_app _ _ _ _
theorem s99_1_eq (x0 : Int) (x10 : Bool) (h : AHeap) : F99_1 hk C N (⟨30, [(0, .int .i64 x0), (10, .bool x10)]⟩) h =
  bif x10 then some (.int .i64 2, h) else bif x0 == 21 then some (.int .i64 3, h) else bif x0 == 22 then some (.int .i64 4, h) else bif x0 == 23 then s99_2 hk C N true h else s99_2 hk C N (x0 == 24) h := by kernel_rfl
theorem s99_2_j (x23 : Bool) (h : AHeap) : s99_2 hk0 C N x23 h = F99_2 hk0 C N (⟨30, [(23, .bool x23)]⟩) h := by delta s99_2; exact hk0_app _ _ _ _
theorem s99_2_eq (x23 : Bool) (h : AHeap) : F99_2 hk C N (⟨30, [(23, .bool x23)]⟩) h =
  bif x23 then some (.int .i64 5, h) else some (.int .i64 0, h) := by kernel_rfl
theorem c99 (d : Nat) (args : List Value) (h : AHeap) : call Tp Ms (d + 1) 99 args h = evFn hk0 Tp (call Tp Ms d) M99 d Try.f99 args h := by kernel_rfl
def F100_0 (n1 : Nat) : Nx (Value × AHeap) := evSt hk Tp C M100 N Try.f100 [1, 1, 1, 1, 0, 1, 2, 1, 4, 0, 2, 6] [n1]
def s100_0 (n1 : Nat) (x4 : Int) (x5 : Value) (x6 : Int) (h : AHeap) := F100_0 hk C N n1 (⟨88, [(4, .int .i64 x4), (5, x5), (6, .int .i64 x6)]⟩) h
def F100_4 : Nx (Value × AHeap) := evSt hk Tp C M100 N Try.f100 [1, 1, 1, 1, 1] []
def s100_4 (x4 : Int) (x5 : Value) (x6 : Int) (h : AHeap) := hk 39 (⟨88, [(4, .int .i64 x4), (5, x5), (6, .int .i64 x6)]⟩) h (F100_4 hk C N)
def F100_1 : Nx (Value × AHeap) := evSt hk Tp C M100 N Try.f100 [1, 1, 1, 1, 0, 1, 2, 1, 5, 1, 5, 1] []
def s100_1 (x4 : Int) (x5 : Value) (x6 x13 : Int) (x29 : Bool) (h : AHeap) := hk 100016 (⟨88, [(4, .int .i64 x4), (5, x5), (6, .int .i64 x6), (13, .int .i64 x13), (29, .bool x29)]⟩) h (F100_1 hk C N)
def F100_5 (n1 : Nat) : Nx (Value × AHeap) := evSt hk Tp C M100 N Try.f100 [1, 1, 1, 1, 1, 0, 1, 2, 6] [n1]
def s100_5 (n1 : Nat) (x4 : Int) (x5 : Value) (x6 x7 : Int) (h : AHeap) := F100_5 hk C N n1 (⟨88, [(4, .int .i64 x4), (5, x5), (6, .int .i64 x6), (7, .int .i64 x7)]⟩) h
def F100_2 (n1 : Nat) : Nx (Value × AHeap) := evSt hk Tp C M100 N Try.f100 [1, 1, 1, 1, 0, 1, 2, 1, 5, 1, 5, 1, 5, 1, 4, 1, 2, 6] [n1]
def s100_2 (n1 : Nat) (x4 : Int) (x5 : Value) (x6 : Int) (h : AHeap) := F100_2 hk C N n1 (⟨88, [(4, .int .i64 x4), (5, x5), (6, .int .i64 x6)]⟩) h
def F100_3 : Nx (Value × AHeap) := evSt hk Tp C M100 N Try.f100 [1, 1, 1, 1, 0, 1, 2, 1, 5, 1, 5, 1, 5, 1, 5, 1] []
def s100_3 (x4 : Int) (x5 : Value) (x6 x13 : Int) (x46 : Bool) (h : AHeap) := hk 100026 (⟨88, [(4, .int .i64 x4), (5, x5), (6, .int .i64 x6), (13, .int .i64 x13), (46, .bool x46)]⟩) h (F100_3 hk C N)
def F100_6 (n1 : Nat) : Nx (Value × AHeap) := evSt hk Tp C M100 N Try.f100 [1, 1, 1, 1, 1, 0, 1, 2, 3, 1] [n1]
def s100_6 (n1 : Nat) (x4 : Int) (x5 : Value) (x6 x7 : Int) (h : AHeap) := hk 42 (⟨88, [(4, .int .i64 x4), (5, x5), (6, .int .i64 x6), (7, .int .i64 x7)]⟩) h (F100_6 hk C N n1)
theorem e100 (x0 : Value) (h : AHeap) : evFn hk Tp C M100 N Try.f100 [x0] h =
  (aCells x0).bind fun c1 => aNew h 73 c1 fun p2 h3 => (aOff p2 3).bind fun v4 => (aLd1 h3 v4).bind fun v5 => (aLen v5).bind fun v6 => (asI .i64 v6).bind fun n7 => aNewS h3 3 [] 0 fun p8 h9 => (aOff p2 0).bind fun v10 => (aLd1 h9 v10).bind fun v11 => (asI .i64 v11).bind fun n12 => bif n12 == 6 then s100_0 hk C N N n7 p8 0 h9 else bif n12 == 7 then s100_4 hk C N n7 p8 5 h9 else bif n12 == 8 then s100_1 hk C N n7 p8 0 n12 (n12 == 8) h9 else bif n12 == 10 then s100_1 hk C N n7 p8 0 n12 (n12 == 10) h9 else bif n12 == 12 then s100_1 hk C N n7 p8 0 n12 (n12 == 12) h9 else bif n12 == 13 then s100_1 hk C N n7 p8 0 n12 (n12 == 13) h9 else s100_1 hk C N n7 p8 0 n12 (n12 == 24) h9 := by kernel_rfl
theorem s100_0_eq (n1 : Nat) (x4 : Int) (x5 : Value) (x6 : Int) (h : AHeap) : s100_0 hk C N (n1 + 1) x4 x5 x6 h =
  (aLen x5).bind fun v13 => (asI .i64 v13).bind fun n14 => bif decide ((IntKind.i64.wrap (n14 + 1)) < x4) then aNewS h 3 [.int .i64 4] 1 fun p15 h16 => (aApp h16 3 1 8 x5 p15).bind fun r17 => s100_0 hk C N n1 x4 r17.1 x6 r17.2 else aNewS h 3 [.int .i64 3] 1 fun p18 h19 => (aApp h19 3 1 8 x5 p18).bind fun r20 => s100_4 hk C N x4 r20.1 x6 r20.2 := by kernel_rfl
theorem s100_4_j (x4 : Int) (x5 : Value) (x6 : Int) (h : AHeap) : s100_4 hk0 C N x4 x5 x6 h = F100_4 hk0 C N (⟨88, [(4, .int .i64 x4), (5, x5), (6, .int .i64 x6)]⟩) h := by delta s100_4; exact hk0_app _ _ _ _
theorem s100_4_eq (x4 : Int) (x5 : Value) (x6 : Int) (h : AHeap) : F100_4 hk C N (⟨88, [(4, .int .i64 x4), (5, x5), (6, .int .i64 x6)]⟩) h =
  s100_5 hk C N N x4 x5 x6 0 h := by kernel_rfl
theorem s100_1_j (x4 : Int) (x5 : Value) (x6 x13 : Int) (x29 : Bool) (h : AHeap) : s100_1 hk0 C N x4 x5 x6 x13 x29 h = F100_1 hk0 C N (⟨88, [(4, .int .i64 x4), (5, x5), (6, .int .i64 x6), (13, .int .i64 x13), (29, .bool x29)]⟩) h := by delta s100_1; exact hk0_app _ _ _ _
theorem s100_1_eq (x4 : Int) (x5 : Value) (x6 x13 : Int) (x29 : Bool) (h : AHeap) : F100_1 hk C N (⟨88, [(4, .int .i64 x4), (5, x5), (6, .int .i64 x6), (13, .int .i64 x13), (29, .bool x29)]⟩) h =
  bif x29 then aNewS h 3 [.int .i64 1, .int .i64 1] 2 fun p21 h22 => s100_4 hk C N x4 p21 x6 h22 else bif x13 == 9 then aNewS h 3 [.int .i64 1] 1 fun p23 h24 => s100_2 hk C N N x4 p23 x6 h24 else bif x13 == 11 then s100_3 hk C N x4 x5 x6 x13 (x13 == 11) h else bif x13 == 14 then s100_3 hk C N x4 x5 x6 x13 (x13 == 14) h else bif x13 == 15 then s100_3 hk C N x4 x5 x6 x13 (x13 == 15) h else bif x13 == 19 then s100_3 hk C N x4 x5 x6 x13 (x13 == 19) h else s100_3 hk C N x4 x5 x6 x13 (x13 == 23) h := by kernel_rfl
theorem s100_5_eq (n1 : Nat) (x4 : Int) (x5 : Value) (x6 x7 : Int) (h : AHeap) : s100_5 hk C N (n1 + 1) x4 x5 x6 x7 h =
  bif decide (x7 < x4) then bif x6 != 0 then s100_6 hk C N n1 x4 x5 x6 x7 h else (aLen x5).bind fun v25 => (asI .i64 v25).bind fun n26 => bif List.all [x5, .bool (n26 == x4)] isS2 then some (.tuple (List.toArray [x5, .bool (n26 == x4)]), h) else none else (aLen x5).bind fun v27 => (asI .i64 v27).bind fun n28 => bif List.all [x5, .bool (n28 == x4)] isS2 then some (.tuple (List.toArray [x5, .bool (n28 == x4)]), h) else none := by kernel_rfl
theorem s100_2_eq (n1 : Nat) (x4 : Int) (x5 : Value) (x6 : Int) (h : AHeap) : s100_2 hk C N (n1 + 1) x4 x5 x6 h =
  (aLen x5).bind fun v29 => (asI .i64 v29).bind fun n30 => bif decide (n30 < x4) then aNewS h 3 [.int .i64 1] 1 fun p31 h32 => (aApp h32 3 1 8 x5 p31).bind fun r33 => s100_2 hk C N n1 x4 r33.1 x6 r33.2 else s100_4 hk C N x4 x5 x6 h := by kernel_rfl
theorem s100_3_j (x4 : Int) (x5 : Value) (x6 x13 : Int) (x46 : Bool) (h : AHeap) : s100_3 hk0 C N x4 x5 x6 x13 x46 h = F100_3 hk0 C N (⟨88, [(4, .int .i64 x4), (5, x5), (6, .int .i64 x6), (13, .int .i64 x13), (46, .bool x46)]⟩) h := by delta s100_3; exact hk0_app _ _ _ _
theorem s100_3_eq (x4 : Int) (x5 : Value) (x6 x13 : Int) (x46 : Bool) (h : AHeap) : F100_3 hk C N (⟨88, [(4, .int .i64 x4), (5, x5), (6, .int .i64 x6), (13, .int .i64 x13), (46, .bool x46)]⟩) h =
  bif x46 then aNewS h 3 [.int .i64 1] 1 fun p34 h35 => s100_4 hk C N x4 p34 x6 h35 else bif x13 == 16 then aNewS h 3 [.int .i64 1, .int .i64 1, .int .i64 1] 3 fun p36 h37 => s100_4 hk C N x4 p36 x6 h37 else bif x13 == 17 then aNewS h 3 [.int .i64 1, .int .i64 3] 2 fun p38 h39 => bif x4 == 3 then aNewS h39 3 [.int .i64 1, .int .i64 3, .int .i64 3] 3 fun p40 h41 => s100_4 hk C N x4 p40 x6 h41 else s100_4 hk C N x4 p38 x6 h39 else bif x13 == 18 then aNewS h 3 [.int .i64 1, .int .i64 3] 2 fun p42 h43 => s100_4 hk C N x4 p42 x6 h43 else bif x13 == 20 then aNewS h 3 [.int .i64 6] 1 fun p44 h45 => s100_4 hk C N x4 p44 x6 h45 else bif x13 == 21 then s100_4 hk C N x4 x5 2 h else s100_4 hk C N x4 x5 x6 h := by kernel_rfl
theorem s100_6_j (n1 : Nat) (x4 : Int) (x5 : Value) (x6 x7 : Int) (h : AHeap) : s100_6 hk0 C N n1 x4 x5 x6 x7 h = F100_6 hk0 C N n1 (⟨88, [(4, .int .i64 x4), (5, x5), (6, .int .i64 x6), (7, .int .i64 x7)]⟩) h := by delta s100_6; exact hk0_app _ _ _ _
theorem s100_6_eq (n1 : Nat) (x4 : Int) (x5 : Value) (x6 x7 : Int) (h : AHeap) : F100_6 hk C N n1 (⟨88, [(4, .int .i64 x4), (5, x5), (6, .int .i64 x6), (7, .int .i64 x7)]⟩) h =
  aNewS h 3 [.int .i64 x6] 1 fun p46 h47 => (aApp h47 3 1 8 x5 p46).bind fun r48 => s100_5 hk C N n1 x4 r48.1 x6 (IntKind.i64.wrap (x7 + 1)) r48.2 := by kernel_rfl
theorem c100 (d : Nat) (args : List Value) (h : AHeap) : call Tp Ms (d + 1) 100 args h = evFn hk0 Tp (call Tp Ms d) M100 d Try.f100 args h := by kernel_rfl
def F101_0 : Nx (Value × AHeap) := evSt hk Tp C M101 N Try.f101 [1, 0, 1, 2, 1] []
def s101_0 (x1 : Value) (x5 : Int) (x6 : Bool) (h : AHeap) := hk 100006 (⟨76, [(1, x1), (5, .int .i64 x5), (6, .bool x6)]⟩) h (F101_0 hk C N)
def F101_1 (n1 : Nat) : Nx (Value × AHeap) := evSt hk Tp C M101 N Try.f101 [1, 0, 1, 2, 1, 5, 1, 4, 0, 1, 2, 6] [n1]
def s101_1 (n1 : Nat) (x1 : Value) (x3 : Int) (h : AHeap) := F101_1 hk C N n1 (⟨76, [(1, x1), (3, .int .i64 x3)]⟩) h
def F101_2 : Nx (Value × AHeap) := evSt hk Tp C M101 N Try.f101 [1, 1] []
def s101_2 (x1 : Value) (h : AHeap) := hk 14 (⟨76, [(1, x1)]⟩) h (F101_2 hk C N)
theorem e101 (x0 : Value) (h : AHeap) : evFn hk Tp C M101 N Try.f101 [x0] h =
  (aCells x0).bind fun c1 => aNew h 73 c1 fun p2 h3 => (aOff p2 0).bind fun v4 => (aLd1 h3 v4).bind fun v5 => (asI .i64 v5).bind fun n6 => bif n6 == 5 then s101_0 hk C N p2 n6 (n6 == 5) h3 else bif n6 == 14 then s101_0 hk C N p2 n6 (n6 == 14) h3 else bif n6 == 15 then s101_0 hk C N p2 n6 (n6 == 15) h3 else s101_0 hk C N p2 n6 (n6 == 22) h3 := by kernel_rfl
theorem s101_0_j (x1 : Value) (x5 : Int) (x6 : Bool) (h : AHeap) : s101_0 hk0 C N x1 x5 x6 h = F101_0 hk0 C N (⟨76, [(1, x1), (5, .int .i64 x5), (6, .bool x6)]⟩) h := by delta s101_0; exact hk0_app _ _ _ _
theorem s101_0_eq (x1 : Value) (x5 : Int) (x6 : Bool) (h : AHeap) : F101_0 hk C N (⟨76, [(1, x1), (5, .int .i64 x5), (6, .bool x6)]⟩) h =
  bif x6 then (aOff x1 1).bind fun v7 => (aLd1 h v7).bind fun v8 => (asS v8).bind fun t9 => (C 145 [.string t9] h).bind fun r10 => (asB r10.1).bind fun b11 => bif b11 then (aOff x1 2).bind fun v12 => (aLd1 r10.2 v12).bind fun v13 => (asI .i64 v13).bind fun n14 => some (.bool (n14 == 0), r10.2) else some (.bool false, r10.2) else bif x5 == 4 then s101_1 hk C N N x1 0 h else s101_2 hk C N x1 h := by kernel_rfl
theorem s101_1_eq (n1 : Nat) (x1 : Value) (x3 : Int) (h : AHeap) : s101_1 hk C N (n1 + 1) x1 x3 h =
  (aOff x1 1).bind fun v15 => (aLd1 h v15).bind fun v16 => (asS v16).bind fun t17 => bif decide (x3 < (ByteArray.size t17 : Int)) then (aOff x1 1).bind fun v18 => (aLd1 h v18).bind fun v19 => (asS v19).bind fun t20 => (aStrIx (.string t20) (.int .i64 x3)).bind fun v21 => (asI .u8 v21).bind fun n22 => (C 90 [.int .u8 n22] h).bind fun r23 => (asB r23.1).bind fun b24 => bif !b24 then some (.bool false, r23.2) else s101_1 hk C N n1 x1 (IntKind.i64.wrap (x3 + 1)) r23.2 else (aOff x1 1).bind fun v25 => (aLd1 h v25).bind fun v26 => (asS v26).bind fun t27 => bif decide ((ByteArray.size t27 : Int) ≤ 160) then (aOff x1 2).bind fun v28 => (aLd1 h v28).bind fun v29 => (asI .i64 v29).bind fun n30 => some (.bool (n30 == 0), h) else some (.bool false, h) := by kernel_rfl
theorem s101_2_j (x1 : Value) (h : AHeap) : s101_2 hk0 C N x1 h = F101_2 hk0 C N (⟨76, [(1, x1)]⟩) h := by delta s101_2; exact hk0_app _ _ _ _
theorem s101_2_eq (x1 : Value) (h : AHeap) : F101_2 hk C N (⟨76, [(1, x1)]⟩) h =
  (aOff x1 1).bind fun v31 => (aLd1 h v31).bind fun v32 => (asS v32).bind fun t33 => bif !(t33.toList == (⟨#[]⟩ : ByteArray).toList) then some (.bool false, h) else (aOff x1 0).bind fun v34 => (aLd1 h v34).bind fun v35 => (asI .i64 v35).bind fun n36 => bif n36 == 2 then (aOff x1 2).bind fun v37 => (aLd1 h v37).bind fun v38 => (asI .i64 v38).bind fun n39 => bif n39 == 0 then some (.bool true, h) else (aOff x1 2).bind fun v40 => (aLd1 h v40).bind fun v41 => (asI .i64 v41).bind fun n42 => some (.bool (n42 == 1), h) else bif n36 == 3 then (aOff x1 2).bind fun v43 => (aLd1 h v43).bind fun v44 => (asI .i64 v44).bind fun n45 => (C 98 [.int .i64 n45, .int .i64 0, .int .i64 999999999999999] h).bind fun r46 => (asB r46.1).bind fun b47 => some (.bool b47, r46.2) else bif n36 == 10 then (aOff x1 2).bind fun v48 => (aLd1 h v48).bind fun v49 => (asI .i64 v49).bind fun n50 => (C 98 [.int .i64 n50, .int .i64 1, .int .i64 10] h).bind fun r51 => (asB r51.1).bind fun b52 => some (.bool b52, r51.2) else bif n36 == 11 then (aOff x1 2).bind fun v53 => (aLd1 h v53).bind fun v54 => (asI .i64 v54).bind fun n55 => (C 98 [.int .i64 n55, .int .i64 1, .int .i64 3] h).bind fun r56 => (asB r56.1).bind fun b57 => some (.bool b57, r56.2) else (aOff x1 2).bind fun v58 => (aLd1 h v58).bind fun v59 => (asI .i64 v59).bind fun n60 => some (.bool (n60 == 0), h) := by kernel_rfl
theorem c101 (d : Nat) (args : List Value) (h : AHeap) : call Tp Ms (d + 1) 101 args h = evFn hk0 Tp (call Tp Ms d) M101 d Try.f101 args h := by kernel_rfl
theorem e102 (x0 : Value) (h : AHeap) : evFn hk Tp C M102 N Try.f102 [x0] h =
  (aCells x0).bind fun c1 => aNew h 133 c1 fun p2 h3 => aNew h3 73 [.int .i64 0, .string ⟨#[]⟩, .int .i64 0, .slice none 0 0] fun p4 h5 => aNew h5 73 [.int .i64 0, .string ⟨#[]⟩, .int .i64 0, .slice none 0 0] fun p6 h7 => (aOff p2 0).bind fun v8 => (aLd1 h7 v8).bind fun v9 => (asI .i64 v9).bind fun n10 => (aOff p6 0).bind fun v11 => (aSt h7 v11 (.int .i64 n10) 1).bind fun h12 => (aOff p2 1).bind fun v13 => (aLd1 h12 v13).bind fun v14 => (asS v14).bind fun t15 => (aOff p6 1).bind fun v16 => (aSt h12 v16 (.string t15) 1).bind fun h17 => (aOff p2 2).bind fun v18 => (aLd1 h17 v18).bind fun v19 => (asI .i64 v19).bind fun n20 => (aOff p6 2).bind fun v21 => (aSt h17 v21 (.int .i64 n20) 1).bind fun h22 => (aOff p2 3).bind fun v23 => (aLd1 h22 v23).bind fun v24 => (C 146 [v24] h22).bind fun r25 => (aOff p6 3).bind fun v26 => (aSt r25.2 v26 r25.1 1).bind fun h27 => (aLdN h27 p6 4).bind fun v28 => (aSt h27 p4 v28 4).bind fun h29 => (aLdN h29 p4 4).bind fun v30 => some (v30, h29) := by kernel_rfl
theorem c102 (d : Nat) (args : List Value) (h : AHeap) : call Tp Ms (d + 1) 102 args h = evFn hk0 Tp (call Tp Ms d) M102 d Try.f102 args h := by kernel_rfl
theorem e103 (x0 x1 x2 : Int) (h : AHeap) : evFn hk Tp C M103 N Try.f103 [.int .i64 x0, .int .i64 x1, .int .i64 x2] h =
  bif decide (x0 ≥ x1) then some (.bool (decide (x0 ≤ x2)), h) else some (.bool false, h) := by kernel_rfl
theorem c103 (d : Nat) (args : List Value) (h : AHeap) : call Tp Ms (d + 1) 103 args h = evFn hk0 Tp (call Tp Ms d) M103 d Try.f103 args h := by kernel_rfl
def F104_0 : Nx (Value × AHeap) := evSt hk Tp C M104 N Try.f104 [1, 0, 1, 2, 1] []
def s104_0 (x1 : Value) (x4 : Int) (x5 : Bool) (h : AHeap) := hk 100006 (⟨86, [(1, x1), (4, .int .i64 x4), (5, .bool x5)]⟩) h (F104_0 hk C N)
def F104_1 : Nx (Value × AHeap) := evSt hk Tp C M104 N Try.f104 [1, 1] []
def s104_1 (x1 : Value) (h : AHeap) := hk 17 (⟨86, [(1, x1)]⟩) h (F104_1 hk C N)
theorem e104 (x0 : Value) (h : AHeap) : evFn hk Tp C M104 N Try.f104 [x0] h =
  (aCells x0).bind fun c1 => aNew h 73 c1 fun p2 h3 => (aOff p2 0).bind fun v4 => (aLd1 h3 v4).bind fun v5 => (asI .i64 v5).bind fun n6 => bif n6 == 5 then s104_0 hk C N p2 n6 (n6 == 5) h3 else bif n6 == 14 then s104_0 hk C N p2 n6 (n6 == 14) h3 else bif n6 == 15 then s104_0 hk C N p2 n6 (n6 == 15) h3 else s104_0 hk C N p2 n6 (n6 == 22) h3 := by kernel_rfl
theorem s104_0_j (x1 : Value) (x4 : Int) (x5 : Bool) (h : AHeap) : s104_0 hk0 C N x1 x4 x5 h = F104_0 hk0 C N (⟨86, [(1, x1), (4, .int .i64 x4), (5, .bool x5)]⟩) h := by delta s104_0; exact hk0_app _ _ _ _
theorem s104_0_eq (x1 : Value) (x4 : Int) (x5 : Bool) (h : AHeap) : F104_0 hk C N (⟨86, [(1, x1), (4, .int .i64 x4), (5, .bool x5)]⟩) h =
  bif x5 then (aOff x1 1).bind fun v7 => (aLd1 h v7).bind fun v8 => (asS v8).bind fun t9 => (C 147 [.string t9] h).bind fun r10 => (asB r10.1).bind fun b11 => bif b11 then (aOff x1 2).bind fun v12 => (aLd1 r10.2 v12).bind fun v13 => (asI .i64 v13).bind fun n14 => some (.bool (n14 == 0), r10.2) else some (.bool false, r10.2) else bif x4 == 4 then (aOff x1 1).bind fun v15 => (aLd1 h v15).bind fun v16 => (asS v16).bind fun t17 => bif decide ((ByteArray.size t17 : Int) ≤ 160) then (aOff x1 1).bind fun v18 => (aLd1 h v18).bind fun v19 => (asS v19).bind fun t20 => (aOff x1 1).bind fun v21 => (aLd1 h v21).bind fun v22 => (asS v22).bind fun t23 => (C 51 [.string t20, .int .i64 0, (.func (.func 96) #[] #[])] h).bind fun r24 => (asI .i64 r24.1).bind fun n25 => ((aLd1 r24.2 v21).bind fun v26 => (asS v26).bind fun t27 => some (vbeq (.string t27) (.string t23))).bind fun b28 => bif b28 then bif n25 == (ByteArray.size t23 : Int) then (aOff x1 2).bind fun v29 => (aLd1 r24.2 v29).bind fun v30 => (asI .i64 v30).bind fun n31 => some (.bool (n31 == 0), r24.2) else some (.bool false, r24.2) else none else some (.bool false, h) else bif x4 == 2 then (aOff x1 1).bind fun v32 => (aLd1 h v32).bind fun v33 => (asS v33).bind fun t34 => bif t34.toList == (⟨#[]⟩ : ByteArray).toList then (aOff x1 2).bind fun v35 => (aLd1 h v35).bind fun v36 => (asI .i64 v36).bind fun n37 => (C 103 [.int .i64 n37, .int .i64 0, .int .i64 1] h).bind fun r38 => (asB r38.1).bind fun b39 => some (.bool b39, r38.2) else some (.bool false, h) else bif x4 == 3 then (aOff x1 1).bind fun v40 => (aLd1 h v40).bind fun v41 => (asS v41).bind fun t42 => bif t42.toList == (⟨#[]⟩ : ByteArray).toList then (aOff x1 2).bind fun v43 => (aLd1 h v43).bind fun v44 => (asI .i64 v44).bind fun n45 => (C 103 [.int .i64 n45, .int .i64 0, .int .i64 999999999999999] h).bind fun r46 => (asB r46.1).bind fun b47 => some (.bool b47, r46.2) else some (.bool false, h) else bif x4 == 10 then (aOff x1 1).bind fun v48 => (aLd1 h v48).bind fun v49 => (asS v49).bind fun t50 => bif t50.toList == (⟨#[]⟩ : ByteArray).toList then (aOff x1 2).bind fun v51 => (aLd1 h v51).bind fun v52 => (asI .i64 v52).bind fun n53 => (C 103 [.int .i64 n53, .int .i64 1, .int .i64 10] h).bind fun r54 => (asB r54.1).bind fun b55 => some (.bool b55, r54.2) else some (.bool false, h) else bif x4 == 11 then (aOff x1 1).bind fun v56 => (aLd1 h v56).bind fun v57 => (asS v57).bind fun t58 => bif t58.toList == (⟨#[]⟩ : ByteArray).toList then (aOff x1 2).bind fun v59 => (aLd1 h v59).bind fun v60 => (asI .i64 v60).bind fun n61 => (C 103 [.int .i64 n61, .int .i64 1, .int .i64 3] h).bind fun r62 => (asB r62.1).bind fun b63 => some (.bool b63, r62.2) else some (.bool false, h) else s104_1 hk C N x1 h := by kernel_rfl
theorem s104_1_j (x1 : Value) (h : AHeap) : s104_1 hk0 C N x1 h = F104_1 hk0 C N (⟨86, [(1, x1)]⟩) h := by delta s104_1; exact hk0_app _ _ _ _
theorem s104_1_eq (x1 : Value) (h : AHeap) : F104_1 hk C N (⟨86, [(1, x1)]⟩) h =
  (aOff x1 1).bind fun v64 => (aLd1 h v64).bind fun v65 => (asS v65).bind fun t66 => bif t66.toList == (⟨#[]⟩ : ByteArray).toList then (aOff x1 2).bind fun v67 => (aLd1 h v67).bind fun v68 => (asI .i64 v68).bind fun n69 => some (.bool (n69 == 0), h) else some (.bool false, h) := by kernel_rfl
theorem c104 (d : Nat) (args : List Value) (h : AHeap) : call Tp Ms (d + 1) 104 args h = evFn hk0 Tp (call Tp Ms d) M104 d Try.f104 args h := by kernel_rfl
def F105_0 : Nx (Value × AHeap) := evSt hk Tp C M105 N Try.f105 [1, 1, 0, 1, 2, 1] []
def s105_0 (x0 x3 x5 : Value) (x9 : Int) (x10 : Bool) (h : AHeap) := hk 100009 (⟨132, [(0, x0), (3, x3), (5, x5), (9, .int .i64 x9), (10, .bool x10)]⟩) h (F105_0 hk C N)
def F105_1 : Nx (Value × AHeap) := evSt hk Tp C M105 N Try.f105 [1, 1, 0, 1, 2, 1, 5, 1, 5, 1, 5, 1] []
def s105_1 (x0 x3 x5 : Value) (x9 : Int) (x59 : Bool) (h : AHeap) := hk 100020 (⟨132, [(0, x0), (3, x3), (5, x5), (9, .int .i64 x9), (59, .bool x59)]⟩) h (F105_1 hk C N)
def F105_2 : Nx (Value × AHeap) := evSt hk Tp C M105 N Try.f105 [1, 1, 0, 1, 2, 1, 5, 1, 5, 1, 5, 1, 5, 1, 5, 1] []
def s105_2 (x0 x3 x5 : Value) (x9 : Int) (x81 : Bool) (h : AHeap) := hk 100028 (⟨132, [(0, x0), (3, x3), (5, x5), (9, .int .i64 x9), (81, .bool x81)]⟩) h (F105_2 hk C N)
theorem e105 (x0 x1 : Value) (h : AHeap) : evFn hk Tp C M105 N Try.f105 [x0, x1] h =
  (aCells x1).bind fun c1 => aNew h 73 c1 fun p2 h3 => (C 148 [.int .i64 21] h3).bind fun r4 => (aOff p2 0).bind fun v5 => (aLd1 r4.2 v5).bind fun v6 => (asI .i64 v6).bind fun n7 => bif n7 == 1 then s105_0 hk C N x0 p2 r4.1 n7 (n7 == 1) r4.2 else bif n7 == 2 then s105_0 hk C N x0 p2 r4.1 n7 (n7 == 2) r4.2 else bif n7 == 3 then s105_0 hk C N x0 p2 r4.1 n7 (n7 == 3) r4.2 else bif n7 == 4 then s105_0 hk C N x0 p2 r4.1 n7 (n7 == 4) r4.2 else bif n7 == 5 then s105_0 hk C N x0 p2 r4.1 n7 (n7 == 5) r4.2 else s105_0 hk C N x0 p2 r4.1 n7 (n7 == 22) r4.2 := by kernel_rfl
theorem s105_0_j (x0 x3 x5 : Value) (x9 : Int) (x10 : Bool) (h : AHeap) : s105_0 hk0 C N x0 x3 x5 x9 x10 h = F105_0 hk0 C N (⟨132, [(0, x0), (3, x3), (5, x5), (9, .int .i64 x9), (10, .bool x10)]⟩) h := by delta s105_0; exact hk0_app _ _ _ _
theorem s105_0_eq (x0 x3 x5 : Value) (x9 : Int) (x10 : Bool) (h : AHeap) : F105_0 hk C N (⟨132, [(0, x0), (3, x3), (5, x5), (9, .int .i64 x9), (10, .bool x10)]⟩) h =
  bif x10 then (aOff x3 3).bind fun v8 => (aLd1 h v8).bind fun v9 => (aLen v9).bind fun v10 => (asI .i64 v10).bind fun n11 => some (.bool (n11 == 0), h) else bif x9 == 6 then (aOff x3 3).bind fun v12 => (aLd1 h v12).bind fun v13 => (aLen v13).bind fun v14 => (asI .i64 v14).bind fun n15 => bif decide ((IntKind.i64.wrap (n15 - 1)) ≥ 0) then (aOff x3 3).bind fun v16 => (aLd1 h v16).bind fun v17 => (aSub h 3 v17 none (some (.int .i64 (IntKind.i64.wrap (n15 - 1)))) 1).bind fun v18 => (C 148 [.int .i64 22] h).bind fun r19 => ((aLd1 r19.2 v16).bind fun v20 => some (vbeq v20 v17)).bind fun b21 => bif b21 then ((aSub r19.2 3 v17 none (some (.int .i64 (IntKind.i64.wrap (n15 - 1)))) 1).bind fun v22 => some (vbeq v22 v18)).bind fun b23 => bif b23 then (C 149 [x0, v18, r19.1] r19.2).bind fun r24 => (asB r24.1).bind fun b25 => bif b25 then (aNil x0).bind fun v26 => (aOff v26 0).bind fun v27 => (aLd1 r24.2 v27).bind fun v28 => (aOff x3 3).bind fun v29 => (aLd1 r24.2 v29).bind fun v30 => (aIdx v30 (.int .i64 (IntKind.i64.wrap (n15 - 1))) 1).bind fun v31 => (aLd1 r24.2 v31).bind fun v32 => (asI .i64 v32).bind fun n33 => (aIdx v28 (.int .i64 n33) 4).bind fun v34 => (aOff v34 0).bind fun v35 => (aLd1 r24.2 v35).bind fun v36 => (asI .i64 v36).bind fun n37 => some (.bool (n37 == 21), r24.2) else some (.bool false, r24.2) else none else none else some (.bool false, h) else bif x9 == 7 then (aOff x3 3).bind fun v38 => (aLd1 h v38).bind fun v39 => (C 149 [x0, v39, (.func (.func 150) #[] #[])] h).bind fun r40 => (asB r40.1).bind fun b41 => some (.bool b41, r40.2) else bif x9 == 8 then s105_1 hk C N x0 x3 x5 x9 (x9 == 8) h else bif x9 == 10 then s105_1 hk C N x0 x3 x5 x9 (x9 == 10) h else bif x9 == 12 then s105_1 hk C N x0 x3 x5 x9 (x9 == 12) h else bif x9 == 13 then s105_1 hk C N x0 x3 x5 x9 (x9 == 13) h else s105_1 hk C N x0 x3 x5 x9 (x9 == 24) h := by kernel_rfl
theorem s105_1_j (x0 x3 x5 : Value) (x9 : Int) (x59 : Bool) (h : AHeap) : s105_1 hk0 C N x0 x3 x5 x9 x59 h = F105_1 hk0 C N (⟨132, [(0, x0), (3, x3), (5, x5), (9, .int .i64 x9), (59, .bool x59)]⟩) h := by delta s105_1; exact hk0_app _ _ _ _
theorem s105_1_eq (x0 x3 x5 : Value) (x9 : Int) (x59 : Bool) (h : AHeap) : F105_1 hk C N (⟨132, [(0, x0), (3, x3), (5, x5), (9, .int .i64 x9), (59, .bool x59)]⟩) h =
  bif x59 then (aLdN h x3 4).bind fun v42 => (aFill [.nilFunc, .nilFunc] [(0, 1, (.func (.func 152) #[] #[])), (1, 1, (.func (.func 152) #[] #[]))]).bind fun c43 => aNewS h 74 c43 2 fun p44 h45 => (C 151 [x0, v42, p44] h45).bind fun r46 => (asB r46.1).bind fun b47 => some (.bool b47, r46.2) else bif x9 == 9 then (aOff x3 3).bind fun v48 => (aLd1 h v48).bind fun v49 => (aLen v49).bind fun v50 => (asI .i64 v50).bind fun n51 => bif decide (n51 > 0) then (aOff x3 3).bind fun v52 => (aLd1 h v52).bind fun v53 => (C 149 [x0, v53, (.func (.func 152) #[] #[])] h).bind fun r54 => (asB r54.1).bind fun b55 => some (.bool b55, r54.2) else some (.bool false, h) else bif x9 == 11 then s105_2 hk C N x0 x3 x5 x9 (x9 == 11) h else bif x9 == 14 then s105_2 hk C N x0 x3 x5 x9 (x9 == 14) h else bif x9 == 15 then s105_2 hk C N x0 x3 x5 x9 (x9 == 15) h else bif x9 == 19 then s105_2 hk C N x0 x3 x5 x9 (x9 == 19) h else s105_2 hk C N x0 x3 x5 x9 (x9 == 23) h := by kernel_rfl
theorem s105_2_j (x0 x3 x5 : Value) (x9 : Int) (x81 : Bool) (h : AHeap) : s105_2 hk0 C N x0 x3 x5 x9 x81 h = F105_2 hk0 C N (⟨132, [(0, x0), (3, x3), (5, x5), (9, .int .i64 x9), (81, .bool x81)]⟩) h := by delta s105_2; exact hk0_app _ _ _ _
theorem s105_2_eq (x0 x3 x5 : Value) (x9 : Int) (x81 : Bool) (h : AHeap) : F105_2 hk C N (⟨132, [(0, x0), (3, x3), (5, x5), (9, .int .i64 x9), (81, .bool x81)]⟩) h =
  bif x81 then (aLdN h x3 4).bind fun v56 => (aFill [.nilFunc] [(0, 1, (.func (.func 152) #[] #[]))]).bind fun c57 => aNewS h 74 c57 1 fun p58 h59 => (C 151 [x0, v56, p58] h59).bind fun r60 => (asB r60.1).bind fun b61 => some (.bool b61, r60.2) else bif x9 == 16 then (aLdN h x3 4).bind fun v62 => (aFill [.nilFunc, .nilFunc, .nilFunc] [(0, 1, (.func (.func 152) #[] #[])), (1, 1, (.func (.func 152) #[] #[])), (2, 1, (.func (.func 152) #[] #[]))]).bind fun c63 => aNewS h 74 c63 3 fun p64 h65 => (C 151 [x0, v62, p64] h65).bind fun r66 => (asB r66.1).bind fun b67 => some (.bool b67, r66.2) else bif x9 == 17 then (aLdN h x3 4).bind fun v68 => (aFill [.nilFunc, .nilFunc] [(0, 1, (.func (.func 152) #[] #[])), (1, 1, x5)]).bind fun c69 => aNewS h 74 c69 2 fun p70 h71 => (C 151 [x0, v68, p70] h71).bind fun r72 => (asB r72.1).bind fun b73 => bif b73 then some (.bool true, r72.2) else (aLdN r72.2 x3 4).bind fun v74 => (aFill [.nilFunc, .nilFunc, .nilFunc] [(0, 1, (.func (.func 152) #[] #[])), (1, 1, x5), (2, 1, x5)]).bind fun c75 => aNewS r72.2 74 c75 3 fun p76 h77 => (C 151 [x0, v74, p76] h77).bind fun r78 => (asB r78.1).bind fun b79 => some (.bool b79, r78.2) else bif x9 == 18 then (aLdN h x3 4).bind fun v80 => (aFill [.nilFunc, .nilFunc] [(0, 1, (.func (.func 152) #[] #[])), (1, 1, x5)]).bind fun c81 => aNewS h 74 c81 2 fun p82 h83 => (C 151 [x0, v80, p82] h83).bind fun r84 => (asB r84.1).bind fun b85 => some (.bool b85, r84.2) else bif x9 == 20 then (aLdN h x3 4).bind fun v86 => (C 148 [.int .i64 9] h).bind fun r87 => ((aLdN r87.2 x3 4).bind fun v88 => some (vbeq v88 v86)).bind fun b89 => bif b89 then (aFill [.nilFunc] [(0, 1, r87.1)]).bind fun c90 => aNewS r87.2 74 c90 1 fun p91 h92 => ((aLdN h92 x3 4).bind fun v93 => some (vbeq v93 v86)).bind fun b94 => bif b94 then (C 151 [x0, v86, p91] h92).bind fun r95 => (asB r95.1).bind fun b96 => some (.bool b96, r95.2) else none else none else bif x9 == 21 then (aOff x3 3).bind fun v97 => (aLd1 h v97).bind fun v98 => (C 149 [x0, v98, (.func (.func 153) #[] #[])] h).bind fun r99 => (asB r99.1).bind fun b100 => some (.bool b100, r99.2) else some (.bool false, h) := by kernel_rfl
theorem c105 (d : Nat) (args : List Value) (h : AHeap) : call Tp Ms (d + 1) 105 args h = evFn hk0 Tp (call Tp Ms d) M105 d Try.f105 args h := by kernel_rfl
theorem e106 (x0 x1 : Value) (h : AHeap) : evFn hk Tp C M106 N Try.f106 [x0, x1] h =
  (aCells x0).bind fun c1 => aNew h 73 c1 fun p2 h3 => (aCells x1).bind fun c4 => aNew h3 73 c4 fun p5 h6 => (aOff p2 0).bind fun v7 => (aLd1 h6 v7).bind fun v8 => (asI .i64 v8).bind fun n9 => (aOff p5 0).bind fun v10 => (aLd1 h6 v10).bind fun v11 => (asI .i64 v11).bind fun n12 => bif n9 != n12 then some (.bool false, h6) else (aOff p2 1).bind fun v13 => (aLd1 h6 v13).bind fun v14 => (asS v14).bind fun t15 => (aOff p5 1).bind fun v16 => (aLd1 h6 v16).bind fun v17 => (asS v17).bind fun t18 => bif !(t15.toList == t18.toList) then some (.bool false, h6) else (aOff p2 2).bind fun v19 => (aLd1 h6 v19).bind fun v20 => (asI .i64 v20).bind fun n21 => (aOff p5 2).bind fun v22 => (aLd1 h6 v22).bind fun v23 => (asI .i64 v23).bind fun n24 => bif n21 != n24 then some (.bool false, h6) else (aOff p2 3).bind fun v25 => (aLd1 h6 v25).bind fun v26 => (aOff p5 3).bind fun v27 => (aLd1 h6 v27).bind fun v28 => (C 32 [v26, v28] h6).bind fun r29 => (asB r29.1).bind fun b30 => bif !b30 then some (.bool false, r29.2) else some (.bool true, r29.2) := by kernel_rfl
theorem c106 (d : Nat) (args : List Value) (h : AHeap) : call Tp Ms (d + 1) 106 args h = evFn hk0 Tp (call Tp Ms d) M106 d Try.f106 args h := by kernel_rfl
theorem e144 (x0 : Value) (x1 : Int) (h : AHeap) : evFn hk Tp C M144 N Try.f144 [x0, .int .i64 x1] h =
  (aLen x0).bind fun v1 => (asI .i64 v1).bind fun n2 => bif decide ((IntKind.i64.wrap (x1 - n2)) < 0) then some (.int .i64 (-1), h) else some (.int .i64 (IntKind.i64.wrap (x1 - n2)), h) := by kernel_rfl
theorem c144 (d : Nat) (args : List Value) (h : AHeap) : call Tp Ms (d + 1) 144 args h = evFn hk0 Tp (call Tp Ms d) M144 d Try.f144 args h := by kernel_rfl
end
noncomputable section
variable (hk : Hk (Value × AHeap)) (C : ACall) (N : Nat)
def F145_0 : Nx (Value × AHeap) := evSt hk Tp C M145 N Try.f145 [1, 0, 1] []
def s145_0 (x0 : ByteArray) (x11 : Bool) (h : AHeap) := hk 100002 (⟨23, [(0, .string x0), (11, .bool x11)]⟩) h (F145_0 hk C N)
def F145_1 : Nx (Value × AHeap) := evSt hk Tp C M145 N Try.f145 [1, 1] []
def s145_1 (x0 : ByteArray) (h : AHeap) := hk 3 (⟨23, [(0, .string x0)]⟩) h (F145_1 hk C N)
def F145_2 (n1 : Nat) : Nx (Value × AHeap) := evSt hk Tp C M145 N Try.f145 [1, 1, 0, 1, 2, 6] [n1]
def s145_2 (n1 : Nat) (x0 : ByteArray) (x3 : Int) (h : AHeap) := F145_2 hk C N n1 (⟨23, [(0, .string x0), (3, .int .i64 x3)]⟩) h
theorem e145 (x0 : ByteArray) (h : AHeap) : evFn hk Tp C M145 N Try.f145 [.string x0] h =
  (C 98 [.int .i64 (ByteArray.size x0 : Int), .int .i64 1, .int .i64 12] h).bind fun r1 => (asB r1.1).bind fun b2 => bif !b2 then s145_0 hk C N x0 true r1.2 else (C 88 [.string x0] r1.2).bind fun r3 => (asB r3.1).bind fun b4 => s145_0 hk C N x0 b4 r3.2 := by kernel_rfl
theorem s145_0_j (x0 : ByteArray) (x11 : Bool) (h : AHeap) : s145_0 hk0 C N x0 x11 h = F145_0 hk0 C N (⟨23, [(0, .string x0), (11, .bool x11)]⟩) h := by delta s145_0; exact hk0_app _ _ _ _
theorem s145_0_eq (x0 : ByteArray) (x11 : Bool) (h : AHeap) : F145_0 hk C N (⟨23, [(0, .string x0), (11, .bool x11)]⟩) h =
  bif x11 then some (.bool false, h) else s145_1 hk C N x0 h := by kernel_rfl
theorem s145_1_j (x0 : ByteArray) (h : AHeap) : s145_1 hk0 C N x0 h = F145_1 hk0 C N (⟨23, [(0, .string x0)]⟩) h := by delta s145_1; exact hk0_app _ _ _ _
theorem s145_1_eq (x0 : ByteArray) (h : AHeap) : F145_1 hk C N (⟨23, [(0, .string x0)]⟩) h =
  s145_2 hk C N N x0 0 h := by kernel_rfl
theorem s145_2_eq (n1 : Nat) (x0 : ByteArray) (x3 : Int) (h : AHeap) : s145_2 hk C N (n1 + 1) x0 x3 h =
  bif decide (x3 < (ByteArray.size x0 : Int)) then (aStrIx (.string x0) (.int .i64 x3)).bind fun v5 => (asI .u8 v5).bind fun n6 => (C 87 [.int .u8 n6] h).bind fun r7 => (asB r7.1).bind fun b8 => bif !b8 then some (.bool false, r7.2) else s145_2 hk C N n1 x0 (IntKind.i64.wrap (x3 + 1)) r7.2 else some (.bool true, h) := by kernel_rfl
theorem c145 (d : Nat) (args : List Value) (h : AHeap) : call Tp Ms (d + 1) 145 args h = evFn hk0 Tp (call Tp Ms d) M145 d Try.f145 args h := by kernel_rfl
def F146_0 (n1 : Nat) : Nx (Value × AHeap) := evSt hk Tp C M146 N Try.f146 [1, 1, 0, 1, 2, 6] [n1]
def s146_0 (n1 : Nat) (x0 x3 : Value) (x4 : Int) (h : AHeap) := F146_0 hk C N n1 (⟨22, [(0, x0), (3, x3), (4, .int .i64 x4)]⟩) h
theorem e146 (x0 : Value) (h : AHeap) : evFn hk Tp C M146 N Try.f146 [x0] h =
  (aLen x0).bind fun v1 => (asI .i64 v1).bind fun n2 => (aMk h 3 [.int .i64 0] 8 (.int .i64 n2) (.int .i64 n2)).bind fun r3 => s146_0 hk C N N x0 r3.1 0 r3.2 := by kernel_rfl
theorem s146_0_eq (n1 : Nat) (x0 x3 : Value) (x4 : Int) (h : AHeap) : s146_0 hk C N (n1 + 1) x0 x3 x4 h =
  (aLen x0).bind fun v4 => (asI .i64 v4).bind fun n5 => bif decide (x4 < n5) then (aIdx x0 (.int .i64 x4) 1).bind fun v6 => (aLd1 h v6).bind fun v7 => (asI .i64 v7).bind fun n8 => (aIdx x3 (.int .i64 x4) 1).bind fun v9 => (aSt h v9 (.int .i64 n8) 1).bind fun h10 => s146_0 hk C N n1 x0 x3 (IntKind.i64.wrap (x4 + 1)) h10 else some (x3, h) := by kernel_rfl
theorem c146 (d : Nat) (args : List Value) (h : AHeap) : call Tp Ms (d + 1) 146 args h = evFn hk0 Tp (call Tp Ms d) M146 d Try.f146 args h := by kernel_rfl
theorem e147 (x0 : ByteArray) (h : AHeap) : evFn hk Tp C M147 N Try.f147 [.string x0] h =
  (C 103 [.int .i64 (ByteArray.size x0 : Int), .int .i64 1, .int .i64 12] h).bind fun r1 => (asB r1.1).bind fun b2 => bif b2 then (C 51 [.string x0, .int .i64 0, (.func (.func 92) #[] #[])] r1.2).bind fun r3 => (asI .i64 r3.1).bind fun n4 => bif n4 == (ByteArray.size x0 : Int) then (C 93 [.string x0] r3.2).bind fun r5 => (asB r5.1).bind fun b6 => some (.bool (!b6), r5.2) else some (.bool false, r3.2) else some (.bool false, r1.2) := by kernel_rfl
theorem c147 (d : Nat) (args : List Value) (h : AHeap) : call Tp Ms (d + 1) 147 args h = evFn hk0 Tp (call Tp Ms d) M147 d Try.f147 args h := by kernel_rfl
theorem e148 (x0 : Int) (h : AHeap) : evFn hk Tp C M148 N Try.f148 [.int .i64 x0] h =
  aNew h 3 [.int .i64 x0] fun p1 h2 => (aFn 185 [] [p1]).bind fun v3 => some (v3, h2) := by kernel_rfl
theorem c148 (d : Nat) (args : List Value) (h : AHeap) : call Tp Ms (d + 1) 148 args h = evFn hk0 Tp (call Tp Ms d) M148 d Try.f148 args h := by kernel_rfl
theorem e149 (x0 x1 x2 : Value) (h : AHeap) : evFn hk Tp C M149 N Try.f149 [x0, x1, x2] h =
  (aCells x0).bind fun c1 => aNew h 96 c1 fun p2 h3 => (aCells x2).bind fun c4 => aNew h3 74 c4 fun p5 h6 => (aFn 187 [] [p5, p2]).bind fun v7 => (C 186 [x1, v7] h6).bind fun r8 => (asB r8.1).bind fun b9 => some (.bool (!b9), r8.2) := by kernel_rfl
theorem c149 (d : Nat) (args : List Value) (h : AHeap) : call Tp Ms (d + 1) 149 args h = evFn hk0 Tp (call Tp Ms d) M149 d Try.f149 args h := by kernel_rfl
theorem e150 (x0 : Int) (h : AHeap) : evFn hk Tp C M150 N Try.f150 [.int .i64 x0] h =
  bif x0 == 23 then some (.bool true, h) else some (.bool (x0 == 24), h) := by kernel_rfl
theorem c150 (d : Nat) (args : List Value) (h : AHeap) : call Tp Ms (d + 1) 150 args h = evFn hk0 Tp (call Tp Ms d) M150 d Try.f150 args h := by kernel_rfl
def F151_0 (n1 : Nat) : Nx (Value × AHeap) := evSt hk Tp C M151 N Try.f151 [1, 1, 0, 1, 2, 6] [n1]
def s151_0 (n1 : Nat) (x0 x4 x15 : Value) (x16 x17 : Int) (h : AHeap) := F151_0 hk C N n1 (⟨38, [(0, x0), (4, x4), (15, x15), (16, .int .i64 x16), (17, .int .i64 x17)]⟩) h
theorem e151 (x0 x1 x2 : Value) (h : AHeap) : evFn hk Tp C M151 N Try.f151 [x0, x1, x2] h =
  (aCells x1).bind fun c1 => aNew h 73 c1 fun p2 h3 => (aOff p2 3).bind fun v4 => (aLd1 h3 v4).bind fun v5 => (aLen v5).bind fun v6 => (asI .i64 v6).bind fun n7 => (aLen x2).bind fun v8 => (asI .i64 v8).bind fun n9 => bif n7 != n9 then some (.bool false, h3) else (aLen x2).bind fun v10 => (asI .i64 v10).bind fun n11 => s151_0 hk C N N x0 p2 x2 n11 0 h3 := by kernel_rfl
theorem s151_0_eq (n1 : Nat) (x0 x4 x15 : Value) (x16 x17 : Int) (h : AHeap) : s151_0 hk C N (n1 + 1) x0 x4 x15 x16 x17 h =
  bif decide (x17 < x16) then (aIdx x15 (.int .i64 x17) 1).bind fun v12 => (aLd1 h v12).bind fun v13 => (aNil x0).bind fun v14 => (aOff v14 0).bind fun v15 => (aLd1 h v15).bind fun v16 => (aOff x4 3).bind fun v17 => (aLd1 h v17).bind fun v18 => (aIdx v18 (.int .i64 x17) 1).bind fun v19 => (aLd1 h v19).bind fun v20 => (asI .i64 v20).bind fun n21 => (aIdx v16 (.int .i64 n21) 4).bind fun v22 => (aOff v22 0).bind fun v23 => (aLd1 h v23).bind fun v24 => (asI .i64 v24).bind fun n25 => (aCallV C v13 [.int .i64 n25] h).bind fun r26 => (asB r26.1).bind fun b27 => bif !b27 then some (.bool false, r26.2) else s151_0 hk C N n1 x0 x4 x15 x16 (IntKind.i64.wrap (x17 + 1)) r26.2 else some (.bool true, h) := by kernel_rfl
theorem c151 (d : Nat) (args : List Value) (h : AHeap) : call Tp Ms (d + 1) 151 args h = evFn hk0 Tp (call Tp Ms d) M151 d Try.f151 args h := by kernel_rfl
theorem e152 (x0 : Int) (h : AHeap) : evFn hk Tp C M152 N Try.f152 [.int .i64 x0] h =
  (C 103 [.int .i64 x0, .int .i64 1, .int .i64 13] h).bind fun r1 => (asB r1.1).bind fun b2 => some (.bool b2, r1.2) := by kernel_rfl
theorem c152 (d : Nat) (args : List Value) (h : AHeap) : call Tp Ms (d + 1) 152 args h = evFn hk0 Tp (call Tp Ms d) M152 d Try.f152 args h := by kernel_rfl
theorem e153 (x0 : Int) (h : AHeap) : evFn hk Tp C M153 N Try.f153 [.int .i64 x0] h =
  (C 103 [.int .i64 x0, .int .i64 14, .int .i64 20] h).bind fun r1 => (asB r1.1).bind fun b2 => some (.bool b2, r1.2) := by kernel_rfl
theorem c153 (d : Nat) (args : List Value) (h : AHeap) : call Tp Ms (d + 1) 153 args h = evFn hk0 Tp (call Tp Ms d) M153 d Try.f153 args h := by kernel_rfl
theorem e185 (x0 : Int) (x1 : Value) (h : AHeap) : evFn hk Tp C M185 N Try.f185 [.int .i64 x0, x1] h =
  (aLd1 h x1).bind fun v1 => (asI .i64 v1).bind fun n2 => some (.bool (x0 == n2), h) := by kernel_rfl
theorem c185 (d : Nat) (args : List Value) (h : AHeap) : call Tp Ms (d + 1) 185 args h = evFn hk0 Tp (call Tp Ms d) M185 d Try.f185 args h := by kernel_rfl
theorem e186 (x0 x1 : Value) (h : AHeap) : evFn hk Tp C M186 N Try.f186 [x0, x1] h =
  (C 202 [x0, x1] h).bind fun r1 => (asI .i64 r1.1).bind fun n2 => some (.bool (decide (n2 ≥ 0)), r1.2) := by kernel_rfl
theorem c186 (d : Nat) (args : List Value) (h : AHeap) : call Tp Ms (d + 1) 186 args h = evFn hk0 Tp (call Tp Ms d) M186 d Try.f186 args h := by kernel_rfl
theorem e187 (x0 : Int) (x1 x2 : Value) (h : AHeap) : evFn hk Tp C M187 N Try.f187 [.int .i64 x0, x1, x2] h =
  (aLd1 h x1).bind fun v1 => (aLd1 h x2).bind fun v2 => (aNil v2).bind fun v3 => (aOff v3 0).bind fun v4 => (aLd1 h v4).bind fun v5 => (aIdx v5 (.int .i64 x0) 4).bind fun v6 => (aOff v6 0).bind fun v7 => (aLd1 h v7).bind fun v8 => (asI .i64 v8).bind fun n9 => (aCallV C v1 [.int .i64 n9] h).bind fun r10 => (asB r10.1).bind fun b11 => some (.bool (!b11), r10.2) := by kernel_rfl
theorem c187 (d : Nat) (args : List Value) (h : AHeap) : call Tp Ms (d + 1) 187 args h = evFn hk0 Tp (call Tp Ms d) M187 d Try.f187 args h := by kernel_rfl
end
noncomputable section
variable (hk : Hk (Value × AHeap)) (C : ACall) (N : Nat)
def F202_0 (n1 : Nat) : Nx (Value × AHeap) := evSt hk Tp C M202 N Try.f202 [1, 0, 1, 2, 6] [n1]
def s202_0 (n1 : Nat) (x0 x1 : Value) (x7 x8 : Int) (h : AHeap) := F202_0 hk C N n1 (⟨19, [(0, x0), (1, x1), (7, .int .i64 x7), (8, .int .i64 x8)]⟩) h
theorem e202 (x0 x1 : Value) (h : AHeap) : evFn hk Tp C M202 N Try.f202 [x0, x1] h =
  (aLen x0).bind fun v1 => (asI .i64 v1).bind fun n2 => s202_0 hk C N N x0 x1 n2 0 h := by kernel_rfl
theorem s202_0_eq (n1 : Nat) (x0 x1 : Value) (x7 x8 : Int) (h : AHeap) : s202_0 hk C N (n1 + 1) x0 x1 x7 x8 h =
  bif decide (x8 < x7) then (aIdx x0 (.int .i64 x8) 1).bind fun v3 => (aLd1 h v3).bind fun v4 => (asI .i64 v4).bind fun n5 => (aCallV C x1 [.int .i64 n5] h).bind fun r6 => (asB r6.1).bind fun b7 => bif b7 then some (.int .i64 x8, r6.2) else s202_0 hk C N n1 x0 x1 x7 (IntKind.i64.wrap (x8 + 1)) r6.2 else some (.int .i64 (-1), h) := by kernel_rfl
theorem c202 (d : Nat) (args : List Value) (h : AHeap) : call Tp Ms (d + 1) 202 args h = evFn hk0 Tp (call Tp Ms d) M202 d Try.f202 args h := by kernel_rfl
theorem e33 (x0 : Value) (x1 : Int) (h : AHeap) : evFn hk Tp C M33 N Try.f33 [x0, .int .i64 x1] h =
  (aCells x0).bind fun c1 => aNew h 35 c1 fun p2 h3 => (aOff p2 0).bind fun v4 => (aLd1 h3 v4).bind fun v5 => (C 68 [v5, .int .i64 x1] h3).bind fun r6 => (asI .i64 r6.1).bind fun n7 => some (.int .i64 n7, r6.2) := by kernel_rfl
theorem c33 (d : Nat) (args : List Value) (h : AHeap) : call Tp Ms (d + 1) 33 args h = evFn hk0 Tp (call Tp Ms d) M33 d Try.f33 args h := by kernel_rfl
def F34_0 (n1 : Nat) : Nx (Value × AHeap) := evSt hk Tp C M34 N Try.f34 [1, 0, 1, 2, 6] [n1]
def s34_0 (n1 : Nat) (x0 : Value) (x1 x5 : Int) (h : AHeap) := F34_0 hk C N n1 (⟨19, [(0, x0), (1, .int .i64 x1), (5, .int .i64 x5)]⟩) h
theorem e34 (x0 : Value) (x1 : Int) (h : AHeap) : evFn hk Tp C M34 N Try.f34 [x0, .int .i64 x1] h =
  s34_0 hk C N N x0 x1 0 h := by kernel_rfl
theorem s34_0_eq (n1 : Nat) (x0 : Value) (x1 x5 : Int) (h : AHeap) : s34_0 hk C N (n1 + 1) x0 x1 x5 h =
  (aLen x0).bind fun v1 => (asI .i64 v1).bind fun n2 => bif decide (x5 < n2) then (aIdx x0 (.int .i64 x5) 1).bind fun v3 => (aSt h v3 (.int .i64 x1) 1).bind fun h4 => s34_0 hk C N n1 x0 (IntKind.i64.wrap (x1 + 1)) (IntKind.i64.wrap (x5 + 1)) h4 else some (.int .i64 x1, h) := by kernel_rfl
theorem c34 (d : Nat) (args : List Value) (h : AHeap) : call Tp Ms (d + 1) 34 args h = evFn hk0 Tp (call Tp Ms d) M34 d Try.f34 args h := by kernel_rfl
def F35_0 (n1 : Nat) : Nx (Value × AHeap) := evSt hk Tp C M35 N Try.f35 [1, 0, 1, 2, 6] [n1]
def s35_0 (n1 : Nat) (x0 : Value) (x1 x5 : Int) (h : AHeap) := F35_0 hk C N n1 (⟨21, [(0, x0), (1, .int .i64 x1), (5, .int .i64 x5)]⟩) h
theorem e35 (x0 : Value) (x1 : Int) (h : AHeap) : evFn hk Tp C M35 N Try.f35 [x0, .int .i64 x1] h =
  s35_0 hk C N N x0 x1 0 h := by kernel_rfl
theorem s35_0_eq (n1 : Nat) (x0 : Value) (x1 x5 : Int) (h : AHeap) : s35_0 hk C N (n1 + 1) x0 x1 x5 h =
  (aLen x0).bind fun v1 => (asI .i64 v1).bind fun n2 => bif decide (x5 < n2) then (aIdx x0 (.int .i64 x5) 1).bind fun v3 => (aLd1 h v3).bind fun v4 => (asI .i64 v4).bind fun n5 => bif n5 != x1 then some (.int .i64 (-1), h) else s35_0 hk C N n1 x0 (IntKind.i64.wrap (x1 + 1)) (IntKind.i64.wrap (x5 + 1)) h else some (.int .i64 x1, h) := by kernel_rfl
theorem c35 (d : Nat) (args : List Value) (h : AHeap) : call Tp Ms (d + 1) 35 args h = evFn hk0 Tp (call Tp Ms d) M35 d Try.f35 args h := by kernel_rfl
def F68_0 (n1 : Nat) : Nx (Value × AHeap) := evSt hk Tp C M68 N Try.f68 [1, 0, 1, 2, 6] [n1]
def s68_0 (n1 : Nat) (x0 : Value) (x1 x5 : Int) (h : AHeap) := F68_0 hk C N n1 (⟨42, [(0, x0), (1, .int .i64 x1), (5, .int .i64 x5)]⟩) h
theorem e68 (x0 : Value) (x1 : Int) (h : AHeap) : evFn hk Tp C M68 N Try.f68 [x0, .int .i64 x1] h =
  s68_0 hk C N N x0 x1 0 h := by kernel_rfl
theorem s68_0_eq (n1 : Nat) (x0 : Value) (x1 x5 : Int) (h : AHeap) : s68_0 hk C N (n1 + 1) x0 x1 x5 h =
  (aLen x0).bind fun v1 => (asI .i64 v1).bind fun n2 => bif decide (x5 < n2) then (aIdx x0 (.int .i64 x5) 4).bind fun v3 => (aOff v3 0).bind fun v4 => (aSt h v4 (.int .i64 x1) 1).bind fun h5 => (C 55 [.int .i64 (IntKind.i64.wrap (x1 + 1))] h5).bind fun r6 => (asS r6.1).bind fun t7 => (aIdx x0 (.int .i64 x5) 4).bind fun v8 => (aOff v8 1).bind fun v9 => (aSt r6.2 v9 (.string t7) 1).bind fun h10 => (aIdx x0 (.int .i64 x5) 4).bind fun v11 => (aOff v11 2).bind fun v12 => (aSt h10 v12 (.int .i64 (IntKind.i64.wrap ((IntKind.i64.wrap (x1 + 1)) + 1))) 1).bind fun h13 => (aIdx x0 (.int .i64 x5) 4).bind fun v14 => (aOff v14 3).bind fun v15 => (aLd1 h13 v15).bind fun v16 => (C 34 [v16, .int .i64 (IntKind.i64.wrap ((IntKind.i64.wrap ((IntKind.i64.wrap (x1 + 1)) + 1)) + 1))] h13).bind fun r17 => (asI .i64 r17.1).bind fun n18 => s68_0 hk C N n1 x0 n18 (IntKind.i64.wrap (x5 + 1)) r17.2 else some (.int .i64 x1, h) := by kernel_rfl
theorem c68 (d : Nat) (args : List Value) (h : AHeap) : call Tp Ms (d + 1) 68 args h = evFn hk0 Tp (call Tp Ms d) M68 d Try.f68 args h := by kernel_rfl
end
theorem vbeq1_self : ∀ v : Value, isCell v = true → (∀ f a c, v ≠ .func f a c) → vbeq1 v v = true := by
 intro v h hf
 cases v <;> simp [isCell] at h <;> simp [vbeq1]
 ·rename_i s
  have := vbeq_str s
  simpa [vbeq, vbeq1] using this
 ·rename_i f a c; exact absurd rfl (hf f a c)
structure Kn where
 k : Int
 t : ByteArray
 i : Int
 ks : List Int
def ints (xs : List Int) : List Value := xs.map (Value.int .i64)
def ISl (c : Nat) (h : AHeap) (v : Value) (xs : List Int) : Prop :=
 (v = .slice none 0 0 ∧ xs = []) ∨ (∃ a n, v = .slice (some a) 0 n ∧ xs = []) ∨ ∃ i o, v = slc i 0 xs.length ∧ h.at? i = some o ∧ o.elem = 3 ∧ o.cells = ints xs ∧ i < c
theorem ISl.ext {c : Nat} {h h' : AHeap} {v : Value} {xs : List Int} (x : ISl c h v xs) (e : Ext c h h') : ISl c h' v xs := by
 rcases x with x | x | ⟨i, o, h1, h2, h3, h4, h5⟩
 ·exact .inl x
 ·exact .inr (.inl x)
 ·exact .inr (.inr ⟨i, o, h1, e.at? h5 h2, h3, h4, h5⟩)
theorem ISl.mono {c d : Nat} {h : AHeap} {v : Value} {xs : List Int} (x : ISl c h v xs) (hd : c ≤ d) : ISl d h v xs := by
 rcases x with x | x | ⟨i, o, h1, h2, h3, h4, h5⟩
 ·exact .inl x
 ·exact .inr (.inl x)
 ·exact .inr (.inr ⟨i, o, h1, h2, h3, h4, Nat.lt_of_lt_of_le h5 hd⟩)
theorem ISl.len {c : Nat} {h : AHeap} {v : Value} {xs : List Int} (x : ISl c h v xs) : aLen v = some (.int .i64 xs.length) := by
 rcases x with ⟨rfl, rfl⟩ | ⟨a, n, rfl, rfl⟩ | ⟨i, o, rfl, _⟩ <;> rfl
theorem ISl.at {c : Nat} {h : AHeap} {v : Value} {xs : List Int} (x : ISl c h v xs) {j : Nat} (hj : j < xs.length) : ∃ p, aIdx v (.int .i64 (j : Int)) 1 = some p ∧ aLd1 h p = some (.int .i64 xs[j]) := by
 rcases x with ⟨rfl, rfl⟩ | ⟨a, n, rfl, rfl⟩ | ⟨i, o, rfl, h2, h3, h4, h5⟩
 ·simp at hj
 ·simp at hj
 ·refine ⟨ptr i j, by simp [aIdx, slc, hj], ?_⟩
  have r : Row h i (ints xs) := ⟨o, h2, h4⟩
  exact r.ld1 (by simp [ints, hj])
theorem ISl.cell {c : Nat} {h : AHeap} {v : Value} {xs : List Int} (x : ISl c h v xs) : isCell v = true ∧ ∀ f a b, v ≠ .func f a b := by
 rcases x with ⟨rfl, rfl⟩ | ⟨a, n, rfl, rfl⟩ | ⟨i, o, rfl, _⟩ <;> exact ⟨rfl, fun _ _ _ h => by cases h⟩
theorem ISl.vbeq {c : Nat} {h : AHeap} {v : Value} {xs : List Int} (x : ISl c h v xs) : vbeq v v = true := by
 have := vbeq1_self v x.cell.1 x.cell.2
 rcases x with ⟨rfl, rfl⟩ | ⟨a, n, rfl, rfl⟩ | ⟨i, o, rfl, _⟩ <;> exact this
def knCells (n : Kn) (kv : Value) : List Value := [.int .i64 n.k, .string n.t, .int .i64 n.i, kv]
def knVal (n : Kn) (kv : Value) : Value := .agg (List.toArray (knCells n kv))
theorem kn_aCells {c : Nat} {h : AHeap} {n : Kn} {kv : Value} (x : ISl c h kv n.ks) : aCells (knVal n kv) = some (knCells n kv) := by
 have e : (List.all (List.toArray (knCells n kv)).toList isCell) = true := by
  show (true && (true && (true && (isCell kv && true)))) = true
  rw [x.cell.1]; rfl
 show (if (List.all (List.toArray (knCells n kv)).toList isCell) = true then some (List.toArray (knCells n kv)).toList else none) = _
 rw [if_pos e]
def KSl (c : Nat) (h : AHeap) (v : Value) (ns : List Kn) : Prop :=
 (v = .slice none 0 0 ∧ ns = []) ∨ (∃ a n, v = .slice (some a) 0 n ∧ ns = []) ∨
 ∃ i o, v = slc i 0 ns.length ∧ h.at? i = some o ∧ i < c ∧ ns.length * 4 ≤ o.cells.length ∧ ∀ (j : Nat) (n : Kn), ns[j]? = some n → ∃ kv, (o.cells.drop (j * 4)).take 4 = knCells n kv ∧ ISl c h kv n.ks
def KSg (e : TypeId) (c : Nat) (h : AHeap) (v : Value) (ns : List Kn) : Prop :=
 (v = .slice none 0 0 ∧ ns = []) ∨ (∃ a n, v = .slice (some a) 0 n ∧ ns = []) ∨
 ∃ i o, v = slc i 0 ns.length ∧ h.at? i = some o ∧ o.elem = e ∧ i < c ∧ o.cells.length = ns.length * 4 ∧ ∀ (j : Nat) (n : Kn), ns[j]? = some n → ∃ kv, (o.cells.drop (j * 4)).take 4 = knCells n kv ∧ ISl c h kv n.ks
theorem KSg.ksl {e : TypeId} {c : Nat} {h : AHeap} {v : Value} {ns : List Kn} (x : KSg e c h v ns) : KSl c h v ns := by
 rcases x with x | x | ⟨i, o, h1, h2, _, h3, h4, h5⟩
 ·exact .inl x
 ·exact .inr (.inl x)
 ·exact .inr (.inr ⟨i, o, h1, h2, h3, Nat.le_of_eq h4.symm, h5⟩)
theorem KSl.ext {c : Nat} {h h' : AHeap} {v : Value} {ns : List Kn} (x : KSl c h v ns) (e : Ext c h h') : KSl c h' v ns := by
 rcases x with x | x | ⟨i, o, h1, h2, h3, h4, h5⟩
 ·exact .inl x
 ·exact .inr (.inl x)
 ·exact .inr (.inr ⟨i, o, h1, e.at? h3 h2, h3, h4, fun j n hn => let ⟨kv, a, b⟩ := h5 j n hn; ⟨kv, a, b.ext e⟩⟩)
theorem KSl.mono {c d : Nat} {h : AHeap} {v : Value} {ns : List Kn} (x : KSl c h v ns) (hd : c ≤ d) : KSl d h v ns := by
 rcases x with x | x | ⟨i, o, h1, h2, h3, h4, h5⟩
 ·exact .inl x
 ·exact .inr (.inl x)
 ·exact .inr (.inr ⟨i, o, h1, h2, Nat.lt_of_lt_of_le h3 hd, h4, fun j n hn => let ⟨kv, a, b⟩ := h5 j n hn; ⟨kv, a, b.mono hd⟩⟩)
theorem KSl.len {c : Nat} {h : AHeap} {v : Value} {ns : List Kn} (x : KSl c h v ns) : aLen v = some (.int .i64 ns.length) := by
 rcases x with ⟨rfl, rfl⟩ | ⟨a, n, rfl, rfl⟩ | ⟨i, o, rfl, _⟩ <;> rfl
theorem KSl.cell {c : Nat} {h : AHeap} {v : Value} {ns : List Kn} (x : KSl c h v ns) : isCell v = true ∧ ∀ f a b, v ≠ .func f a b := by
 rcases x with ⟨rfl, rfl⟩ | ⟨a, n, rfl, rfl⟩ | ⟨i, o, rfl, _⟩ <;> exact ⟨rfl, fun _ _ _ h => by cases h⟩
theorem KSl.vbeq1 {c : Nat} {h : AHeap} {v : Value} {ns : List Kn} (x : KSl c h v ns) : vbeq1 v v = true := vbeq1_self v x.cell.1 x.cell.2
theorem KSl.vbeq {c : Nat} {h : AHeap} {v : Value} {ns : List Kn} (x : KSl c h v ns) : vbeq v v = true := by
 have := x.vbeq1
 rcases x with ⟨rfl, rfl⟩ | ⟨a, n, rfl, rfl⟩ | ⟨i, o, rfl, _⟩ <;> exact this
theorem drop_take_get {cs : List Value} {a : Nat} {l : List Value} (h : (cs.drop a).take 4 = l) {c : Nat} (hc : c < 4) : cs[a + c]? = l[c]? := by
 rw [← h, List.getElem?_take, if_pos hc, List.getElem?_drop]
theorem KSl.at {c : Nat} {h : AHeap} {v : Value} {ns : List Kn} (x : KSl c h v ns) {j : Nat} (hj : j < ns.length) : ∃ i kv, aIdx v (.int .i64 (j : Int)) 4 = some (ptr i (j * 4)) ∧ ISl c h kv ns[j].ks ∧
  ∀ h', Ext c h h' → aLdN h' (ptr i (j * 4)) 4 = some (knVal ns[j] kv) ∧ aLd1 h' (ptr i (j * 4)) = some (.int .i64 ns[j].k) ∧ aLd1 h' (ptr i (j * 4 + 1)) = some (.string ns[j].t) ∧ aLd1 h' (ptr i (j * 4 + 2)) = some (.int .i64 ns[j].i) ∧ aLd1 h' (ptr i (j * 4 + 3)) = some kv := by
 rcases x with ⟨rfl, rfl⟩ | ⟨a, n, rfl, rfl⟩ | ⟨i, o, rfl, h2, h3, h4, h5⟩
 ·simp at hj
 ·simp at hj
 ·obtain ⟨kv, e1, e2⟩ := h5 j ns[j] (List.getElem?_eq_getElem hj)
  refine ⟨i, kv, by simp [aIdx, slc, hj], e2, fun h' e => ?_⟩
  have r : Row h' i o.cells := ⟨o, e.at? h3 h2, rfl⟩
  refine ⟨?_, r.ld1 (drop_take_get (c := 0) e1 (by omega)), r.ld1 (drop_take_get (c := 1) e1 (by omega)), r.ld1 (drop_take_get (c := 2) e1 (by omega)), r.ld1 (drop_take_get (c := 3) e1 (by omega))⟩
  rw [r.ldN (by omega), e1]; rfl
theorem ld4 {h : AHeap} {i : Nat} {a b c d : Value} (r : Row h i [a, b, c, d]) : aLd1 h (ptr i 0) = some a ∧ aLd1 h (ptr i 1) = some b ∧ aLd1 h (ptr i 2) = some c ∧ aLd1 h (ptr i 3) = some d ∧ aLdN h (ptr i 0) 4 = some (.agg (List.toArray [a, b, c, d])) :=
 ⟨r.ld1 rfl, r.ld1 rfl, r.ld1 rfl, r.ld1 rfl, r.ldN (off := 0) (n := 4) (Nat.le_refl _)⟩
theorem ld2 {h : AHeap} {i : Nat} {a b : Value} (r : Row h i [a, b]) : aLd1 h (ptr i 0) = some a ∧ aLd1 h (ptr i 1) = some b ∧ aLdN h (ptr i 0) 2 = some (.agg (List.toArray [a, b])) :=
 ⟨r.ld1 rfl, r.ld1 rfl, r.ldN (off := 0) (n := 2) (Nat.le_refl _)⟩
theorem Own.st1' {b : Nat} {h : AHeap} {i n : Nat} {e : TypeId} {cs : List Value} {v : Value} (x : Own b h i e cs) (hn : n < cs.length) (hv : aCells v = some [v]) :
  ∃ h', aSt h (ptr i n) v 1 = some h' ∧ Ext b h h' ∧ Own b h' i e (cs.set n v) ∧ h'.size = h.size := by
 obtain ⟨h', h1, h2, h3, h4, _⟩ := x.st (off := n) (n := 1) hv rfl (by omega)
 refine ⟨h', h1, h2, ?_, h4⟩
 have : splice cs n [v] = cs.set n v := by
  unfold splice
  rw [List.set_eq_take_append_cons_drop, if_pos hn]
  simp
 rw [this] at h3; exact h3
theorem Own.stN {b : Nat} {h : AHeap} {i n : Nat} {e : TypeId} {cs vs : List Value} {v : Value} (x : Own b h i e cs) (hv : aCells v = some vs) (hl : vs.length = n) (hc : cs.length = n) :
  ∃ h', aSt h (ptr i 0) v n = some h' ∧ Ext b h h' ∧ Own b h' i e vs ∧ h'.size = h.size := by
 obtain ⟨h', h1, h2, h3, h4, _⟩ := x.st (off := 0) (n := n) hv hl (by omega)
 refine ⟨h', h1, h2, ?_, h4⟩
 have : splice cs 0 vs = vs := by
  unfold splice
  rw [List.take_zero, List.nil_append, List.drop_eq_nil_of_le (by omega), List.append_nil]
 rw [this] at h3; exact h3
theorem aCells_int (k : IntKind) (n : Int) : aCells (.int k n) = some [.int k n] := rfl
theorem aCells_one {v : Value} (h : isCell v = true) : aCells v = some [v] := by
 cases v <;> simp [isCell] at h <;> simp [aCells, isCell]
theorem wrB {x : Int} (h0 : -9223372036854775808 ≤ x) (h1 : x ≤ 9223372036854775807) : IntKind.i64.wrap x = x := by
 simp [IntKind.wrap, IntKind.bits, IntKind.signed]; omega
def bigT : Nat := 9223372036854775807
theorem l144 {d c : Nat} {v : Value} {xs : List Int} {h : AHeap} (x : ISl c h v xs) (hx : xs.length ≤ bigT) {l : Int} (h0 : 0 ≤ l) (h1 : l ≤ 1048576) :
  call Tp Ms (d + 1) 144 [v, .int .i64 l] h = some (.int .i64 (if l - xs.length < 0 then -1 else l - xs.length), h) := by
 have w : IntKind.i64.wrap (l - (xs.length : Int)) = l - (xs.length : Int) := wrB (by unfold bigT at hx; omega) (by omega)
 rw [c144, e144, x.len, oBs]
 simp only [asI, if_true, oBs, w]
 by_cases hc : l - (xs.length : Int) < 0
 ·rw [decide_eq_true hc, cond_true, if_pos hc]
 ·rw [decide_eq_false hc, cond_false, if_neg hc]
def szK (n : Kn) (l : Int) : Int := if l - n.t.size < 0 then -1 else if l - n.t.size - n.ks.length < 0 then -1 else l - n.t.size - n.ks.length
def szN : List Kn → Int → Int
 | [], l => l
 | n :: ns, l => if szK n l < 0 then -1 else szN ns (szK n l)
def szT (ns : List Kn) (l : Int) : Int := if l - ns.length < 0 then -1 else szN ns (l - ns.length)
def okK (n : Kn) : Prop := n.t.size ≤ bigT ∧ n.ks.length ≤ bigT
theorem szK_le {n : Kn} {l : Int} (h1 : l ≤ 1048576) : szK n l ≤ 1048576 := by
 unfold szK
 split
 ·omega
 ·split <;> omega
theorem l97 {d c : Nat} {kv : Value} {n : Kn} {h : AHeap} (x : ISl c h kv n.ks) (hc : c ≤ h.size) (hn : okK n) {l : Int} (h0 : 0 ≤ l) (h1 : l ≤ 1048576) :
  ∃ h', call Tp Ms (d + 2) 97 [knVal n kv, .int .i64 l] h = some (.int .i64 (szK n l), h') ∧ Ext h.size h h' := by
 have e1 := Ext.new (Nat.le_refl h.size) 133 (knCells n kv)
 refine ⟨h.new 133 (knCells n kv), ?_, e1⟩
 have r1 : Row (h.new 133 (knCells n kv)) h.size [.int .i64 n.k, .string n.t, .int .i64 n.i, kv] := (Own.new (b := h.size) (Nat.le_refl _) 133 (knCells n kv)).row
 obtain ⟨a0, a1, a2, a3, _⟩ := ld4 r1
 have w : IntKind.i64.wrap (l - (n.t.size : Int)) = l - (n.t.size : Int) := wrB (by have := hn.1; unfold bigT at this; omega) (by omega)
 rw [c97, e97, kn_aCells x, oBs]
 simp only [aNew, aOff_ptr, Nat.zero_add, oBs, a1, a3, asS, w]
 unfold szK
 by_cases k1 : l - (n.t.size : Int) < 0
 ·rw [decide_eq_true k1, cond_true, if_pos k1]
 ·have c2 := l144 (d := d) (x.ext (e1.mono hc)) hn.2 (l := l - (n.t.size : Int)) (by omega) (by omega)
  rw [decide_eq_false k1, cond_false, if_neg k1, c2, oBs]
  simp only [asI, if_true, oBs]
  by_cases k2 : l - (n.t.size : Int) - (n.ks.length : Int) < 0
  ·rw [if_pos k2, decide_eq_true (show ((-1 : Int) < 0) by decide), cond_true]
  ·rw [if_neg k2, decide_eq_false k2, cond_false]
theorem sz_loop {d N c : Nat} {v : Value} {ns : List Kn} (hN : ∀ n ∈ ns, okK n) (hl : ns.length ≤ 1048576) : ∀ (k j m : Nat) (l : Int) (h : AHeap), ns.length - j = k → j ≤ ns.length → k < m → KSl c h v ns → c ≤ h.size → 0 ≤ l → l ≤ 1048576 →
  ∃ h', s56_0 hk0 (call Tp Ms (d + 2)) N m v l (j : Int) h = some (.int .i64 (szN (ns.drop j) l), h') ∧ Ext h.size h h' := by
 intro k
 induction k with
 | zero =>
  intro j m l h hk hj hm x hc h0 h1
  obtain ⟨m, rfl⟩ : ∃ q, m = q + 1 := ⟨m - 1, by omega⟩
  have : ¬ ((j : Int) < (ns.length : Int)) := by omega
  refine ⟨h, ?_, Ext.refl _ _⟩
  rw [s56_0_eq, x.len, oBs, List.drop_eq_nil_of_le (by omega)]
  simp only [asI, if_true, oBs, decide_eq_false this, cond_false, szN]
 | succ k ih =>
  intro j m l h hk hj hm x hc h0 h1
  obtain ⟨m, rfl⟩ : ∃ q, m = q + 1 := ⟨m - 1, by omega⟩
  have hlt : j < ns.length := by omega
  have hI : ((j : Int) < (ns.length : Int)) := by omega
  obtain ⟨i, kv, e1, e2, e3⟩ := x.at hlt
  obtain ⟨e4, _⟩ := e3 h (Ext.refl _ _)
  have hok := hN ns[j] (List.getElem_mem hlt)
  obtain ⟨h2, c2, x2⟩ := l97 (d := d) e2 hc hok h0 h1
  have wj : IntKind.i64.wrap ((j : Int) + 1) = ((j + 1 : Nat) : Int) := by rw [wr (by omega) (by omega)]; omega
  rw [s56_0_eq, x.len, oBs, List.drop_eq_getElem_cons hlt, szN]
  simp only [asI, if_true, oBs, decide_eq_true hI, cond_true, e1, e4, wj]
  rw [c2, oBs]
  simp only [asI, if_true, oBs]
  by_cases hs : szK ns[j] l < 0
  ·rw [decide_eq_true hs, cond_true, if_pos hs]; exact ⟨h2, rfl, x2⟩
  ·rw [decide_eq_false hs, cond_false, if_neg hs]
   obtain ⟨h3, c3, x3⟩ := ih (j + 1) m (szK ns[j] l) h2 (by omega) (by omega) (by omega) (x.ext (x2.mono hc)) (Nat.le_trans hc x2.size) (by omega) (szK_le h1)
   exact ⟨h3, c3, x2.trans (x3.mono x2.size)⟩
theorem l56 {d c : Nat} (hd : 1048577 < d) {v : Value} {ns : List Kn} {h : AHeap} (x : KSl c h v ns) (hc : c ≤ h.size) (hN : ∀ n ∈ ns, okK n) (hb : ns.length ≤ bigT) :
  ∃ h', call Tp Ms (d + 3) 56 [v, .int .i64 1048576] h = some (.int .i64 (szT ns 1048576), h') ∧ Ext h.size h h' := by
 have w : IntKind.i64.wrap (1048576 - (ns.length : Int)) = 1048576 - (ns.length : Int) := wrB (by unfold bigT at hb; omega) (by omega)
 rw [c56, e56, x.len, oBs]
 simp only [asI, if_true, oBs, w]
 unfold szT
 by_cases hs : (1048576 : Int) - (ns.length : Int) < 0
 ·rw [decide_eq_true hs, cond_true, if_pos hs]; exact ⟨h, rfl, Ext.refl _ _⟩
 ·rw [decide_eq_false hs, cond_false, if_neg hs]
  exact sz_loop (d := d) (N := d + 2) hN (by omega) ns.length 0 (d + 2) _ h (by omega) (by omega) (by omega) x hc (by omega) (by omega)
def trVal (nv : Value) (top : Int) : Value := .agg (List.toArray [nv, .int .i64 top])
theorem tr_aCells {c : Nat} {h : AHeap} {nv : Value} {ns : List Kn} (x : KSl c h nv ns) (top : Int) : aCells (trVal nv top) = some [nv, .int .i64 top] := by
 have e : (List.all (List.toArray [nv, .int .i64 top]).toList isCell) = true := by
  show (isCell nv && (true && true)) = true
  rw [x.cell.1]; rfl
 show (if (List.all (List.toArray [nv, .int .i64 top]).toList isCell) = true then some (List.toArray [nv, .int .i64 top]).toList else none) = _
 rw [if_pos e]
theorem tr_vbeq {c : Nat} {h : AHeap} {nv : Value} {ns : List Kn} (x : KSl c h nv ns) (top : Int) : vbeq (trVal nv top) (trVal nv top) = true := by
 show (vbeq1 nv nv && (vbeq1 (.int .i64 top) (.int .i64 top) && true)) = true
 rw [x.vbeq1]; simp [vbeq1]
theorem l19 {d c : Nat} (hd : 1048577 < d) {nv : Value} {ns : List Kn} {top : Int} {h : AHeap} (x : KSl c h nv ns) (hc : c ≤ h.size) (hN : ∀ n ∈ ns, okK n) (hb : ns.length ≤ bigT) :
  ∃ h', call Tp Ms (d + 4) 19 [trVal nv top, .int .i64 1048576] h = some (.int .i64 (if szT ns 1048576 < 0 then -1 else szT ns 1048576), h') ∧ Ext h.size h h' := by
 have e1 := Ext.new (Nat.le_refl h.size) 30 [nv, .int .i64 top]
 have r1 := (Own.new (b := h.size) (Nat.le_refl _) 30 [nv, .int .i64 top]).row
 obtain ⟨a0, _, _⟩ := ld2 r1
 obtain ⟨h2, c2, x2⟩ := l56 hd (x.ext (e1.mono hc)) (Nat.le_trans hc e1.size) hN hb
 rw [c19, e19, tr_aCells x, oBs]
 simp only [aNew, aOff_ptr, Nat.zero_add, oBs, a0]
 rw [c2, oBs]
 simp only [asI, if_true, oBs]
 have X := e1.trans (x2.mono e1.size)
 by_cases hs : szT ns 1048576 < 0
 ·rw [decide_eq_true hs, cond_true, if_pos hs]; exact ⟨h2, rfl, X⟩
 ·rw [decide_eq_false hs, cond_false, if_neg hs]; exact ⟨h2, rfl, X⟩
theorem szN_ok : ∀ (ns : List Kn) (l : Int), l ≤ 1048576 → 0 ≤ szN ns l → ∀ n ∈ ns, n.t.size ≤ 1048576 ∧ n.ks.length ≤ 1048576
 | [], _, _, _, n, hn => by simp at hn
 | m :: ns, l, hl, h, n, hn => by
  rw [szN] at h
  by_cases hs : szK m l < 0
  ·rw [if_pos hs] at h; omega
  ·rw [if_neg hs] at h
   have hle := szK_le (n := m) hl
   rcases List.mem_cons.1 hn with rfl | hn
   ·unfold szK at hs
    by_cases k1 : l - (n.t.size : Int) < 0
    ·rw [if_pos k1] at hs; omega
    ·rw [if_neg k1] at hs
     by_cases k2 : l - (n.t.size : Int) - (n.ks.length : Int) < 0
     ·rw [if_pos k2] at hs; omega
     ·omega
   ·exact szN_ok ns _ hle h n hn
theorem szT_ok {ns : List Kn} (h : 0 ≤ szT ns 1048576) : ns.length ≤ 1048576 ∧ ∀ n ∈ ns, n.t.size ≤ 1048576 ∧ n.ks.length ≤ 1048576 := by
 unfold szT at h
 by_cases hs : (1048576 : Int) - (ns.length : Int) < 0
 ·rw [if_pos hs] at h; omega
 ·rw [if_neg hs] at h
  exact ⟨by omega, szN_ok ns _ (by omega) h⟩
open Go.ChangeShapes Go.WideShapes Go.ChangeAt Go.RowKit Go.ChangeMaps Go.AH
theorem own : ownKnob Tp.godebug = none := by kernel_rfl
theorem fnOk : Tp.funcs.all (fun (fn : Func) => fn.name != "runtime.NumGoroutine") = true := by kernel_rfl
theorem uStr : Tp.underlying 9 = some .string := by kernel_rfl
theorem uBool : Tp.underlying 4 = some .bool := by kernel_rfl
theorem mixed : Tp.follows .mixedOrders = true := Checked.mixed Try.checked
theorem uTree : Tp.underlying 30 = some (.struct #[⟨"Nodes", 28, 0, false, "", "", 0⟩, ⟨"Top", 3, 1, false, "", "", 24⟩]) := by kernel_rfl
theorem uNodes : Tp.underlying 28 = some (.slice 133) := by kernel_rfl
theorem uKnot : Tp.underlying 133 = some (.struct #[⟨"Kind", 3, 0, false, "", "", 0⟩, ⟨"Text", 9, 1, false, "", "", 8⟩, ⟨"I", 3, 2, false, "", "", 24⟩, ⟨"Kids", 46, 3, false, "", "", 32⟩]) := by kernel_rfl
theorem uInts : Tp.underlying 46 = some (.slice 3) := by kernel_rfl
theorem uInt : Tp.underlying 3 = some (.int .i64) := by kernel_rfl
theorem cTree : Tp.cellsOf 30 = 2 := by kernel_rfl
theorem cKnot : Tp.cellsOf 133 = 4 := by kernel_rfl
theorem cInt : Tp.cellsOf 3 = 1 := by kernel_rfl
theorem cStr : Tp.cellsOf 9 = 1 := by kernel_rfl
theorem cInts : Tp.cellsOf 46 = 1 := by kernel_rfl
theorem cNodes : Tp.cellsOf 28 = 1 := by kernel_rfl
theorem zKnot : tSize Tp 133 = some 4 := by kernel_rfl
theorem zInt : tSize Tp 3 = some 1 := by kernel_rfl
def Blk (W : World) (b n : Nat) : Prop := ∃ arr el fr, W.heap[b]? = some (.cells arr el fr) ∧ n ≤ arr.size
def IM (W : World) (v : Value) (xs : List Int) : Prop :=
 (v = .slice none 0 0 ∧ xs = []) ∨ (∃ a, v = .slice (some a) 0 0 ∧ xs = []) ∨
 ∃ b off cap, v = .slice (some ⟨b, off, none⟩) xs.length cap ∧ xs.length ≤ cap ∧ cap ≤ maxLen ∧ Blk W b (off + cap * 1) ∧ ∀ (j : Nat) (n : Int), xs[j]? = some n → W.cell? ⟨b, off + j, none⟩ = some (.int .i64 n)
def NM (W : World) (v : Value) (ns : List Kn) : Prop :=
 (v = .slice none 0 0 ∧ ns = []) ∨ (∃ a, v = .slice (some a) 0 0 ∧ ns = []) ∨
 ∃ b off cap, v = .slice (some ⟨b, off, none⟩) ns.length cap ∧ ns.length ≤ cap ∧ cap ≤ maxLen ∧ Blk W b (off + cap * 4) ∧
  ∀ (j : Nat) (n : Kn), ns[j]? = some n → ∃ kv, (∀ c, c < 4 → W.cell? ⟨b, off + (j * 4 + c), none⟩ = (knCells n kv)[c]?) ∧ IM W kv n.ks ∧ n.t.size ≤ maxLen
theorem range_get {α : Type} (f : Nat → α) {len j : Nat} {x : α} (h : ((List.range len).map f)[j]? = some x) : j < len ∧ x = f j := by
 rw [List.getElem?_map, Option.map_eq_some_iff] at h
 obtain ⟨a, h1, h2⟩ := h
 obtain ⟨h3, h4⟩ := List.getElem?_eq_some_iff.1 h1
 rw [List.getElem_range] at h4
 subst h4
 exact ⟨by simpa using h3, h2.symm⟩
section
variable {H : Type} {enc : TypeId × Value → H} {W : World}
theorem open_ints {fuel : Nat} {v : Value} {x : DataW H × List MemPlace} (h : DataW.trod enc Tp W 0 (fun _ => true) true fuel 46 [v] = some x) : ∃ xs, IM W v xs := by
 rcases open_rowM uInts cInt (by decide) h with h0 | ⟨a, h0⟩ | ⟨b, off, len, cap, n, D, Pl, h0, hl, hm, hb, hx⟩
 ·exact ⟨[], .inl ⟨h0, rfl⟩⟩
 ·exact ⟨[], .inr (.inl ⟨a, h0, rfl⟩)⟩
 ·have each : ∀ i, i < len → ∃ z : Int, W.cell? ⟨b, off + i, none⟩ = some (.int .i64 z) := fun i hi => by
   obtain ⟨cs', h1, h2, h3⟩ := hx i hi
   obtain ⟨z, h4, _⟩ := DataW.trod_int uInt h3
   have := h2 0 (by omega)
   rw [h4] at this
   exact ⟨z, by simpa using this⟩
  obtain ⟨f, hf⟩ := Deep.choose_lt each
  refine ⟨(List.range len).map f, .inr (.inr ⟨b, off, cap, by simpa using h0, by simpa using hl, hm, hb, fun j z hz => ?_⟩)⟩
  obtain ⟨hj, rfl⟩ := range_get f hz
  exact hf j hj
theorem open_node {fuel : Nat} {cs : List Value} {x : DataW H × List MemPlace} (h : DataW.trod enc Tp W 0 (fun _ => true) true fuel 133 cs = some x) : ∃ n kv, cs = knCells n kv ∧ n.t.size ≤ maxLen ∧ IM W kv n.ks := by
 obtain ⟨xs, k, _, _, hl, hxl, hf⟩ := DataW.trod_struct uKnot h
 rw [cKnot] at hl
 have hxl' : xs.length = 4 := hxl
 have g0 : DataW.trod enc Tp W 0 (fun _ => true) true k 3 ((cs.drop 0).take (Tp.cellsOf 3)) = xs[0]? := hf 0 _ rfl
 have g1 : DataW.trod enc Tp W 0 (fun _ => true) true k 9 ((cs.drop 1).take (Tp.cellsOf 9)) = xs[1]? := hf 1 _ rfl
 have g2 : DataW.trod enc Tp W 0 (fun _ => true) true k 3 ((cs.drop 2).take (Tp.cellsOf 3)) = xs[2]? := hf 2 _ rfl
 have g3 : DataW.trod enc Tp W 0 (fun _ => true) true k 46 ((cs.drop 3).take (Tp.cellsOf 46)) = xs[3]? := hf 3 _ rfl
 rw [cInt] at g0 g2
 rw [cStr] at g1
 rw [cInts] at g3
 clear hf hxl h
 match xs, hxl', cs, hl with
 | [y0, y1, y2, y3], _, [v0, v1, v2, v3], _ =>
  obtain ⟨k0, e0, _⟩ := DataW.trod_int uInt g0
  obtain ⟨t, e1, _, ht⟩ := DataW.trod_string uStr g1
  obtain ⟨i, e2, _⟩ := DataW.trod_int uInt g2
  obtain ⟨ks, e3⟩ := open_ints (v := v3) g3
  simp at e0 e1 e2
  subst e0 e1 e2
  exact ⟨⟨k0, t, i, ks⟩, v3, rfl, ht, e3⟩
theorem open_nodes {fuel : Nat} {v : Value} {x : DataW H × List MemPlace} (h : DataW.trod enc Tp W 0 (fun _ => true) true fuel 28 [v] = some x) : ∃ ns, NM W v ns := by
 rcases open_rowM uNodes cKnot (by decide) h with h0 | ⟨a, h0⟩ | ⟨b, off, len, cap, n, D, Pl, h0, hl, hm, hb, hx⟩
 ·exact ⟨[], .inl ⟨h0, rfl⟩⟩
 ·exact ⟨[], .inr (.inl ⟨a, h0, rfl⟩)⟩
 ·have each : ∀ i, i < len → ∃ z : Kn, ∃ kv, (∀ c, c < 4 → W.cell? ⟨b, off + (i * 4 + c), none⟩ = (knCells z kv)[c]?) ∧ IM W kv z.ks ∧ z.t.size ≤ maxLen := fun i hi => by
   obtain ⟨cs', h1, h2, h3⟩ := hx i hi
   obtain ⟨z, kv, rfl, h5, h6⟩ := open_node h3
   exact ⟨z, kv, h2, h6, h5⟩
  haveI : Inhabited Kn := ⟨⟨0, ⟨#[]⟩, 0, []⟩⟩
  obtain ⟨f, hf⟩ := Deep.choose_lt each
  refine ⟨(List.range len).map f, .inr (.inr ⟨b, off, cap, by simpa using h0, by simpa using hl, hm, hb, fun j z hz => ?_⟩)⟩
  obtain ⟨hj, rfl⟩ := range_get f hz
  exact hf j hj
theorem open_tree {v : Value} {cs : Array Value} (hv : v = .agg cs) {d : DataW H} {ps : List MemPlace} (h : DataW.Trod enc Tp W 0 (fun _ => true) true 30 v d ps) : ∃ nv ns top, v = trVal nv top ∧ NM W nv ns := by
 subst hv
 obtain ⟨fuel, h⟩ := h
 obtain ⟨xs, k, _, _, hl, hxl, hf⟩ := DataW.trod_struct uTree h
 rw [cTree] at hl
 have hcs : (Value.agg cs).cells.toList = cs.toList := rfl
 rw [hcs] at hl hf
 obtain ⟨l⟩ := cs
 simp only at hl hf
 have hxl' : xs.length = 2 := hxl
 have g0 : DataW.trod enc Tp W 0 (fun _ => true) true k 28 ((l.drop 0).take (Tp.cellsOf 28)) = xs[0]? := hf 0 _ rfl
 have g1 : DataW.trod enc Tp W 0 (fun _ => true) true k 3 ((l.drop 1).take (Tp.cellsOf 3)) = xs[1]? := hf 1 _ rfl
 rw [cNodes] at g0
 rw [cInt] at g1
 clear hf hxl h hcs
 match xs, hxl', l, hl with
 | [y0, y1], _, [v0, v1], _ =>
  obtain ⟨ns, e0⟩ := open_nodes (v := v0) g0
  obtain ⟨top, e1, _⟩ := DataW.trod_int uInt g1
  simp at e1
  subst e1
  exact ⟨v0, ns, top, rfl, e0⟩
end
def KidAt (W : World) (i : Nat) (ks : List Int) (kv ka : Value) (pl : Option AH.Place) : Prop :=
 (kv = .slice none 0 0 ∧ ka = .slice none 0 0 ∧ ks = [] ∧ pl = none) ∨
 (∃ a, kv = .slice (some a) 0 0 ∧ ka = .slice (some ⟨0, 1, none⟩) 0 0 ∧ ks = [] ∧ pl = none) ∨
 ∃ b off cap, kv = .slice (some ⟨b, off, none⟩) ks.length cap ∧ ks.length ≤ cap ∧ ka = slc i 0 ks.length ∧ pl = some ⟨b, off, cap * 1, 1, true, 3⟩ ∧ Blk W b (off + cap * 1) ∧
  ∀ (j : Nat) (n : Int), ks[j]? = some n → W.cell? ⟨b, off + j, none⟩ = some (.int .i64 n)
theorem kid_at {W : World} {kv : Value} {ks : List Int} (h : IM W kv ks) (i : Nat) : ∃ ka pl, KidAt W i ks kv ka pl := by
 rcases h with ⟨h1, h2⟩ | ⟨a, h1, h2⟩ | ⟨b, off, cap, h1, h2, _, h4, h5⟩
 ·exact ⟨_, _, .inl ⟨h1, rfl, h2, rfl⟩⟩
 ·exact ⟨_, _, .inr (.inl ⟨a, h1, rfl, h2, rfl⟩)⟩
 ·exact ⟨_, _, .inr (.inr ⟨b, off, cap, h1, h2, rfl, rfl, h4, h5⟩)⟩
theorem Blk.lt {W : World} {b n : Nat} (h : Blk W b n) : b < W.heap.size := by
 obtain ⟨_, _, _, h1, _⟩ := h
 exact (Array.getElem?_eq_some_iff.1 h1).1
theorem flat4 : ∀ (l : List (List Value)), (∀ x ∈ l, x.length = 4) → (l.flatten.length = l.length * 4) ∧ ∀ (j : Nat) (y : List Value), l[j]? = some y → (l.flatten.drop (j * 4)).take 4 = y
 | [], _ => ⟨rfl, fun j y h => by simp at h⟩
 | x :: l, h => by
  obtain ⟨h1, h2⟩ := flat4 l fun y hy => h y (by simp [hy])
  have hx := h x (by simp)
  refine ⟨by rw [List.flatten_cons, List.length_append, h1, hx, List.length_cons]; omega, fun j y hy => ?_⟩
  cases j with
  | zero =>
   simp at hy; subst hy
   rw [List.flatten_cons, Nat.zero_mul, List.drop_zero, List.take_append_of_le_length (by omega), ← hx, List.take_length]
  | succ j =>
   rw [List.flatten_cons, show (j + 1) * 4 = x.length + j * 4 by omega, ← List.drop_drop, List.drop_append_of_le_length (by omega), List.drop_length, List.nil_append]
   exact h2 j y (by simpa using hy)
def TreeStart (W : World) (nv : Value) (ns : List Kn) : Prop := ∃ (h : AHeap) (ι : Inj) (na : Value), HRel Tp W ι h W ∧ S0 ι na nv ∧ KSg 133 h.size h na ns
theorem start_tree {W : World} {nv : Value} {ns : List Kn} (h : NM W nv ns) : TreeStart W nv ns := by
 rcases h with ⟨h1, h2⟩ | ⟨a, h1, h2⟩ | ⟨b, off, cap, h1, h2, h3, h4, h5⟩
 ·subst h1 h2
  exact ⟨h00, i00, _, start_rel W, .slcNil 0, .inl ⟨rfl, rfl⟩⟩
 ·subst h1 h2
  exact ⟨h00, i00, .slice (some ⟨0, 1, none⟩) 0 0, start_rel W, .slcEmp 0 1 0 a (by omega), .inr (.inl ⟨_, _, rfl, rfl⟩)⟩
 ·subst h1
  have each : ∀ j, j < ns.length → ∃ q : Value × Value × Option AH.Place, ∀ n, ns[j]? = some n → (∀ c, c < 4 → W.cell? ⟨b, off + (j * 4 + c), none⟩ = (knCells n q.1)[c]?) ∧ KidAt W (j + 1) n.ks q.1 q.2.1 q.2.2 := fun j hj => by
   obtain ⟨kv, g1, g2, _⟩ := h5 j _ (List.getElem?_eq_getElem hj)
   obtain ⟨ka, pl, g3⟩ := kid_at g2 (j + 1)
   exact ⟨⟨kv, ka, pl⟩, fun n hn => by rw [List.getElem?_eq_getElem hj] at hn; cases hn; exact ⟨g1, g3⟩⟩
  haveI : Inhabited (Value × Value × Option AH.Place) := ⟨(.nilFunc, .nilFunc, none)⟩
  obtain ⟨q, hq⟩ := Deep.choose_lt each
  let N : Nat → Kn := fun j => (ns[j]?).getD ⟨0, ⟨#[]⟩, 0, []⟩
  have hN : ∀ j n, ns[j]? = some n → N j = n := fun j n hn => by show (ns[j]?).getD _ = n; rw [hn]; rfl
  let L : List (List Value) := (List.range ns.length).map fun j => knCells (N j) (q j).2.1
  have hL : ∀ x ∈ L, x.length = 4 := fun x hx => by
   obtain ⟨j, _, rfl⟩ := List.mem_map.1 hx
   rfl
  have hLl : L.length = ns.length := by simp [L]
  have hLj : ∀ (j : Nat) (n : Kn), ns[j]? = some n → L[j]? = some (knCells n (q j).2.1) := fun j n hn => by
   have hj := (List.getElem?_eq_some_iff.1 hn).1
   show ((List.range ns.length).map _)[j]? = _
   rw [List.getElem?_map, List.getElem?_range hj]
   show some (knCells (N j) (q j).2.1) = _
   rw [hN j n hn]
  obtain ⟨f1, f2⟩ := flat4 L hL
  let R : Nat → Option (AH.Place × List Value) := fun i => match i with
   | 0 => some (⟨b, off, cap * 4, 4, true, 133⟩, L.flatten)
   | j + 1 => (ns[j]?).bind fun n => (q j).2.2.map fun p => (p, ints n.ks)
  have R0 : R 0 = some (⟨b, off, cap * 4, 4, true, 133⟩, L.flatten) := rfl
  have RS : ∀ j, R (j + 1) = (ns[j]?).bind fun n => (q j).2.2.map fun p => (p, ints n.ks) := fun _ => rfl
  have hn : ∀ i r, R i = some r → i < ns.length + 1 := fun i r hr => by
   cases i with
   | zero => omega
   | succ j =>
    rw [RS, Option.bind_eq_some_iff] at hr
    obtain ⟨n, hn, _⟩ := hr
    have := (List.getElem?_eq_some_iff.1 hn).1
    omega
  have kidS : ∀ (j : Nat) (n : Kn), ns[j]? = some n → S0 (iRows R) (q j).2.1 (q j).1 := fun j n hn' => by
   rcases (hq j ((List.getElem?_eq_some_iff.1 hn').1) n hn').2 with ⟨k1, k2, _, _⟩ | ⟨a, k1, k2, _, _⟩ | ⟨b', off', cap', k1, k2, k3, k4, _, _⟩
   ·rw [k1, k2]; exact .slcNil 0
   ·rw [k1, k2]; exact .slcEmp 0 1 0 a (by omega)
   ·rw [k1, k3]
    have hp : (iRows R).pl (j + 1) = some ⟨b', off', cap' * 1, 1, true, 3⟩ := by
     show (R (j + 1)).map (·.1) = _
     rw [RS, hn', oBs, k4]; rfl
    exact S0.slc (ι := iRows R) (j + 1) 0 n.ks.length n.ks.length ⟨b', off', cap' * 1, 1, true, 3⟩ cap' hp k2 (by show 0 + cap' * 1 ≤ cap' * 1; omega)
  have H : HRel Tp W (iRows R) (hRows (ns.length + 1) R) W := by
   refine start_rows hn fun i r hr => ?_
   cases i with
   | zero =>
    rw [R0] at hr; cases hr
    refine ⟨⟨?_, (fun e => by cases e), fun _ => h4.lt, zKnot⟩, rfl, by show L.flatten.length ≤ cap * 4; rw [f1, hLl]; omega, fun idx v hv => ?_⟩
    ·obtain ⟨arr, el, fr, g1, g2⟩ := h4
     exact ⟨arr, el, fr, g1, g2, fun e => by cases e⟩
    ·have hlt : idx < L.flatten.length := (List.getElem?_eq_some_iff.1 hv).1
     rw [f1, hLl] at hlt
     have hj : idx / 4 < ns.length := by omega
     have hn' : ns[idx / 4]? = some ns[idx / 4] := List.getElem?_eq_getElem hj
     have e4 : idx = idx / 4 * 4 + idx % 4 := by omega
     have hc : idx % 4 < 4 := by omega
     have hv' : (knCells ns[idx / 4] (q (idx / 4)).2.1)[idx % 4]? = some v := by
      rw [← drop_take_get (f2 _ _ (hLj _ _ hn')) hc, ← e4]; exact hv
     have hW := (hq _ hj _ hn').1 (idx % 4) hc
     rw [← e4] at hW
     have hk := kidS _ _ hn'
     generalize idx % 4 = c at hc hv' hW
     generalize ns[idx / 4] = n at hv' hW
     match c, hc with
     | 0, _ => cases hv'; exact ⟨_, hW, .s0 (.int _ _)⟩
     | 1, _ => cases hv'; exact ⟨_, hW, .s0 (.string _)⟩
     | 2, _ => cases hv'; exact ⟨_, hW, .s0 (.int _ _)⟩
     | 3, _ => cases hv'; exact ⟨_, hW, .s0 hk⟩
   | succ j =>
    rw [RS, Option.bind_eq_some_iff] at hr
    obtain ⟨n, hn', hr⟩ := hr
    rw [Option.map_eq_some_iff] at hr
    obtain ⟨p, hp, rfl⟩ := hr
    rcases (hq j ((List.getElem?_eq_some_iff.1 hn').1) n hn').2 with ⟨_, _, _, k4⟩ | ⟨_, _, _, _, k4⟩ | ⟨b', off', cap', k1, k2, k3, k4, k5, k6⟩
    ·rw [k4] at hp; cases hp
    ·rw [k4] at hp; cases hp
    ·rw [k4] at hp; cases hp
     refine ⟨⟨?_, (fun e => by cases e), fun _ => k5.lt, zInt⟩, rfl, by show (ints n.ks).length ≤ cap' * 1; simp [ints]; omega, fun idx v hv => ?_⟩
     ·obtain ⟨arr, el, fr, g1, g2⟩ := k5
      exact ⟨arr, el, fr, g1, g2, fun e => by cases e⟩
     ·have hv2 : (n.ks.map (Value.int .i64))[idx]? = some v := hv
      rw [List.getElem?_map, Option.map_eq_some_iff] at hv2
      obtain ⟨z, hz, rfl⟩ := hv2
      exact ⟨_, k6 idx z hz, .s0 (.int _ _)⟩
  refine ⟨hRows (ns.length + 1) R, iRows R, slc 0 0 ns.length, H, ?_, .inr (.inr ⟨0, _, rfl, rows_at (by omega) R0, rfl, by show 0 < ns.length + 1; omega, by show L.flatten.length = _; rw [f1, hLl], fun j n hn' => ⟨(q j).2.1, f2 _ _ (hLj j n hn'), ?_⟩⟩)⟩
  ·exact S0.slc (ι := iRows R) 0 0 ns.length ns.length ⟨b, off, cap * 4, 4, true, 133⟩ cap rfl h2 (by show 0 + cap * 4 ≤ cap * 4; omega)
  ·have hj := (List.getElem?_eq_some_iff.1 hn').1
   rcases (hq j hj n hn').2 with ⟨k1, k2, k3, _⟩ | ⟨a, k1, k2, k3, _⟩ | ⟨b', off', cap', k1, k2, k3, k4, _, _⟩
   ·exact .inl ⟨k2, k3⟩
   ·exact .inr (.inl ⟨_, _, k2, k3⟩)
   ·refine .inr (.inr ⟨j + 1, _, k3, rows_at (r := (⟨b', off', cap' * 1, 1, true, 3⟩, ints n.ks)) (by omega) ?_, rfl, rfl, by show j + 1 < ns.length + 1; omega⟩)
    rw [RS, hn', oBs, k4]; rfl
theorem NM.ok {W : World} {nv : Value} {ns : List Kn} (h : NM W nv ns) : ns.length ≤ bigT ∧ ∀ n ∈ ns, okK n := by
 have hm : maxLen ≤ bigT := by decide
 rcases h with ⟨_, rfl⟩ | ⟨a, _, rfl⟩ | ⟨b, off, cap, _, h2, h3, _, h5⟩
 ·exact ⟨Nat.zero_le _, fun n hn => by simp at hn⟩
 ·exact ⟨Nat.zero_le _, fun n hn => by simp at hn⟩
 ·refine ⟨by omega, fun n hn => ?_⟩
  obtain ⟨j, hj, rfl⟩ := List.getElem_of_mem hn
  obtain ⟨kv, _, g2, g3⟩ := h5 j _ (List.getElem?_eq_getElem hj)
  refine ⟨by omega, ?_⟩
  rcases g2 with ⟨_, e⟩ | ⟨_, _, e⟩ | ⟨_, _, cap', _, e1, e2, _⟩
  ·rw [e]; exact Nat.zero_le _
  ·rw [e]; exact Nat.zero_le _
  ·omega
open Go Go.ChangeShapes Go.WideShapes Go.ChangeAt Go.RowKit Go.ChangeMaps Go.AH
theorem laid : laidOutB Tp = true := by kernel_rfl
theorem rTree : Tp.readableRec 30 = true := by kernel_rfl
theorem tTree : (30 : Nat) < Tp.types.size := of_decide_eq_true (by kernel_rfl)
open Go Go.ChangeShapes Go.WideShapes Go.ChangeAt Go.RowKit Go.ChangeMaps Go.AH
set_option maxRecDepth 100000 in
theorem boxedLifted (hAH : ∀ (nv : Value) (T : List Kn) (top : Int) (h : AHeap), KSl h.size h nv T → T.length ≤ bigT → (∀ n ∈ T, okK n) → ∃ d h', call Tp Ms d 13 [trVal nv top] h = some (.bool true, h')) (os : Os) (started : os.Started) (H : Type) (enc : TypeId × Value → H) :
  ReturnsInHanded {} Try.checked os 13 .any (Rows.fnExactBoxedOfSpec.pre6 enc Tp Try.f13 Rows.fnExactBoxedOfRow.domain false) (Rows.fnExactBoxedOfSpec.post enc Tp Try.f13 false true false false) := by
 refine returnsInHanded_of_change (C := Try.checked) own started (by kernel_rfl) (by kernel_rfl)
  (ChangeSpec.witness6 (enc := enc) (C := Try.checked) false ⟨#[], #[.agg #[.slice none 0 0, .int .i64 0]], []⟩ 8 (by kernel_rfl) (by kernel_rfl) (by kernel_rfl) (by kernel_rfl)) ?_
 intro W base args ds gs before hval0 hW _ _
 have hval : ∀ (j : Nat) t v, Try.f13.params[j]? = some t → args[j]? = some v → Value.okWide Tp W .any base t v := hval0
 have hW' := hW
 obtain ⟨p, q, hA0, hV, rfl, hfz, hnd⟩ := hW
 have hA : DataW.TrodAll enc Tp W 0 (fun _ => true) true Try.f13.params.toList args.toList ds p := hA0
 have hp3 : Try.f13.params = #[30] := by kernel_rfl
 rw [hp3] at hA hval
 obtain ⟨v0, vs0, d0, ds0, p0, q0, hargs, rfl, rfl, h0, r0⟩ := trodAll_cons hA
 obtain ⟨rfl, rfl, rfl⟩ := trodAll_nil r0
 obtain rfl : args = #[v0] := by cases args; simp_all
 obtain ⟨rfl, rfl⟩ := trodVars_none hV
 have hagg : ∃ cs, v0 = .agg cs := by
  have := hval 0 30 v0 rfl rfl
  unfold Value.okWide at this
  rw [uTree] at this
  obtain ⟨cs, e, _⟩ := this
  exact ⟨cs, e⟩
 obtain ⟨cs, hcs⟩ := hagg
 obtain ⟨nv, T, top, hv, hN⟩ := open_tree hcs h0
 obtain ⟨ah, ι, na, HR, hs, hk'⟩ := start_tree hN
 have hk := hk'.ksl
 obtain ⟨hb, hK⟩ := hN.ok
 obtain ⟨d, h', he⟩ := hAH na T top ah hk hb hK
 simp only [List.append_nil] at hW'
 have h0k := h0
 have hlt : ∀ x ∈ p0, x.block < W.heap.size := fun x hx => by simpa using hW'.lt x (by simpa using hx)
 have hrel : VR ι (trVal na top) v0 := by
  rw [hv]
  exact .s2 (.agg (.cons (.s0 hs) (.cons (.s0 (.int _ _)) .nil)))
 refine (law_calls mixed fnOk he (args' := #[v0]) (.cons hrel .nil) HR).mono fun e W' ⟨he, hbel⟩ => ?_
 subst he
 exact ⟨_, rfl, post_below (pa := p0) (pv := []) hW' (fun _ _ _ => (trodAll_cons_mk (shut_bool uBool _) trodAll_mk0)) (fun sp hsp => by
  have := trodAll_cons_mk (WideElems.Trod_stays laid rTree tTree h0k (fun x hx => hbel.same (hlt x hx)) (fun x hx => hsp x (by simpa using hx))) (trodAll_mk0 (enc := enc) (P := Tp) (w := W') (base := 0) (spare := sp) (held := true))
  rw [List.append_nil] at this
  exact this) (fun _ _ => rfl) hbel⟩
theorem Own.stX {b : Nat} {h : AHeap} {i off n : Nat} {e : TypeId} {cs vs : List Value} {v : Value} (x : Own b h i e cs) (hv : aCells v = some vs) (hl : vs.length = n) (hn : off + n ≤ cs.length) :
  ∃ h', aSt h (ptr i off) v n = some h' ∧ Ext b h h' ∧ Own b h' i e (splice cs off vs) ∧ h'.size = h.size ∧ (∀ j o, h.at? j = some o → o.elem ≠ e → h'.at? j = some o) := by
 obtain ⟨r, ep, h1, h2⟩ := x
 have hi := at?_obj h1
 refine ⟨h.put i ⟨r, ep, false, e, cs⟩ (splice cs off vs), by simp [aSt, ptr, h1, hv, hl, hn], Ext.put (Nat.le_trans h2 hi.2.2.1) h2 _, ⟨_, _, at?_put_same h1 _, h2⟩, rfl, fun j o ho he => ?_⟩
 exact at?_put_other ho (fun hj => by subst hj; rw [h1] at ho; cases ho; exact he rfl) _ (fun hh => he hh.1)
def IOwn (b : Nat) (h : AHeap) (v : Value) (xs : List Int) : Prop := ∃ i, v = slc i 0 xs.length ∧ Own b h i 3 (ints xs)
theorem IOwn.ext {b : Nat} {h h' : AHeap} {v : Value} {xs : List Int} (x : IOwn b h v xs) (e : Ext h.size h h') : IOwn b h' v xs := let ⟨i, h1, h2⟩ := x; ⟨i, h1, h2.ext e h2.lt.2⟩
theorem IOwn.isl {b : Nat} {h : AHeap} {v : Value} {xs : List Int} (x : IOwn b h v xs) : ISl h.size h v xs := by
 obtain ⟨i, h1, h2⟩ := x
 have hl := h2.lt.2
 obtain ⟨r, ep, h3, h4⟩ := h2
 exact .inr (.inr ⟨i, _, h1, h3, rfl, rfl, hl⟩)
theorem IOwn.keep {b : Nat} {h h' : AHeap} {v : Value} {xs : List Int} {e : TypeId} (x : IOwn b h v xs) (he : (3 : TypeId) ≠ e) (k : ∀ j o, h.at? j = some o → o.elem ≠ e → h'.at? j = some o) : IOwn b h' v xs := by
 obtain ⟨i, h1, r, ep, h3, h4⟩ := x
 exact ⟨i, h1, r, ep, k i _ h3 he, h4⟩
def IK (b : Nat) (h : AHeap) (v : Value) (xs : List Int) : Prop := ∃ i, v = slc i 0 xs.length ∧ Own i h i 3 (ints xs) ∧ b ≤ i
theorem IK.iown {b : Nat} {h : AHeap} {v : Value} {xs : List Int} (x : IK b h v xs) : IOwn b h v xs := let ⟨i, h1, h2, h3⟩ := x; ⟨i, h1, h2.mono h3⟩
theorem IK.ext {b : Nat} {h h' : AHeap} {v : Value} {xs : List Int} (x : IK b h v xs) (e : Ext h.size h h') : IK b h' v xs := let ⟨i, h1, h2, h3⟩ := x; ⟨i, h1, h2.ext e h2.lt.2, h3⟩
theorem IK.isl {b : Nat} {h : AHeap} {v : Value} {xs : List Int} (x : IK b h v xs) : ISl h.size h v xs := x.iown.isl
theorem IK.keep {b : Nat} {h h' : AHeap} {v : Value} {xs : List Int} {e : TypeId} (x : IK b h v xs) (he : (3 : TypeId) ≠ e) (k : ∀ j o, h.at? j = some o → o.elem ≠ e → h'.at? j = some o) : IK b h' v xs := by
 obtain ⟨i, h1, ⟨r, ep, h3, h4⟩, h5⟩ := x
 exact ⟨i, h1, ⟨r, ep, k i _ h3 he, h4⟩, h5⟩
theorem IK.mono {b c : Nat} {h : AHeap} {v : Value} {xs : List Int} (x : IK b h v xs) (hc : c ≤ b) : IK c h v xs := let ⟨i, h1, h2, h3⟩ := x; ⟨i, h1, h2, Nat.le_trans hc h3⟩
theorem ints_set (ys : List Int) (j : Nat) (v : Int) : (ints ys).set j (.int .i64 v) = ints (ys.set j v) := by simp [ints, List.map_set]
theorem rep_ints (n : Nat) : (List.replicate n [Value.int .i64 0]).flatten = ints (List.replicate n 0) := by
 induction n with
 | zero => rfl
 | succ n ih => rw [List.replicate_succ, List.flatten_cons, ih]; simp [ints, List.replicate_succ]
theorem mk_some (h : AHeap) (e : TypeId) (z : List Value) (bytes n : Nat) (hn : n ≤ 100000000) (hb : n * bytes ≤ 100000000000) : aMk h e z bytes (.int .i64 (n : Int)) (.int .i64 (n : Int)) = some (slc h.size 0 n, h.new e (List.replicate n z).flatten) := by
 have : (n : Int).toNat = n := by omega
 show (if 0 ≤ (n : Int) ∧ (n : Int) ≤ n ∧ (n : Int) ≤ (140737488355328 : Nat) ∧ (n : Int).toNat * bytes ≤ 140737488355328 then some (slc h.size 0 (n : Int).toNat, h.new e (List.replicate (n : Int).toNat z).flatten) else none) = _
 rw [this, if_pos ⟨by omega, by omega, by omega, by omega⟩]
theorem cpI_loop {d N c b r : Nat} {v : Value} {xs : List Int} (hl : xs.length ≤ 1048576) (hcb : c ≤ b) : ∀ (k j m : Nat) (ys : List Int) (h : AHeap), xs.length - j = k → j ≤ xs.length → k < m → ISl c h v xs → Own b h r 3 (ints ys) → ys.length = xs.length → (∀ i, i < j → ys[i]? = xs[i]?) →
  ∃ h', s146_0 hk0 (call Tp Ms d) N m v (slc r 0 xs.length) (j : Int) h = some (slc r 0 xs.length, h') ∧ Ext b h h' ∧ Own b h' r 3 (ints xs) := by
 intro k
 induction k with
 | zero =>
  intro j m ys h hk hj hm x o hy hsame
  obtain ⟨m, rfl⟩ : ∃ q, m = q + 1 := ⟨m - 1, by omega⟩
  have : ¬ ((j : Int) < (xs.length : Int)) := by omega
  have e : ys = xs := List.ext_getElem? fun i => by
   by_cases hi : i < j
   ·exact hsame i hi
   ·rw [List.getElem?_eq_none (by omega), List.getElem?_eq_none (by omega)]
  subst e
  refine ⟨h, ?_, Ext.refl _ _, o⟩
  rw [s146_0_eq, x.len, oBs]
  simp only [asI, if_true, oBs, decide_eq_false this, cond_false]
 | succ k ih =>
  intro j m ys h hk hj hm x o hy hsame
  obtain ⟨m, rfl⟩ : ∃ q, m = q + 1 := ⟨m - 1, by omega⟩
  have hlt : j < xs.length := by omega
  have hI : ((j : Int) < (xs.length : Int)) := by omega
  obtain ⟨p, e1, e2⟩ := x.at hlt
  have hix : aIdx (slc r 0 xs.length) (.int .i64 (j : Int)) 1 = some (ptr r j) := by simp [aIdx, slc, hlt]
  obtain ⟨h2, s2, x2, o2, _⟩ := Own.st1' o (n := j) (v := .int .i64 xs[j]) (by simp [ints]; omega) rfl
  rw [ints_set] at o2
  have wj : IntKind.i64.wrap ((j : Int) + 1) = ((j + 1 : Nat) : Int) := by rw [wr (by omega) (by omega)]; omega
  obtain ⟨h3, c3, x3, o3⟩ := ih (j + 1) m (ys.set j xs[j]) h2 (by omega) (by omega) (by omega) (x.ext (x2.mono hcb)) o2 (by simp [hy]) (fun i hi => by
   by_cases he : i = j
   ·subst he; rw [List.getElem?_set_self (by omega)]; simp [hlt]
   ·rw [List.getElem?_set_ne (by omega)]; exact hsame i (by omega))
  refine ⟨h3, ?_, x2.trans x3, o3⟩
  rw [s146_0_eq, x.len, oBs]
  simp only [asI, if_true, oBs, decide_eq_true hI, cond_true, e1, e2, hix, s2, wj, c3]
theorem l146 {d c : Nat} (hd : 1048577 < d) {v : Value} {xs : List Int} {h : AHeap} (x : ISl c h v xs) (hc : c ≤ h.size) (hl : xs.length ≤ 1048576) :
  ∃ v' h', call Tp Ms (d + 1) 146 [v] h = some (v', h') ∧ Ext h.size h h' ∧ IK h.size h' v' xs := by
 have e1 := Ext.new (Nat.le_refl h.size) 3 (ints (List.replicate xs.length 0))
 have o1 := Own.new (Nat.le_refl h.size) 3 (ints (List.replicate xs.length 0))
 obtain ⟨h2, c2, x2, o2⟩ := cpI_loop (d := d) (N := d) hl hc xs.length 0 d (List.replicate xs.length 0) _ (by omega) (by omega) (by omega) (x.ext (e1.mono hc)) o1 (by simp) (fun i hi => by omega)
 refine ⟨_, h2, ?_, e1.trans x2, _, rfl, o2, Nat.le_refl _⟩
 rw [c146, e146, x.len, oBs]
 simp only [asI, if_true, oBs]
 rw [mk_some _ _ _ _ _ (by omega) (by omega), oBs, rep_ints]
 exact c2
theorem l102 {d c : Nat} (hd : 1048577 < d) {kv : Value} {n : Kn} {h : AHeap} (x : ISl c h kv n.ks) (hc : c ≤ h.size) (hl : n.ks.length ≤ 1048576) :
  ∃ kv' h', call Tp Ms (d + 2) 102 [knVal n kv] h = some (knVal n kv', h') ∧ Ext h.size h h' ∧ IK h.size h' kv' n.ks := by
 have e1 := Ext.new (Nat.le_refl h.size) 133 (knCells n kv)
 have r1 : Row (h.new 133 (knCells n kv)) h.size [.int .i64 n.k, .string n.t, .int .i64 n.i, kv] := (Own.new (b := h.size) (Nat.le_refl _) 133 (knCells n kv)).row
 have s1 : (h.new 133 (knCells n kv)).size = h.size + 1 := rfl
 rw [c102, e102, kn_aCells x, oBs]
 simp only [aNew]
 generalize h.new 133 (knCells n kv) = h1 at e1 r1 s1 ⊢
 have e2 := Ext.new (Nat.le_refl h1.size) 73 [.int .i64 0, .string ⟨#[]⟩, .int .i64 0, .slice none 0 0]
 have o2 := Own.new (Nat.le_refl h1.size) 73 [.int .i64 0, .string ⟨#[]⟩, .int .i64 0, .slice none 0 0]
 have s2 : (h1.new 73 [.int .i64 0, .string ⟨#[]⟩, .int .i64 0, .slice none 0 0]).size = h1.size + 1 := rfl
 generalize h1.new 73 [.int .i64 0, .string ⟨#[]⟩, .int .i64 0, .slice none 0 0] = h2 at e2 o2 s2 ⊢
 have e3 := Ext.new (Nat.le_refl h2.size) 73 [.int .i64 0, .string ⟨#[]⟩, .int .i64 0, .slice none 0 0]
 have o3 := Own.new (Nat.le_refl h2.size) 73 [.int .i64 0, .string ⟨#[]⟩, .int .i64 0, .slice none 0 0]
 have s3 : (h2.new 73 [.int .i64 0, .string ⟨#[]⟩, .int .i64 0, .slice none 0 0]).size = h2.size + 1 := rfl
 generalize h2.new 73 [.int .i64 0, .string ⟨#[]⟩, .int .i64 0, .slice none 0 0] = h3 at e3 o3 s3 ⊢
 have r3 := (r1.ext e2 (by omega)).ext e3 (by omega)
 obtain ⟨h4, t4, e4, o4, s4⟩ := Own.st1' o3 (n := 0) (v := .int .i64 n.k) (by show 0 < 4; omega) rfl
 have r4 := r3.ext e4 (by omega)
 obtain ⟨h5, t5, e5, o5, s5⟩ := Own.st1' o4 (n := 1) (v := .string n.t) (by show 1 < 4; omega) rfl
 have r5 := r4.ext e5 (by omega)
 obtain ⟨h6, t6, e6, o6, s6⟩ := Own.st1' o5 (n := 2) (v := .int .i64 n.i) (by show 2 < 4; omega) rfl
 have r6 := r5.ext e6 (by omega)
 have E6 : Ext c h h6 := ((((((e1.mono hc).trans (e2.mono (by omega))).trans (e3.mono (by omega))).trans (e4.mono (by omega))).trans (e5.mono (by omega))).trans (e6.mono (by omega)))
 obtain ⟨kv', h7, c7, e7, i7⟩ := l146 (d := d) hd (x.ext E6) (by omega) hl
 have hk := i7.isl.cell
 have s7 := e7.size
 obtain ⟨h8, t8, e8, o8, s8, k8⟩ := Own.stX (o6.ext e7 (by omega)) (off := 3) (n := 1) (v := kv') (aCells_one hk.1) rfl (by show 3 + 1 ≤ 4; omega)
 have i8 := i7.keep (e := 73) (by decide) k8
 have r8 : Row h8 h2.size [.int .i64 n.k, .string n.t, .int .i64 n.i, kv'] := o8.row
 have w2 := (((((o2.ext e3 (by omega)).ext e4 (by omega)).ext e5 (by omega)).ext e6 (by omega)).ext e7 (by omega)).ext e8 (by omega)
 obtain ⟨h9, t9, e9, o9, s9, k9⟩ := Own.stX w2 (off := 0) (n := 4) (v := knVal n kv') (kn_aCells i8.isl) rfl (by show 0 + 4 ≤ 4; omega)
 have i9 := i8.keep (e := 73) (by decide) k9
 have r9 : Row h9 h1.size [.int .i64 n.k, .string n.t, .int .i64 n.i, kv'] := o9.row
 refine ⟨kv', h9, ?_, ?_, i9.mono (by omega)⟩
 ·obtain ⟨a0, _, _, _, _⟩ := ld4 r3
  obtain ⟨_, a1, _, _, _⟩ := ld4 r4
  obtain ⟨_, _, a2, _, _⟩ := ld4 r5
  obtain ⟨_, _, _, a3, _⟩ := ld4 r6
  obtain ⟨_, _, _, _, a8⟩ := ld4 r8
  obtain ⟨_, _, _, _, a9⟩ := ld4 r9
  have a8' : aLdN h8 (ptr h2.size 0) 4 = some (knVal n kv') := a8
  have a9' : aLdN h9 (ptr h1.size 0) 4 = some (knVal n kv') := a9
  simp only [aOff_ptr, Nat.zero_add, oBs, asI, asS, if_true, a0, t4, a1, t5, a2, t6, a3]
  rw [c7, oBs]
  simp only [t8, oBs, a8', t9, a9']
 ·exact e1.trans ((e2.mono (by omega)).trans ((e3.mono (by omega)).trans ((e4.mono (by omega)).trans ((e5.mono (by omega)).trans ((e6.mono (by omega)).trans ((e7.mono (by omega)).trans ((e8.mono (by omega)).trans (e9.mono (by omega)))))))))
def KPart (b : Nat) (h : AHeap) (r : Nat) (ns : List Kn) (j : Nat) (cells : List Value) : Prop :=
 Own b h r 73 cells ∧ cells.length = ns.length * 4 ∧ ∀ (i : Nat) (n : Kn), i < j → ns[i]? = some n → ∃ kv, (cells.drop (i * 4)).take 4 = knCells n kv ∧ IK b h kv n.ks
def KOwn (b : Nat) (h : AHeap) (v : Value) (ns : List Kn) : Prop := ∃ r cells, v = slc r 0 ns.length ∧ KPart b h r ns ns.length cells
theorem KPart.ext {b : Nat} {h h' : AHeap} {r j : Nat} {ns : List Kn} {cells : List Value} (x : KPart b h r ns j cells) (e : Ext h.size h h') : KPart b h' r ns j cells :=
 ⟨x.1.ext e x.1.lt.2, x.2.1, fun i n hi hn => let ⟨kv, h1, h2⟩ := x.2.2 i n hi hn; ⟨kv, h1, h2.ext e⟩⟩
theorem KOwn.ext {b : Nat} {h h' : AHeap} {v : Value} {ns : List Kn} (x : KOwn b h v ns) (e : Ext h.size h h') : KOwn b h' v ns := let ⟨r, cs, h1, h2⟩ := x; ⟨r, cs, h1, h2.ext e⟩
theorem KOwn.ksl {b : Nat} {h : AHeap} {v : Value} {ns : List Kn} (x : KOwn b h v ns) : KSl h.size h v ns := by
 obtain ⟨r, cs, h1, h2, h3, h4⟩ := x
 have hl := h2.lt.2
 obtain ⟨rt, ep, h5, h6⟩ := h2
 exact .inr (.inr ⟨r, _, h1, h5, hl, Nat.le_of_eq h3.symm, fun j n hn => let ⟨kv, a, b⟩ := h4 j n (List.getElem?_eq_some_iff.1 hn).1 hn; ⟨kv, a, b.isl⟩⟩)
theorem splice_len {cs vs : List Value} {off : Nat} (h : off + vs.length ≤ cs.length) : (splice cs off vs).length = cs.length := by unfold splice; simp; omega
theorem splice_before {cs vs : List Value} {off i : Nat} (h : i + 4 ≤ off) (h2 : off + vs.length ≤ cs.length) : ((splice cs off vs).drop i).take 4 = (cs.drop i).take 4 := by
 apply List.ext_getElem?
 intro k
 rw [List.getElem?_take, List.getElem?_take]
 by_cases hk : k < 4
 ·rw [if_pos hk, if_pos hk, List.getElem?_drop, List.getElem?_drop]
  unfold splice
  rw [List.append_assoc, List.getElem?_append_left (by simp; omega), List.getElem?_take, if_pos (by omega)]
 ·rw [if_neg hk, if_neg hk]
theorem splice_here {cs vs : List Value} {off : Nat} (h : off + vs.length ≤ cs.length) (h4 : vs.length = 4) : ((splice cs off vs).drop off).take 4 = vs := by
 unfold splice
 rw [List.append_assoc, List.drop_append_of_le_length (by simp; omega)]
 rw [List.drop_eq_nil_of_le (by simp; omega), List.nil_append, List.take_append_of_le_length (by omega), ← h4, List.take_length]
theorem cpK_loop {d N c b r : Nat} (hd : 1048577 < d) {v : Value} {ns : List Kn} (hl : ns.length ≤ 1048576) (hN : ∀ n ∈ ns, n.t.size ≤ 1048576 ∧ n.ks.length ≤ 1048576) (hcb : c ≤ b) : ∀ (k j m : Nat) (cells : List Value) (h : AHeap), ns.length - j = k → j ≤ ns.length → k < m → KSl c h v ns → b ≤ h.size → KPart b h r ns j cells →
  ∃ h' cells', s58_0 hk0 (call Tp Ms (d + 2)) N m v (slc r 0 ns.length) (j : Int) h = some (slc r 0 ns.length, h') ∧ Ext b h h' ∧ KPart b h' r ns ns.length cells' := by
 intro k
 induction k with
 | zero =>
  intro j m cells h hk hj hm x hb o
  obtain ⟨m, rfl⟩ : ∃ q, m = q + 1 := ⟨m - 1, by omega⟩
  have : ¬ ((j : Int) < (ns.length : Int)) := by omega
  have e : j = ns.length := by omega
  subst e
  refine ⟨h, cells, ?_, Ext.refl _ _, o⟩
  rw [s58_0_eq, x.len, oBs]
  simp only [asI, if_true, oBs, decide_eq_false this, cond_false]
 | succ k ih =>
  intro j m cells h hk hj hm x hb o
  obtain ⟨m, rfl⟩ : ∃ q, m = q + 1 := ⟨m - 1, by omega⟩
  have hlt : j < ns.length := by omega
  have hI : ((j : Int) < (ns.length : Int)) := by omega
  obtain ⟨i, kv, e1, e2, e3⟩ := x.at hlt
  obtain ⟨e4, _⟩ := e3 h (Ext.refl _ _)
  have hix : aIdx (slc r 0 ns.length) (.int .i64 (j : Int)) 4 = some (ptr r (j * 4)) := by simp [aIdx, slc, hlt]
  obtain ⟨kv', h2, c2, x2, i2⟩ := l102 hd e2 (Nat.le_trans hcb hb) (hN ns[j] (List.getElem_mem hlt)).2
  have o2 := o.ext x2
  have hfit : j * 4 + (knCells ns[j] kv').length ≤ cells.length := by rw [o.2.1]; show j * 4 + 4 ≤ _; omega
  obtain ⟨h3, t3, x3, o3, s3, k3⟩ := Own.stX o2.1 (off := j * 4) (n := 4) (v := knVal ns[j] kv') (kn_aCells i2.isl) rfl hfit
  have wj : IntKind.i64.wrap ((j : Int) + 1) = ((j + 1 : Nat) : Int) := by rw [wr (by omega) (by omega)]; omega
  have o3' : KPart b h3 r ns (j + 1) (splice cells (j * 4) (knCells ns[j] kv')) := by
   refine ⟨o3, by rw [splice_len hfit]; exact o.2.1, fun i n hi hn => ?_⟩
   by_cases he : i = j
   ·subst he
    rw [List.getElem?_eq_getElem hlt] at hn; cases hn
    exact ⟨kv', splice_here hfit rfl, (i2.mono hb).keep (e := 73) (by decide) k3⟩
   ·obtain ⟨kv2, a, b'⟩ := o2.2.2 i n (by omega) hn
    exact ⟨kv2, by rw [splice_before (by omega) hfit]; exact a, b'.keep (e := 73) (by decide) k3⟩
  obtain ⟨h4, cells', c4, x4, o4⟩ := ih (j + 1) m _ h3 (by omega) (by omega) (by omega) ((x.ext (x2.mono (Nat.le_trans hcb hb))).ext (x3.mono hcb)) (by have := x2.size; omega) o3'
  refine ⟨h4, cells', ?_, (x2.mono hb).trans (x3.trans x4), o4⟩
  rw [s58_0_eq, x.len, oBs]
  simp only [asI, if_true, oBs, decide_eq_true hI, cond_true, e1, e4]
  rw [c2, oBs]
  simp only [hix, oBs, t3, wj, c4]
theorem rep_len (n : Nat) (z : List Value) (hz : z.length = 4) : (List.replicate n z).flatten.length = n * 4 := by
 induction n with
 | zero => rfl
 | succ n ih => rw [List.replicate_succ, List.flatten_cons, List.length_append, ih, hz]; omega
theorem l58 {d c : Nat} (hd : 1048577 < d) {v : Value} {ns : List Kn} {h : AHeap} (x : KSl c h v ns) (hc : c ≤ h.size) (hl : ns.length ≤ 1048576) (hN : ∀ n ∈ ns, n.t.size ≤ 1048576 ∧ n.ks.length ≤ 1048576) :
  ∃ v' h', call Tp Ms (d + 3) 58 [v] h = some (v', h') ∧ Ext h.size h h' ∧ KOwn h.size h' v' ns := by
 have hz : ([.int .i64 0, .string ⟨#[]⟩, .int .i64 0, .slice none 0 0] : List Value).length = 4 := rfl
 generalize hZ : ([.int .i64 0, .string ⟨#[]⟩, .int .i64 0, .slice none 0 0] : List Value) = z at hz
 have e1 := Ext.new (Nat.le_refl h.size) 73 (List.replicate ns.length z).flatten
 have o1 := Own.new (Nat.le_refl h.size) 73 (List.replicate ns.length z).flatten
 obtain ⟨h2, cells, c2, x2, o2⟩ := cpK_loop (d := d) (N := d + 2) hd hl hN hc ns.length 0 (d + 2) (List.replicate ns.length z).flatten _ (by omega) (by omega) (by omega) (x.ext (e1.mono hc)) e1.size ⟨o1, rep_len _ _ hz, fun i n hi => by omega⟩
 refine ⟨_, h2, ?_, e1.trans x2, _, cells, rfl, o2⟩
 rw [c58, e58, x.len, oBs, hZ]
 simp only [asI, if_true, oBs]
 rw [mk_some _ _ _ _ _ (by omega) (by omega), oBs]
 exact c2
theorem KOwn.keep {b : Nat} {h h' : AHeap} {v : Value} {ns : List Kn} {e : TypeId} (x : KOwn b h v ns) (he : (3 : TypeId) ≠ e) (he2 : (73 : TypeId) ≠ e) (k : ∀ j o, h.at? j = some o → o.elem ≠ e → h'.at? j = some o) : KOwn b h' v ns := by
 obtain ⟨r, cs, h1, ⟨rt, ep, h2, h2'⟩, h3, h4⟩ := x
 exact ⟨r, cs, h1, ⟨rt, ep, k r _ h2 he2, h2'⟩, h3, fun i n hi hn => let ⟨kv, a, b⟩ := h4 i n hi hn; ⟨kv, a, b.keep he k⟩⟩
theorem KOwn.mono {b c : Nat} {h : AHeap} {v : Value} {ns : List Kn} (x : KOwn b h v ns) (hc : c ≤ b) : KOwn c h v ns := by
 obtain ⟨r, cs, h1, h2, h3, h4⟩ := x
 exact ⟨r, cs, h1, h2.mono hc, h3, fun i n hi hn => let ⟨kv, a, b⟩ := h4 i n hi hn; ⟨kv, a, b.mono hc⟩⟩
theorem l21 {d c : Nat} (hd : 1048577 < d) {nv : Value} {ns : List Kn} {top : Int} {h : AHeap} (x : KSl c h nv ns) (hc : c ≤ h.size) (hl : ns.length ≤ 1048576) (hN : ∀ n ∈ ns, n.t.size ≤ 1048576 ∧ n.ks.length ≤ 1048576) :
  ∃ nv' h', call Tp Ms (d + 4) 21 [trVal nv top] h = some (trVal nv' top, h') ∧ Ext h.size h h' ∧ KOwn h.size h' nv' ns := by
 have e1 := Ext.new (Nat.le_refl h.size) 30 [nv, .int .i64 top]
 have r1 := (Own.new (b := h.size) (Nat.le_refl _) 30 [nv, .int .i64 top]).row
 have s1 : (h.new 30 [nv, .int .i64 top]).size = h.size + 1 := rfl
 rw [c21, e21, tr_aCells x, oBs]
 simp only [aNew]
 generalize h.new 30 [nv, .int .i64 top] = h1 at e1 r1 s1 ⊢
 have e2 := Ext.new (Nat.le_refl h1.size) 35 [.slice none 0 0, .int .i64 0]
 have o2 := Own.new (Nat.le_refl h1.size) 35 [.slice none 0 0, .int .i64 0]
 have s2 : (h1.new 35 [.slice none 0 0, .int .i64 0]).size = h1.size + 1 := rfl
 generalize h1.new 35 [.slice none 0 0, .int .i64 0] = h2 at e2 o2 s2 ⊢
 have e3 := Ext.new (Nat.le_refl h2.size) 35 [.slice none 0 0, .int .i64 0]
 have o3 := Own.new (Nat.le_refl h2.size) 35 [.slice none 0 0, .int .i64 0]
 have s3 : (h2.new 35 [.slice none 0 0, .int .i64 0]).size = h2.size + 1 := rfl
 generalize h2.new 35 [.slice none 0 0, .int .i64 0] = h3 at e3 o3 s3 ⊢
 have r3 := (r1.ext e2 (by omega)).ext e3 (by omega)
 have E3 : Ext c h h3 := ((e1.mono hc).trans (e2.mono (by omega))).trans (e3.mono (by omega))
 obtain ⟨nv', h4, c4, e4, k4⟩ := l58 hd (x.ext E3) (by omega) hl hN
 have s4 := e4.size
 have r4 := r3.ext e4 (by omega)
 obtain ⟨h5, t5, e5, o5, s5, q5⟩ := Own.stX (o3.ext e4 (by omega)) (off := 0) (n := 1) (v := nv') (aCells_one k4.ksl.cell.1) rfl (by show 0 + 1 ≤ 2; omega)
 have k5 := k4.keep (e := 35) (by decide) (by decide) q5
 have r5 := r4.ext e5 (by omega)
 obtain ⟨h6, t6, e6, o6, s6, q6⟩ := Own.stX o5 (off := 1) (n := 1) (v := .int .i64 top) rfl rfl (by show 1 + 1 ≤ 2; omega)
 have k6 := k5.keep (e := 35) (by decide) (by decide) q6
 have r6 : Row h6 h2.size [nv', .int .i64 top] := o6.row
 have w2 := (((o2.ext e3 (by omega)).ext e4 (by omega)).ext e5 (by omega)).ext e6 (by omega)
 obtain ⟨h7, t7, e7, o7, s7, q7⟩ := Own.stX w2 (off := 0) (n := 2) (v := trVal nv' top) (tr_aCells k6.ksl top) rfl (by show 0 + 2 ≤ 2; omega)
 have k7 := k6.keep (e := 35) (by decide) (by decide) q7
 have r7 : Row h7 h1.size [nv', .int .i64 top] := o7.row
 refine ⟨nv', h7, ?_, ?_, k7.mono (by omega)⟩
 ·obtain ⟨a0, _, _⟩ := ld2 r3
  obtain ⟨_, a1, _⟩ := ld2 r5
  obtain ⟨_, _, a6⟩ := ld2 r6
  obtain ⟨_, _, a7⟩ := ld2 r7
  have a6' : aLdN h6 (ptr h2.size 0) 2 = some (trVal nv' top) := a6
  have a7' : aLdN h7 (ptr h1.size 0) 2 = some (trVal nv' top) := a7
  simp only [aOff_ptr, Nat.zero_add, oBs, a0]
  rw [c4, oBs]
  simp only [t5, oBs, a1, asI, if_true, t6, a6', t7, a7']
 ·exact e1.trans ((e2.mono (by omega)).trans ((e3.mono (by omega)).trans ((e4.mono (by omega)).trans ((e5.mono (by omega)).trans ((e6.mono (by omega)).trans (e7.mono (by omega)))))))
end Go.Proofs.Ytadmoackacickaa
