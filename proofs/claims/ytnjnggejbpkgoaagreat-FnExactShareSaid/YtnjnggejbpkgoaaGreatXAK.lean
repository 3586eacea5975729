import Derived.Test.YtnjnggejbpkgoaaGreatXAE
import Derived.Test.YtnjnggejbpkgoaaGreatXAF
import Derived.Test.YtnjnggejbpkgoaaGreatXAG
set_option linter.unusedSimpArgs false
set_option linter.unusedVariables false
/- Arenas (printed by gw.py). -/
namespace Go.Proofs.YtnjnggejbpkgoaaGreat
open Go Go.AH Go.AM
def m59 (x : Int) (lo : Int) (hi : Int) : Option (Bool) :=
 bif decide (x ≥ lo) then some (decide (x ≤ hi)) else some false
theorem t59 {D : Nat} {h : AHeap} (hD : 1 ≤ D) (x : Int) (lo : Int) (hi : Int) : SmR h (En Value.bool) (m59 x lo hi) (call Tp Ms D 68 [.int .i64 x, .int .i64 lo, .int .i64 hi] h) := by
 obtain ⟨D, rfl⟩ : ∃ d, D = d + 1 := ⟨D - 1, by omega⟩
 rw [c68, e68]
 unfold m59
 have y0 := Cx.start0 h
 have E0 := Ext.refl h.size h
 refine Sm.i (fun k1 => ?_) (fun k1 => ?_)
 ·exact Sm.fin E0 rfl
 ·exact Sm.fin E0 rfl
def m130 (x : Hd) : Option (Bool) :=
 (m59 x.n 1 1000000000).bind fun r2 => bif x.k == 1 then (m59 x.s 1 21).bind fun r4 => bif r4 then some (x.n == 0) else some false else bif x.k == 2 then bif x.s == 3 then some r2 else some false else bif x.k == 3 then bif x.s == 16 then some (x.n == 0) else bif x.s == 32 then some (x.n == 0) else bif x.s == 64 then some (x.n == 0) else bif x.s == 128 then some (x.n == 0) else bif x.s == 256 then some (x.n == 0) else some false else bif x.k == 4 then (m59 x.s 1 25).bind fun r15 => bif r15 then bif (Int.tmod x.s 2) == 1 then some r2 else some false else some false else bif x.k == 5 then bif x.s == 2 then some (x.n == 0) else some false else bif x.k == 6 then bif x.s == 126 then some r2 else some false else some false
theorem t130 {D : Nat} {h : AHeap} (hD : 2 ≤ D) (x : Hd) : SmR h (En Value.bool) (m130 x) (call Tp Ms D 54 [x.v] h) := by
 obtain ⟨D, rfl⟩ : ∃ d, D = d + 1 := ⟨D - 1, by omega⟩
 rw [c54, e54]
 unfold m130
 have y0 := Cx.start0 h
 have E0 := Ext.refl h.size h
 refine Sm.b rfl ?_
 refine Sm.n y0 fun p1 g1 X1 y1 => ?_
 have E1 := E0.trans (X1.mono E0.size)
 refine Sm.b rfl ?_
 refine Sm.b (y1.ldO 0 2 rfl rfl) ?_
 refine Sm.b rfl ?_
 refine Sm.c (t59 (by omega) x.n 1 1000000000) fun r2 g2 e2 X2 => ?_
 have y2 := y1.ext X2
 have E2 := E1.trans (X2.mono E1.size)
 refine Sm.b rfl ?_
 refine Sm.b rfl ?_
 refine Sm.b (y2.ldO 0 0 rfl rfl) ?_
 refine Sm.b rfl ?_
 refine Sm.i (fun k3 => ?_) (fun k3 => ?_)
 ·refine Sm.b rfl ?_
  refine Sm.b (y2.ldO 0 1 rfl rfl) ?_
  refine Sm.b rfl ?_
  refine Sm.c (t59 (by omega) x.s 1 21) fun r4 g4 e1004 X4 => ?_
  have y4 := y2.ext X4
  have E4 := E2.trans (X4.mono E2.size)
  refine Sm.b rfl ?_
  refine Sm.i (fun k5 => ?_) (fun k5 => ?_)
  ·refine Sm.b rfl ?_
   refine Sm.b (y4.ldO 0 2 rfl rfl) ?_
   refine Sm.b rfl ?_
   exact Sm.fin E4 rfl
  ·exact Sm.fin E4 rfl
 ·refine Sm.i (fun k6 => ?_) (fun k6 => ?_)
  ·refine Sm.b rfl ?_
   refine Sm.b (y2.ldO 0 1 rfl rfl) ?_
   refine Sm.b rfl ?_
   refine Sm.i (fun k7 => ?_) (fun k7 => ?_)
   ·exact Sm.fin E2 rfl
   ·exact Sm.fin E2 rfl
  ·refine Sm.i (fun k8 => ?_) (fun k8 => ?_)
   ·refine Sm.b rfl ?_
    refine Sm.b (y2.ldO 0 1 rfl rfl) ?_
    refine Sm.b rfl ?_
    refine Sm.i (fun k9 => ?_) (fun k9 => ?_)
    ·refine Sm.b rfl ?_
     refine Sm.b (y2.ldO 0 2 rfl rfl) ?_
     refine Sm.b rfl ?_
     exact Sm.fin E2 rfl
    ·refine Sm.b rfl ?_
     refine Sm.b (y2.ldO 0 1 rfl rfl) ?_
     refine Sm.b rfl ?_
     refine Sm.i (fun k10 => ?_) (fun k10 => ?_)
     ·refine Sm.b rfl ?_
      refine Sm.b (y2.ldO 0 2 rfl rfl) ?_
      refine Sm.b rfl ?_
      exact Sm.fin E2 rfl
     ·refine Sm.b rfl ?_
      refine Sm.b (y2.ldO 0 1 rfl rfl) ?_
      refine Sm.b rfl ?_
      refine Sm.i (fun k11 => ?_) (fun k11 => ?_)
      ·refine Sm.b rfl ?_
       refine Sm.b (y2.ldO 0 2 rfl rfl) ?_
       refine Sm.b rfl ?_
       exact Sm.fin E2 rfl
      ·refine Sm.b rfl ?_
       refine Sm.b (y2.ldO 0 1 rfl rfl) ?_
       refine Sm.b rfl ?_
       refine Sm.i (fun k12 => ?_) (fun k12 => ?_)
       ·refine Sm.b rfl ?_
        refine Sm.b (y2.ldO 0 2 rfl rfl) ?_
        refine Sm.b rfl ?_
        exact Sm.fin E2 rfl
       ·refine Sm.b rfl ?_
        refine Sm.b (y2.ldO 0 1 rfl rfl) ?_
        refine Sm.b rfl ?_
        refine Sm.i (fun k13 => ?_) (fun k13 => ?_)
        ·refine Sm.b rfl ?_
         refine Sm.b (y2.ldO 0 2 rfl rfl) ?_
         refine Sm.b rfl ?_
         exact Sm.fin E2 rfl
        ·exact Sm.fin E2 rfl
   ·refine Sm.i (fun k14 => ?_) (fun k14 => ?_)
    ·refine Sm.b rfl ?_
     refine Sm.b (y2.ldO 0 1 rfl rfl) ?_
     refine Sm.b rfl ?_
     refine Sm.c (t59 (by omega) x.s 1 25) fun r15 g15 e1015 X15 => ?_
     have y15 := y2.ext X15
     have E15 := E2.trans (X15.mono E2.size)
     refine Sm.b rfl ?_
     refine Sm.i (fun k16 => ?_) (fun k16 => ?_)
     ·refine Sm.b rfl ?_
      refine Sm.b (y15.ldO 0 1 rfl rfl) ?_
      refine Sm.b rfl ?_
      refine Sm.i (fun k17 => ?_) (fun k17 => ?_)
      ·exact Sm.fin E15 rfl
      ·exact Sm.fin E15 rfl
     ·exact Sm.fin E15 rfl
    ·refine Sm.i (fun k18 => ?_) (fun k18 => ?_)
     ·refine Sm.b rfl ?_
      refine Sm.b (y2.ldO 0 1 rfl rfl) ?_
      refine Sm.b rfl ?_
      refine Sm.i (fun k19 => ?_) (fun k19 => ?_)
      ·refine Sm.b rfl ?_
       refine Sm.b (y2.ldO 0 2 rfl rfl) ?_
       refine Sm.b rfl ?_
       exact Sm.fin E2 rfl
      ·exact Sm.fin E2 rfl
     ·refine Sm.i (fun k20 => ?_) (fun k20 => ?_)
      ·refine Sm.b rfl ?_
       refine Sm.b (y2.ldO 0 1 rfl rfl) ?_
       refine Sm.b rfl ?_
       refine Sm.i (fun k21 => ?_) (fun k21 => ?_)
       ·exact Sm.fin E2 rfl
       ·exact Sm.fin E2 rfl
      ·exact Sm.fin E2 rfl
def m129 (x : Hd) : Option ((Int × Bool)) :=
 (m130 ⟨x.k, x.s, x.n⟩).bind fun r2 => bif !r2 then some ((0, false)) else some ((IntKind.u64.wrap ((IntKind.u64.wrap ((IntKind.u64.wrap x.k) + (IntKind.u64.wrap ((IntKind.u64.wrap x.s) * 16)))) + (IntKind.u64.wrap ((IntKind.u64.wrap x.n) * 1048576))), true))
theorem t129 {D : Nat} {h : AHeap} (hD : 3 ≤ D) (x : Hd) : SmR h (En eUB) (m129 x) (call Tp Ms D 83 [x.v] h) := by
 obtain ⟨D, rfl⟩ : ∃ d, D = d + 1 := ⟨D - 1, by omega⟩
 rw [c83, e83]
 unfold m129
 have y0 := Cx.start0 h
 have E0 := Ext.refl h.size h
 refine Sm.b rfl ?_
 refine Sm.n y0 fun p1 g1 X1 y1 => ?_
 have E1 := E0.trans (X1.mono E0.size)
 refine Sm.b (y1.ldON 0 rfl rfl) ?_
 refine Sm.c (t130 (by omega) ⟨x.k, x.s, x.n⟩) fun r2 g2 e2 X2 => ?_
 have y2 := y1.ext X2
 have E2 := E1.trans (X2.mono E1.size)
 refine Sm.b rfl ?_
 refine Sm.i (fun k3 => ?_) (fun k3 => ?_)
 ·exact Sm.fin E2 rfl
 ·refine Sm.b rfl ?_
  refine Sm.b (y2.ldO 0 0 rfl rfl) ?_
  refine Sm.b rfl ?_
  refine Sm.b rfl ?_
  refine Sm.b (y2.ldO 0 1 rfl rfl) ?_
  refine Sm.b rfl ?_
  refine Sm.b rfl ?_
  refine Sm.b (y2.ldO 0 2 rfl rfl) ?_
  refine Sm.b rfl ?_
  exact Sm.fin E2 rfl
def m90 (w : Int) : Option ((Hd × Bool)) :=
 (m129 ⟨IntKind.i64.wrap (IntKind.u64.wrap (BitVec.ofInt IntKind.u64.bits w &&& BitVec.ofInt IntKind.u64.bits 15).toNat), IntKind.i64.wrap (IntKind.u64.wrap (BitVec.ofInt IntKind.u64.bits (Int.fdiv w (2 ^ (min (Int.toNat 4) IntKind.u64.bits))) &&& BitVec.ofInt IntKind.u64.bits 65535).toNat), IntKind.i64.wrap (IntKind.u64.wrap (BitVec.ofInt IntKind.u64.bits (Int.fdiv w (2 ^ (min (Int.toNat 20) IntKind.u64.bits))) &&& BitVec.ofInt IntKind.u64.bits 4294967295).toNat)⟩).bind fun r4 => bif !r4.2 then some ((⟨0, 0, 0⟩, false)) else bif (r4.1 != w) then some ((⟨0, 0, 0⟩, false)) else some ((⟨IntKind.i64.wrap (IntKind.u64.wrap (BitVec.ofInt IntKind.u64.bits w &&& BitVec.ofInt IntKind.u64.bits 15).toNat), IntKind.i64.wrap (IntKind.u64.wrap (BitVec.ofInt IntKind.u64.bits (Int.fdiv w (2 ^ (min (Int.toNat 4) IntKind.u64.bits))) &&& BitVec.ofInt IntKind.u64.bits 65535).toNat), IntKind.i64.wrap (IntKind.u64.wrap (BitVec.ofInt IntKind.u64.bits (Int.fdiv w (2 ^ (min (Int.toNat 20) IntKind.u64.bits))) &&& BitVec.ofInt IntKind.u64.bits 4294967295).toNat)⟩, true))
theorem t90 {D : Nat} {h : AHeap} (hD : 4 ≤ D) (w : Int) : SmR h (En eHB) (m90 w) (call Tp Ms D 53 [.int .u64 w] h) := by
 obtain ⟨D, rfl⟩ : ∃ d, D = d + 1 := ⟨D - 1, by omega⟩
 rw [c53, e53]
 unfold m90
 have y0 := Cx.start0 h
 have E0 := Ext.refl h.size h
 refine Sm.n y0 fun p1 g1 X1 y1 => ?_
 have E1 := E0.trans (X1.mono E0.size)
 refine Sm.n y1 fun p2 g2 X2 y2 => ?_
 have E2 := E1.trans (X2.mono E1.size)
 refine Sm.st y2 0 rfl rfl rfl (by simp [splice]) fun g3 X3 y3 => ?_
 have E3 := E2.trans X3
 refine Sm.b (y3.ldON 0 rfl rfl) ?_
 refine Sm.c (t129 (by omega) ⟨IntKind.i64.wrap (IntKind.u64.wrap (BitVec.ofInt IntKind.u64.bits w &&& BitVec.ofInt IntKind.u64.bits 15).toNat), IntKind.i64.wrap (IntKind.u64.wrap (BitVec.ofInt IntKind.u64.bits (Int.fdiv w (2 ^ (min (Int.toNat 4) IntKind.u64.bits))) &&& BitVec.ofInt IntKind.u64.bits 65535).toNat), IntKind.i64.wrap (IntKind.u64.wrap (BitVec.ofInt IntKind.u64.bits (Int.fdiv w (2 ^ (min (Int.toNat 20) IntKind.u64.bits))) &&& BitVec.ofInt IntKind.u64.bits 4294967295).toNat)⟩) fun r4 g4 e1004 X4 => ?_
 have y4 := y3.ext X4
 have E4 := E3.trans (X4.mono E3.size)
 refine Sm.b rfl ?_
 refine Sm.b rfl ?_
 refine Sm.b rfl ?_
 refine Sm.b rfl ?_
 refine Sm.i (fun k5 => ?_) (fun k5 => ?_)
 ·rw [s53_0_j, s53_0_eq]
  refine Sm.ct rfl ?_
  refine Sm.st y4 1 rfl rfl rfl (by simp [splice]) fun g6 X6 y6 => ?_
  have E6 := E4.trans X6
  refine Sm.b (y6.ldON 1 rfl rfl) ?_
  refine Sm.ct rfl ?_
  exact Sm.fin E6 rfl
 ·rw [s53_0_j, s53_0_eq]
  refine Sm.i (fun k7 => ?_) (fun k7 => ?_)
  ·refine Sm.st y4 1 rfl rfl rfl (by simp [splice]) fun g8 X8 y8 => ?_
   have E8 := E4.trans X8
   refine Sm.b (y8.ldON 1 rfl rfl) ?_
   refine Sm.ct rfl ?_
   exact Sm.fin E8 rfl
  ·rw [s53_1_j, s53_1_eq]
   refine Sm.b (y4.ldON 0 rfl rfl) ?_
   refine Sm.st y4 1 rfl rfl rfl (by simp [splice]) fun g9 X9 y9 => ?_
   have E9 := E4.trans X9
   refine Sm.b (y9.ldON 1 rfl rfl) ?_
   refine Sm.ct rfl ?_
   exact Sm.fin E9 rfl
def m91 (w : Int) : Option ((Int × Bool)) :=
 bif (Int.fdiv w (2 ^ (min (Int.toNat 63) IntKind.u64.bits))) == 0 then some ((0, false)) else bif (decide ((IntKind.u64.wrap (BitVec.ofInt IntKind.u64.bits w &&& BitVec.ofInt IntKind.u64.bits 9223372036854775807).toNat) > 2147483647)) then some ((0, false)) else some ((IntKind.i64.wrap (IntKind.u64.wrap (BitVec.ofInt IntKind.u64.bits w &&& BitVec.ofInt IntKind.u64.bits 9223372036854775807).toNat), true))
theorem t91 {D : Nat} {h : AHeap} (hD : 1 ≤ D) (w : Int) : SmR h (En eIB) (m91 w) (call Tp Ms D 70 [.int .u64 w] h) := by
 obtain ⟨D, rfl⟩ : ∃ d, D = d + 1 := ⟨D - 1, by omega⟩
 rw [c70, e70]
 unfold m91
 have y0 := Cx.start0 h
 have E0 := Ext.refl h.size h
 refine Sm.i (fun k1 => ?_) (fun k1 => ?_)
 ·rw [s70_0_j, s70_0_eq]
  refine Sm.ct rfl ?_
  exact Sm.fin E0 rfl
 ·rw [s70_0_j, s70_0_eq]
  refine Sm.i (fun k2 => ?_) (fun k2 => ?_)
  ·exact Sm.fin E0 rfl
  ·exact Sm.fin E0 rfl
def m55 (a : Ar) (p : Int) : Option (Hd) :=
 (rd a.ws p).bind fun w3 => (m90 w3).bind fun r4 => some ⟨r4.1.k, r4.1.s, r4.1.n⟩
theorem t55 {D : Nat} {h : AHeap} (hD : 5 ≤ D) {wv rv : Value} {a : Ar} (H : ArH h wv rv a) (p : Int) : SmR h (En Hd.v) (m55 a p) (call Tp Ms D 19 [arV wv rv a, .int .i64 p] h) := by
 obtain ⟨D, rfl⟩ : ∃ d, D = d + 1 := ⟨D - 1, by omega⟩
 rw [c19, e19]
 unfold m55
 have y0 := Cx.start0 h
 have E0 := Ext.refl h.size h
 refine Sm.b H.cells ?_
 refine Sm.n y0 fun p1 g1 X1 y1 => ?_
 have E1 := E0.trans (X1.mono E0.size)
 refine Sm.n y1 fun p2 g2 X2 y2 => ?_
 have E2 := E1.trans (X2.mono E1.size)
 refine Sm.b rfl ?_
 refine Sm.b (y2.ldO 1 0 rfl rfl) ?_
 refine Sm.mo fun w3 e1003 => ?_
 obtain ⟨q3, i3, l3⟩ := H.w.at e1003
 refine Sm.b i3 ?_
 refine Sm.b (l3 _ E2) ?_
 refine Sm.b rfl ?_
 refine Sm.c (t90 (by omega) w3) fun r4 g4 e1004 X4 => ?_
 have y4 := y2.ext X4
 have E4 := E2.trans (X4.mono E2.size)
 refine Sm.b rfl ?_
 refine Sm.b rfl ?_
 refine Sm.b rfl ?_
 refine Sm.n y4 fun p5 g5 X5 y5 => ?_
 have E5 := E4.trans (X5.mono E4.size)
 refine Sm.st y5 0 rfl rfl rfl (by simp [splice]) fun g6 X6 y6 => ?_
 have E6 := E5.trans X6
 refine Sm.b (y6.ldON 0 rfl rfl) ?_
 refine Sm.st y6 1 rfl rfl rfl (by simp [splice]) fun g7 X7 y7 => ?_
 have E7 := E6.trans X7
 refine Sm.b (y7.ldON 1 rfl rfl) ?_
 exact Sm.fin E7 rfl
def m61 (a : Ar) (p : Int) : Option (Int) :=
 (rd a.ws p).bind fun w2 => (m91 w2).bind fun r3 => bif r3.2 then some r3.1 else some p
theorem t61 {D : Nat} {h : AHeap} (hD : 2 ≤ D) {wv rv : Value} {a : Ar} (H : ArH h wv rv a) (p : Int) : SmR h (En (Value.int .i64)) (m61 a p) (call Tp Ms D 74 [arV wv rv a, .int .i64 p] h) := by
 obtain ⟨D, rfl⟩ : ∃ d, D = d + 1 := ⟨D - 1, by omega⟩
 rw [c74, e74]
 unfold m61
 have y0 := Cx.start0 h
 have E0 := Ext.refl h.size h
 refine Sm.b H.cells ?_
 refine Sm.n y0 fun p1 g1 X1 y1 => ?_
 have E1 := E0.trans (X1.mono E0.size)
 refine Sm.b rfl ?_
 refine Sm.b (y1.ldO 0 0 rfl rfl) ?_
 refine Sm.mo fun w2 e2 => ?_
 obtain ⟨q2, i2, l2⟩ := H.w.at e2
 refine Sm.b i2 ?_
 refine Sm.b (l2 _ E1) ?_
 refine Sm.b rfl ?_
 refine Sm.c (t91 (by omega) w2) fun r3 g3 e1003 X3 => ?_
 have y3 := y1.ext X3
 have E3 := E1.trans (X3.mono E1.size)
 refine Sm.b rfl ?_
 refine Sm.b rfl ?_
 refine Sm.b rfl ?_
 refine Sm.b rfl ?_
 refine Sm.i (fun k4 => ?_) (fun k4 => ?_)
 ·exact Sm.fin E3 rfl
 ·exact Sm.fin E3 rfl
def m95 (a : Ar) (p : Int) (i : Int) : Option (Int) :=
 (rd a.ws (IntKind.i64.wrap (p + i))).bind fun w2 => some (IntKind.i64.wrap w2)
theorem t95 {D : Nat} {h : AHeap} (hD : 1 ≤ D) {wv rv : Value} {a : Ar} (H : ArH h wv rv a) (p : Int) (i : Int) : SmR h (En (Value.int .i64)) (m95 a p i) (call Tp Ms D 72 [arV wv rv a, .int .i64 p, .int .i64 i] h) := by
 obtain ⟨D, rfl⟩ : ∃ d, D = d + 1 := ⟨D - 1, by omega⟩
 rw [c72, e72]
 unfold m95
 have y0 := Cx.start0 h
 have E0 := Ext.refl h.size h
 refine Sm.b H.cells ?_
 refine Sm.n y0 fun p1 g1 X1 y1 => ?_
 have E1 := E0.trans (X1.mono E0.size)
 refine Sm.b rfl ?_
 refine Sm.b (y1.ldO 0 0 rfl rfl) ?_
 refine Sm.mo fun w2 e2 => ?_
 obtain ⟨q2, i2, l2⟩ := H.w.at e2
 refine Sm.b i2 ?_
 refine Sm.b (l2 _ E1) ?_
 refine Sm.b rfl ?_
 exact Sm.fin E1 rfl
def m101 (t : Int) : Option (Int) :=
 bif t == 3 then some 1 else bif t == 4 then some 2 else bif t == 5 then some 4 else bif t == 6 then some 6 else bif t == 8 then some 3 else bif t == 9 then some 5 else some 0
theorem t101 {D : Nat} {h : AHeap} (hD : 1 ≤ D) (t : Int) : SmR h (En (Value.int .i64)) (m101 t) (call Tp Ms D 79 [.int .i64 t] h) := by
 obtain ⟨D, rfl⟩ : ∃ d, D = d + 1 := ⟨D - 1, by omega⟩
 rw [c79, e79]
 unfold m101
 have y0 := Cx.start0 h
 have E0 := Ext.refl h.size h
 refine Sm.i (fun k1 => ?_) (fun k1 => ?_)
 ·exact Sm.fin E0 rfl
 ·refine Sm.i (fun k2 => ?_) (fun k2 => ?_)
  ·exact Sm.fin E0 rfl
  ·refine Sm.i (fun k3 => ?_) (fun k3 => ?_)
   ·exact Sm.fin E0 rfl
   ·refine Sm.i (fun k4 => ?_) (fun k4 => ?_)
    ·exact Sm.fin E0 rfl
    ·refine Sm.i (fun k5 => ?_) (fun k5 => ?_)
     ·exact Sm.fin E0 rfl
     ·refine Sm.i (fun k6 => ?_) (fun k6 => ?_)
      ·exact Sm.fin E0 rfl
      ·exact Sm.fin E0 rfl
def m100 (v : Vl) : Option (Bool) :=
 (m101 v.t).bind fun r2 => some (r2 != 0)
theorem t100 {D : Nat} {h : AHeap} (hD : 2 ≤ D) (v : Vl) : SmR h (En Value.bool) (m100 v) (call Tp Ms D 78 [v.v] h) := by
 obtain ⟨D, rfl⟩ : ∃ d, D = d + 1 := ⟨D - 1, by omega⟩
 rw [c78, e78]
 unfold m100
 have y0 := Cx.start0 h
 have E0 := Ext.refl h.size h
 refine Sm.b rfl ?_
 refine Sm.n y0 fun p1 g1 X1 y1 => ?_
 have E1 := E0.trans (X1.mono E0.size)
 refine Sm.b rfl ?_
 refine Sm.b (y1.ldO 0 0 rfl rfl) ?_
 refine Sm.b rfl ?_
 refine Sm.c (t101 (by omega) v.t) fun r2 g2 e2 X2 => ?_
 have y2 := y1.ext X2
 have E2 := E1.trans (X2.mono E1.size)
 refine Sm.b rfl ?_
 exact Sm.fin E2 rfl
def m57 (v : Vl) : Option (Bool) :=
 bif v.t == 0 then some (v.n == 0) else bif v.t == 1 then bif v.n == 0 then some true else some (v.n == 1) else bif v.t == 2 then some true else bif v.t == 7 then (m59 v.n 1 20).bind fun r7 => some r7 else (m100 ⟨v.t, v.n⟩).bind fun r8 => bif r8 then some (decide (v.n > 0)) else some false
theorem t57 {D : Nat} {h : AHeap} (hD : 3 ≤ D) (v : Vl) : SmR h (En Value.bool) (m57 v) (call Tp Ms D 47 [v.v] h) := by
 obtain ⟨D, rfl⟩ : ∃ d, D = d + 1 := ⟨D - 1, by omega⟩
 rw [c47, e47]
 unfold m57
 have y0 := Cx.start0 h
 have E0 := Ext.refl h.size h
 refine Sm.b rfl ?_
 refine Sm.n y0 fun p1 g1 X1 y1 => ?_
 have E1 := E0.trans (X1.mono E0.size)
 refine Sm.b rfl ?_
 refine Sm.b (y1.ldO 0 0 rfl rfl) ?_
 refine Sm.b rfl ?_
 refine Sm.i (fun k2 => ?_) (fun k2 => ?_)
 ·refine Sm.b rfl ?_
  refine Sm.b (y1.ldO 0 1 rfl rfl) ?_
  refine Sm.b rfl ?_
  exact Sm.fin E1 rfl
 ·refine Sm.i (fun k3 => ?_) (fun k3 => ?_)
  ·refine Sm.b rfl ?_
   refine Sm.b (y1.ldO 0 1 rfl rfl) ?_
   refine Sm.b rfl ?_
   refine Sm.i (fun k4 => ?_) (fun k4 => ?_)
   ·exact Sm.fin E1 rfl
   ·refine Sm.b rfl ?_
    refine Sm.b (y1.ldO 0 1 rfl rfl) ?_
    refine Sm.b rfl ?_
    exact Sm.fin E1 rfl
  ·refine Sm.i (fun k5 => ?_) (fun k5 => ?_)
   ·exact Sm.fin E1 rfl
   ·refine Sm.i (fun k6 => ?_) (fun k6 => ?_)
    ·refine Sm.b rfl ?_
     refine Sm.b (y1.ldO 0 1 rfl rfl) ?_
     refine Sm.b rfl ?_
     refine Sm.c (t59 (by omega) v.n 1 20) fun r7 g7 e1007 X7 => ?_
     have y7 := y1.ext X7
     have E7 := E1.trans (X7.mono E1.size)
     refine Sm.b rfl ?_
     exact Sm.fin E7 rfl
    ·refine Sm.b (y1.ldON 0 rfl rfl) ?_
     refine Sm.c (t100 (by omega) ⟨v.t, v.n⟩) fun r8 g8 e6 X8 => ?_
     have y8 := y1.ext X8
     have E8 := E1.trans (X8.mono E1.size)
     refine Sm.b rfl ?_
     refine Sm.i (fun k9 => ?_) (fun k9 => ?_)
     ·refine Sm.b rfl ?_
      refine Sm.b (y8.ldO 0 1 rfl rfl) ?_
      refine Sm.b rfl ?_
      exact Sm.fin E8 rfl
     ·exact Sm.fin E8 rfl
def m93 (ws : List Int) (i : Int) : Option ((Vl × Bool)) :=
 (rd ws i).bind fun w2 => bif decide (w2 > 15) then some ((⟨0, 0⟩, false)) else (rd ws (IntKind.i64.wrap (i + 1))).bind fun w5 => (m57 ⟨IntKind.i64.wrap w2, IntKind.i64.wrap w5⟩).bind fun r8 => bif !r8 then some ((⟨0, 0⟩, false)) else some ((⟨IntKind.i64.wrap w2, IntKind.i64.wrap w5⟩, true))
theorem t93 {D : Nat} {h : AHeap} (hD : 4 ≤ D) {vws : Value} {ws : List Int} (Sws : SlI .u64 h vws ws) (i : Int) : SmR h (En eVB) (m93 ws i) (call Tp Ms D 21 [vws, .int .i64 i] h) := by
 obtain ⟨D, rfl⟩ : ∃ d, D = d + 1 := ⟨D - 1, by omega⟩
 rw [c21, e21]
 unfold m93
 have y0 := Cx.start0 h
 have E0 := Ext.refl h.size h
 refine Sm.n y0 fun p1 g1 X1 y1 => ?_
 have E1 := E0.trans (X1.mono E0.size)
 refine Sm.mo fun w2 e2 => ?_
 obtain ⟨q2, i2, l2⟩ := Sws.at e2
 refine Sm.b i2 ?_
 refine Sm.b (l2 _ E1) ?_
 refine Sm.b rfl ?_
 refine Sm.i (fun k3 => ?_) (fun k3 => ?_)
 ·refine Sm.st y1 0 rfl rfl rfl (by simp [splice]) fun g4 X4 y4 => ?_
  have E4 := E1.trans X4
  refine Sm.b (y4.ldON 0 rfl rfl) ?_
  refine Sm.ct rfl ?_
  exact Sm.fin E4 rfl
 ·refine Sm.b i2 ?_
  refine Sm.b (l2 _ E1) ?_
  refine Sm.b rfl ?_
  refine Sm.mo fun w5 e1005 => ?_
  obtain ⟨q5, i5, l5⟩ := Sws.at e1005
  refine Sm.b i5 ?_
  refine Sm.b (l5 _ E1) ?_
  refine Sm.b rfl ?_
  refine Sm.n y1 fun p6 g6 X6 y6 => ?_
  have E6 := E1.trans (X6.mono E1.size)
  refine Sm.b (agI (l2 _ E6)) ?_
  refine Sm.ct rfl ?_
  refine Sm.b (congrArg some (vbI' _ _)) ?_
  refine Sm.ct rfl ?_
  refine Sm.b (agI (l5 _ E6)) ?_
  refine Sm.ct rfl ?_
  refine Sm.b (congrArg some (vbI' _ _)) ?_
  refine Sm.ct rfl ?_
  refine Sm.st y6 0 rfl rfl rfl (by simp [splice]) fun g7 X7 y7 => ?_
  have E7 := E6.trans X7
  refine Sm.b (y7.ldON 0 rfl rfl) ?_
  refine Sm.c (t57 (by omega) ⟨IntKind.i64.wrap w2, IntKind.i64.wrap w5⟩) fun r8 g8 e6 X8 => ?_
  have y8 := y7.ext X8
  have E8 := E7.trans (X8.mono E7.size)
  refine Sm.b rfl ?_
  refine Sm.i (fun k9 => ?_) (fun k9 => ?_)
  ·refine Sm.st y8 1 rfl rfl rfl (by simp [splice]) fun g10 X10 y10 => ?_
   have E10 := E8.trans X10
   refine Sm.b (y10.ldON 1 rfl rfl) ?_
   refine Sm.ct rfl ?_
   exact Sm.fin E10 rfl
  ·refine Sm.b (y8.ldON 0 rfl rfl) ?_
   refine Sm.st y8 1 rfl rfl rfl (by simp [splice]) fun g11 X11 y11 => ?_
   have E11 := E8.trans X11
   refine Sm.b (y11.ldON 1 rfl rfl) ?_
   refine Sm.ct rfl ?_
   exact Sm.fin E11 rfl
def m88 (a : Ar) (x : Int) : Option (Int) :=
 some (IntKind.i64.wrap ((IntKind.i64.wrap (x * a.semi)) + 1))
theorem t88 {D : Nat} {h : AHeap} (hD : 1 ≤ D) {wv rv : Value} {a : Ar} (H : ArH h wv rv a) (x : Int) : SmR h (En (Value.int .i64)) (m88 a x) (call Tp Ms D 18 [arV wv rv a, .int .i64 x] h) := by
 obtain ⟨D, rfl⟩ : ∃ d, D = d + 1 := ⟨D - 1, by omega⟩
 rw [c18, e18]
 unfold m88
 have y0 := Cx.start0 h
 have E0 := Ext.refl h.size h
 refine Sm.b H.cells ?_
 refine Sm.n y0 fun p1 g1 X1 y1 => ?_
 have E1 := E0.trans (X1.mono E0.size)
 refine Sm.b rfl ?_
 refine Sm.b (y1.ldO 0 1 rfl rfl) ?_
 refine Sm.b rfl ?_
 exact Sm.fin E1 rfl
def m89 (a : Ar) : Option (Int) :=
 some (IntKind.i64.wrap ((IntKind.i64.wrap (a.to + 1)) * a.semi))
theorem t89 {D : Nat} {h : AHeap} (hD : 1 ≤ D) {wv rv : Value} {a : Ar} (H : ArH h wv rv a) : SmR h (En (Value.int .i64)) (m89 a) (call Tp Ms D 69 [arV wv rv a] h) := by
 obtain ⟨D, rfl⟩ : ∃ d, D = d + 1 := ⟨D - 1, by omega⟩
 rw [c69, e69]
 unfold m89
 have y0 := Cx.start0 h
 have E0 := Ext.refl h.size h
 refine Sm.b H.cells ?_
 refine Sm.n y0 fun p1 g1 X1 y1 => ?_
 have E1 := E0.trans (X1.mono E0.size)
 refine Sm.b rfl ?_
 refine Sm.b (y1.ldO 0 2 rfl rfl) ?_
 refine Sm.b rfl ?_
 refine Sm.b rfl ?_
 refine Sm.b (y1.ldO 0 1 rfl rfl) ?_
 refine Sm.b rfl ?_
 exact Sm.fin E1 rfl
def m51 (a : Ar) : Option (Bool) :=
 (m59 a.semi 256 4000).bind fun r2 => bif !r2 then some false else bif ((a.ws.length : Int)) != (IntKind.i64.wrap (2 * a.semi)) then some false else (m59 a.to 0 1).bind fun r5 => bif !r5 then some false else (m59 a.ser 1 1000000000).bind fun r7 => bif !r7 then some false else bif (decide (((a.rs.length : Int)) > 24)) then some false else (m88 a a.to).bind fun r10 => (m89 a).bind fun r11 => (m59 a.top r10 r11).bind fun r12 => bif !r12 then some false else bif !a.cyc then bif a.scan == 0 then bif a.old == 0 then some (a.cop == 0) else some false else some false else (m88 a (IntKind.i64.wrap (1 - a.to))).bind fun r17 => (m59 a.old r17 (IntKind.i64.wrap ((IntKind.i64.wrap (2 - a.to)) * a.semi))).bind fun r18 => bif !r18 then some false else (m59 a.cop 0 (IntKind.i64.wrap (a.old - r17))).bind fun r20 => bif (!r20) then some false else (m89 a).bind fun r22 => some (decide ((IntKind.i64.wrap ((IntKind.i64.wrap ((IntKind.i64.wrap (a.top + a.old)) - r17)) - a.cop)) ≤ r22))
theorem t51 {D : Nat} {h : AHeap} (hD : 2 ≤ D) {wv rv : Value} {a : Ar} (H : ArH h wv rv a) : SmR h (En Value.bool) (m51 a) (call Tp Ms D 42 [arV wv rv a] h) := by
 obtain ⟨D, rfl⟩ : ∃ d, D = d + 1 := ⟨D - 1, by omega⟩
 rw [c42, e42]
 unfold m51
 have y0 := Cx.start0 h
 have E0 := Ext.refl h.size h
 refine Sm.b H.cells ?_
 refine Sm.n y0 fun p1 g1 X1 y1 => ?_
 have E1 := E0.trans (X1.mono E0.size)
 refine Sm.b rfl ?_
 refine Sm.b (y1.ldO 0 1 rfl rfl) ?_
 refine Sm.b rfl ?_
 refine Sm.c (t59 (by omega) a.semi 256 4000) fun r2 g2 e2 X2 => ?_
 have y2 := y1.ext X2
 have E2 := E1.trans (X2.mono E1.size)
 refine Sm.b rfl ?_
 refine Sm.i (fun k3 => ?_) (fun k3 => ?_)
 ·rw [s42_0_j, s42_0_eq]
  refine Sm.ct rfl ?_
  exact Sm.fin E2 rfl
 ·refine Sm.b rfl ?_
  refine Sm.b (y2.ldO 0 0 rfl rfl) ?_
  refine Sm.b H.w.len ?_
  refine Sm.b rfl ?_
  refine Sm.b rfl ?_
  refine Sm.b (y2.ldO 0 1 rfl rfl) ?_
  refine Sm.b rfl ?_
  refine Sm.i (fun k4 => ?_) (fun k4 => ?_)
  ·rw [s42_0_j, s42_0_eq]
   refine Sm.ct rfl ?_
   exact Sm.fin E2 rfl
  ·refine Sm.b rfl ?_
   refine Sm.b (y2.ldO 0 2 rfl rfl) ?_
   refine Sm.b rfl ?_
   refine Sm.c (t59 (by omega) a.to 0 1) fun r5 g5 e1005 X5 => ?_
   have y5 := y2.ext X5
   have E5 := E2.trans (X5.mono E2.size)
   refine Sm.b rfl ?_
   refine Sm.i (fun k6 => ?_) (fun k6 => ?_)
   ·rw [s42_0_j, s42_0_eq]
    refine Sm.ct rfl ?_
    exact Sm.fin E5 rfl
   ·refine Sm.b rfl ?_
    refine Sm.b (y5.ldO 0 8 rfl rfl) ?_
    refine Sm.b rfl ?_
    refine Sm.c (t59 (by omega) a.ser 1 1000000000) fun r7 g7 e1007 X7 => ?_
    have y7 := y5.ext X7
    have E7 := E5.trans (X7.mono E5.size)
    refine Sm.b rfl ?_
    refine Sm.i (fun k8 => ?_) (fun k8 => ?_)
    ·rw [s42_0_j, s42_0_eq]
     refine Sm.ct rfl ?_
     exact Sm.fin E7 rfl
    ·refine Sm.b rfl ?_
     refine Sm.b (y7.ldO 0 9 rfl rfl) ?_
     refine Sm.b H.r.len ?_
     refine Sm.b rfl ?_
     rw [s42_0_j, s42_0_eq]
     refine Sm.i (fun k9 => ?_) (fun k9 => ?_)
     ·exact Sm.fin E7 rfl
     ·rw [s42_1_j, s42_1_eq]
      refine Sm.b rfl ?_
      refine Sm.b (y7.ldO 0 3 rfl rfl) ?_
      refine Sm.b rfl ?_
      refine Sm.b (y7.ldON 0 rfl rfl) ?_
      refine Sm.b rfl ?_
      refine Sm.b (y7.ldO 0 2 rfl rfl) ?_
      refine Sm.b rfl ?_
      refine Sm.b (y7.ldON 0 rfl rfl) ?_
      refine Sm.c (t88 (by omega) (H.ext E7) a.to) fun r10 g10 e8 X10 => ?_
      have y10 := y7.ext X10
      have E10 := E7.trans (X10.mono E7.size)
      refine Sm.b rfl ?_
      refine Sm.b (agI (y10.ldO 0 3 rfl rfl)) ?_
      refine Sm.ct rfl ?_
      refine Sm.b (agA (y10.ldON 0 rfl rfl) H.vb) ?_
      refine Sm.ct rfl ?_
      refine Sm.c (t89 (by omega) (H.ext E10)) fun r11 g11 e1011 X11 => ?_
      have y11 := y10.ext X11
      have E11 := E10.trans (X11.mono E10.size)
      refine Sm.b rfl ?_
      refine Sm.b (agI (y11.ldO 0 3 rfl rfl)) ?_
      refine Sm.ct rfl ?_
      refine Sm.c (t59 (by omega) a.top r10 r11) fun r12 g12 e1012 X12 => ?_
      have y12 := y11.ext X12
      have E12 := E11.trans (X12.mono E11.size)
      refine Sm.b rfl ?_
      refine Sm.i (fun k13 => ?_) (fun k13 => ?_)
      ·exact Sm.fin E12 rfl
      ·refine Sm.b rfl ?_
       refine Sm.b (y12.ldO 0 4 rfl rfl) ?_
       refine Sm.b rfl ?_
       refine Sm.i (fun k14 => ?_) (fun k14 => ?_)
       ·refine Sm.b rfl ?_
        refine Sm.b (y12.ldO 0 5 rfl rfl) ?_
        refine Sm.b rfl ?_
        refine Sm.i (fun k15 => ?_) (fun k15 => ?_)
        ·refine Sm.b rfl ?_
         refine Sm.b (y12.ldO 0 6 rfl rfl) ?_
         refine Sm.b rfl ?_
         refine Sm.i (fun k16 => ?_) (fun k16 => ?_)
         ·refine Sm.b rfl ?_
          refine Sm.b (y12.ldO 0 7 rfl rfl) ?_
          refine Sm.b rfl ?_
          exact Sm.fin E12 rfl
         ·exact Sm.fin E12 rfl
        ·exact Sm.fin E12 rfl
       ·refine Sm.b (y12.ldON 0 rfl rfl) ?_
        refine Sm.b rfl ?_
        refine Sm.b (y12.ldO 0 2 rfl rfl) ?_
        refine Sm.b rfl ?_
        refine Sm.c (t88 (by omega) (H.ext E12) (IntKind.i64.wrap (1 - a.to))) fun r17 g17 e1017 X17 => ?_
        have y17 := y12.ext X17
        have E17 := E12.trans (X17.mono E12.size)
        refine Sm.b rfl ?_
        refine Sm.b rfl ?_
        refine Sm.b (y17.ldO 0 6 rfl rfl) ?_
        refine Sm.b rfl ?_
        refine Sm.b rfl ?_
        refine Sm.b (y17.ldO 0 2 rfl rfl) ?_
        refine Sm.b rfl ?_
        refine Sm.b rfl ?_
        refine Sm.b (y17.ldO 0 1 rfl rfl) ?_
        refine Sm.b rfl ?_
        refine Sm.c (t59 (by omega) a.old r17 (IntKind.i64.wrap ((IntKind.i64.wrap (2 - a.to)) * a.semi))) fun r18 g18 e1018 X18 => ?_
        have y18 := y17.ext X18
        have E18 := E17.trans (X18.mono E17.size)
        refine Sm.b rfl ?_
        refine Sm.i (fun k19 => ?_) (fun k19 => ?_)
        ·rw [s42_2_j, s42_2_eq]
         refine Sm.ct rfl ?_
         exact Sm.fin E18 rfl
        ·refine Sm.b rfl ?_
         refine Sm.b (y18.ldO 0 7 rfl rfl) ?_
         refine Sm.b rfl ?_
         refine Sm.b rfl ?_
         refine Sm.b (y18.ldO 0 6 rfl rfl) ?_
         refine Sm.b rfl ?_
         refine Sm.c (t59 (by omega) a.cop 0 (IntKind.i64.wrap (a.old - r17))) fun r20 g20 e1020 X20 => ?_
         have y20 := y18.ext X20
         have E20 := E18.trans (X20.mono E18.size)
         refine Sm.b rfl ?_
         rw [s42_2_j, s42_2_eq]
         refine Sm.i (fun k21 => ?_) (fun k21 => ?_)
         ·exact Sm.fin E20 rfl
         ·rw [s42_3_j, s42_3_eq]
          refine Sm.b rfl ?_
          refine Sm.b (y20.ldO 0 3 rfl rfl) ?_
          refine Sm.b rfl ?_
          refine Sm.b rfl ?_
          refine Sm.b (y20.ldO 0 6 rfl rfl) ?_
          refine Sm.b rfl ?_
          refine Sm.b rfl ?_
          refine Sm.b (y20.ldO 0 7 rfl rfl) ?_
          refine Sm.b rfl ?_
          refine Sm.b (y20.ldON 0 rfl rfl) ?_
          refine Sm.c (t89 (by omega) (H.ext E20)) fun r22 g22 e1022 X22 => ?_
          have y22 := y20.ext X22
          have E22 := E20.trans (X22.mono E20.size)
          refine Sm.b rfl ?_
          refine Sm.b (agI (y22.ldO 0 3 rfl rfl)) ?_
          refine Sm.ct rfl ?_
          refine Sm.b (agI (y22.ldO 0 6 rfl rfl)) ?_
          refine Sm.ct rfl ?_
          refine Sm.b (agI (y22.ldO 0 7 rfl rfl)) ?_
          refine Sm.ct rfl ?_
          exact Sm.fin E22 rfl
def m29 (a : Ar) (r : Int) : Option (Bool) :=
 (m59 r 0 (IntKind.i64.wrap (((a.rs.length : Int)) - 1))).bind fun r2 => some r2
def m98 (a : Ar) (b : Int) (i : Int) : Option (Vl) :=
 (m93 a.ws (IntKind.i64.wrap ((IntKind.i64.wrap (b + 1)) + (IntKind.i64.wrap (4 * i))))).bind fun r3 => some ⟨r3.1.t, r3.1.n⟩
theorem t98 {D : Nat} {h : AHeap} (hD : 5 ≤ D) {wv rv : Value} {a : Ar} (H : ArH h wv rv a) (b : Int) (i : Int) : SmR h (En Vl.v) (m98 a b i) (call Tp Ms D 76 [arV wv rv a, .int .i64 b, .int .i64 i] h) := by
 obtain ⟨D, rfl⟩ : ∃ d, D = d + 1 := ⟨D - 1, by omega⟩
 rw [c76, e76]
 unfold m98
 have y0 := Cx.start0 h
 have E0 := Ext.refl h.size h
 refine Sm.b H.cells ?_
 refine Sm.n y0 fun p1 g1 X1 y1 => ?_
 have E1 := E0.trans (X1.mono E0.size)
 refine Sm.n y1 fun p2 g2 X2 y2 => ?_
 have E2 := E1.trans (X2.mono E1.size)
 refine Sm.b rfl ?_
 refine Sm.b (y2.ldO 1 0 rfl rfl) ?_
 refine Sm.c (t93 (by omega) (H.w.ext E2) (IntKind.i64.wrap ((IntKind.i64.wrap (b + 1)) + (IntKind.i64.wrap (4 * i))))) fun r3 g3 e1003 X3 => ?_
 have y3 := y2.ext X3
 have E3 := E2.trans (X3.mono E2.size)
 refine Sm.b rfl ?_
 refine Sm.b rfl ?_
 refine Sm.b rfl ?_
 refine Sm.n y3 fun p4 g4 X4 y4 => ?_
 have E4 := E3.trans (X4.mono E3.size)
 refine Sm.st y4 0 rfl rfl rfl (by simp [splice]) fun g5 X5 y5 => ?_
 have E5 := E4.trans X5
 refine Sm.b (y5.ldON 0 rfl rfl) ?_
 refine Sm.st y5 1 rfl rfl rfl (by simp [splice]) fun g6 X6 y6 => ?_
 have E6 := E5.trans X6
 refine Sm.b (y6.ldON 1 rfl rfl) ?_
 exact Sm.fin E6 rfl
def m58 (a : Ar) (mk : List Int) (v : Vl) (fr : Int) : Option (Bool) :=
 (m100 ⟨v.t, v.n⟩).bind fun r3 => bif !r3 then some true else bif decide (v.n ≥ ((mk.length : Int))) then some false else (rd mk v.n).bind fun w6 => bif w6 == 1 then bif fr != 3 then (m61 a v.n).bind fun r9 => (m55 a r9).bind fun r10 => (m101 v.t).bind fun r11 => some (r10.k == r11) else bif w6 == 2 then bif (fr != 1) then (m61 a v.n).bind fun r14 => (m55 a r14).bind fun r15 => (m101 v.t).bind fun r16 => some (r15.k == r16) else some false else bif w6 == 3 then bif (fr != 1) then (m61 a v.n).bind fun r19 => (m55 a r19).bind fun r20 => (m101 v.t).bind fun r21 => some (r20.k == r21) else some false else some false else bif w6 == 2 then bif (fr != 1) then (m61 a v.n).bind fun r24 => (m55 a r24).bind fun r25 => (m101 v.t).bind fun r26 => some (r25.k == r26) else some false else bif w6 == 3 then bif (fr != 1) then (m61 a v.n).bind fun r29 => (m55 a r29).bind fun r30 => (m101 v.t).bind fun r31 => some (r30.k == r31) else some false else some false
theorem t58 {D : Nat} {h : AHeap} (hD : 6 ≤ D) {wv rv : Value} {a : Ar} (H : ArH h wv rv a) {vmk : Value} {mk : List Int} (Smk : SlI .i64 h vmk mk) (v : Vl) (fr : Int) : SmR h (En Value.bool) (m58 a mk v fr) (call Tp Ms D 48 [arV wv rv a, vmk, v.v, .int .i64 fr] h) := by
 obtain ⟨D, rfl⟩ : ∃ d, D = d + 1 := ⟨D - 1, by omega⟩
 rw [c48, e48]
 unfold m58
 have y0 := Cx.start0 h
 have E0 := Ext.refl h.size h
 refine Sm.b H.cells ?_
 refine Sm.n y0 fun p1 g1 X1 y1 => ?_
 have E1 := E0.trans (X1.mono E0.size)
 refine Sm.b rfl ?_
 refine Sm.n y1 fun p2 g2 X2 y2 => ?_
 have E2 := E1.trans (X2.mono E1.size)
 refine Sm.b (y2.ldON 0 rfl rfl) ?_
 refine Sm.c (t100 (by omega) ⟨v.t, v.n⟩) fun r3 g3 e1003 X3 => ?_
 have y3 := y2.ext X3
 have E3 := E2.trans (X3.mono E2.size)
 refine Sm.b rfl ?_
 refine Sm.i (fun k4 => ?_) (fun k4 => ?_)
 ·exact Sm.fin E3 rfl
 ·refine Sm.b rfl ?_
  refine Sm.b (y3.ldO 0 1 rfl rfl) ?_
  refine Sm.b rfl ?_
  refine Sm.b Smk.len ?_
  refine Sm.b rfl ?_
  refine Sm.i (fun k5 => ?_) (fun k5 => ?_)
  ·exact Sm.fin E3 rfl
  ·refine Sm.b rfl ?_
   refine Sm.b (y3.ldO 0 1 rfl rfl) ?_
   refine Sm.b rfl ?_
   refine Sm.mo fun w6 e4 => ?_
   obtain ⟨q6, i6, l6⟩ := Smk.at e4
   refine Sm.b i6 ?_
   refine Sm.b (l6 _ E3) ?_
   refine Sm.b rfl ?_
   refine Sm.i (fun k7 => ?_) (fun k7 => ?_)
   ·refine Sm.i (fun k8 => ?_) (fun k8 => ?_)
    ·rw [s48_0_j, s48_0_eq]
     refine Sm.ct rfl ?_
     refine Sm.b (y3.ldON 1 rfl rfl) ?_
     refine Sm.b (y3.ldON 1 rfl rfl) ?_
     refine Sm.b rfl ?_
     refine Sm.b (y3.ldO 0 1 rfl rfl) ?_
     refine Sm.b rfl ?_
     refine Sm.b rfl ?_
     refine Sm.b (y3.ldO 0 0 rfl rfl) ?_
     refine Sm.b rfl ?_
     refine Sm.c (t61 (by omega) (H.ext E3) v.n) fun r9 g9 e1009 X9 => ?_
     have y9 := y3.ext X9
     have E9 := E3.trans (X9.mono E3.size)
     refine Sm.b rfl ?_
     refine Sm.b (agA (y9.ldON 1 rfl rfl) H.vb) ?_
     refine Sm.ct rfl ?_
     refine Sm.b (agI (y9.ldO 0 0 rfl rfl)) ?_
     refine Sm.ct rfl ?_
     refine Sm.c (t55 (by omega) (H.ext E9) r9) fun r10 g10 e8 X10 => ?_
     have y10 := y9.ext X10
     have E10 := E9.trans (X10.mono E9.size)
     refine Sm.b (agI (y10.ldO 0 0 rfl rfl)) ?_
     refine Sm.ct rfl ?_
     refine Sm.b rfl ?_
     refine Sm.b rfl ?_
     refine Sm.c (t101 (by omega) v.t) fun r11 g11 e1011 X11 => ?_
     have y11 := y10.ext X11
     have E11 := E10.trans (X11.mono E10.size)
     refine Sm.b rfl ?_
     exact Sm.fin E11 rfl
    ·refine Sm.i (fun k12 => ?_) (fun k12 => ?_)
     ·rw [s48_0_j, s48_0_eq]
      refine Sm.i (fun k13 => ?_) (fun k13 => ?_)
      ·refine Sm.b (y3.ldON 1 rfl rfl) ?_
       refine Sm.b (y3.ldON 1 rfl rfl) ?_
       refine Sm.b rfl ?_
       refine Sm.b (y3.ldO 0 1 rfl rfl) ?_
       refine Sm.b rfl ?_
       refine Sm.b rfl ?_
       refine Sm.b (y3.ldO 0 0 rfl rfl) ?_
       refine Sm.b rfl ?_
       refine Sm.c (t61 (by omega) (H.ext E3) v.n) fun r14 g14 e9 X14 => ?_
       have y14 := y3.ext X14
       have E14 := E3.trans (X14.mono E3.size)
       refine Sm.b rfl ?_
       refine Sm.b (agA (y14.ldON 1 rfl rfl) H.vb) ?_
       refine Sm.ct rfl ?_
       refine Sm.b (agI (y14.ldO 0 0 rfl rfl)) ?_
       refine Sm.ct rfl ?_
       refine Sm.c (t55 (by omega) (H.ext E14) r14) fun r15 g15 e1015 X15 => ?_
       have y15 := y14.ext X15
       have E15 := E14.trans (X15.mono E14.size)
       refine Sm.b (agI (y15.ldO 0 0 rfl rfl)) ?_
       refine Sm.ct rfl ?_
       refine Sm.b rfl ?_
       refine Sm.b rfl ?_
       refine Sm.c (t101 (by omega) v.t) fun r16 g16 e1016 X16 => ?_
       have y16 := y15.ext X16
       have E16 := E15.trans (X16.mono E15.size)
       refine Sm.b rfl ?_
       exact Sm.fin E16 rfl
      ·exact Sm.fin E3 rfl
     ·refine Sm.i (fun k17 => ?_) (fun k17 => ?_)
      ·rw [s48_0_j, s48_0_eq]
       refine Sm.i (fun k18 => ?_) (fun k18 => ?_)
       ·refine Sm.b (y3.ldON 1 rfl rfl) ?_
        refine Sm.b (y3.ldON 1 rfl rfl) ?_
        refine Sm.b rfl ?_
        refine Sm.b (y3.ldO 0 1 rfl rfl) ?_
        refine Sm.b rfl ?_
        refine Sm.b rfl ?_
        refine Sm.b (y3.ldO 0 0 rfl rfl) ?_
        refine Sm.b rfl ?_
        refine Sm.c (t61 (by omega) (H.ext E3) v.n) fun r19 g19 e1019 X19 => ?_
        have y19 := y3.ext X19
        have E19 := E3.trans (X19.mono E3.size)
        refine Sm.b rfl ?_
        refine Sm.b (agA (y19.ldON 1 rfl rfl) H.vb) ?_
        refine Sm.ct rfl ?_
        refine Sm.b (agI (y19.ldO 0 0 rfl rfl)) ?_
        refine Sm.ct rfl ?_
        refine Sm.c (t55 (by omega) (H.ext E19) r19) fun r20 g20 e1020 X20 => ?_
        have y20 := y19.ext X20
        have E20 := E19.trans (X20.mono E19.size)
        refine Sm.b (agI (y20.ldO 0 0 rfl rfl)) ?_
        refine Sm.ct rfl ?_
        refine Sm.b rfl ?_
        refine Sm.b rfl ?_
        refine Sm.c (t101 (by omega) v.t) fun r21 g21 e1021 X21 => ?_
        have y21 := y20.ext X21
        have E21 := E20.trans (X21.mono E20.size)
        refine Sm.b rfl ?_
        exact Sm.fin E21 rfl
       ·exact Sm.fin E3 rfl
      ·rw [s48_0_j, s48_0_eq]
       refine Sm.cf rfl ?_
       exact Sm.fin E3 rfl
   ·refine Sm.i (fun k22 => ?_) (fun k22 => ?_)
    ·rw [s48_0_j, s48_0_eq]
     refine Sm.i (fun k23 => ?_) (fun k23 => ?_)
     ·refine Sm.b (y3.ldON 1 rfl rfl) ?_
      refine Sm.b (y3.ldON 1 rfl rfl) ?_
      refine Sm.b rfl ?_
      refine Sm.b (y3.ldO 0 1 rfl rfl) ?_
      refine Sm.b rfl ?_
      refine Sm.b rfl ?_
      refine Sm.b (y3.ldO 0 0 rfl rfl) ?_
      refine Sm.b rfl ?_
      refine Sm.c (t61 (by omega) (H.ext E3) v.n) fun r24 g24 e1024 X24 => ?_
      have y24 := y3.ext X24
      have E24 := E3.trans (X24.mono E3.size)
      refine Sm.b rfl ?_
      refine Sm.b (agA (y24.ldON 1 rfl rfl) H.vb) ?_
      refine Sm.ct rfl ?_
      refine Sm.b (agI (y24.ldO 0 0 rfl rfl)) ?_
      refine Sm.ct rfl ?_
      refine Sm.c (t55 (by omega) (H.ext E24) r24) fun r25 g25 e1025 X25 => ?_
      have y25 := y24.ext X25
      have E25 := E24.trans (X25.mono E24.size)
      refine Sm.b (agI (y25.ldO 0 0 rfl rfl)) ?_
      refine Sm.ct rfl ?_
      refine Sm.b rfl ?_
      refine Sm.b rfl ?_
      refine Sm.c (t101 (by omega) v.t) fun r26 g26 e11 X26 => ?_
      have y26 := y25.ext X26
      have E26 := E25.trans (X26.mono E25.size)
      refine Sm.b rfl ?_
      exact Sm.fin E26 rfl
     ·exact Sm.fin E3 rfl
    ·refine Sm.i (fun k27 => ?_) (fun k27 => ?_)
     ·rw [s48_0_j, s48_0_eq]
      refine Sm.i (fun k28 => ?_) (fun k28 => ?_)
      ·refine Sm.b (y3.ldON 1 rfl rfl) ?_
       refine Sm.b (y3.ldON 1 rfl rfl) ?_
       refine Sm.b rfl ?_
       refine Sm.b (y3.ldO 0 1 rfl rfl) ?_
       refine Sm.b rfl ?_
       refine Sm.b rfl ?_
       refine Sm.b (y3.ldO 0 0 rfl rfl) ?_
       refine Sm.b rfl ?_
       refine Sm.c (t61 (by omega) (H.ext E3) v.n) fun r29 g29 e1029 X29 => ?_
       have y29 := y3.ext X29
       have E29 := E3.trans (X29.mono E3.size)
       refine Sm.b rfl ?_
       refine Sm.b (agA (y29.ldON 1 rfl rfl) H.vb) ?_
       refine Sm.ct rfl ?_
       refine Sm.b (agI (y29.ldO 0 0 rfl rfl)) ?_
       refine Sm.ct rfl ?_
       refine Sm.c (t55 (by omega) (H.ext E29) r29) fun r30 g30 e95 X30 => ?_
       have y30 := y29.ext X30
       have E30 := E29.trans (X30.mono E29.size)
       refine Sm.b (agI (y30.ldO 0 0 rfl rfl)) ?_
       refine Sm.ct rfl ?_
       refine Sm.b rfl ?_
       refine Sm.b rfl ?_
       refine Sm.c (t101 (by omega) v.t) fun r31 g31 e23 X31 => ?_
       have y31 := y30.ext X31
       have E31 := E30.trans (X31.mono E30.size)
       refine Sm.b rfl ?_
       exact Sm.fin E31 rfl
      ·exact Sm.fin E3 rfl
     ·rw [s48_0_j, s48_0_eq]
      refine Sm.cf rfl ?_
      exact Sm.fin E3 rfl
def m94 (a : Ar) (p : Int) (size : Int) : Option (Bool) :=
 (m95 a p 1).bind fun r2 => (m59 r2 0 160).bind fun r3 => bif !r3 then some false else bif (size != (IntKind.i64.wrap (1 + (IntKind.i64.wrap (Int.tdiv (IntKind.i64.wrap (r2 + 7)) 8))))) then some false else bif (Int.tmod r2 8) == 0 then some true else (rd a.ws (IntKind.i64.wrap (p + size))).bind fun w7 => (shrM .u64 w7 (IntKind.u64.wrap (IntKind.i64.wrap (8 * (Int.tmod r2 8))))).bind fun w8 => some (w8 == 0)
theorem t94 {D : Nat} {h : AHeap} (hD : 2 ≤ D) {wv rv : Value} {a : Ar} (H : ArH h wv rv a) (p : Int) (size : Int) : SmR h (En Value.bool) (m94 a p size) (call Tp Ms D 71 [arV wv rv a, .int .i64 p, .int .i64 size] h) := by
 obtain ⟨D, rfl⟩ : ∃ d, D = d + 1 := ⟨D - 1, by omega⟩
 rw [c71, e71]
 unfold m94
 have y0 := Cx.start0 h
 have E0 := Ext.refl h.size h
 refine Sm.b H.cells ?_
 refine Sm.n y0 fun p1 g1 X1 y1 => ?_
 have E1 := E0.trans (X1.mono E0.size)
 refine Sm.b (y1.ldON 0 rfl rfl) ?_
 refine Sm.c (t95 (by omega) (H.ext E1) p 1) fun r2 g2 e2 X2 => ?_
 have y2 := y1.ext X2
 have E2 := E1.trans (X2.mono E1.size)
 refine Sm.b rfl ?_
 refine Sm.c (t59 (by omega) r2 0 160) fun r3 g3 e1003 X3 => ?_
 have y3 := y2.ext X3
 have E3 := E2.trans (X3.mono E2.size)
 refine Sm.b rfl ?_
 refine Sm.i (fun k4 => ?_) (fun k4 => ?_)
 ·rw [s71_0_j, s71_0_eq]
  refine Sm.ct rfl ?_
  exact Sm.fin E3 rfl
 ·rw [s71_0_j, s71_0_eq]
  refine Sm.i (fun k5 => ?_) (fun k5 => ?_)
  ·exact Sm.fin E3 rfl
  ·rw [s71_1_j, s71_1_eq]
   refine Sm.i (fun k6 => ?_) (fun k6 => ?_)
   ·exact Sm.fin E3 rfl
   ·refine Sm.b rfl ?_
    refine Sm.b (y3.ldO 0 0 rfl rfl) ?_
    refine Sm.mo fun w7 e1007 => ?_
    obtain ⟨q7, i7, l7⟩ := H.w.at e1007
    refine Sm.b i7 ?_
    refine Sm.b (l7 _ E3) ?_
    refine Sm.b rfl ?_
    refine Sm.mo fun w8 e6 => ?_
    refine Sm.b (shr_ok e6) ?_
    refine Sm.b rfl ?_
    exact Sm.fin E3 rfl
def mS92_5 : Nat → Int → List Int → Int → Option (List Int)
 | 0, _, _, _ => none
 | f + 1, x1, lx5, x8 =>
  bif decide ((IntKind.i64.wrap (x8 + 1)) ≤ x1) then (grow lx5 x8).bind fun l3 => mS92_5 f x1 l3 (IntKind.i64.wrap (x8 + 2)) else some lx5
theorem tS92_5 {D N : Nat} {h : AHeap} (hD : 0 ≤ D) (hN : 20000 ≤ N)  : ∀ (f n2 : Nat) (_ : f ≤ n2) (x1 : Int) (ix5 rx5 : Nat) (lx5 : List Int) (x8 : Int) (g : AHeap) (_ : Ext h.size h g) (_ : Cx h.size g [] [⟨ix5, rx5, 3, true, lx5.map (Value.int .i64)⟩] []), SmR h (RO h (Value.int .i64) 3) (mS92_5 f x1 lx5 x8) (s20_5 hk0 (call Tp Ms D) N n2 x1 (slc ix5 0 lx5.length) x8 g) := by
 intro f
 induction f with
 | zero => intros; exact Sm.none
 | succ f ih =>
  intro n2 hf x1 ix5 rx5 lx5 x8 g0 E0 y0
  obtain ⟨n2, rfl⟩ : ∃ k, n2 = k + 1 := ⟨n2 - 1, by omega⟩
  rw [s20_5_eq, mS92_5]
  refine Sm.i (fun k1 => ?_) (fun k1 => ?_)
  ·refine Sm.ns y0 fun p2 g2 X2 y2 => ?_
   have E2 := E0.trans (X2.mono E0.size)
   refine Sm.ap (Value.int .i64) y2 1 lx5 (by decide) rfl (y2.ldO 0 0 rfl rfl) fun i3 g3 l3 e1003 X3 y3 => ?_
   have E3 := E2.trans X3
   exact ih _ (by omega) x1 _ _ l3 (IntKind.i64.wrap (x8 + 2)) _ E3 (y3.pick (.cons _ (.cons_cons _ .slnil)))
  ·exact Sm.fin E0 (y0.ro 0 (Value.int .i64) lx5 rfl (LV.mk _ _))
def m92 (k : Int) (sz : Int) : Option (List Int) :=
 bif k == 2 then (m130 ⟨k, sz, 1⟩).bind fun r6 => bif !r6 then some [] else bif k == 2 then bif (k == 2) then mS92_5 20000 sz [] 2 else bif k == 3 then bif (k == 3) then mS92_5 20000 sz [] 1 else bif k == 6 then mS92_5 20000 sz [] 5 else mS92_5 20000 sz [] (IntKind.i64.wrap (sz + 1)) else bif (k == 5) then mS92_5 20000 sz [] 1 else bif k == 6 then mS92_5 20000 sz [] 5 else mS92_5 20000 sz [] (IntKind.i64.wrap (sz + 1)) else bif (k == 4) then mS92_5 20000 sz [] 2 else bif k == 3 then bif (k == 3) then mS92_5 20000 sz [] 1 else bif k == 6 then mS92_5 20000 sz [] 5 else mS92_5 20000 sz [] (IntKind.i64.wrap (sz + 1)) else bif (k == 5) then mS92_5 20000 sz [] 1 else bif k == 6 then mS92_5 20000 sz [] 5 else mS92_5 20000 sz [] (IntKind.i64.wrap (sz + 1)) else bif k == 4 then (m130 ⟨k, sz, 1⟩).bind fun r23 => bif !r23 then some [] else bif k == 2 then bif (k == 2) then mS92_5 20000 sz [] 2 else bif k == 3 then bif (k == 3) then mS92_5 20000 sz [] 1 else bif k == 6 then mS92_5 20000 sz [] 5 else mS92_5 20000 sz [] (IntKind.i64.wrap (sz + 1)) else bif (k == 5) then mS92_5 20000 sz [] 1 else bif k == 6 then mS92_5 20000 sz [] 5 else mS92_5 20000 sz [] (IntKind.i64.wrap (sz + 1)) else bif (k == 4) then mS92_5 20000 sz [] 2 else bif k == 3 then bif (k == 3) then mS92_5 20000 sz [] 1 else bif k == 6 then mS92_5 20000 sz [] 5 else mS92_5 20000 sz [] (IntKind.i64.wrap (sz + 1)) else bif (k == 5) then mS92_5 20000 sz [] 1 else bif k == 6 then mS92_5 20000 sz [] 5 else mS92_5 20000 sz [] (IntKind.i64.wrap (sz + 1)) else bif (k == 6) then (m130 ⟨k, sz, 1⟩).bind fun r40 => bif !r40 then some [] else bif k == 2 then bif (k == 2) then mS92_5 20000 sz [] 2 else bif k == 3 then bif (k == 3) then mS92_5 20000 sz [] 1 else bif k == 6 then mS92_5 20000 sz [] 5 else mS92_5 20000 sz [] (IntKind.i64.wrap (sz + 1)) else bif (k == 5) then mS92_5 20000 sz [] 1 else bif k == 6 then mS92_5 20000 sz [] 5 else mS92_5 20000 sz [] (IntKind.i64.wrap (sz + 1)) else bif (k == 4) then mS92_5 20000 sz [] 2 else bif k == 3 then bif (k == 3) then mS92_5 20000 sz [] 1 else bif k == 6 then mS92_5 20000 sz [] 5 else mS92_5 20000 sz [] (IntKind.i64.wrap (sz + 1)) else bif (k == 5) then mS92_5 20000 sz [] 1 else bif k == 6 then mS92_5 20000 sz [] 5 else mS92_5 20000 sz [] (IntKind.i64.wrap (sz + 1)) else (m130 ⟨k, sz, 0⟩).bind fun r55 => bif !r55 then some [] else bif k == 2 then bif (k == 2) then mS92_5 20000 sz [] 2 else bif k == 3 then bif (k == 3) then mS92_5 20000 sz [] 1 else bif k == 6 then mS92_5 20000 sz [] 5 else mS92_5 20000 sz [] (IntKind.i64.wrap (sz + 1)) else bif (k == 5) then mS92_5 20000 sz [] 1 else bif k == 6 then mS92_5 20000 sz [] 5 else mS92_5 20000 sz [] (IntKind.i64.wrap (sz + 1)) else bif (k == 4) then mS92_5 20000 sz [] 2 else bif k == 3 then bif (k == 3) then mS92_5 20000 sz [] 1 else bif k == 6 then mS92_5 20000 sz [] 5 else mS92_5 20000 sz [] (IntKind.i64.wrap (sz + 1)) else bif (k == 5) then mS92_5 20000 sz [] 1 else bif k == 6 then mS92_5 20000 sz [] 5 else mS92_5 20000 sz [] (IntKind.i64.wrap (sz + 1))
theorem t92 {D : Nat} {h : AHeap} (hD : 20001 ≤ D) (k : Int) (sz : Int) : SmR h (RO h (Value.int .i64) 3) (m92 k sz) (call Tp Ms D 20 [.int .i64 k, .int .i64 sz] h) := by
 obtain ⟨D, rfl⟩ : ∃ d, D = d + 1 := ⟨D - 1, by omega⟩
 rw [c20, e20]
 unfold m92
 have y0 := Cx.start0 h
 have E0 := Ext.refl h.size h
 refine Sm.ns y0 fun p1 g1 X1 y1 => ?_
 have E1 := E0.trans (X1.mono E0.size)
 refine Sm.n y1 fun p2 g2 X2 y2 => ?_
 have E2 := E1.trans (X2.mono E1.size)
 refine Sm.st y2 0 rfl rfl rfl (by simp [splice]) fun g3 X3 y3 => ?_
 have E3 := E2.trans X3
 refine Sm.i (fun k4 => ?_) (fun k4 => ?_)
 ·rw [s20_0_j, s20_0_eq]
  refine Sm.ct rfl ?_
  refine Sm.b rfl ?_
  refine Sm.st y3 0 rfl rfl rfl (by simp [splice]) fun g5 X5 y5 => ?_
  have E5 := E3.trans X5
  rw [s20_1_j, s20_1_eq]
  refine Sm.b (y5.ldON 0 rfl rfl) ?_
  refine Sm.c (t130 (by omega) ⟨k, sz, 1⟩) fun r6 g6 e4 X6 => ?_
  have y6 := y5.ext X6
  have E6 := E5.trans (X6.mono E5.size)
  refine Sm.b rfl ?_
  refine Sm.i (fun k7 => ?_) (fun k7 => ?_)
  ·exact Sm.fin E6 (y6.ro 1 (Value.int .i64) [] rfl (LV.mk _ _))
  ·refine Sm.i (fun k8 => ?_) (fun k8 => ?_)
   ·rw [s20_2_j, s20_2_eq]
    refine Sm.i (fun k9 => ?_) (fun k9 => ?_)
    ·rw [s20_4_j, s20_4_eq]
     exact tS92_5 (by omega) (by omega) 20000 _ (by omega) sz _ _ [] 2 _ E6 (y6.pick (.cons _ (.cons_cons _ .slnil)))
    ·refine Sm.i (fun k10 => ?_) (fun k10 => ?_)
     ·rw [s20_3_j, s20_3_eq]
      refine Sm.i (fun k11 => ?_) (fun k11 => ?_)
      ·rw [s20_4_j, s20_4_eq]
       exact tS92_5 (by omega) (by omega) 20000 _ (by omega) sz _ _ [] 1 _ E6 (y6.pick (.cons _ (.cons_cons _ .slnil)))
      ·refine Sm.i (fun k12 => ?_) (fun k12 => ?_)
       ·rw [s20_4_j, s20_4_eq]
        exact tS92_5 (by omega) (by omega) 20000 _ (by omega) sz _ _ [] 5 _ E6 (y6.pick (.cons _ (.cons_cons _ .slnil)))
       ·rw [s20_4_j, s20_4_eq]
        exact tS92_5 (by omega) (by omega) 20000 _ (by omega) sz _ _ [] (IntKind.i64.wrap (sz + 1)) _ E6 (y6.pick (.cons _ (.cons_cons _ .slnil)))
     ·rw [s20_3_j, s20_3_eq]
      refine Sm.i (fun k13 => ?_) (fun k13 => ?_)
      ·rw [s20_4_j, s20_4_eq]
       exact tS92_5 (by omega) (by omega) 20000 _ (by omega) sz _ _ [] 1 _ E6 (y6.pick (.cons _ (.cons_cons _ .slnil)))
      ·refine Sm.i (fun k14 => ?_) (fun k14 => ?_)
       ·rw [s20_4_j, s20_4_eq]
        exact tS92_5 (by omega) (by omega) 20000 _ (by omega) sz _ _ [] 5 _ E6 (y6.pick (.cons _ (.cons_cons _ .slnil)))
       ·rw [s20_4_j, s20_4_eq]
        exact tS92_5 (by omega) (by omega) 20000 _ (by omega) sz _ _ [] (IntKind.i64.wrap (sz + 1)) _ E6 (y6.pick (.cons _ (.cons_cons _ .slnil)))
   ·rw [s20_2_j, s20_2_eq]
    refine Sm.i (fun k15 => ?_) (fun k15 => ?_)
    ·rw [s20_4_j, s20_4_eq]
     exact tS92_5 (by omega) (by omega) 20000 _ (by omega) sz _ _ [] 2 _ E6 (y6.pick (.cons _ (.cons_cons _ .slnil)))
    ·refine Sm.i (fun k16 => ?_) (fun k16 => ?_)
     ·rw [s20_3_j, s20_3_eq]
      refine Sm.i (fun k17 => ?_) (fun k17 => ?_)
      ·rw [s20_4_j, s20_4_eq]
       exact tS92_5 (by omega) (by omega) 20000 _ (by omega) sz _ _ [] 1 _ E6 (y6.pick (.cons _ (.cons_cons _ .slnil)))
      ·refine Sm.i (fun k18 => ?_) (fun k18 => ?_)
       ·rw [s20_4_j, s20_4_eq]
        exact tS92_5 (by omega) (by omega) 20000 _ (by omega) sz _ _ [] 5 _ E6 (y6.pick (.cons _ (.cons_cons _ .slnil)))
       ·rw [s20_4_j, s20_4_eq]
        exact tS92_5 (by omega) (by omega) 20000 _ (by omega) sz _ _ [] (IntKind.i64.wrap (sz + 1)) _ E6 (y6.pick (.cons _ (.cons_cons _ .slnil)))
     ·rw [s20_3_j, s20_3_eq]
      refine Sm.i (fun k19 => ?_) (fun k19 => ?_)
      ·rw [s20_4_j, s20_4_eq]
       exact tS92_5 (by omega) (by omega) 20000 _ (by omega) sz _ _ [] 1 _ E6 (y6.pick (.cons _ (.cons_cons _ .slnil)))
      ·refine Sm.i (fun k20 => ?_) (fun k20 => ?_)
       ·rw [s20_4_j, s20_4_eq]
        exact tS92_5 (by omega) (by omega) 20000 _ (by omega) sz _ _ [] 5 _ E6 (y6.pick (.cons _ (.cons_cons _ .slnil)))
       ·rw [s20_4_j, s20_4_eq]
        exact tS92_5 (by omega) (by omega) 20000 _ (by omega) sz _ _ [] (IntKind.i64.wrap (sz + 1)) _ E6 (y6.pick (.cons _ (.cons_cons _ .slnil)))
 ·refine Sm.i (fun k21 => ?_) (fun k21 => ?_)
  ·rw [s20_0_j, s20_0_eq]
   refine Sm.ct rfl ?_
   refine Sm.b rfl ?_
   refine Sm.st y3 0 rfl rfl rfl (by simp [splice]) fun g22 X22 y22 => ?_
   have E22 := E3.trans X22
   rw [s20_1_j, s20_1_eq]
   refine Sm.b (y22.ldON 0 rfl rfl) ?_
   refine Sm.c (t130 (by omega) ⟨k, sz, 1⟩) fun r23 g23 e1023 X23 => ?_
   have y23 := y22.ext X23
   have E23 := E22.trans (X23.mono E22.size)
   refine Sm.b rfl ?_
   refine Sm.i (fun k24 => ?_) (fun k24 => ?_)
   ·exact Sm.fin E23 (y23.ro 1 (Value.int .i64) [] rfl (LV.mk _ _))
   ·refine Sm.i (fun k25 => ?_) (fun k25 => ?_)
    ·rw [s20_2_j, s20_2_eq]
     refine Sm.i (fun k26 => ?_) (fun k26 => ?_)
     ·rw [s20_4_j, s20_4_eq]
      exact tS92_5 (by omega) (by omega) 20000 _ (by omega) sz _ _ [] 2 _ E23 (y23.pick (.cons _ (.cons_cons _ .slnil)))
     ·refine Sm.i (fun k27 => ?_) (fun k27 => ?_)
      ·rw [s20_3_j, s20_3_eq]
       refine Sm.i (fun k28 => ?_) (fun k28 => ?_)
       ·rw [s20_4_j, s20_4_eq]
        exact tS92_5 (by omega) (by omega) 20000 _ (by omega) sz _ _ [] 1 _ E23 (y23.pick (.cons _ (.cons_cons _ .slnil)))
       ·refine Sm.i (fun k29 => ?_) (fun k29 => ?_)
        ·rw [s20_4_j, s20_4_eq]
         exact tS92_5 (by omega) (by omega) 20000 _ (by omega) sz _ _ [] 5 _ E23 (y23.pick (.cons _ (.cons_cons _ .slnil)))
        ·rw [s20_4_j, s20_4_eq]
         exact tS92_5 (by omega) (by omega) 20000 _ (by omega) sz _ _ [] (IntKind.i64.wrap (sz + 1)) _ E23 (y23.pick (.cons _ (.cons_cons _ .slnil)))
      ·rw [s20_3_j, s20_3_eq]
       refine Sm.i (fun k30 => ?_) (fun k30 => ?_)
       ·rw [s20_4_j, s20_4_eq]
        exact tS92_5 (by omega) (by omega) 20000 _ (by omega) sz _ _ [] 1 _ E23 (y23.pick (.cons _ (.cons_cons _ .slnil)))
       ·refine Sm.i (fun k31 => ?_) (fun k31 => ?_)
        ·rw [s20_4_j, s20_4_eq]
         exact tS92_5 (by omega) (by omega) 20000 _ (by omega) sz _ _ [] 5 _ E23 (y23.pick (.cons _ (.cons_cons _ .slnil)))
        ·rw [s20_4_j, s20_4_eq]
         exact tS92_5 (by omega) (by omega) 20000 _ (by omega) sz _ _ [] (IntKind.i64.wrap (sz + 1)) _ E23 (y23.pick (.cons _ (.cons_cons _ .slnil)))
    ·rw [s20_2_j, s20_2_eq]
     refine Sm.i (fun k32 => ?_) (fun k32 => ?_)
     ·rw [s20_4_j, s20_4_eq]
      exact tS92_5 (by omega) (by omega) 20000 _ (by omega) sz _ _ [] 2 _ E23 (y23.pick (.cons _ (.cons_cons _ .slnil)))
     ·refine Sm.i (fun k33 => ?_) (fun k33 => ?_)
      ·rw [s20_3_j, s20_3_eq]
       refine Sm.i (fun k34 => ?_) (fun k34 => ?_)
       ·rw [s20_4_j, s20_4_eq]
        exact tS92_5 (by omega) (by omega) 20000 _ (by omega) sz _ _ [] 1 _ E23 (y23.pick (.cons _ (.cons_cons _ .slnil)))
       ·refine Sm.i (fun k35 => ?_) (fun k35 => ?_)
        ·rw [s20_4_j, s20_4_eq]
         exact tS92_5 (by omega) (by omega) 20000 _ (by omega) sz _ _ [] 5 _ E23 (y23.pick (.cons _ (.cons_cons _ .slnil)))
        ·rw [s20_4_j, s20_4_eq]
         exact tS92_5 (by omega) (by omega) 20000 _ (by omega) sz _ _ [] (IntKind.i64.wrap (sz + 1)) _ E23 (y23.pick (.cons _ (.cons_cons _ .slnil)))
      ·rw [s20_3_j, s20_3_eq]
       refine Sm.i (fun k36 => ?_) (fun k36 => ?_)
       ·rw [s20_4_j, s20_4_eq]
        exact tS92_5 (by omega) (by omega) 20000 _ (by omega) sz _ _ [] 1 _ E23 (y23.pick (.cons _ (.cons_cons _ .slnil)))
       ·refine Sm.i (fun k37 => ?_) (fun k37 => ?_)
        ·rw [s20_4_j, s20_4_eq]
         exact tS92_5 (by omega) (by omega) 20000 _ (by omega) sz _ _ [] 5 _ E23 (y23.pick (.cons _ (.cons_cons _ .slnil)))
        ·rw [s20_4_j, s20_4_eq]
         exact tS92_5 (by omega) (by omega) 20000 _ (by omega) sz _ _ [] (IntKind.i64.wrap (sz + 1)) _ E23 (y23.pick (.cons _ (.cons_cons _ .slnil)))
  ·rw [s20_0_j, s20_0_eq]
   refine Sm.i (fun k38 => ?_) (fun k38 => ?_)
   ·refine Sm.b rfl ?_
    refine Sm.st y3 0 rfl rfl rfl (by simp [splice]) fun g39 X39 y39 => ?_
    have E39 := E3.trans X39
    rw [s20_1_j, s20_1_eq]
    refine Sm.b (y39.ldON 0 rfl rfl) ?_
    refine Sm.c (t130 (by omega) ⟨k, sz, 1⟩) fun r40 g40 e38 X40 => ?_
    have y40 := y39.ext X40
    have E40 := E39.trans (X40.mono E39.size)
    refine Sm.b rfl ?_
    refine Sm.i (fun k41 => ?_) (fun k41 => ?_)
    ·exact Sm.fin E40 (y40.ro 1 (Value.int .i64) [] rfl (LV.mk _ _))
    ·refine Sm.i (fun k42 => ?_) (fun k42 => ?_)
     ·rw [s20_2_j, s20_2_eq]
      refine Sm.i (fun k43 => ?_) (fun k43 => ?_)
      ·rw [s20_4_j, s20_4_eq]
       exact tS92_5 (by omega) (by omega) 20000 _ (by omega) sz _ _ [] 2 _ E40 (y40.pick (.cons _ (.cons_cons _ .slnil)))
      ·refine Sm.i (fun k44 => ?_) (fun k44 => ?_)
       ·rw [s20_3_j, s20_3_eq]
        refine Sm.i (fun k45 => ?_) (fun k45 => ?_)
        ·rw [s20_4_j, s20_4_eq]
         exact tS92_5 (by omega) (by omega) 20000 _ (by omega) sz _ _ [] 1 _ E40 (y40.pick (.cons _ (.cons_cons _ .slnil)))
        ·refine Sm.i (fun k46 => ?_) (fun k46 => ?_)
         ·rw [s20_4_j, s20_4_eq]
          exact tS92_5 (by omega) (by omega) 20000 _ (by omega) sz _ _ [] 5 _ E40 (y40.pick (.cons _ (.cons_cons _ .slnil)))
         ·rw [s20_4_j, s20_4_eq]
          exact tS92_5 (by omega) (by omega) 20000 _ (by omega) sz _ _ [] (IntKind.i64.wrap (sz + 1)) _ E40 (y40.pick (.cons _ (.cons_cons _ .slnil)))
       ·rw [s20_3_j, s20_3_eq]
        refine Sm.i (fun k47 => ?_) (fun k47 => ?_)
        ·rw [s20_4_j, s20_4_eq]
         exact tS92_5 (by omega) (by omega) 20000 _ (by omega) sz _ _ [] 1 _ E40 (y40.pick (.cons _ (.cons_cons _ .slnil)))
        ·refine Sm.i (fun k48 => ?_) (fun k48 => ?_)
         ·rw [s20_4_j, s20_4_eq]
          exact tS92_5 (by omega) (by omega) 20000 _ (by omega) sz _ _ [] 5 _ E40 (y40.pick (.cons _ (.cons_cons _ .slnil)))
         ·rw [s20_4_j, s20_4_eq]
          exact tS92_5 (by omega) (by omega) 20000 _ (by omega) sz _ _ [] (IntKind.i64.wrap (sz + 1)) _ E40 (y40.pick (.cons _ (.cons_cons _ .slnil)))
     ·rw [s20_2_j, s20_2_eq]
      refine Sm.i (fun k49 => ?_) (fun k49 => ?_)
      ·rw [s20_4_j, s20_4_eq]
       exact tS92_5 (by omega) (by omega) 20000 _ (by omega) sz _ _ [] 2 _ E40 (y40.pick (.cons _ (.cons_cons _ .slnil)))
      ·refine Sm.i (fun k50 => ?_) (fun k50 => ?_)
       ·rw [s20_3_j, s20_3_eq]
        refine Sm.i (fun k51 => ?_) (fun k51 => ?_)
        ·rw [s20_4_j, s20_4_eq]
         exact tS92_5 (by omega) (by omega) 20000 _ (by omega) sz _ _ [] 1 _ E40 (y40.pick (.cons _ (.cons_cons _ .slnil)))
        ·refine Sm.i (fun k52 => ?_) (fun k52 => ?_)
         ·rw [s20_4_j, s20_4_eq]
          exact tS92_5 (by omega) (by omega) 20000 _ (by omega) sz _ _ [] 5 _ E40 (y40.pick (.cons _ (.cons_cons _ .slnil)))
         ·rw [s20_4_j, s20_4_eq]
          exact tS92_5 (by omega) (by omega) 20000 _ (by omega) sz _ _ [] (IntKind.i64.wrap (sz + 1)) _ E40 (y40.pick (.cons _ (.cons_cons _ .slnil)))
       ·rw [s20_3_j, s20_3_eq]
        refine Sm.i (fun k53 => ?_) (fun k53 => ?_)
        ·rw [s20_4_j, s20_4_eq]
         exact tS92_5 (by omega) (by omega) 20000 _ (by omega) sz _ _ [] 1 _ E40 (y40.pick (.cons _ (.cons_cons _ .slnil)))
        ·refine Sm.i (fun k54 => ?_) (fun k54 => ?_)
         ·rw [s20_4_j, s20_4_eq]
          exact tS92_5 (by omega) (by omega) 20000 _ (by omega) sz _ _ [] 5 _ E40 (y40.pick (.cons _ (.cons_cons _ .slnil)))
         ·rw [s20_4_j, s20_4_eq]
          exact tS92_5 (by omega) (by omega) 20000 _ (by omega) sz _ _ [] (IntKind.i64.wrap (sz + 1)) _ E40 (y40.pick (.cons _ (.cons_cons _ .slnil)))
   ·rw [s20_1_j, s20_1_eq]
    refine Sm.b (y3.ldON 0 rfl rfl) ?_
    refine Sm.c (t130 (by omega) ⟨k, sz, 0⟩) fun r55 g55 e19 X55 => ?_
    have y55 := y3.ext X55
    have E55 := E3.trans (X55.mono E3.size)
    refine Sm.b rfl ?_
    refine Sm.i (fun k56 => ?_) (fun k56 => ?_)
    ·exact Sm.fin E55 (y55.ro 1 (Value.int .i64) [] rfl (LV.mk _ _))
    ·refine Sm.i (fun k57 => ?_) (fun k57 => ?_)
     ·rw [s20_2_j, s20_2_eq]
      refine Sm.i (fun k58 => ?_) (fun k58 => ?_)
      ·rw [s20_4_j, s20_4_eq]
       exact tS92_5 (by omega) (by omega) 20000 _ (by omega) sz _ _ [] 2 _ E55 (y55.pick (.cons _ (.cons_cons _ .slnil)))
      ·refine Sm.i (fun k59 => ?_) (fun k59 => ?_)
       ·rw [s20_3_j, s20_3_eq]
        refine Sm.i (fun k60 => ?_) (fun k60 => ?_)
        ·rw [s20_4_j, s20_4_eq]
         exact tS92_5 (by omega) (by omega) 20000 _ (by omega) sz _ _ [] 1 _ E55 (y55.pick (.cons _ (.cons_cons _ .slnil)))
        ·refine Sm.i (fun k61 => ?_) (fun k61 => ?_)
         ·rw [s20_4_j, s20_4_eq]
          exact tS92_5 (by omega) (by omega) 20000 _ (by omega) sz _ _ [] 5 _ E55 (y55.pick (.cons _ (.cons_cons _ .slnil)))
         ·rw [s20_4_j, s20_4_eq]
          exact tS92_5 (by omega) (by omega) 20000 _ (by omega) sz _ _ [] (IntKind.i64.wrap (sz + 1)) _ E55 (y55.pick (.cons _ (.cons_cons _ .slnil)))
       ·rw [s20_3_j, s20_3_eq]
        refine Sm.i (fun k62 => ?_) (fun k62 => ?_)
        ·rw [s20_4_j, s20_4_eq]
         exact tS92_5 (by omega) (by omega) 20000 _ (by omega) sz _ _ [] 1 _ E55 (y55.pick (.cons _ (.cons_cons _ .slnil)))
        ·refine Sm.i (fun k63 => ?_) (fun k63 => ?_)
         ·rw [s20_4_j, s20_4_eq]
          exact tS92_5 (by omega) (by omega) 20000 _ (by omega) sz _ _ [] 5 _ E55 (y55.pick (.cons _ (.cons_cons _ .slnil)))
         ·rw [s20_4_j, s20_4_eq]
          exact tS92_5 (by omega) (by omega) 20000 _ (by omega) sz _ _ [] (IntKind.i64.wrap (sz + 1)) _ E55 (y55.pick (.cons _ (.cons_cons _ .slnil)))
     ·rw [s20_2_j, s20_2_eq]
      refine Sm.i (fun k64 => ?_) (fun k64 => ?_)
      ·rw [s20_4_j, s20_4_eq]
       exact tS92_5 (by omega) (by omega) 20000 _ (by omega) sz _ _ [] 2 _ E55 (y55.pick (.cons _ (.cons_cons _ .slnil)))
      ·refine Sm.i (fun k65 => ?_) (fun k65 => ?_)
       ·rw [s20_3_j, s20_3_eq]
        refine Sm.i (fun k66 => ?_) (fun k66 => ?_)
        ·rw [s20_4_j, s20_4_eq]
         exact tS92_5 (by omega) (by omega) 20000 _ (by omega) sz _ _ [] 1 _ E55 (y55.pick (.cons _ (.cons_cons _ .slnil)))
        ·refine Sm.i (fun k67 => ?_) (fun k67 => ?_)
         ·rw [s20_4_j, s20_4_eq]
          exact tS92_5 (by omega) (by omega) 20000 _ (by omega) sz _ _ [] 5 _ E55 (y55.pick (.cons _ (.cons_cons _ .slnil)))
         ·rw [s20_4_j, s20_4_eq]
          exact tS92_5 (by omega) (by omega) 20000 _ (by omega) sz _ _ [] (IntKind.i64.wrap (sz + 1)) _ E55 (y55.pick (.cons _ (.cons_cons _ .slnil)))
       ·rw [s20_3_j, s20_3_eq]
        refine Sm.i (fun k68 => ?_) (fun k68 => ?_)
        ·rw [s20_4_j, s20_4_eq]
         exact tS92_5 (by omega) (by omega) 20000 _ (by omega) sz _ _ [] 1 _ E55 (y55.pick (.cons _ (.cons_cons _ .slnil)))
        ·refine Sm.i (fun k69 => ?_) (fun k69 => ?_)
         ·rw [s20_4_j, s20_4_eq]
          exact tS92_5 (by omega) (by omega) 20000 _ (by omega) sz _ _ [] 5 _ E55 (y55.pick (.cons _ (.cons_cons _ .slnil)))
         ·rw [s20_4_j, s20_4_eq]
          exact tS92_5 (by omega) (by omega) 20000 _ (by omega) sz _ _ [] (IntKind.i64.wrap (sz + 1)) _ E55 (y55.pick (.cons _ (.cons_cons _ .slnil)))
def mS60_0 (a : Ar) : Nat → Int → Int → List Int → Int → Option (ByteArray)
 | 0, _, _, _, _ => none
 | f + 1, x1, x5, lx6, x7 =>
  bif decide (x7 < x5) then (rd a.ws (IntKind.i64.wrap ((IntKind.i64.wrap (x1 + 2)) + (IntKind.i64.wrap (Int.tdiv x7 8))))).bind fun w2 => (shrM .u64 w2 (IntKind.u64.wrap (IntKind.i64.wrap (8 * (Int.tmod x7 8))))).bind fun w3 => (upd lx6 x7 (IntKind.u8.wrap w3)).bind fun l4 => mS60_0 a f x1 x5 l4 (IntKind.i64.wrap (x7 + 1)) else some (bstr lx6)
theorem tS60_0 {D N : Nat} {h : AHeap} (hD : 0 ≤ D) (hN : 20000 ≤ N) {wv rv : Value} {a : Ar} (H : ArH h wv rv a)  : ∀ (f n2 : Nat) (_ : f ≤ n2) (x1 : Int) (px2 : Nat) (x5 : Int) (ix6 rx6 : Nat) (lx6 : List Int) (x7 : Int) (g : AHeap) (_ : Ext h.size h g) (_ : Cx h.size g [] [⟨ix6, rx6, 5, true, lx6.map (Value.int .u8)⟩, ⟨px2, px2, 29, true, arCells wv rv a⟩] []), SmR h (En Value.string) (mS60_0 a f x1 x5 lx6 x7) (s52_0 hk0 (call Tp Ms D) N n2 x1 (ptr px2 0) x5 (slc ix6 0 lx6.length) x7 g) := by
 intro f
 induction f with
 | zero => intros; exact Sm.none
 | succ f ih =>
  intro n2 hf x1 px2 x5 ix6 rx6 lx6 x7 g0 E0 y0
  obtain ⟨n2, rfl⟩ : ∃ k, n2 = k + 1 := ⟨n2 - 1, by omega⟩
  rw [s52_0_eq, mS60_0]
  refine Sm.i (fun k1 => ?_) (fun k1 => ?_)
  ·refine Sm.b rfl ?_
   refine Sm.b (y0.ldO 1 0 rfl rfl) ?_
   refine Sm.mo fun w2 e2 => ?_
   obtain ⟨q2, i2, l2⟩ := H.w.at e2
   refine Sm.b i2 ?_
   refine Sm.b (l2 _ E0) ?_
   refine Sm.b rfl ?_
   refine Sm.mo fun w3 e1003 => ?_
   refine Sm.b (shr_ok e1003) ?_
   refine Sm.b rfl ?_
   refine Sm.up1 (Value.int .u8) (cI _) y0 0 lx6 rfl fun g4 l4 e1004 n4 X4 y4 => ?_
   have E4 := E0.trans X4
   rw [← n4]
   exact ih _ (by omega) x1 _ x5 _ _ l4 (IntKind.i64.wrap (x7 + 1)) _ E4 (y4.pick (.cons_cons _ (.cons_cons _ .slnil)))
  ·refine Sm.b (y0.cv 0 lx6 rfl) ?_
   refine Sm.b rfl ?_
   exact Sm.fin E0 rfl
def m60 (a : Ar) (p : Int) : Option (ByteArray) :=
 (m95 a p 1).bind fun r2 => (mkL r2 ((0 : Int))).bind fun l3 => mS60_0 a 20000 p r2 l3 0
theorem t60 {D : Nat} {h : AHeap} (hD : 20001 ≤ D) {wv rv : Value} {a : Ar} (H : ArH h wv rv a) (p : Int) : SmR h (En Value.string) (m60 a p) (call Tp Ms D 52 [arV wv rv a, .int .i64 p] h) := by
 obtain ⟨D, rfl⟩ : ∃ d, D = d + 1 := ⟨D - 1, by omega⟩
 rw [c52, e52]
 unfold m60
 have y0 := Cx.start0 h
 have E0 := Ext.refl h.size h
 refine Sm.b H.cells ?_
 refine Sm.n y0 fun p1 g1 X1 y1 => ?_
 have E1 := E0.trans (X1.mono E0.size)
 refine Sm.b (y1.ldON 0 rfl rfl) ?_
 refine Sm.c (t95 (by omega) (H.ext E1) p 1) fun r2 g2 e2 X2 => ?_
 have y2 := y1.ext X2
 have E2 := E1.trans (X2.mono E1.size)
 refine Sm.b rfl ?_
 refine Sm.mk (Value.int .u8) y2 0 (by decide) fun p3 g3 l3 e1003 X3 y3 => ?_
 have E3 := E2.trans (X3.mono E2.size)
 exact tS60_0 (by omega) (by omega) H 20000 _ (by omega) p _ r2 _ _ l3 0 _ E3 (y3.pick (.cons_cons _ (.cons_cons _ .slnil)))
def mS97_0 (a : Ar) : Nat → Int → Int → Int → Int → Option ((Int × Int))
 | 0, _, _, _, _ => none
 | f + 1, x1, x6, x7, x8 =>
  bif decide (x8 < x6) then (rd a.ws (IntKind.i64.wrap ((IntKind.i64.wrap (x1 + 1)) + (IntKind.i64.wrap (4 * x8))))).bind fun w2 => bif w2 != 0 then mS97_0 a f x1 x6 (IntKind.i64.wrap (x7 + 1)) (IntKind.i64.wrap (x8 + 1)) else mS97_0 a f x1 x6 x7 (IntKind.i64.wrap (x8 + 1)) else some ((x7, x6))
theorem tS97_0 {D N : Nat} {h : AHeap} (hD : 0 ≤ D) (hN : 20000 ≤ N) {wv rv : Value} {a : Ar} (H : ArH h wv rv a)  : ∀ (f n2 : Nat) (_ : f ≤ n2) (x1 : Int) (px2 : Nat) (x6 : Int) (x7 : Int) (x8 : Int) (g : AHeap) (_ : Ext h.size h g) (_ : Cx h.size g [] [⟨px2, px2, 29, true, arCells wv rv a⟩] []), SmR h (En eII) (mS97_0 a f x1 x6 x7 x8) (s75_0 hk0 (call Tp Ms D) N n2 x1 (ptr px2 0) x6 x7 x8 g) := by
 intro f
 induction f with
 | zero => intros; exact Sm.none
 | succ f ih =>
  intro n2 hf x1 px2 x6 x7 x8 g0 E0 y0
  obtain ⟨n2, rfl⟩ : ∃ k, n2 = k + 1 := ⟨n2 - 1, by omega⟩
  rw [s75_0_eq, mS97_0]
  refine Sm.i (fun k1 => ?_) (fun k1 => ?_)
  ·refine Sm.b rfl ?_
   refine Sm.b (y0.ldO 0 0 rfl rfl) ?_
   refine Sm.mo fun w2 e2 => ?_
   obtain ⟨q2, i2, l2⟩ := H.w.at e2
   refine Sm.b i2 ?_
   refine Sm.b (l2 _ E0) ?_
   refine Sm.b rfl ?_
   refine Sm.i (fun k3 => ?_) (fun k3 => ?_)
   ·exact ih _ (by omega) x1 _ x6 (IntKind.i64.wrap (x7 + 1)) (IntKind.i64.wrap (x8 + 1)) _ E0 (y0.pick (.cons_cons _ .slnil))
   ·exact ih _ (by omega) x1 _ x6 x7 (IntKind.i64.wrap (x8 + 1)) _ E0 (y0.pick (.cons_cons _ .slnil))
  ·exact Sm.fin E0 rfl
def m97 (a : Ar) (b : Int) : Option ((Int × Int)) :=
 (m55 a b).bind fun r2 => mS97_0 a 20000 b (IntKind.i64.wrap (Int.tdiv r2.s 4)) 0 0
theorem t97 {D : Nat} {h : AHeap} (hD : 20001 ≤ D) {wv rv : Value} {a : Ar} (H : ArH h wv rv a) (b : Int) : SmR h (En eII) (m97 a b) (call Tp Ms D 75 [arV wv rv a, .int .i64 b] h) := by
 obtain ⟨D, rfl⟩ : ∃ d, D = d + 1 := ⟨D - 1, by omega⟩
 rw [c75, e75]
 unfold m97
 have y0 := Cx.start0 h
 have E0 := Ext.refl h.size h
 refine Sm.b H.cells ?_
 refine Sm.n y0 fun p1 g1 X1 y1 => ?_
 have E1 := E0.trans (X1.mono E0.size)
 refine Sm.b (y1.ldON 0 rfl rfl) ?_
 refine Sm.c (t55 (by omega) (H.ext E1) b) fun r2 g2 e2 X2 => ?_
 have y2 := y1.ext X2
 have E2 := E1.trans (X2.mono E1.size)
 refine Sm.b rfl ?_
 refine Sm.b rfl ?_
 exact tS97_0 (by omega) (by omega) H 20000 _ (by omega) b _ (IntKind.i64.wrap (Int.tdiv r2.s 4)) 0 0 _ E2 (y2.pick (.cons_cons _ .slnil))
def mS30_0 : Nat → ByteArray → Int → Int → Option (Int)
 | 0, _, _, _ => none
 | f + 1, x5, x6, x7 =>
  bif decide (x7 < (ByteArray.size x5 : Int)) then (chr x5 x7).bind fun w2 => mS30_0 f x5 (Int.tmod (IntKind.i64.wrap ((IntKind.i64.wrap (33 * x6)) + (IntKind.i64.wrap w2))) 1000003) (IntKind.i64.wrap (x7 + 1)) else some x6
theorem tS30_0 {D N : Nat} {h : AHeap} (hD : 0 ≤ D) (hN : 20000 ≤ N)  : ∀ (f n2 : Nat) (_ : f ≤ n2) (x5 : ByteArray) (x6 : Int) (x7 : Int) (g : AHeap) (_ : Ext h.size h g) (_ : Cx h.size g [] [] []), SmR h (En (Value.int .i64)) (mS30_0 f x5 x6 x7) (s95_0 hk0 (call Tp Ms D) N n2 x5 x6 x7 g) := by
 intro f
 induction f with
 | zero => intros; exact Sm.none
 | succ f ih =>
  intro n2 hf x5 x6 x7 g0 E0 y0
  obtain ⟨n2, rfl⟩ : ∃ k, n2 = k + 1 := ⟨n2 - 1, by omega⟩
  rw [s95_0_eq, mS30_0]
  refine Sm.i (fun k1 => ?_) (fun k1 => ?_)
  ·refine Sm.mo fun w2 e2 => ?_
   refine Sm.b (chr_ok e2) ?_
   refine Sm.b rfl ?_
   exact ih _ (by omega) x5 (Int.tmod (IntKind.i64.wrap ((IntKind.i64.wrap (33 * x6)) + (IntKind.i64.wrap w2))) 1000003) (IntKind.i64.wrap (x7 + 1)) _ E0 (y0.pick .slnil)
  ·exact Sm.fin E0 rfl
def m30 (a : Ar) (v : Vl) : Option (Int) :=
 bif v.t == 1 then some v.n else bif v.t == 2 then some (IntKind.i64.wrap (Int.tmod (IntKind.u64.wrap v.n) 1000003)) else bif v.t == 7 then some (IntKind.i64.wrap (v.n + 7)) else bif v.t == 3 then (m61 a v.n).bind fun r7 => (m60 a r7).bind fun r8 => mS30_0 20000 r8 5381 0 else (m61 a v.n).bind fun r9 => (m55 a r9).bind fun r10 => some r10.n
theorem t30 {D : Nat} {h : AHeap} (hD : 20002 ≤ D) {wv rv : Value} {a : Ar} (H : ArH h wv rv a) (v : Vl) : SmR h (En (Value.int .i64)) (m30 a v) (call Tp Ms D 95 [arV wv rv a, v.v] h) := by
 obtain ⟨D, rfl⟩ : ∃ d, D = d + 1 := ⟨D - 1, by omega⟩
 rw [c95, e95]
 unfold m30
 have y0 := Cx.start0 h
 have E0 := Ext.refl h.size h
 refine Sm.b H.cells ?_
 refine Sm.n y0 fun p1 g1 X1 y1 => ?_
 have E1 := E0.trans (X1.mono E0.size)
 refine Sm.b rfl ?_
 refine Sm.n y1 fun p2 g2 X2 y2 => ?_
 have E2 := E1.trans (X2.mono E1.size)
 refine Sm.b rfl ?_
 refine Sm.b (y2.ldO 0 0 rfl rfl) ?_
 refine Sm.b rfl ?_
 refine Sm.i (fun k3 => ?_) (fun k3 => ?_)
 ·refine Sm.b rfl ?_
  refine Sm.b (y2.ldO 0 1 rfl rfl) ?_
  refine Sm.b rfl ?_
  exact Sm.fin E2 rfl
 ·refine Sm.i (fun k4 => ?_) (fun k4 => ?_)
  ·refine Sm.b rfl ?_
   refine Sm.b (y2.ldO 0 1 rfl rfl) ?_
   refine Sm.b rfl ?_
   exact Sm.fin E2 rfl
  ·refine Sm.i (fun k5 => ?_) (fun k5 => ?_)
   ·refine Sm.b rfl ?_
    refine Sm.b (y2.ldO 0 1 rfl rfl) ?_
    refine Sm.b rfl ?_
    exact Sm.fin E2 rfl
   ·refine Sm.i (fun k6 => ?_) (fun k6 => ?_)
    ·refine Sm.b (y2.ldON 1 rfl rfl) ?_
     refine Sm.b (y2.ldON 1 rfl rfl) ?_
     refine Sm.b rfl ?_
     refine Sm.b (y2.ldO 0 1 rfl rfl) ?_
     refine Sm.b rfl ?_
     refine Sm.c (t61 (by omega) (H.ext E2) v.n) fun r7 g7 e1007 X7 => ?_
     have y7 := y2.ext X7
     have E7 := E2.trans (X7.mono E2.size)
     refine Sm.b rfl ?_
     refine Sm.b (agA (y7.ldON 1 rfl rfl) H.vb) ?_
     refine Sm.ct rfl ?_
     refine Sm.c (t60 (by omega) (H.ext E7) r7) fun r8 g8 e6 X8 => ?_
     have y8 := y7.ext X8
     have E8 := E7.trans (X8.mono E7.size)
     refine Sm.b rfl ?_
     exact tS30_0 (by omega) (by omega) 20000 _ (by omega) r8 5381 0 _ E8 (y8.pick (.cons _ (.cons _ .slnil)))
    ·refine Sm.b (y2.ldON 1 rfl rfl) ?_
     refine Sm.b (y2.ldON 1 rfl rfl) ?_
     refine Sm.b rfl ?_
     refine Sm.b (y2.ldO 0 1 rfl rfl) ?_
     refine Sm.b rfl ?_
     refine Sm.c (t61 (by omega) (H.ext E2) v.n) fun r9 g9 e1009 X9 => ?_
     have y9 := y2.ext X9
     have E9 := E2.trans (X9.mono E2.size)
     refine Sm.b rfl ?_
     refine Sm.b (agA (y9.ldON 1 rfl rfl) H.vb) ?_
     refine Sm.ct rfl ?_
     refine Sm.c (t55 (by omega) (H.ext E9) r9) fun r10 g10 e8 X10 => ?_
     have y10 := y9.ext X10
     have E10 := E9.trans (X10.mono E9.size)
     refine Sm.b rfl ?_
     refine Sm.b rfl ?_
     exact Sm.fin E10 rfl
def m131 (a : Ar) (v : Vl) (w : Vl) : Option (Bool) :=
 bif v.t != w.t then some false else (m100 ⟨v.t, v.n⟩).bind fun r5 => bif !r5 then some (v.n == w.n) else (m61 a v.n).bind fun r7 => (m61 a w.n).bind fun r8 => bif v.t == 3 then (m60 a r7).bind fun r10 => (m60 a r8).bind fun r11 => some (r10.toList == r11.toList) else some (r7 == r8)
theorem t131 {D : Nat} {h : AHeap} (hD : 20002 ≤ D) {wv rv : Value} {a : Ar} (H : ArH h wv rv a) (v : Vl) (w : Vl) : SmR h (En Value.bool) (m131 a v w) (call Tp Ms D 96 [arV wv rv a, v.v, w.v] h) := by
 obtain ⟨D, rfl⟩ : ∃ d, D = d + 1 := ⟨D - 1, by omega⟩
 rw [c96, e96]
 unfold m131
 have y0 := Cx.start0 h
 have E0 := Ext.refl h.size h
 refine Sm.b H.cells ?_
 refine Sm.n y0 fun p1 g1 X1 y1 => ?_
 have E1 := E0.trans (X1.mono E0.size)
 refine Sm.b rfl ?_
 refine Sm.n y1 fun p2 g2 X2 y2 => ?_
 have E2 := E1.trans (X2.mono E1.size)
 refine Sm.b rfl ?_
 refine Sm.n y2 fun p3 g3 X3 y3 => ?_
 have E3 := E2.trans (X3.mono E2.size)
 refine Sm.b rfl ?_
 refine Sm.b (y3.ldO 1 0 rfl rfl) ?_
 refine Sm.b rfl ?_
 refine Sm.b rfl ?_
 refine Sm.b (y3.ldO 0 0 rfl rfl) ?_
 refine Sm.b rfl ?_
 refine Sm.i (fun k4 => ?_) (fun k4 => ?_)
 ·exact Sm.fin E3 rfl
 ·refine Sm.b (y3.ldON 1 rfl rfl) ?_
  refine Sm.c (t100 (by omega) ⟨v.t, v.n⟩) fun r5 g5 e1005 X5 => ?_
  have y5 := y3.ext X5
  have E5 := E3.trans (X5.mono E3.size)
  refine Sm.b rfl ?_
  refine Sm.i (fun k6 => ?_) (fun k6 => ?_)
  ·refine Sm.b rfl ?_
   refine Sm.b (y5.ldO 1 1 rfl rfl) ?_
   refine Sm.b rfl ?_
   refine Sm.b rfl ?_
   refine Sm.b (y5.ldO 0 1 rfl rfl) ?_
   refine Sm.b rfl ?_
   exact Sm.fin E5 rfl
  ·refine Sm.b (y5.ldON 2 rfl rfl) ?_
   refine Sm.b rfl ?_
   refine Sm.b (y5.ldO 1 1 rfl rfl) ?_
   refine Sm.b rfl ?_
   refine Sm.b (y5.ldON 2 rfl rfl) ?_
   refine Sm.b rfl ?_
   refine Sm.b (y5.ldO 0 1 rfl rfl) ?_
   refine Sm.b rfl ?_
   refine Sm.c (t61 (by omega) (H.ext E5) v.n) fun r7 g7 e1007 X7 => ?_
   have y7 := y5.ext X7
   have E7 := E5.trans (X7.mono E5.size)
   refine Sm.b rfl ?_
   refine Sm.b (agA (y7.ldON 2 rfl rfl) H.vb) ?_
   refine Sm.ct rfl ?_
   refine Sm.b (agI (y7.ldO 0 1 rfl rfl)) ?_
   refine Sm.ct rfl ?_
   refine Sm.c (t61 (by omega) (H.ext E7) w.n) fun r8 g8 e6 X8 => ?_
   have y8 := y7.ext X8
   have E8 := E7.trans (X8.mono E7.size)
   refine Sm.b rfl ?_
   refine Sm.b rfl ?_
   refine Sm.b (y8.ldO 1 0 rfl rfl) ?_
   refine Sm.b rfl ?_
   refine Sm.i (fun k9 => ?_) (fun k9 => ?_)
   ·refine Sm.b (y8.ldON 2 rfl rfl) ?_
    refine Sm.b (y8.ldON 2 rfl rfl) ?_
    refine Sm.c (t60 (by omega) (H.ext E8) r7) fun r10 g10 e8 X10 => ?_
    have y10 := y8.ext X10
    have E10 := E8.trans (X10.mono E8.size)
    refine Sm.b rfl ?_
    refine Sm.b (agA (y10.ldON 2 rfl rfl) H.vb) ?_
    refine Sm.ct rfl ?_
    refine Sm.c (t60 (by omega) (H.ext E10) r8) fun r11 g11 e1011 X11 => ?_
    have y11 := y10.ext X11
    have E11 := E10.trans (X11.mono E10.size)
    refine Sm.b rfl ?_
    exact Sm.fin E11 rfl
   ·exact Sm.fin E8 rfl
def mS99_2 (a : Ar) : Nat → Int → Int → Vl → Int → Int → Option ((Int × Bool))
 | 0, _, _, _, _, _ => none
 | f + 1, x1, x2, zx7, x10, x11 =>
  bif decide (x11 < x2) then (m98 a x1 x10).bind fun r2 => bif r2.t == 0 then some ((x10, false)) else (m131 a ⟨r2.t, r2.n⟩ ⟨zx7.t, zx7.n⟩).bind fun r6 => bif r6 then some ((x10, true)) else (remM (IntKind.i64.wrap (x10 + 1)) x2).bind fun w8 => mS99_2 a f x1 x2 ⟨zx7.t, zx7.n⟩ w8 (IntKind.i64.wrap (x11 + 1)) else some ((-1, false))
theorem tS99_2 {D N : Nat} {h : AHeap} (hD : 20002 ≤ D) (hN : 20000 ≤ N) {wv rv : Value} {a : Ar} (H : ArH h wv rv a)  : ∀ (f n2 : Nat) (_ : f ≤ n2) (x1 : Int) (x2 : Int) (px4 : Nat) (px7 : Nat) (zx7 : Vl) (x10 : Int) (x11 : Int) (g : AHeap) (_ : Ext h.size h g) (_ : Cx h.size g [] [⟨px7, px7, 42, true, [.int .i64 zx7.t, .int .i64 zx7.n]⟩, ⟨px4, px4, 29, true, arCells wv rv a⟩] []), SmR h (En eIB) (mS99_2 a f x1 x2 zx7 x10 x11) (s77_2 hk0 (call Tp Ms D) N n2 x1 x2 (ptr px4 0) (ptr px7 0) x10 x11 g) := by
 intro f
 induction f with
 | zero => intros; exact Sm.none
 | succ f ih =>
  intro n2 hf x1 x2 px4 px7 zx7 x10 x11 g0 E0 y0
  obtain ⟨n2, rfl⟩ : ∃ k, n2 = k + 1 := ⟨n2 - 1, by omega⟩
  rw [s77_2_eq, mS99_2]
  refine Sm.i (fun k1 => ?_) (fun k1 => ?_)
  ·refine Sm.b (y0.ldON 1 rfl rfl) ?_
   refine Sm.c (t98 (by omega) (H.ext E0) x1 x10) fun r2 g2 e2 X2 => ?_
   have y2 := y0.ext X2
   have E2 := E0.trans (X2.mono E0.size)
   refine Sm.n y2 fun p3 g3 X3 y3 => ?_
   have E3 := E2.trans (X3.mono E2.size)
   refine Sm.st y3 0 rfl rfl rfl (by simp [splice]) fun g4 X4 y4 => ?_
   have E4 := E3.trans X4
   refine Sm.b rfl ?_
   refine Sm.b (y4.ldO 0 0 rfl rfl) ?_
   refine Sm.b rfl ?_
   refine Sm.i (fun k5 => ?_) (fun k5 => ?_)
   ·exact Sm.fin E4 rfl
   ·refine Sm.b (y4.ldON 2 rfl rfl) ?_
    refine Sm.b (y4.ldON 0 rfl rfl) ?_
    refine Sm.b (y4.ldON 1 rfl rfl) ?_
    refine Sm.c (t131 (by omega) (H.ext E4) ⟨r2.t, r2.n⟩ ⟨zx7.t, zx7.n⟩) fun r6 g6 e4 X6 => ?_
    have y6 := y4.ext X6
    have E6 := E4.trans (X6.mono E4.size)
    refine Sm.b rfl ?_
    refine Sm.i (fun k7 => ?_) (fun k7 => ?_)
    ·exact Sm.fin E6 rfl
    ·refine Sm.mo fun w8 e6 => ?_
     refine Sm.b (rem_ok e6) ?_
     refine Sm.b rfl ?_
     exact ih _ (by omega) x1 x2 _ _ ⟨zx7.t, zx7.n⟩ w8 (IntKind.i64.wrap (x11 + 1)) _ E6 (y6.pick (.cons _ (.cons_cons _ (.cons_cons _ .slnil))))
  ·exact Sm.fin E0 rfl
def m99 (a : Ar) (b : Int) (n : Int) (key : Vl) : Option ((Int × Bool)) :=
 bif n == 0 then some ((-1, false)) else bif (key.t == 0) then some ((-1, false)) else (m30 a ⟨key.t, key.n⟩).bind fun r5 => (remM r5 n).bind fun w6 => mS99_2 a 20000 b n ⟨key.t, key.n⟩ w6 0
theorem t99 {D : Nat} {h : AHeap} (hD : 20003 ≤ D) {wv rv : Value} {a : Ar} (H : ArH h wv rv a) (b : Int) (n : Int) (key : Vl) : SmR h (En eIB) (m99 a b n key) (call Tp Ms D 77 [arV wv rv a, .int .i64 b, .int .i64 n, key.v] h) := by
 obtain ⟨D, rfl⟩ : ∃ d, D = d + 1 := ⟨D - 1, by omega⟩
 rw [c77, e77]
 unfold m99
 have y0 := Cx.start0 h
 have E0 := Ext.refl h.size h
 refine Sm.b H.cells ?_
 refine Sm.n y0 fun p1 g1 X1 y1 => ?_
 have E1 := E0.trans (X1.mono E0.size)
 refine Sm.b rfl ?_
 refine Sm.n y1 fun p2 g2 X2 y2 => ?_
 have E2 := E1.trans (X2.mono E1.size)
 refine Sm.i (fun k3 => ?_) (fun k3 => ?_)
 ·rw [s77_0_j, s77_0_eq]
  refine Sm.ct rfl ?_
  exact Sm.fin E2 rfl
 ·refine Sm.b rfl ?_
  refine Sm.b (y2.ldO 0 0 rfl rfl) ?_
  refine Sm.b rfl ?_
  rw [s77_0_j, s77_0_eq]
  refine Sm.i (fun k4 => ?_) (fun k4 => ?_)
  ·exact Sm.fin E2 rfl
  ·rw [s77_1_j, s77_1_eq]
   refine Sm.b (y2.ldON 1 rfl rfl) ?_
   refine Sm.b (y2.ldON 0 rfl rfl) ?_
   refine Sm.c (t30 (by omega) (H.ext E2) ⟨key.t, key.n⟩) fun r5 g5 e1005 X5 => ?_
   have y5 := y2.ext X5
   have E5 := E2.trans (X5.mono E2.size)
   refine Sm.b rfl ?_
   refine Sm.mo fun w6 e4 => ?_
   refine Sm.b (rem_ok e4) ?_
   refine Sm.b rfl ?_
   exact tS99_2 (by omega) (by omega) H 20000 _ (by omega) b n _ _ ⟨key.t, key.n⟩ w6 0 _ E5 (y5.pick (.cons_cons _ (.cons_cons _ .slnil)))
def mS96_4 (a : Ar) : Nat → Int → Int → Option (Bool)
 | 0, _, _ => none
 | f + 1, x1, x11 =>
  bif decide (x11 < 60) then (rd a.ws (IntKind.i64.wrap ((IntKind.i64.wrap (x1 + 7)) + (IntKind.i64.wrap (2 * x11))))).bind fun w2 => bif w2 != 0 then some false else mS96_4 a f x1 (IntKind.i64.wrap (x11 + 1)) else some true
theorem tS96_4 {D N : Nat} {h : AHeap} (hD : 0 ≤ D) (hN : 20000 ≤ N) {wv rv : Value} {a : Ar} (H : ArH h wv rv a)  : ∀ (f n2 : Nat) (_ : f ≤ n2) (x1 : Int) (px2 : Nat) (x11 : Int) (g : AHeap) (_ : Ext h.size h g) (_ : Cx h.size g [] [⟨px2, px2, 29, true, arCells wv rv a⟩] []), SmR h (En Value.bool) (mS96_4 a f x1 x11) (s73_4 hk0 (call Tp Ms D) N n2 x1 (ptr px2 0) x11 g) := by
 intro f
 induction f with
 | zero => intros; exact Sm.none
 | succ f ih =>
  intro n2 hf x1 px2 x11 g0 E0 y0
  obtain ⟨n2, rfl⟩ : ∃ k, n2 = k + 1 := ⟨n2 - 1, by omega⟩
  rw [s73_4_eq, mS96_4]
  refine Sm.i (fun k1 => ?_) (fun k1 => ?_)
  ·refine Sm.b rfl ?_
   refine Sm.b (y0.ldO 0 0 rfl rfl) ?_
   refine Sm.mo fun w2 e2 => ?_
   obtain ⟨q2, i2, l2⟩ := H.w.at e2
   refine Sm.b i2 ?_
   refine Sm.b (l2 _ E0) ?_
   refine Sm.b rfl ?_
   refine Sm.i (fun k3 => ?_) (fun k3 => ?_)
   ·exact Sm.fin E0 rfl
   ·exact ih _ (by omega) x1 _ (IntKind.i64.wrap (x11 + 1)) _ E0 (y0.pick (.cons_cons _ .slnil))
  ·exact Sm.fin E0 rfl
def m96 (a : Ar) (p : Int) : Option (Bool) :=
 (m95 a p 1).bind fun r2 => (m95 a p 2).bind fun r3 => (m95 a p 3).bind fun r4 => (m95 a p 4).bind fun r5 => (m59 r2 0 4).bind fun r6 => bif !r6 then some false else (m59 r3 0 60).bind fun r8 => bif !r8 then some false else (m59 r4 0 r3).bind fun r10 => bif !r10 then some false else (m59 r5 0 4095).bind fun r12 => bif (!r12) then some false else (m93 a.ws (IntKind.i64.wrap (p + 5))).bind fun r14 => bif r14.1.t != 0 then bif (r14.1.t != 6) then some false else mS96_4 a 20000 p r3 else mS96_4 a 20000 p r3
theorem t96 {D : Nat} {h : AHeap} (hD : 20001 ≤ D) {wv rv : Value} {a : Ar} (H : ArH h wv rv a) (p : Int) : SmR h (En Value.bool) (m96 a p) (call Tp Ms D 73 [arV wv rv a, .int .i64 p] h) := by
 obtain ⟨D, rfl⟩ : ∃ d, D = d + 1 := ⟨D - 1, by omega⟩
 rw [c73, e73]
 unfold m96
 have y0 := Cx.start0 h
 have E0 := Ext.refl h.size h
 refine Sm.b H.cells ?_
 refine Sm.n y0 fun p1 g1 X1 y1 => ?_
 have E1 := E0.trans (X1.mono E0.size)
 refine Sm.b (y1.ldON 0 rfl rfl) ?_
 refine Sm.b (y1.ldON 0 rfl rfl) ?_
 refine Sm.b (y1.ldON 0 rfl rfl) ?_
 refine Sm.b (y1.ldON 0 rfl rfl) ?_
 refine Sm.c (t95 (by omega) (H.ext E1) p 1) fun r2 g2 e2 X2 => ?_
 have y2 := y1.ext X2
 have E2 := E1.trans (X2.mono E1.size)
 refine Sm.b rfl ?_
 refine Sm.b (agA (y2.ldON 0 rfl rfl) H.vb) ?_
 refine Sm.ct rfl ?_
 refine Sm.b (agA (y2.ldON 0 rfl rfl) H.vb) ?_
 refine Sm.ct rfl ?_
 refine Sm.b (agA (y2.ldON 0 rfl rfl) H.vb) ?_
 refine Sm.ct rfl ?_
 refine Sm.c (t95 (by omega) (H.ext E2) p 2) fun r3 g3 e1003 X3 => ?_
 have y3 := y2.ext X3
 have E3 := E2.trans (X3.mono E2.size)
 refine Sm.b rfl ?_
 refine Sm.b (agA (y3.ldON 0 rfl rfl) H.vb) ?_
 refine Sm.ct rfl ?_
 refine Sm.b (agA (y3.ldON 0 rfl rfl) H.vb) ?_
 refine Sm.ct rfl ?_
 refine Sm.c (t95 (by omega) (H.ext E3) p 3) fun r4 g4 e1004 X4 => ?_
 have y4 := y3.ext X4
 have E4 := E3.trans (X4.mono E3.size)
 refine Sm.b rfl ?_
 refine Sm.b (agA (y4.ldON 0 rfl rfl) H.vb) ?_
 refine Sm.ct rfl ?_
 refine Sm.c (t95 (by omega) (H.ext E4) p 4) fun r5 g5 e1005 X5 => ?_
 have y5 := y4.ext X5
 have E5 := E4.trans (X5.mono E4.size)
 refine Sm.b rfl ?_
 refine Sm.c (t59 (by omega) r2 0 4) fun r6 g6 e4 X6 => ?_
 have y6 := y5.ext X6
 have E6 := E5.trans (X6.mono E5.size)
 refine Sm.b rfl ?_
 refine Sm.i (fun k7 => ?_) (fun k7 => ?_)
 ·rw [s73_0_j, s73_0_eq]
  refine Sm.ct rfl ?_
  exact Sm.fin E6 rfl
 ·refine Sm.c (t59 (by omega) r3 0 60) fun r8 g8 e6 X8 => ?_
  have y8 := y6.ext X8
  have E8 := E6.trans (X8.mono E6.size)
  refine Sm.b rfl ?_
  refine Sm.i (fun k9 => ?_) (fun k9 => ?_)
  ·rw [s73_0_j, s73_0_eq]
   refine Sm.ct rfl ?_
   exact Sm.fin E8 rfl
  ·refine Sm.c (t59 (by omega) r4 0 r3) fun r10 g10 e8 X10 => ?_
   have y10 := y8.ext X10
   have E10 := E8.trans (X10.mono E8.size)
   refine Sm.b rfl ?_
   refine Sm.i (fun k11 => ?_) (fun k11 => ?_)
   ·rw [s73_0_j, s73_0_eq]
    refine Sm.ct rfl ?_
    exact Sm.fin E10 rfl
   ·refine Sm.c (t59 (by omega) r5 0 4095) fun r12 g12 e1012 X12 => ?_
    have y12 := y10.ext X12
    have E12 := E10.trans (X12.mono E10.size)
    refine Sm.b rfl ?_
    rw [s73_0_j, s73_0_eq]
    refine Sm.i (fun k13 => ?_) (fun k13 => ?_)
    ·exact Sm.fin E12 rfl
    ·rw [s73_1_j, s73_1_eq]
     refine Sm.b rfl ?_
     refine Sm.b (y12.ldO 0 0 rfl rfl) ?_
     refine Sm.c (t93 (by omega) (H.w.ext E12) (IntKind.i64.wrap (p + 5))) fun r14 g14 e9 X14 => ?_
     have y14 := y12.ext X14
     have E14 := E12.trans (X14.mono E12.size)
     refine Sm.b rfl ?_
     refine Sm.b rfl ?_
     refine Sm.b rfl ?_
     refine Sm.n y14 fun p15 g15 X15 y15 => ?_
     have E15 := E14.trans (X15.mono E14.size)
     refine Sm.st y15 0 rfl rfl rfl (by simp [splice]) fun g16 X16 y16 => ?_
     have E16 := E15.trans X16
     refine Sm.b rfl ?_
     refine Sm.b (y16.ldO 0 0 rfl rfl) ?_
     refine Sm.b rfl ?_
     refine Sm.i (fun k17 => ?_) (fun k17 => ?_)
     ·refine Sm.b rfl ?_
      refine Sm.b (y16.ldO 0 0 rfl rfl) ?_
      refine Sm.b rfl ?_
      rw [s73_2_j, s73_2_eq]
      refine Sm.i (fun k18 => ?_) (fun k18 => ?_)
      ·exact Sm.fin E16 rfl
      ·rw [s73_3_j, s73_3_eq]
       exact tS96_4 (by omega) (by omega) H 20000 _ (by omega) p _ r3 _ E16 (y16.pick (.cons _ (.cons_cons _ .slnil)))
     ·rw [s73_2_j, s73_2_eq]
      refine Sm.cf rfl ?_
      rw [s73_3_j, s73_3_eq]
      exact tS96_4 (by omega) (by omega) H 20000 _ (by omega) p _ r3 _ E16 (y16.pick (.cons _ (.cons_cons _ .slnil)))
def mS54_2 (a : Ar) : Nat → List Int → Int → Hd → Int → List Int → Int → Option (Bool)
 | 0, _, _, _, _, _, _ => none
 | f + 1, mk, x2, zx7, x8, lx9, x10 =>
  bif decide (x10 < ((lx9.length : Int))) then (rd lx9 x10).bind fun w2 => (m93 a.ws (IntKind.i64.wrap (x2 + w2))).bind fun r4 => bif !r4.2 then some false else (m58 a mk ⟨r4.1.t, r4.1.n⟩ x8).bind fun r7 => bif !r7 then some false else bif r4.1.t == 8 then bif zx7.k != 2 then some false else bif r4.1.t == 9 then bif zx7.k == 3 then some false else bif r4.1.t != 9 then bif (zx7.k == 4) then some false else mS54_2 a f mk x2 ⟨zx7.k, zx7.s, zx7.n⟩ x8 lx9 (IntKind.i64.wrap (x10 + 1)) else mS54_2 a f mk x2 ⟨zx7.k, zx7.s, zx7.n⟩ x8 lx9 (IntKind.i64.wrap (x10 + 1)) else bif r4.1.t != 9 then bif (zx7.k == 4) then some false else mS54_2 a f mk x2 ⟨zx7.k, zx7.s, zx7.n⟩ x8 lx9 (IntKind.i64.wrap (x10 + 1)) else mS54_2 a f mk x2 ⟨zx7.k, zx7.s, zx7.n⟩ x8 lx9 (IntKind.i64.wrap (x10 + 1)) else bif r4.1.t == 9 then bif zx7.k == 3 then some false else bif r4.1.t != 9 then bif (zx7.k == 4) then some false else mS54_2 a f mk x2 ⟨zx7.k, zx7.s, zx7.n⟩ x8 lx9 (IntKind.i64.wrap (x10 + 1)) else mS54_2 a f mk x2 ⟨zx7.k, zx7.s, zx7.n⟩ x8 lx9 (IntKind.i64.wrap (x10 + 1)) else bif r4.1.t != 9 then bif (zx7.k == 4) then some false else mS54_2 a f mk x2 ⟨zx7.k, zx7.s, zx7.n⟩ x8 lx9 (IntKind.i64.wrap (x10 + 1)) else mS54_2 a f mk x2 ⟨zx7.k, zx7.s, zx7.n⟩ x8 lx9 (IntKind.i64.wrap (x10 + 1)) else bif zx7.k == 1 then (m94 a x2 zx7.s).bind fun r24 => some r24 else bif zx7.k == 4 then (m95 a x2 1).bind fun r26 => (m59 r26 0 255).bind fun r27 => some r27 else bif zx7.k == 6 then (m96 a x2).bind fun r29 => some r29 else some true
theorem tS54_2 {D N : Nat} {h : AHeap} (hD : 20001 ≤ D) (hN : 20000 ≤ N) {wv rv : Value} {a : Ar} (H : ArH h wv rv a) {vmk : Value} {mk : List Int} (Smk : SlI .i64 h vmk mk) : ∀ (f n2 : Nat) (_ : f ≤ n2) (x2 : Int) (px3 : Nat) (px7 : Nat) (zx7 : Hd) (x8 : Int) (vx9 : Value) (ix9 rx9 : Nat) (bx9 : Bool) (lx9 : List Int) (hx9 : LV vx9 ix9 bx9 lx9.length) (x10 : Int) (g : AHeap) (_ : Ext h.size h g) (_ : Cx h.size g [] [⟨ix9, rx9, 3, bx9, lx9.map (Value.int .i64)⟩, ⟨px7, px7, 44, true, [.int .i64 zx7.k, .int .i64 zx7.s, .int .i64 zx7.n]⟩, ⟨px3, px3, 29, true, arCells wv rv a⟩] []), SmR h (En Value.bool) (mS54_2 a f mk x2 zx7 x8 lx9 x10) (s45_2 hk0 (call Tp Ms D) N n2 vmk x2 (ptr px3 0) (ptr px7 0) x8 vx9 x10 g) := by
 intro f
 induction f with
 | zero => intros; exact Sm.none
 | succ f ih =>
  intro n2 hf x2 px3 px7 zx7 x8 vx9 ix9 rx9 bx9 lx9 hx9 x10 g0 E0 y0
  obtain ⟨n2, rfl⟩ : ∃ k, n2 = k + 1 := ⟨n2 - 1, by omega⟩
  rw [s45_2_eq, mS54_2]
  refine Sm.b hx9.len ?_
  refine Sm.b rfl ?_
  refine Sm.i (fun k1 => ?_) (fun k1 => ?_)
  ·refine Sm.b rfl ?_
   refine Sm.b (y0.ldO 2 0 rfl rfl) ?_
   refine Sm.mo fun w2 e2 => ?_
   refine Sm.b (y0.atS 0 (Value.int .i64) lx9 rfl hx9 e2).1 ?_
   refine Sm.b (y0.atS 0 (Value.int .i64) lx9 rfl hx9 e2).2 ?_
   refine Sm.b rfl ?_
   refine Sm.n y0 fun p3 g3 X3 y3 => ?_
   have E3 := E0.trans (X3.mono E0.size)
   refine Sm.c (t93 (by omega) (H.w.ext E3) (IntKind.i64.wrap (x2 + w2))) fun r4 g4 e1004 X4 => ?_
   have y4 := y3.ext X4
   have E4 := E3.trans (X4.mono E3.size)
   refine Sm.b rfl ?_
   refine Sm.b rfl ?_
   refine Sm.b rfl ?_
   refine Sm.st y4 0 rfl rfl rfl (by simp [splice]) fun g5 X5 y5 => ?_
   have E5 := E4.trans X5
   refine Sm.i (fun k6 => ?_) (fun k6 => ?_)
   ·rw [s45_3_j, s45_3_eq]
    refine Sm.ct rfl ?_
    exact Sm.fin E5 rfl
   ·refine Sm.b (y5.ldON 3 rfl rfl) ?_
    refine Sm.b (y5.ldON 0 rfl rfl) ?_
    refine Sm.c (t58 (by omega) (H.ext E5) (Smk.ext E5) ⟨r4.1.t, r4.1.n⟩ x8) fun r7 g7 e1007 X7 => ?_
    have y7 := y5.ext X7
    have E7 := E5.trans (X7.mono E5.size)
    refine Sm.b rfl ?_
    refine Sm.i (fun k8 => ?_) (fun k8 => ?_)
    ·rw [s45_3_j, s45_3_eq]
     refine Sm.ct rfl ?_
     exact Sm.fin E7 rfl
    ·refine Sm.b rfl ?_
     refine Sm.b (y7.ldO 0 0 rfl rfl) ?_
     refine Sm.b rfl ?_
     refine Sm.i (fun k9 => ?_) (fun k9 => ?_)
     ·refine Sm.b rfl ?_
      refine Sm.b (y7.ldO 2 0 rfl rfl) ?_
      refine Sm.b rfl ?_
      refine Sm.i (fun k10 => ?_) (fun k10 => ?_)
      ·rw [s45_3_j, s45_3_eq]
       refine Sm.ct rfl ?_
       exact Sm.fin E7 rfl
      ·refine Sm.b rfl ?_
       refine Sm.b (y7.ldO 0 0 rfl rfl) ?_
       refine Sm.b rfl ?_
       refine Sm.i (fun k11 => ?_) (fun k11 => ?_)
       ·refine Sm.b rfl ?_
        refine Sm.b (y7.ldO 2 0 rfl rfl) ?_
        refine Sm.b rfl ?_
        refine Sm.i (fun k12 => ?_) (fun k12 => ?_)
        ·rw [s45_3_j, s45_3_eq]
         refine Sm.ct rfl ?_
         exact Sm.fin E7 rfl
        ·refine Sm.b rfl ?_
         refine Sm.b (y7.ldO 0 0 rfl rfl) ?_
         refine Sm.b rfl ?_
         refine Sm.i (fun k13 => ?_) (fun k13 => ?_)
         ·refine Sm.b rfl ?_
          refine Sm.b (y7.ldO 2 0 rfl rfl) ?_
          refine Sm.b rfl ?_
          rw [s45_3_j, s45_3_eq]
          refine Sm.i (fun k14 => ?_) (fun k14 => ?_)
          ·exact Sm.fin E7 rfl
          ·exact ih _ (by omega) x2 _ _ ⟨zx7.k, zx7.s, zx7.n⟩ x8 _ _ _ _ lx9 hx9 (IntKind.i64.wrap (x10 + 1)) _ E7 (y7.pick (.cons _ (.cons_cons _ (.cons_cons _ (.cons_cons _ .slnil)))))
         ·rw [s45_3_j, s45_3_eq]
          refine Sm.cf rfl ?_
          exact ih _ (by omega) x2 _ _ ⟨zx7.k, zx7.s, zx7.n⟩ x8 _ _ _ _ lx9 hx9 (IntKind.i64.wrap (x10 + 1)) _ E7 (y7.pick (.cons _ (.cons_cons _ (.cons_cons _ (.cons_cons _ .slnil)))))
       ·refine Sm.b rfl ?_
        refine Sm.b (y7.ldO 0 0 rfl rfl) ?_
        refine Sm.b rfl ?_
        refine Sm.i (fun k15 => ?_) (fun k15 => ?_)
        ·refine Sm.b rfl ?_
         refine Sm.b (y7.ldO 2 0 rfl rfl) ?_
         refine Sm.b rfl ?_
         rw [s45_3_j, s45_3_eq]
         refine Sm.i (fun k16 => ?_) (fun k16 => ?_)
         ·exact Sm.fin E7 rfl
         ·exact ih _ (by omega) x2 _ _ ⟨zx7.k, zx7.s, zx7.n⟩ x8 _ _ _ _ lx9 hx9 (IntKind.i64.wrap (x10 + 1)) _ E7 (y7.pick (.cons _ (.cons_cons _ (.cons_cons _ (.cons_cons _ .slnil)))))
        ·rw [s45_3_j, s45_3_eq]
         refine Sm.cf rfl ?_
         exact ih _ (by omega) x2 _ _ ⟨zx7.k, zx7.s, zx7.n⟩ x8 _ _ _ _ lx9 hx9 (IntKind.i64.wrap (x10 + 1)) _ E7 (y7.pick (.cons _ (.cons_cons _ (.cons_cons _ (.cons_cons _ .slnil)))))
     ·refine Sm.b rfl ?_
      refine Sm.b (y7.ldO 0 0 rfl rfl) ?_
      refine Sm.b rfl ?_
      refine Sm.i (fun k17 => ?_) (fun k17 => ?_)
      ·refine Sm.b rfl ?_
       refine Sm.b (y7.ldO 2 0 rfl rfl) ?_
       refine Sm.b rfl ?_
       refine Sm.i (fun k18 => ?_) (fun k18 => ?_)
       ·rw [s45_3_j, s45_3_eq]
        refine Sm.ct rfl ?_
        exact Sm.fin E7 rfl
       ·refine Sm.b rfl ?_
        refine Sm.b (y7.ldO 0 0 rfl rfl) ?_
        refine Sm.b rfl ?_
        refine Sm.i (fun k19 => ?_) (fun k19 => ?_)
        ·refine Sm.b rfl ?_
         refine Sm.b (y7.ldO 2 0 rfl rfl) ?_
         refine Sm.b rfl ?_
         rw [s45_3_j, s45_3_eq]
         refine Sm.i (fun k20 => ?_) (fun k20 => ?_)
         ·exact Sm.fin E7 rfl
         ·exact ih _ (by omega) x2 _ _ ⟨zx7.k, zx7.s, zx7.n⟩ x8 _ _ _ _ lx9 hx9 (IntKind.i64.wrap (x10 + 1)) _ E7 (y7.pick (.cons _ (.cons_cons _ (.cons_cons _ (.cons_cons _ .slnil)))))
        ·rw [s45_3_j, s45_3_eq]
         refine Sm.cf rfl ?_
         exact ih _ (by omega) x2 _ _ ⟨zx7.k, zx7.s, zx7.n⟩ x8 _ _ _ _ lx9 hx9 (IntKind.i64.wrap (x10 + 1)) _ E7 (y7.pick (.cons _ (.cons_cons _ (.cons_cons _ (.cons_cons _ .slnil)))))
      ·refine Sm.b rfl ?_
       refine Sm.b (y7.ldO 0 0 rfl rfl) ?_
       refine Sm.b rfl ?_
       refine Sm.i (fun k21 => ?_) (fun k21 => ?_)
       ·refine Sm.b rfl ?_
        refine Sm.b (y7.ldO 2 0 rfl rfl) ?_
        refine Sm.b rfl ?_
        rw [s45_3_j, s45_3_eq]
        refine Sm.i (fun k22 => ?_) (fun k22 => ?_)
        ·exact Sm.fin E7 rfl
        ·exact ih _ (by omega) x2 _ _ ⟨zx7.k, zx7.s, zx7.n⟩ x8 _ _ _ _ lx9 hx9 (IntKind.i64.wrap (x10 + 1)) _ E7 (y7.pick (.cons _ (.cons_cons _ (.cons_cons _ (.cons_cons _ .slnil)))))
       ·rw [s45_3_j, s45_3_eq]
        refine Sm.cf rfl ?_
        exact ih _ (by omega) x2 _ _ ⟨zx7.k, zx7.s, zx7.n⟩ x8 _ _ _ _ lx9 hx9 (IntKind.i64.wrap (x10 + 1)) _ E7 (y7.pick (.cons _ (.cons_cons _ (.cons_cons _ (.cons_cons _ .slnil)))))
  ·refine Sm.b rfl ?_
   refine Sm.b (y0.ldO 1 0 rfl rfl) ?_
   refine Sm.b rfl ?_
   refine Sm.i (fun k23 => ?_) (fun k23 => ?_)
   ·refine Sm.b (y0.ldON 2 rfl rfl) ?_
    refine Sm.b rfl ?_
    refine Sm.b (y0.ldO 1 1 rfl rfl) ?_
    refine Sm.b rfl ?_
    refine Sm.c (t94 (by omega) (H.ext E0) x2 zx7.s) fun r24 g24 e1024 X24 => ?_
    have y24 := y0.ext X24
    have E24 := E0.trans (X24.mono E0.size)
    refine Sm.b rfl ?_
    exact Sm.fin E24 rfl
   ·refine Sm.i (fun k25 => ?_) (fun k25 => ?_)
    ·refine Sm.b (y0.ldON 2 rfl rfl) ?_
     refine Sm.c (t95 (by omega) (H.ext E0) x2 1) fun r26 g26 e11 X26 => ?_
     have y26 := y0.ext X26
     have E26 := E0.trans (X26.mono E0.size)
     refine Sm.b rfl ?_
     refine Sm.c (t59 (by omega) r26 0 255) fun r27 g27 e12 X27 => ?_
     have y27 := y26.ext X27
     have E27 := E26.trans (X27.mono E26.size)
     refine Sm.b rfl ?_
     exact Sm.fin E27 rfl
    ·refine Sm.i (fun k28 => ?_) (fun k28 => ?_)
     ·refine Sm.b (y0.ldON 2 rfl rfl) ?_
      refine Sm.c (t96 (by omega) (H.ext E0) x2) fun r29 g29 e1029 X29 => ?_
      have y29 := y0.ext X29
      have E29 := E0.trans (X29.mono E0.size)
      refine Sm.b rfl ?_
      exact Sm.fin E29 rfl
     ·exact Sm.fin E0 rfl
def m54 (a : Ar) (mk : List Int) (p : Int) : Option (Bool) :=
 (m55 a p).bind fun r2 => (rd mk p).bind fun w5 => bif w5 == 2 then (m92 r2.k r2.s).bind fun r7 => mS54_2 a 20000 mk p ⟨r2.k, r2.s, r2.n⟩ 3 r7 0 else bif a.cyc then bif (decide (p ≥ a.scan)) then (m92 r2.k r2.s).bind fun r10 => mS54_2 a 20000 mk p ⟨r2.k, r2.s, r2.n⟩ 2 r10 0 else (m92 r2.k r2.s).bind fun r11 => mS54_2 a 20000 mk p ⟨r2.k, r2.s, r2.n⟩ 1 r11 0 else (m92 r2.k r2.s).bind fun r12 => mS54_2 a 20000 mk p ⟨r2.k, r2.s, r2.n⟩ 1 r12 0
theorem t54 {D : Nat} {h : AHeap} (hD : 20002 ≤ D) {wv rv : Value} {a : Ar} (H : ArH h wv rv a) {vmk : Value} {mk : List Int} (Smk : SlI .i64 h vmk mk) (p : Int) : SmR h (En Value.bool) (m54 a mk p) (call Tp Ms D 45 [arV wv rv a, vmk, .int .i64 p] h) := by
 obtain ⟨D, rfl⟩ : ∃ d, D = d + 1 := ⟨D - 1, by omega⟩
 rw [c45, e45]
 unfold m54
 have y0 := Cx.start0 h
 have E0 := Ext.refl h.size h
 refine Sm.b H.cells ?_
 refine Sm.n y0 fun p1 g1 X1 y1 => ?_
 have E1 := E0.trans (X1.mono E0.size)
 refine Sm.b (y1.ldON 0 rfl rfl) ?_
 refine Sm.c (t55 (by omega) (H.ext E1) p) fun r2 g2 e2 X2 => ?_
 have y2 := y1.ext X2
 have E2 := E1.trans (X2.mono E1.size)
 refine Sm.n y2 fun p3 g3 X3 y3 => ?_
 have E3 := E2.trans (X3.mono E2.size)
 refine Sm.st y3 0 rfl rfl rfl (by simp [splice]) fun g4 X4 y4 => ?_
 have E4 := E3.trans X4
 refine Sm.mo fun w5 e1005 => ?_
 obtain ⟨q5, i5, l5⟩ := Smk.at e1005
 refine Sm.b i5 ?_
 refine Sm.b (l5 _ E4) ?_
 refine Sm.b rfl ?_
 refine Sm.i (fun k6 => ?_) (fun k6 => ?_)
 ·rw [s45_1_j, s45_1_eq]
  refine Sm.b rfl ?_
  refine Sm.b (y4.ldO 0 0 rfl rfl) ?_
  refine Sm.b rfl ?_
  refine Sm.b rfl ?_
  refine Sm.b (y4.ldO 0 1 rfl rfl) ?_
  refine Sm.b rfl ?_
  refine Sm.cr (t92 (by omega) r2.k r2.s) fun r7 v7 g7 e1007 X7 R7 => ?_
  obtain ⟨i7, q7, b7, h7, o7, z7⟩ := R7
  have y7 := y4.add X7 o7 z7
  have E7 := E4.trans (X7.mono E4.size)
  exact tS54_2 (by omega) (by omega) H Smk 20000 _ (by omega) p _ _ ⟨r2.k, r2.s, r2.n⟩ 3 _ _ _ _ r7 h7 0 _ E7 (y7.pick (.cons_cons _ (.cons_cons _ (.cons_cons _ .slnil))))
 ·refine Sm.b rfl ?_
  refine Sm.b (y4.ldO 1 4 rfl rfl) ?_
  refine Sm.b rfl ?_
  refine Sm.i (fun k8 => ?_) (fun k8 => ?_)
  ·refine Sm.b rfl ?_
   refine Sm.b (y4.ldO 1 5 rfl rfl) ?_
   refine Sm.b rfl ?_
   rw [s45_0_j, s45_0_eq]
   refine Sm.i (fun k9 => ?_) (fun k9 => ?_)
   ·rw [s45_1_j, s45_1_eq]
    refine Sm.b rfl ?_
    refine Sm.b (y4.ldO 0 0 rfl rfl) ?_
    refine Sm.b rfl ?_
    refine Sm.b rfl ?_
    refine Sm.b (y4.ldO 0 1 rfl rfl) ?_
    refine Sm.b rfl ?_
    refine Sm.cr (t92 (by omega) r2.k r2.s) fun r10 v10 g10 e8 X10 R10 => ?_
    obtain ⟨i10, q10, b10, h10, o10, z10⟩ := R10
    have y10 := y4.add X10 o10 z10
    have E10 := E4.trans (X10.mono E4.size)
    exact tS54_2 (by omega) (by omega) H Smk 20000 _ (by omega) p _ _ ⟨r2.k, r2.s, r2.n⟩ 2 _ _ _ _ r10 h10 0 _ E10 (y10.pick (.cons_cons _ (.cons_cons _ (.cons_cons _ .slnil))))
   ·rw [s45_1_j, s45_1_eq]
    refine Sm.b rfl ?_
    refine Sm.b (y4.ldO 0 0 rfl rfl) ?_
    refine Sm.b rfl ?_
    refine Sm.b rfl ?_
    refine Sm.b (y4.ldO 0 1 rfl rfl) ?_
    refine Sm.b rfl ?_
    refine Sm.cr (t92 (by omega) r2.k r2.s) fun r11 v11 g11 e1011 X11 R11 => ?_
    obtain ⟨i11, q11, b11, h11, o11, z11⟩ := R11
    have y11 := y4.add X11 o11 z11
    have E11 := E4.trans (X11.mono E4.size)
    exact tS54_2 (by omega) (by omega) H Smk 20000 _ (by omega) p _ _ ⟨r2.k, r2.s, r2.n⟩ 1 _ _ _ _ r11 h11 0 _ E11 (y11.pick (.cons_cons _ (.cons_cons _ (.cons_cons _ .slnil))))
  ·rw [s45_0_j, s45_0_eq]
   refine Sm.cf rfl ?_
   rw [s45_1_j, s45_1_eq]
   refine Sm.b rfl ?_
   refine Sm.b (y4.ldO 0 0 rfl rfl) ?_
   refine Sm.b rfl ?_
   refine Sm.b rfl ?_
   refine Sm.b (y4.ldO 0 1 rfl rfl) ?_
   refine Sm.b rfl ?_
   refine Sm.cr (t92 (by omega) r2.k r2.s) fun r12 v12 g12 e1012 X12 R12 => ?_
   obtain ⟨i12, q12, b12, h12, o12, z12⟩ := R12
   have y12 := y4.add X12 o12 z12
   have E12 := E4.trans (X12.mono E4.size)
   exact tS54_2 (by omega) (by omega) H Smk 20000 _ (by omega) p _ _ ⟨r2.k, r2.s, r2.n⟩ 1 _ _ _ _ r12 h12 0 _ E12 (y12.pick (.cons_cons _ (.cons_cons _ (.cons_cons _ .slnil))))
def mS53_2 (a : Ar) (K : List Int → List Int → Int → Option (Bool)) : Nat → List Int → List Int → Int → Int → Int → Option (Bool)
 | 0, _, _, _, _, _ => none
 | f + 1, mk, lx5, x6, x7, x8 =>
  bif decide (x8 < ((lx5.length : Int))) then (rd lx5 x8).bind fun w2 => bif w2 == x7 then some false else mS53_2 a K f mk lx5 x6 x7 (IntKind.i64.wrap (x8 + 1)) else (grow lx5 x7).bind fun l5 => K mk l5 (IntKind.i64.wrap (x6 + 1))
theorem tS53_2 {D N : Nat} {h : AHeap} (hD : 0 ≤ D) (hN : 20000 ≤ N) {wv rv : Value} {a : Ar} (H : ArH h wv rv a) {vmk : Value} {mk : List Int} (Smk : SlI .i64 h vmk mk) {n1 : Nat} (K : List Int → List Int → Int → Option (Bool)) (hK : ∀ (px2 : Nat) (ix5 rx5 : Nat) (lx5 : List Int) (x6 : Int) (g : AHeap) (_ : Ext h.size h g) (_ : Cx h.size g [] [⟨ix5, rx5, 3, true, lx5.map (Value.int .i64)⟩, ⟨px2, px2, 29, true, arCells wv rv a⟩] []), SmR h (En Value.bool) (K mk lx5 x6) (s44_0 hk0 (call Tp Ms D) N n1 vmk (ptr px2 0) (slc ix5 0 lx5.length) x6 g)) : ∀ (f n2 : Nat) (_ : f ≤ n2) (px2 : Nat) (ix5 rx5 : Nat) (lx5 : List Int) (x6 : Int) (x7 : Int) (x8 : Int) (g : AHeap) (_ : Ext h.size h g) (_ : Cx h.size g [] [⟨ix5, rx5, 3, true, lx5.map (Value.int .i64)⟩, ⟨px2, px2, 29, true, arCells wv rv a⟩] []), SmR h (En Value.bool) (mS53_2 a K f mk lx5 x6 x7 x8) (s44_2 hk0 (call Tp Ms D) N n1 n2 vmk (ptr px2 0) (slc ix5 0 lx5.length) x6 x7 x8 g) := by
 intro f
 induction f with
 | zero => intros; exact Sm.none
 | succ f ih =>
  intro n2 hf px2 ix5 rx5 lx5 x6 x7 x8 g0 E0 y0
  obtain ⟨n2, rfl⟩ : ∃ k, n2 = k + 1 := ⟨n2 - 1, by omega⟩
  rw [s44_2_eq, mS53_2]
  refine Sm.b rfl ?_
  refine Sm.b rfl ?_
  refine Sm.i (fun k1 => ?_) (fun k1 => ?_)
  ·refine Sm.mo fun w2 e2 => ?_
   refine Sm.b (y0.atS 0 (Value.int .i64) lx5 rfl (LV.mk _ _) e2).1 ?_
   refine Sm.b (y0.atS 0 (Value.int .i64) lx5 rfl (LV.mk _ _) e2).2 ?_
   refine Sm.b rfl ?_
   refine Sm.i (fun k3 => ?_) (fun k3 => ?_)
   ·exact Sm.fin E0 rfl
   ·exact ih _ (by omega) _ _ _ lx5 x6 x7 (IntKind.i64.wrap (x8 + 1)) _ E0 (y0.pick (.cons_cons _ (.cons_cons _ .slnil)))
  ·refine Sm.ns y0 fun p4 g4 X4 y4 => ?_
   have E4 := E0.trans (X4.mono E0.size)
   refine Sm.ap (Value.int .i64) y4 1 lx5 (by decide) rfl (y4.ldO 0 0 rfl rfl) fun i5 g5 l5 e1005 X5 y5 => ?_
   have E5 := E4.trans X5
   exact hK _ _ _ l5 (IntKind.i64.wrap (x6 + 1)) _ E5 (y5.pick (.cons _ (.cons_cons _ (.cons_cons _ .slnil))))
def mS53_0 (a : Ar) : Nat → List Int → List Int → Int → Option (Bool)
 | 0, _, _, _ => none
 | f + 1, mk, lx5, x6 =>
  bif decide (x6 < ((mk.length : Int))) then (rd mk x6).bind fun w2 => bif w2 != 1 then bif w2 != 2 then mS53_0 a f mk lx5 (IntKind.i64.wrap (x6 + 1)) else (m55 a x6).bind fun r5 => bif r5.n == 0 then mS53_0 a f mk lx5 (IntKind.i64.wrap (x6 + 1)) else mS53_2 a (mS53_0 a f) 20000 mk lx5 x6 r5.n 0 else (m55 a x6).bind fun r7 => bif r7.n == 0 then mS53_0 a f mk lx5 (IntKind.i64.wrap (x6 + 1)) else mS53_2 a (mS53_0 a f) 20000 mk lx5 x6 r7.n 0 else some true
theorem tS53_0 {D N : Nat} {h : AHeap} (hD : 20000 ≤ D) (hN : 20000 ≤ N) {wv rv : Value} {a : Ar} (H : ArH h wv rv a) {vmk : Value} {mk : List Int} (Smk : SlI .i64 h vmk mk) : ∀ (f n2 : Nat) (_ : f ≤ n2) (px2 : Nat) (ix5 rx5 : Nat) (lx5 : List Int) (x6 : Int) (g : AHeap) (_ : Ext h.size h g) (_ : Cx h.size g [] [⟨ix5, rx5, 3, true, lx5.map (Value.int .i64)⟩, ⟨px2, px2, 29, true, arCells wv rv a⟩] []), SmR h (En Value.bool) (mS53_0 a f mk lx5 x6) (s44_0 hk0 (call Tp Ms D) N n2 vmk (ptr px2 0) (slc ix5 0 lx5.length) x6 g) := by
 intro f
 induction f with
 | zero => intros; exact Sm.none
 | succ f ih =>
  intro n2 hf px2 ix5 rx5 lx5 x6 g0 E0 y0
  obtain ⟨n2, rfl⟩ : ∃ k, n2 = k + 1 := ⟨n2 - 1, by omega⟩
  rw [s44_0_eq, mS53_0]
  refine Sm.b Smk.len ?_
  refine Sm.b rfl ?_
  refine Sm.i (fun k1 => ?_) (fun k1 => ?_)
  ·refine Sm.mo fun w2 e2 => ?_
   obtain ⟨q2, i2, l2⟩ := Smk.at e2
   refine Sm.b i2 ?_
   refine Sm.b (l2 _ E0) ?_
   refine Sm.b rfl ?_
   refine Sm.i (fun k3 => ?_) (fun k3 => ?_)
   ·refine Sm.b i2 ?_
    refine Sm.b (l2 _ E0) ?_
    refine Sm.b rfl ?_
    refine Sm.i (fun k4 => ?_) (fun k4 => ?_)
    ·exact ih _ (by omega) _ _ _ lx5 (IntKind.i64.wrap (x6 + 1)) _ E0 (y0.pick (.cons_cons _ (.cons_cons _ .slnil)))
    ·rw [s44_1_j, s44_1_eq]
     refine Sm.b (y0.ldON 1 rfl rfl) ?_
     refine Sm.c (t55 (by omega) (H.ext E0) x6) fun r5 g5 e1005 X5 => ?_
     have y5 := y0.ext X5
     have E5 := E0.trans (X5.mono E0.size)
     refine Sm.b rfl ?_
     refine Sm.b rfl ?_
     refine Sm.i (fun k6 => ?_) (fun k6 => ?_)
     ·exact ih _ (by omega) _ _ _ lx5 (IntKind.i64.wrap (x6 + 1)) _ E5 (y5.pick (.cons_cons _ (.cons_cons _ .slnil)))
     ·exact tS53_2 (by omega) (by omega) H Smk (mS53_0 a f) (ih _ (by omega)) 20000 _ (by omega) _ _ _ lx5 x6 r5.n 0 _ E5 (y5.pick (.cons_cons _ (.cons_cons _ .slnil)))
   ·rw [s44_1_j, s44_1_eq]
    refine Sm.b (y0.ldON 1 rfl rfl) ?_
    refine Sm.c (t55 (by omega) (H.ext E0) x6) fun r7 g7 e1007 X7 => ?_
    have y7 := y0.ext X7
    have E7 := E0.trans (X7.mono E0.size)
    refine Sm.b rfl ?_
    refine Sm.b rfl ?_
    refine Sm.i (fun k8 => ?_) (fun k8 => ?_)
    ·exact ih _ (by omega) _ _ _ lx5 (IntKind.i64.wrap (x6 + 1)) _ E7 (y7.pick (.cons_cons _ (.cons_cons _ .slnil)))
    ·exact tS53_2 (by omega) (by omega) H Smk (mS53_0 a f) (ih _ (by omega)) 20000 _ (by omega) _ _ _ lx5 x6 r7.n 0 _ E7 (y7.pick (.cons_cons _ (.cons_cons _ .slnil)))
  ·exact Sm.fin E0 rfl
def m53 (a : Ar) (mk : List Int) : Option (Bool) :=
 mS53_0 a 20000 mk [] 0
theorem t53 {D : Nat} {h : AHeap} (hD : 20001 ≤ D) {wv rv : Value} {a : Ar} (H : ArH h wv rv a) {vmk : Value} {mk : List Int} (Smk : SlI .i64 h vmk mk) : SmR h (En Value.bool) (m53 a mk) (call Tp Ms D 44 [arV wv rv a, vmk] h) := by
 obtain ⟨D, rfl⟩ : ∃ d, D = d + 1 := ⟨D - 1, by omega⟩
 rw [c44, e44]
 unfold m53
 have y0 := Cx.start0 h
 have E0 := Ext.refl h.size h
 refine Sm.b H.cells ?_
 refine Sm.n y0 fun p1 g1 X1 y1 => ?_
 have E1 := E0.trans (X1.mono E0.size)
 refine Sm.ns y1 fun p2 g2 X2 y2 => ?_
 have E2 := E1.trans (X2.mono E1.size)
 exact tS53_0 (by omega) (by omega) H Smk 20000 _ (by omega) _ _ _ [] 0 _ E2 (y2.pick (.cons_cons _ (.cons_cons _ .slnil)))
def mS52_3 (a : Ar) : Nat → List Int → List Bool → Int → Int → Option (Bool × List Int)
 | 0, _, _, _, _ => none
 | f + 1, lx1, lx8, x9, x10 =>
  bif x10 != a.old then (rd a.ws x10).bind fun w2 => (m90 w2).bind fun r3 => bif !r3.2 then (m91 w2).bind fun r7 => bif !r7.2 then some (false, lx1) else bif decide (r7.1 ≥ ((a.ws.length : Int))) then some (false, lx1) else (rd lx1 r7.1).bind fun w10 => bif w10 != 1 then some (false, lx1) else (rd lx8 r7.1).bind fun w12 => bif w12 then some (false, lx1) else (upd lx8 r7.1 true).bind fun l14 => (m55 a r7.1).bind fun r15 => bif decide ((IntKind.i64.wrap ((IntKind.i64.wrap (x10 + r15.s)) + 1)) > a.old) then some (false, lx1) else (upd lx1 x10 3).bind fun l18 => mS52_3 a f l18 l14 (IntKind.i64.wrap ((IntKind.i64.wrap (x9 + r15.s)) + 1)) (IntKind.i64.wrap ((IntKind.i64.wrap (x10 + r15.s)) + 1)) else bif decide (r3.1.n ≥ a.ser) then some (false, lx1) else bif decide ((IntKind.i64.wrap ((IntKind.i64.wrap (x10 + r3.1.s)) + 1)) > a.old) then some (false, lx1) else (upd lx1 x10 2).bind fun l21 => mS52_3 a f l21 lx8 x9 (IntKind.i64.wrap ((IntKind.i64.wrap (x10 + r3.1.s)) + 1)) else bif x9 == a.cop then bif a.scan == a.top then some (true, lx1) else (m59 a.scan 0 (IntKind.i64.wrap (((lx1.length : Int)) - 1))).bind fun r24 => bif r24 then (rd lx1 a.scan).bind fun w26 => some (w26 == 1, lx1) else some (false, lx1) else some (false, lx1)
theorem tS52_3 {D N : Nat} {h : AHeap} (hD : 5 ≤ D) (hN : 20000 ≤ N) {wv rv : Value} {a : Ar} (H : ArH h wv rv a) {F : List FRow} {Q : List ORow} {M : List MRow}  : ∀ (f n2 : Nat) (_ : f ≤ n2) (ix1 rx1 : Nat) (lx1 : List Int) (px2 : Nat) (ix8 rx8 : Nat) (lx8 : List Bool) (x9 : Int) (x10 : Int) (g : AHeap) (_ : Ext h.size h g) (_ : Cx h.size g F (⟨ix8, rx8, 4, true, lx8.map Value.bool⟩ :: ⟨px2, px2, 29, true, arCells wv rv a⟩ :: ⟨ix1, rx1, 3, true, lx1.map (Value.int .i64)⟩ :: Q) M), SmR h (RW h Value.bool (Value.int .i64) F ix1 rx1 3 Q M lx1.length) (mS52_3 a f lx1 lx8 x9 x10) (s43_3 hk0 (call Tp Ms D) N n2 (slc ix1 0 lx1.length) (ptr px2 0) (slc ix8 0 lx8.length) x9 x10 g) := by
 intro f
 induction f with
 | zero => intros; exact Sm.none
 | succ f ih =>
  intro n2 hf ix1 rx1 lx1 px2 ix8 rx8 lx8 x9 x10 g0 E0 y0
  obtain ⟨n2, rfl⟩ : ∃ k, n2 = k + 1 := ⟨n2 - 1, by omega⟩
  rw [s43_3_eq, mS52_3]
  refine Sm.b rfl ?_
  refine Sm.b (y0.ldO 1 6 rfl rfl) ?_
  refine Sm.b rfl ?_
  refine Sm.i (fun k1 => ?_) (fun k1 => ?_)
  ·refine Sm.b rfl ?_
   refine Sm.b (y0.ldO 1 0 rfl rfl) ?_
   refine Sm.mo fun w2 e2 => ?_
   obtain ⟨q2, i2, l2⟩ := H.w.at e2
   refine Sm.b i2 ?_
   refine Sm.b (l2 _ E0) ?_
   refine Sm.b rfl ?_
   refine Sm.c (t90 (by omega) w2) fun r3 g3 e1003 X3 => ?_
   have y3 := y0.ext X3
   have E3 := E0.trans (X3.mono E0.size)
   refine Sm.b rfl ?_
   refine Sm.b rfl ?_
   refine Sm.b rfl ?_
   refine Sm.n y3 fun p4 g4 X4 y4 => ?_
   have E4 := E3.trans (X4.mono E3.size)
   refine Sm.st y4 0 rfl rfl rfl (by simp [splice]) fun g5 X5 y5 => ?_
   have E5 := E4.trans X5
   refine Sm.i (fun k6 => ?_) (fun k6 => ?_)
   ·refine Sm.b rfl ?_
    refine Sm.b (y5.ldO 2 0 rfl rfl) ?_
    refine Sm.b i2 ?_
    refine Sm.b (l2 _ E5) ?_
    refine Sm.b rfl ?_
    refine Sm.c (t91 (by omega) w2) fun r7 g7 e1007 X7 => ?_
    have y7 := y5.ext X7
    have E7 := E5.trans (X7.mono E5.size)
    refine Sm.b rfl ?_
    refine Sm.b rfl ?_
    refine Sm.b rfl ?_
    refine Sm.b rfl ?_
    refine Sm.i (fun k8 => ?_) (fun k8 => ?_)
    ·rw [s43_4_j, s43_4_eq]
     refine Sm.ct rfl ?_
     exact Sm.fin E7 ⟨rfl, rfl, y7.pick (.cons _ (.cons _ (.cons _ (.cons_cons _ (.refl _)))))⟩
    ·refine Sm.b rfl ?_
     refine Sm.b (y7.ldO 2 0 rfl rfl) ?_
     refine Sm.b H.w.len ?_
     refine Sm.b rfl ?_
     refine Sm.i (fun k9 => ?_) (fun k9 => ?_)
     ·rw [s43_4_j, s43_4_eq]
      refine Sm.ct rfl ?_
      exact Sm.fin E7 ⟨rfl, rfl, y7.pick (.cons _ (.cons _ (.cons _ (.cons_cons _ (.refl _)))))⟩
     ·refine Sm.mo fun w10 e8 => ?_
      refine Sm.b (y7.atS 3 (Value.int .i64) lx1 rfl (LV.mk _ _) e8).1 ?_
      refine Sm.b (y7.atS 3 (Value.int .i64) lx1 rfl (LV.mk _ _) e8).2 ?_
      refine Sm.b rfl ?_
      refine Sm.i (fun k11 => ?_) (fun k11 => ?_)
      ·rw [s43_4_j, s43_4_eq]
       refine Sm.ct rfl ?_
       exact Sm.fin E7 ⟨rfl, rfl, y7.pick (.cons _ (.cons _ (.cons _ (.cons_cons _ (.refl _)))))⟩
      ·refine Sm.mo fun w12 e1012 => ?_
       refine Sm.b (y7.atS 1 Value.bool lx8 rfl (LV.mk _ _) e1012).1 ?_
       refine Sm.b (y7.atS 1 Value.bool lx8 rfl (LV.mk _ _) e1012).2 ?_
       refine Sm.b rfl ?_
       rw [s43_4_j, s43_4_eq]
       refine Sm.i (fun k13 => ?_) (fun k13 => ?_)
       ·exact Sm.fin E7 ⟨rfl, rfl, y7.pick (.cons _ (.cons _ (.cons _ (.cons_cons _ (.refl _)))))⟩
       ·rw [s43_5_j, s43_5_eq]
        refine Sm.up1 Value.bool cB y7 1 lx8 rfl fun g14 l14 e9 n14 X14 y14 => ?_
        have E14 := E7.trans X14
        rw [← n14]
        refine Sm.b (y14.ldON 2 rfl rfl) ?_
        refine Sm.c (t55 (by omega) (H.ext E14) r7.1) fun r15 g15 e1015 X15 => ?_
        have y15 := y14.ext X15
        have E15 := E14.trans (X15.mono E14.size)
        refine Sm.st y15 0 rfl rfl rfl (by simp [splice]) fun g16 X16 y16 => ?_
        have E16 := E15.trans X16
        refine Sm.b rfl ?_
        refine Sm.b (y16.ldO 0 1 rfl rfl) ?_
        refine Sm.b rfl ?_
        rw [s43_6_j, s43_6_eq]
        refine Sm.b rfl ?_
        refine Sm.b (y16.ldO 0 1 rfl rfl) ?_
        refine Sm.b rfl ?_
        refine Sm.b rfl ?_
        refine Sm.b (y16.ldO 2 6 rfl rfl) ?_
        refine Sm.b rfl ?_
        refine Sm.i (fun k17 => ?_) (fun k17 => ?_)
        ·exact Sm.fin E16 ⟨rfl, rfl, y16.pick (.cons _ (.cons _ (.cons _ (.cons_cons _ (.refl _)))))⟩
        ·refine Sm.up1 (Value.int .i64) (cI _) y16 3 lx1 rfl fun g18 l18 e1018 n18 X18 y18 => ?_
         have E18 := E16.trans X18
         rw [← n18]
         refine Sm.b rfl ?_
         refine Sm.b (y18.ldO 0 1 rfl rfl) ?_
         refine Sm.b rfl ?_
         exact ih _ (by omega) _ _ l18 _ _ _ l14 (IntKind.i64.wrap ((IntKind.i64.wrap (x9 + r15.s)) + 1)) (IntKind.i64.wrap ((IntKind.i64.wrap (x10 + r15.s)) + 1)) _ E18 (y18.pick (.cons _ (.cons_cons _ (.cons_cons _ (.cons_cons _ (.refl _))))))
   ·refine Sm.b rfl ?_
    refine Sm.b (y5.ldO 0 2 rfl rfl) ?_
    refine Sm.b rfl ?_
    refine Sm.b rfl ?_
    refine Sm.b (y5.ldO 2 8 rfl rfl) ?_
    refine Sm.b rfl ?_
    refine Sm.i (fun k19 => ?_) (fun k19 => ?_)
    ·exact Sm.fin E5 ⟨rfl, rfl, y5.pick (.cons _ (.cons _ (.cons _ (.cons_cons _ (.refl _)))))⟩
    ·rw [s43_6_j, s43_6_eq]
     refine Sm.b rfl ?_
     refine Sm.b (y5.ldO 0 1 rfl rfl) ?_
     refine Sm.b rfl ?_
     refine Sm.b rfl ?_
     refine Sm.b (y5.ldO 2 6 rfl rfl) ?_
     refine Sm.b rfl ?_
     refine Sm.i (fun k20 => ?_) (fun k20 => ?_)
     ·exact Sm.fin E5 ⟨rfl, rfl, y5.pick (.cons _ (.cons _ (.cons _ (.cons_cons _ (.refl _)))))⟩
     ·refine Sm.up1 (Value.int .i64) (cI _) y5 3 lx1 rfl fun g21 l21 e1021 n21 X21 y21 => ?_
      have E21 := E5.trans X21
      rw [← n21]
      refine Sm.b rfl ?_
      refine Sm.b (y21.ldO 0 1 rfl rfl) ?_
      refine Sm.b rfl ?_
      exact ih _ (by omega) _ _ l21 _ _ _ lx8 x9 (IntKind.i64.wrap ((IntKind.i64.wrap (x10 + r3.1.s)) + 1)) _ E21 (y21.pick (.cons _ (.cons_cons _ (.cons_cons _ (.cons_cons _ (.refl _))))))
  ·refine Sm.b rfl ?_
   refine Sm.b (y0.ldO 1 7 rfl rfl) ?_
   refine Sm.b rfl ?_
   refine Sm.i (fun k22 => ?_) (fun k22 => ?_)
   ·refine Sm.b rfl ?_
    refine Sm.b (y0.ldO 1 5 rfl rfl) ?_
    refine Sm.b rfl ?_
    refine Sm.b rfl ?_
    refine Sm.b (y0.ldO 1 3 rfl rfl) ?_
    refine Sm.b rfl ?_
    refine Sm.i (fun k23 => ?_) (fun k23 => ?_)
    ·exact Sm.fin E0 ⟨rfl, rfl, y0.pick (.cons _ (.cons _ (.cons_cons _ (.refl _))))⟩
    ·refine Sm.b rfl ?_
     refine Sm.b (y0.ldO 1 5 rfl rfl) ?_
     refine Sm.b rfl ?_
     refine Sm.b rfl ?_
     refine Sm.b rfl ?_
     refine Sm.c (t59 (by omega) a.scan 0 (IntKind.i64.wrap (((lx1.length : Int)) - 1))) fun r24 g24 e1024 X24 => ?_
     have y24 := y0.ext X24
     have E24 := E0.trans (X24.mono E0.size)
     refine Sm.b rfl ?_
     refine Sm.i (fun k25 => ?_) (fun k25 => ?_)
     ·refine Sm.b rfl ?_
      refine Sm.b (y24.ldO 1 5 rfl rfl) ?_
      refine Sm.b rfl ?_
      refine Sm.mo fun w26 e11 => ?_
      refine Sm.b (y24.atS 2 (Value.int .i64) lx1 rfl (LV.mk _ _) e11).1 ?_
      refine Sm.b (y24.atS 2 (Value.int .i64) lx1 rfl (LV.mk _ _) e11).2 ?_
      refine Sm.b rfl ?_
      exact Sm.fin E24 ⟨rfl, rfl, y24.pick (.cons _ (.cons _ (.cons_cons _ (.refl _))))⟩
     ·exact Sm.fin E24 ⟨rfl, rfl, y24.pick (.cons _ (.cons _ (.cons_cons _ (.refl _))))⟩
   ·exact Sm.fin E0 ⟨rfl, rfl, y0.pick (.cons _ (.cons _ (.cons_cons _ (.refl _))))⟩
def mS52_0 (a : Ar) : Nat → List Int → Int → Option (Bool × List Int)
 | 0, _, _ => none
 | f + 1, lx1, x5 =>
  bif x5 != a.top then (rd a.ws x5).bind fun w2 => (m90 w2).bind fun r3 => bif !r3.2 then some (false, lx1) else bif decide ((IntKind.i64.wrap ((IntKind.i64.wrap (x5 + r3.1.s)) + 1)) > a.top) then some (false, lx1) else bif (decide (r3.1.n ≥ a.ser)) then some (false, lx1) else (upd lx1 x5 1).bind fun l9 => mS52_0 a f l9 (IntKind.i64.wrap ((IntKind.i64.wrap (x5 + r3.1.s)) + 1)) else bif !a.cyc then some (true, lx1) else (mkL (a.ws.length : Int) ((false : Bool))).bind fun l11 => (m88 a (IntKind.i64.wrap (1 - a.to))).bind fun r12 => mS52_3 a 20000 lx1 l11 0 r12
theorem tS52_0 {D N : Nat} {h : AHeap} (hD : 20000 ≤ D) (hN : 20000 ≤ N) {wv rv : Value} {a : Ar} (H : ArH h wv rv a) {F : List FRow} {Q : List ORow} {M : List MRow}  : ∀ (f n2 : Nat) (_ : f ≤ n2) (ix1 rx1 : Nat) (lx1 : List Int) (px2 : Nat) (x5 : Int) (g : AHeap) (_ : Ext h.size h g) (_ : Cx h.size g F (⟨px2, px2, 29, true, arCells wv rv a⟩ :: ⟨ix1, rx1, 3, true, lx1.map (Value.int .i64)⟩ :: Q) M), SmR h (RW h Value.bool (Value.int .i64) F ix1 rx1 3 Q M lx1.length) (mS52_0 a f lx1 x5) (s43_0 hk0 (call Tp Ms D) N n2 (slc ix1 0 lx1.length) (ptr px2 0) x5 g) := by
 intro f
 induction f with
 | zero => intros; exact Sm.none
 | succ f ih =>
  intro n2 hf ix1 rx1 lx1 px2 x5 g0 E0 y0
  obtain ⟨n2, rfl⟩ : ∃ k, n2 = k + 1 := ⟨n2 - 1, by omega⟩
  rw [s43_0_eq, mS52_0]
  refine Sm.b rfl ?_
  refine Sm.b (y0.ldO 0 3 rfl rfl) ?_
  refine Sm.b rfl ?_
  refine Sm.i (fun k1 => ?_) (fun k1 => ?_)
  ·refine Sm.b rfl ?_
   refine Sm.b (y0.ldO 0 0 rfl rfl) ?_
   refine Sm.mo fun w2 e2 => ?_
   obtain ⟨q2, i2, l2⟩ := H.w.at e2
   refine Sm.b i2 ?_
   refine Sm.b (l2 _ E0) ?_
   refine Sm.b rfl ?_
   refine Sm.c (t90 (by omega) w2) fun r3 g3 e1003 X3 => ?_
   have y3 := y0.ext X3
   have E3 := E0.trans (X3.mono E0.size)
   refine Sm.b rfl ?_
   refine Sm.b rfl ?_
   refine Sm.b rfl ?_
   refine Sm.n y3 fun p4 g4 X4 y4 => ?_
   have E4 := E3.trans (X4.mono E3.size)
   refine Sm.st y4 0 rfl rfl rfl (by simp [splice]) fun g5 X5 y5 => ?_
   have E5 := E4.trans X5
   refine Sm.i (fun k6 => ?_) (fun k6 => ?_)
   ·rw [s43_1_j, s43_1_eq]
    refine Sm.ct rfl ?_
    exact Sm.fin E5 ⟨rfl, rfl, y5.pick (.cons _ (.cons _ (.cons_cons _ (.refl _))))⟩
   ·refine Sm.b rfl ?_
    refine Sm.b (y5.ldO 0 1 rfl rfl) ?_
    refine Sm.b rfl ?_
    refine Sm.b rfl ?_
    refine Sm.b (y5.ldO 1 3 rfl rfl) ?_
    refine Sm.b rfl ?_
    refine Sm.i (fun k7 => ?_) (fun k7 => ?_)
    ·rw [s43_1_j, s43_1_eq]
     refine Sm.ct rfl ?_
     exact Sm.fin E5 ⟨rfl, rfl, y5.pick (.cons _ (.cons _ (.cons_cons _ (.refl _))))⟩
    ·refine Sm.b rfl ?_
     refine Sm.b (y5.ldO 0 2 rfl rfl) ?_
     refine Sm.b rfl ?_
     refine Sm.b rfl ?_
     refine Sm.b (y5.ldO 1 8 rfl rfl) ?_
     refine Sm.b rfl ?_
     rw [s43_1_j, s43_1_eq]
     refine Sm.i (fun k8 => ?_) (fun k8 => ?_)
     ·exact Sm.fin E5 ⟨rfl, rfl, y5.pick (.cons _ (.cons _ (.cons_cons _ (.refl _))))⟩
     ·rw [s43_2_j, s43_2_eq]
      refine Sm.up1 (Value.int .i64) (cI _) y5 2 lx1 rfl fun g9 l9 e1009 n9 X9 y9 => ?_
      have E9 := E5.trans X9
      rw [← n9]
      refine Sm.b rfl ?_
      refine Sm.b (y9.ldO 0 1 rfl rfl) ?_
      refine Sm.b rfl ?_
      exact ih _ (by omega) _ _ l9 _ (IntKind.i64.wrap ((IntKind.i64.wrap (x5 + r3.1.s)) + 1)) _ E9 (y9.pick (.cons _ (.cons_cons _ (.cons_cons _ (.refl _)))))
  ·refine Sm.b rfl ?_
   refine Sm.b (y0.ldO 0 4 rfl rfl) ?_
   refine Sm.b rfl ?_
   refine Sm.i (fun k10 => ?_) (fun k10 => ?_)
   ·exact Sm.fin E0 ⟨rfl, rfl, y0.pick (.cons _ (.cons_cons _ (.refl _)))⟩
   ·refine Sm.b rfl ?_
    refine Sm.b (y0.ldO 0 0 rfl rfl) ?_
    refine Sm.b H.w.len ?_
    refine Sm.b rfl ?_
    refine Sm.mk Value.bool y0 false (by decide) fun p11 g11 l11 e1011 X11 y11 => ?_
    have E11 := E0.trans (X11.mono E0.size)
    refine Sm.b (y11.ldON 1 rfl rfl) ?_
    refine Sm.b rfl ?_
    refine Sm.b (y11.ldO 1 2 rfl rfl) ?_
    refine Sm.b rfl ?_
    refine Sm.c (t88 (by omega) (H.ext E11) (IntKind.i64.wrap (1 - a.to))) fun r12 g12 e1012 X12 => ?_
    have y12 := y11.ext X12
    have E12 := E11.trans (X12.mono E11.size)
    refine Sm.b rfl ?_
    exact tS52_3 (by omega) (by omega) H 20000 _ (by omega) _ _ lx1 _ _ _ l11 0 r12 _ E12 (y12.pick (.cons_cons _ (.cons_cons _ (.cons_cons _ (.refl _)))))
def m52 (a : Ar) (ml : List Int) : Option (Bool × List Int) :=
 (m88 a a.to).bind fun r2 => mS52_0 a 20000 ml r2
theorem t52 {D : Nat} {h : AHeap} (hD : 20001 ≤ D) {wv rv : Value} {a : Ar} (H : ArH h wv rv a) (iml rml : Nat) (ml : List Int) {F : List FRow} {Q : List ORow} {M : List MRow} (g0 : AHeap) (E0 : Ext h.size h g0) (y0 : Cx h.size g0 F (⟨iml, rml, 3, true, ml.map (Value.int .i64)⟩ :: Q) M) : SmR h (RW h Value.bool (Value.int .i64) F iml rml 3 Q M ml.length) (m52 a ml) (call Tp Ms D 43 [arV wv rv a, slc iml 0 ml.length] g0) := by
 obtain ⟨D, rfl⟩ : ∃ d, D = d + 1 := ⟨D - 1, by omega⟩
 rw [c43, e43]
 unfold m52
 refine Sm.b H.cells ?_
 refine Sm.n y0 fun p1 g1 X1 y1 => ?_
 have E1 := E0.trans (X1.mono E0.size)
 refine Sm.b (y1.ldON 0 rfl rfl) ?_
 refine Sm.b rfl ?_
 refine Sm.b (y1.ldO 0 2 rfl rfl) ?_
 refine Sm.b rfl ?_
 refine Sm.c (t88 (by omega) (H.ext E1) a.to) fun r2 g2 e2 X2 => ?_
 have y2 := y1.ext X2
 have E2 := E1.trans (X2.mono E1.size)
 refine Sm.b rfl ?_
 exact tS52_0 (by omega) (by omega) H 20000 _ (by omega) _ _ ml _ r2 _ E2 (y2.pick (.cons_cons _ (.cons_cons _ (.refl _))))
def mS56_0 (a : Ar) : Nat → Int → Int → Int → Int → Int → List Bool → Option (Bool × List Bool)
 | 0, _, _, _, _, _, _ => none
 | f + 1, x9, x10, x11, x12, x13, lG =>
  bif decide (x13 < x12) then (m98 a x10 x13).bind fun r2 => (m99 a x10 x12 ⟨r2.t, r2.n⟩).bind fun r5 => bif r2.t != 0 then bif !r5.2 then some (false, lG) else bif (r5.1 != x13) then some (false, lG) else mS56_0 a f x9 x10 x11 x12 (IntKind.i64.wrap (x13 + 1)) lG else mS56_0 a f x9 x10 x11 x12 (IntKind.i64.wrap (x13 + 1)) lG else bif x9 == x11 then some (decide ((IntKind.i64.wrap (4 * x9)) ≤ (IntKind.i64.wrap (3 * x12))), lG) else some (false, lG)
theorem tS56_0 {D N : Nat} {h : AHeap} (hD : 20003 ≤ D) (hN : 20000 ≤ N) {wv rv : Value} {a : Ar} (H : ArH h wv rv a) {F : List FRow} {Q : List ORow} {M : List MRow}  : ∀ (f n2 : Nat) (_ : f ≤ n2) (px3 : Nat) (x9 : Int) (x10 : Int) (x11 : Int) (x12 : Int) (x13 : Int) (iG rG : Nat) (lG : List Bool) (g : AHeap) (_ : Ext h.size h g) (_ : Cx h.size g F (⟨px3, px3, 29, true, arCells wv rv a⟩ :: ⟨iG, rG, 4, true, lG.map Value.bool⟩ :: Q) M), SmR h (RW h Value.bool Value.bool F iG rG 4 Q M lG.length) (mS56_0 a f x9 x10 x11 x12 x13 lG) (s46_0 hk0 (call Tp Ms D) N n2 (ptr px3 0) x9 x10 x11 x12 x13 g) := by
 intro f
 induction f with
 | zero => intros; exact Sm.none
 | succ f ih =>
  intro n2 hf px3 x9 x10 x11 x12 x13 iG rG lG g0 E0 y0
  obtain ⟨n2, rfl⟩ : ∃ k, n2 = k + 1 := ⟨n2 - 1, by omega⟩
  rw [s46_0_eq, mS56_0]
  refine Sm.i (fun k1 => ?_) (fun k1 => ?_)
  ·refine Sm.b (y0.ldON 0 rfl rfl) ?_
   refine Sm.c (t98 (by omega) (H.ext E0) x10 x13) fun r2 g2 e2 X2 => ?_
   have y2 := y0.ext X2
   have E2 := E0.trans (X2.mono E0.size)
   refine Sm.n y2 fun p3 g3 X3 y3 => ?_
   have E3 := E2.trans (X3.mono E2.size)
   refine Sm.st y3 0 rfl rfl rfl (by simp [splice]) fun g4 X4 y4 => ?_
   have E4 := E3.trans X4
   refine Sm.b (y4.ldON 1 rfl rfl) ?_
   refine Sm.b (y4.ldON 0 rfl rfl) ?_
   refine Sm.c (t99 (by omega) (H.ext E4) x10 x12 ⟨r2.t, r2.n⟩) fun r5 g5 e1005 X5 => ?_
   have y5 := y4.ext X5
   have E5 := E4.trans (X5.mono E4.size)
   refine Sm.b rfl ?_
   refine Sm.b rfl ?_
   refine Sm.b rfl ?_
   refine Sm.b rfl ?_
   refine Sm.b rfl ?_
   refine Sm.b (y5.ldO 0 0 rfl rfl) ?_
   refine Sm.b rfl ?_
   refine Sm.i (fun k6 => ?_) (fun k6 => ?_)
   ·refine Sm.i (fun k7 => ?_) (fun k7 => ?_)
    ·rw [s46_1_j, s46_1_eq]
     refine Sm.ct rfl ?_
     exact Sm.fin E5 ⟨rfl, rfl, y5.pick (.cons _ (.cons _ (.cons_cons _ (.refl _))))⟩
    ·rw [s46_1_j, s46_1_eq]
     refine Sm.i (fun k8 => ?_) (fun k8 => ?_)
     ·exact Sm.fin E5 ⟨rfl, rfl, y5.pick (.cons _ (.cons _ (.cons_cons _ (.refl _))))⟩
     ·exact ih _ (by omega) _ x9 x10 x11 x12 (IntKind.i64.wrap (x13 + 1)) _ _ lG _ E5 (y5.pick (.cons _ (.cons_cons _ (.cons_cons _ (.refl _)))))
   ·rw [s46_1_j, s46_1_eq]
    refine Sm.cf rfl ?_
    exact ih _ (by omega) _ x9 x10 x11 x12 (IntKind.i64.wrap (x13 + 1)) _ _ lG _ E5 (y5.pick (.cons _ (.cons_cons _ (.cons_cons _ (.refl _)))))
  ·refine Sm.i (fun k9 => ?_) (fun k9 => ?_)
   ·exact Sm.fin E0 ⟨rfl, rfl, y0.pick (.cons _ (.cons_cons _ (.refl _)))⟩
   ·exact Sm.fin E0 ⟨rfl, rfl, y0.pick (.cons _ (.cons_cons _ (.refl _)))⟩
def m56 (a : Ar) (p : Int) (ld : List Bool) : Option (Bool × List Bool) :=
 (m93 a.ws (IntKind.i64.wrap (p + 2))).bind fun r2 => (m95 a p 1).bind fun r5 => bif r2.1.t == 0 then some (r5 == 0, ld) else bif r2.1.t != 8 then some (false, ld) else (m61 a r2.1.n).bind fun r8 => (rd ld r8).bind fun w9 => bif w9 then some (false, ld) else (upd ld r8 true).bind fun l11 => (m97 a r8).bind fun r12 => mS56_0 a 20000 r5 r8 r12.1 r12.2 0 l11
theorem t56 {D : Nat} {h : AHeap} (hD : 20004 ≤ D) {wv rv : Value} {a : Ar} (H : ArH h wv rv a) (p : Int) (ild rld : Nat) (ld : List Bool) {F : List FRow} {Q : List ORow} {M : List MRow} (g0 : AHeap) (E0 : Ext h.size h g0) (y0 : Cx h.size g0 F (⟨ild, rld, 4, true, ld.map Value.bool⟩ :: Q) M) : SmR h (RW h Value.bool Value.bool F ild rld 4 Q M ld.length) (m56 a p ld) (call Tp Ms D 46 [arV wv rv a, .int .i64 p, slc ild 0 ld.length] g0) := by
 obtain ⟨D, rfl⟩ : ∃ d, D = d + 1 := ⟨D - 1, by omega⟩
 rw [c46, e46]
 unfold m56
 refine Sm.b H.cells ?_
 refine Sm.n y0 fun p1 g1 X1 y1 => ?_
 have E1 := E0.trans (X1.mono E0.size)
 refine Sm.b rfl ?_
 refine Sm.b (y1.ldO 0 0 rfl rfl) ?_
 refine Sm.c (t93 (by omega) (H.w.ext E1) (IntKind.i64.wrap (p + 2))) fun r2 g2 e2 X2 => ?_
 have y2 := y1.ext X2
 have E2 := E1.trans (X2.mono E1.size)
 refine Sm.b rfl ?_
 refine Sm.b rfl ?_
 refine Sm.b rfl ?_
 refine Sm.n y2 fun p3 g3 X3 y3 => ?_
 have E3 := E2.trans (X3.mono E2.size)
 refine Sm.st y3 0 rfl rfl rfl (by simp [splice]) fun g4 X4 y4 => ?_
 have E4 := E3.trans X4
 refine Sm.b (y4.ldON 1 rfl rfl) ?_
 refine Sm.c (t95 (by omega) (H.ext E4) p 1) fun r5 g5 e1005 X5 => ?_
 have y5 := y4.ext X5
 have E5 := E4.trans (X5.mono E4.size)
 refine Sm.b rfl ?_
 refine Sm.b rfl ?_
 refine Sm.b (y5.ldO 0 0 rfl rfl) ?_
 refine Sm.b rfl ?_
 refine Sm.i (fun k6 => ?_) (fun k6 => ?_)
 ·exact Sm.fin E5 ⟨rfl, rfl, y5.pick (.cons _ (.cons _ (.cons_cons _ (.refl _))))⟩
 ·refine Sm.b rfl ?_
  refine Sm.b (y5.ldO 0 0 rfl rfl) ?_
  refine Sm.b rfl ?_
  refine Sm.i (fun k7 => ?_) (fun k7 => ?_)
  ·exact Sm.fin E5 ⟨rfl, rfl, y5.pick (.cons _ (.cons _ (.cons_cons _ (.refl _))))⟩
  ·refine Sm.b (y5.ldON 1 rfl rfl) ?_
   refine Sm.b rfl ?_
   refine Sm.b (y5.ldO 0 1 rfl rfl) ?_
   refine Sm.b rfl ?_
   refine Sm.c (t61 (by omega) (H.ext E5) r2.1.n) fun r8 g8 e6 X8 => ?_
   have y8 := y5.ext X8
   have E8 := E5.trans (X8.mono E5.size)
   refine Sm.b rfl ?_
   refine Sm.mo fun w9 e1009 => ?_
   refine Sm.b (y8.atS 2 Value.bool ld rfl (LV.mk _ _) e1009).1 ?_
   refine Sm.b (y8.atS 2 Value.bool ld rfl (LV.mk _ _) e1009).2 ?_
   refine Sm.b rfl ?_
   refine Sm.i (fun k10 => ?_) (fun k10 => ?_)
   ·exact Sm.fin E8 ⟨rfl, rfl, y8.pick (.cons _ (.cons _ (.cons_cons _ (.refl _))))⟩
   ·refine Sm.up1 Value.bool cB y8 2 ld rfl fun g11 l11 e1011 n11 X11 y11 => ?_
    have E11 := E8.trans X11
    rw [← n11]
    refine Sm.b (y11.ldON 1 rfl rfl) ?_
    refine Sm.c (t97 (by omega) (H.ext E11) r8) fun r12 g12 e1012 X12 => ?_
    have y12 := y11.ext X12
    have E12 := E11.trans (X12.mono E11.size)
    refine Sm.b rfl ?_
    refine Sm.b rfl ?_
    refine Sm.b rfl ?_
    refine Sm.b rfl ?_
    exact tS56_0 (by omega) (by omega) H 20000 _ (by omega) _ r5 r8 r12.1 r12.2 0 _ _ l11 _ E12 (y12.pick (.cons _ (.cons_cons _ (.cons_cons _ (.refl _)))))
def mS28_6 (a : Ar) : Nat → List Int → Int → Option (Bool)
 | 0, _, _ => none
 | f + 1, lx3, x7 =>
  bif decide (x7 < ((a.rs.length : Int))) then (rd a.rs x7).bind fun w2 => (m57 ⟨w2.t, w2.n⟩).bind fun r5 => bif !r5 then some false else bif w2.t == 8 then some false else (m58 a lx3 ⟨w2.t, w2.n⟩ 1).bind fun r8 => bif (!r8) then some false else mS28_6 a f lx3 (IntKind.i64.wrap (x7 + 1)) else some true
theorem tS28_6 {D N : Nat} {h : AHeap} (hD : 6 ≤ D) (hN : 20000 ≤ N) {wv rv : Value} {a : Ar} (H : ArH h wv rv a)  : ∀ (f n2 : Nat) (_ : f ≤ n2) (px1 : Nat) (ix3 rx3 : Nat) (lx3 : List Int) (x7 : Int) (g : AHeap) (_ : Ext h.size h g) (_ : Cx h.size g [] [⟨ix3, rx3, 3, true, lx3.map (Value.int .i64)⟩, ⟨px1, px1, 29, true, arCells wv rv a⟩] []), SmR h (En Value.bool) (mS28_6 a f lx3 x7) (s13_6 hk0 (call Tp Ms D) N n2 (ptr px1 0) (slc ix3 0 lx3.length) x7 g) := by
 intro f
 induction f with
 | zero => intros; exact Sm.none
 | succ f ih =>
  intro n2 hf px1 ix3 rx3 lx3 x7 g0 E0 y0
  obtain ⟨n2, rfl⟩ : ∃ k, n2 = k + 1 := ⟨n2 - 1, by omega⟩
  rw [s13_6_eq, mS28_6]
  refine Sm.b rfl ?_
  refine Sm.b (y0.ldO 1 9 rfl rfl) ?_
  refine Sm.b H.r.len ?_
  refine Sm.b rfl ?_
  refine Sm.i (fun k1 => ?_) (fun k1 => ?_)
  ·refine Sm.b rfl ?_
   refine Sm.b (y0.ldO 1 9 rfl rfl) ?_
   refine Sm.mo fun w2 e2 => ?_
   obtain ⟨q2, o2, i2, l2⟩ := H.r.at e2
   refine Sm.b i2 ?_
   refine Sm.b (l2 _ E0).1 ?_
   refine Sm.n y0 fun p3 g3 X3 y3 => ?_
   have E3 := E0.trans (X3.mono E0.size)
   refine Sm.st y3 0 rfl rfl rfl (by simp [splice]) fun g4 X4 y4 => ?_
   have E4 := E3.trans X4
   refine Sm.b (y4.ldON 0 rfl rfl) ?_
   refine Sm.c (t57 (by omega) ⟨w2.t, w2.n⟩) fun r5 g5 e1005 X5 => ?_
   have y5 := y4.ext X5
   have E5 := E4.trans (X5.mono E4.size)
   refine Sm.b rfl ?_
   refine Sm.i (fun k6 => ?_) (fun k6 => ?_)
   ·rw [s13_7_j, s13_7_eq]
    refine Sm.ct rfl ?_
    exact Sm.fin E5 rfl
   ·refine Sm.b rfl ?_
    refine Sm.b (y5.ldO 0 0 rfl rfl) ?_
    refine Sm.b rfl ?_
    refine Sm.i (fun k7 => ?_) (fun k7 => ?_)
    ·rw [s13_7_j, s13_7_eq]
     refine Sm.ct rfl ?_
     exact Sm.fin E5 rfl
    ·refine Sm.b (y5.ldON 2 rfl rfl) ?_
     refine Sm.b (y5.ldON 0 rfl rfl) ?_
     refine Sm.c (t58 (by omega) (H.ext E5) (y5.slI 1 lx3 rfl (LV.mk _ _)) ⟨w2.t, w2.n⟩ 1) fun r8 g8 e6 X8 => ?_
     have y8 := y5.ext X8
     have E8 := E5.trans (X8.mono E5.size)
     refine Sm.b rfl ?_
     rw [s13_7_j, s13_7_eq]
     refine Sm.i (fun k9 => ?_) (fun k9 => ?_)
     ·exact Sm.fin E8 rfl
     ·exact ih _ (by omega) _ _ _ lx3 (IntKind.i64.wrap (x7 + 1)) _ E8 (y8.pick (.cons _ (.cons_cons _ (.cons_cons _ .slnil))))
  ·exact Sm.fin E0 rfl
def mS28_4 (a : Ar) : Nat → List Int → List Bool → Int → Option (Bool)
 | 0, _, _, _ => none
 | f + 1, lx3, lx5, x6 =>
  bif decide (x6 < ((lx3.length : Int))) then (rd lx3 x6).bind fun w2 => bif w2 == 1 then (m55 a x6).bind fun r4 => bif r4.k == 2 then (m56 a x6 lx5).bind fun r6 => bif (!r6.1) then some false else mS28_4 a f lx3 r6.2 (IntKind.i64.wrap (x6 + 1)) else mS28_4 a f lx3 lx5 (IntKind.i64.wrap (x6 + 1)) else bif w2 == 2 then (m55 a x6).bind fun r9 => bif r9.k == 2 then (m56 a x6 lx5).bind fun r11 => bif (!r11.1) then some false else mS28_4 a f lx3 r11.2 (IntKind.i64.wrap (x6 + 1)) else mS28_4 a f lx3 lx5 (IntKind.i64.wrap (x6 + 1)) else mS28_4 a f lx3 lx5 (IntKind.i64.wrap (x6 + 1)) else mS28_6 a 20000 lx3 0
theorem tS28_4 {D N : Nat} {h : AHeap} (hD : 20004 ≤ D) (hN : 20000 ≤ N) {wv rv : Value} {a : Ar} (H : ArH h wv rv a)  : ∀ (f n2 : Nat) (_ : f ≤ n2) (px1 : Nat) (ix3 rx3 : Nat) (lx3 : List Int) (ix5 rx5 : Nat) (lx5 : List Bool) (x6 : Int) (g : AHeap) (_ : Ext h.size h g) (_ : Cx h.size g [] [⟨ix5, rx5, 4, true, lx5.map Value.bool⟩, ⟨ix3, rx3, 3, true, lx3.map (Value.int .i64)⟩, ⟨px1, px1, 29, true, arCells wv rv a⟩] []), SmR h (En Value.bool) (mS28_4 a f lx3 lx5 x6) (s13_4 hk0 (call Tp Ms D) N n2 (ptr px1 0) (slc ix3 0 lx3.length) (slc ix5 0 lx5.length) x6 g) := by
 intro f
 induction f with
 | zero => intros; exact Sm.none
 | succ f ih =>
  intro n2 hf px1 ix3 rx3 lx3 ix5 rx5 lx5 x6 g0 E0 y0
  obtain ⟨n2, rfl⟩ : ∃ k, n2 = k + 1 := ⟨n2 - 1, by omega⟩
  rw [s13_4_eq, mS28_4]
  refine Sm.b rfl ?_
  refine Sm.b rfl ?_
  refine Sm.i (fun k1 => ?_) (fun k1 => ?_)
  ·refine Sm.mo fun w2 e2 => ?_
   refine Sm.b (y0.atS 1 (Value.int .i64) lx3 rfl (LV.mk _ _) e2).1 ?_
   refine Sm.b (y0.atS 1 (Value.int .i64) lx3 rfl (LV.mk _ _) e2).2 ?_
   refine Sm.b rfl ?_
   refine Sm.i (fun k3 => ?_) (fun k3 => ?_)
   ·refine Sm.b (y0.ldON 2 rfl rfl) ?_
    refine Sm.c (t55 (by omega) (H.ext E0) x6) fun r4 g4 e1004 X4 => ?_
    have y4 := y0.ext X4
    have E4 := E0.trans (X4.mono E0.size)
    refine Sm.b rfl ?_
    refine Sm.b rfl ?_
    refine Sm.i (fun k5 => ?_) (fun k5 => ?_)
    ·refine Sm.b (y4.ldON 2 rfl rfl) ?_
     refine Sm.cr (g := h) (t56 (by omega) H x6 _ _ lx5 _ E4 (y4.front 0 rfl)) fun r6 v6 g6 e4 E6 R6 => ?_
     obtain ⟨rfl, n6, y6⟩ := R6
     rw [← n6]
     refine Sm.b rfl ?_
     rw [s13_5_j, s13_5_eq]
     refine Sm.i (fun k7 => ?_) (fun k7 => ?_)
     ·exact Sm.fin E6 rfl
     ·exact ih _ (by omega) _ _ _ lx3 _ _ r6.2 (IntKind.i64.wrap (x6 + 1)) _ E6 (y6.pick (.cons_cons _ (.cons_cons _ (.cons_cons _ .slnil))))
    ·rw [s13_5_j, s13_5_eq]
     refine Sm.cf rfl ?_
     exact ih _ (by omega) _ _ _ lx3 _ _ lx5 (IntKind.i64.wrap (x6 + 1)) _ E4 (y4.pick (.cons_cons _ (.cons_cons _ (.cons_cons _ .slnil))))
   ·refine Sm.b (y0.atS 1 (Value.int .i64) lx3 rfl (LV.mk _ _) e2).1 ?_
    refine Sm.b (y0.atS 1 (Value.int .i64) lx3 rfl (LV.mk _ _) e2).2 ?_
    refine Sm.b rfl ?_
    refine Sm.i (fun k8 => ?_) (fun k8 => ?_)
    ·refine Sm.b (y0.ldON 2 rfl rfl) ?_
     refine Sm.c (t55 (by omega) (H.ext E0) x6) fun r9 g9 e1009 X9 => ?_
     have y9 := y0.ext X9
     have E9 := E0.trans (X9.mono E0.size)
     refine Sm.b rfl ?_
     refine Sm.b rfl ?_
     refine Sm.i (fun k10 => ?_) (fun k10 => ?_)
     ·refine Sm.b (y9.ldON 2 rfl rfl) ?_
      refine Sm.cr (g := h) (t56 (by omega) H x6 _ _ lx5 _ E9 (y9.front 0 rfl)) fun r11 v11 g11 e1011 E11 R11 => ?_
      obtain ⟨rfl, n11, y11⟩ := R11
      rw [← n11]
      refine Sm.b rfl ?_
      rw [s13_5_j, s13_5_eq]
      refine Sm.i (fun k12 => ?_) (fun k12 => ?_)
      ·exact Sm.fin E11 rfl
      ·exact ih _ (by omega) _ _ _ lx3 _ _ r11.2 (IntKind.i64.wrap (x6 + 1)) _ E11 (y11.pick (.cons_cons _ (.cons_cons _ (.cons_cons _ .slnil))))
     ·rw [s13_5_j, s13_5_eq]
      refine Sm.cf rfl ?_
      exact ih _ (by omega) _ _ _ lx3 _ _ lx5 (IntKind.i64.wrap (x6 + 1)) _ E9 (y9.pick (.cons_cons _ (.cons_cons _ (.cons_cons _ .slnil))))
    ·rw [s13_5_j, s13_5_eq]
     refine Sm.cf rfl ?_
     exact ih _ (by omega) _ _ _ lx3 _ _ lx5 (IntKind.i64.wrap (x6 + 1)) _ E0 (y0.pick (.cons_cons _ (.cons_cons _ (.cons_cons _ .slnil))))
  ·exact tS28_6 (by omega) (by omega) H 20000 _ (by omega) _ _ _ lx3 0 _ E0 (y0.pick (.cons _ (.cons_cons _ (.cons_cons _ .slnil))))
def mS28_2 (a : Ar) : Nat → List Int → Int → Option (Bool)
 | 0, _, _ => none
 | f + 1, lx3, x4 =>
  bif decide (x4 < ((lx3.length : Int))) then (rd lx3 x4).bind fun w2 => bif w2 == 1 then (m54 a lx3 x4).bind fun r4 => bif (!r4) then some false else mS28_2 a f lx3 (IntKind.i64.wrap (x4 + 1)) else bif w2 == 2 then (m54 a lx3 x4).bind fun r7 => bif (!r7) then some false else mS28_2 a f lx3 (IntKind.i64.wrap (x4 + 1)) else mS28_2 a f lx3 (IntKind.i64.wrap (x4 + 1)) else (mkL (a.ws.length : Int) ((false : Bool))).bind fun l9 => mS28_4 a 20000 lx3 l9 0
theorem tS28_2 {D N : Nat} {h : AHeap} (hD : 20004 ≤ D) (hN : 20000 ≤ N) {wv rv : Value} {a : Ar} (H : ArH h wv rv a)  : ∀ (f n2 : Nat) (_ : f ≤ n2) (px1 : Nat) (ix3 rx3 : Nat) (lx3 : List Int) (x4 : Int) (g : AHeap) (_ : Ext h.size h g) (_ : Cx h.size g [] [⟨ix3, rx3, 3, true, lx3.map (Value.int .i64)⟩, ⟨px1, px1, 29, true, arCells wv rv a⟩] []), SmR h (En Value.bool) (mS28_2 a f lx3 x4) (s13_2 hk0 (call Tp Ms D) N n2 (ptr px1 0) (slc ix3 0 lx3.length) x4 g) := by
 intro f
 induction f with
 | zero => intros; exact Sm.none
 | succ f ih =>
  intro n2 hf px1 ix3 rx3 lx3 x4 g0 E0 y0
  obtain ⟨n2, rfl⟩ : ∃ k, n2 = k + 1 := ⟨n2 - 1, by omega⟩
  rw [s13_2_eq, mS28_2]
  refine Sm.b rfl ?_
  refine Sm.b rfl ?_
  refine Sm.i (fun k1 => ?_) (fun k1 => ?_)
  ·refine Sm.mo fun w2 e2 => ?_
   refine Sm.b (y0.atS 0 (Value.int .i64) lx3 rfl (LV.mk _ _) e2).1 ?_
   refine Sm.b (y0.atS 0 (Value.int .i64) lx3 rfl (LV.mk _ _) e2).2 ?_
   refine Sm.b rfl ?_
   refine Sm.i (fun k3 => ?_) (fun k3 => ?_)
   ·refine Sm.b (y0.ldON 1 rfl rfl) ?_
    refine Sm.c (t54 (by omega) (H.ext E0) (y0.slI 0 lx3 rfl (LV.mk _ _)) x4) fun r4 g4 e1004 X4 => ?_
    have y4 := y0.ext X4
    have E4 := E0.trans (X4.mono E0.size)
    refine Sm.b rfl ?_
    rw [s13_3_j, s13_3_eq]
    refine Sm.i (fun k5 => ?_) (fun k5 => ?_)
    ·exact Sm.fin E4 rfl
    ·exact ih _ (by omega) _ _ _ lx3 (IntKind.i64.wrap (x4 + 1)) _ E4 (y4.pick (.cons_cons _ (.cons_cons _ .slnil)))
   ·refine Sm.b (y0.atS 0 (Value.int .i64) lx3 rfl (LV.mk _ _) e2).1 ?_
    refine Sm.b (y0.atS 0 (Value.int .i64) lx3 rfl (LV.mk _ _) e2).2 ?_
    refine Sm.b rfl ?_
    refine Sm.i (fun k6 => ?_) (fun k6 => ?_)
    ·refine Sm.b (y0.ldON 1 rfl rfl) ?_
     refine Sm.c (t54 (by omega) (H.ext E0) (y0.slI 0 lx3 rfl (LV.mk _ _)) x4) fun r7 g7 e1007 X7 => ?_
     have y7 := y0.ext X7
     have E7 := E0.trans (X7.mono E0.size)
     refine Sm.b rfl ?_
     rw [s13_3_j, s13_3_eq]
     refine Sm.i (fun k8 => ?_) (fun k8 => ?_)
     ·exact Sm.fin E7 rfl
     ·exact ih _ (by omega) _ _ _ lx3 (IntKind.i64.wrap (x4 + 1)) _ E7 (y7.pick (.cons_cons _ (.cons_cons _ .slnil)))
    ·rw [s13_3_j, s13_3_eq]
     refine Sm.cf rfl ?_
     exact ih _ (by omega) _ _ _ lx3 (IntKind.i64.wrap (x4 + 1)) _ E0 (y0.pick (.cons_cons _ (.cons_cons _ .slnil)))
  ·refine Sm.b rfl ?_
   refine Sm.b (y0.ldO 1 0 rfl rfl) ?_
   refine Sm.b H.w.len ?_
   refine Sm.b rfl ?_
   refine Sm.mk Value.bool y0 false (by decide) fun p9 g9 l9 e1009 X9 y9 => ?_
   have E9 := E0.trans (X9.mono E0.size)
   exact tS28_4 (by omega) (by omega) H 20000 _ (by omega) _ _ _ lx3 _ _ l9 0 _ E9 (y9.pick (.cons_cons _ (.cons_cons _ (.cons_cons _ .slnil))))
def m28 (a : Ar) : Option (Bool) :=
 (m51 a).bind fun r2 => bif !r2 then some false else (mkL (a.ws.length : Int) ((0 : Int))).bind fun l4 => (m52 a l4).bind fun r5 => bif !r5.1 then some false else (m53 a r5.2).bind fun r7 => bif (!r7) then some false else mS28_2 a 20000 r5.2 0
theorem t28 {D : Nat} {h : AHeap} (hD : 20005 ≤ D) {wv rv : Value} {a : Ar} (H : ArH h wv rv a) : SmR h (En Value.bool) (m28 a) (call Tp Ms D 13 [arV wv rv a] h) := by
 obtain ⟨D, rfl⟩ : ∃ d, D = d + 1 := ⟨D - 1, by omega⟩
 rw [c13, e13]
 unfold m28
 have y0 := Cx.start0 h
 have E0 := Ext.refl h.size h
 refine Sm.b H.cells ?_
 refine Sm.n y0 fun p1 g1 X1 y1 => ?_
 have E1 := E0.trans (X1.mono E0.size)
 refine Sm.b (y1.ldON 0 rfl rfl) ?_
 refine Sm.c (t51 (by omega) (H.ext E1)) fun r2 g2 e2 X2 => ?_
 have y2 := y1.ext X2
 have E2 := E1.trans (X2.mono E1.size)
 refine Sm.b rfl ?_
 refine Sm.i (fun k3 => ?_) (fun k3 => ?_)
 ·exact Sm.fin E2 rfl
 ·refine Sm.b rfl ?_
  refine Sm.b (y2.ldO 0 0 rfl rfl) ?_
  refine Sm.b H.w.len ?_
  refine Sm.b rfl ?_
  refine Sm.mk (Value.int .i64) y2 0 (by decide) fun p4 g4 l4 e1004 X4 y4 => ?_
  have E4 := E2.trans (X4.mono E2.size)
  refine Sm.b (y4.ldON 1 rfl rfl) ?_
  refine Sm.cr (g := h) (t52 (by omega) H _ _ l4 _ E4 (y4.front 0 rfl)) fun r5 v5 g5 e1005 E5 R5 => ?_
  obtain ⟨rfl, n5, y5⟩ := R5
  rw [← n5]
  refine Sm.b rfl ?_
  refine Sm.i (fun k6 => ?_) (fun k6 => ?_)
  ·rw [s13_0_j, s13_0_eq]
   refine Sm.ct rfl ?_
   exact Sm.fin E5 rfl
  ·refine Sm.b (y5.ldON 1 rfl rfl) ?_
   refine Sm.c (t53 (by omega) (H.ext E5) (y5.slI 0 r5.2 rfl (LV.mk _ _))) fun r7 g7 e1007 X7 => ?_
   have y7 := y5.ext X7
   have E7 := E5.trans (X7.mono E5.size)
   refine Sm.b rfl ?_
   rw [s13_0_j, s13_0_eq]
   refine Sm.i (fun k8 => ?_) (fun k8 => ?_)
   ·exact Sm.fin E7 rfl
   ·rw [s13_1_j, s13_1_eq]
    exact tS28_2 (by omega) (by omega) H 20000 _ (by omega) _ _ _ r5.2 0 _ E7 (y7.pick (.cons_cons _ (.cons_cons _ .slnil)))
def m7 (a : Ar) (r : Int) : Option (Int) :=
 (m28 a).bind fun r2 => bif !r2 then some (-1) else (m29 a r).bind fun r4 => bif !r4 then some (-1) else (rd a.rs r).bind fun w6 => bif w6.t == 0 then some (-1) else bif (w6.t == 9) then some (-1) else (m30 a ⟨w6.t, w6.n⟩).bind fun r9 => some r9
end Go.Proofs.YtnjnggejbpkgoaaGreat
