import Derived.Test.YtnjnggejbpkgoaaGreatXAE
import Derived.Test.YtnjnggejbpkgoaaGreatXAF
import Derived.Test.YtnjnggejbpkgoaaGreatXAG
set_option linter.unusedSimpArgs false
set_option linter.unusedVariables false
/- Arenas (printed by gw.py). -/
namespace Go.Proofs.YtnjnggejbpkgoaaGreat
open Go Go.AH Go.AM
def m63 (x : Int) (lo : Int) (hi : Int) : Option (Bool) :=
 bif decide (x ≥ lo) then some (decide (x ≤ hi)) else some false
theorem t63 {D : Nat} {h : AHeap} (hD : 1 ≤ D) (x : Int) (lo : Int) (hi : Int) : SmR h (En Value.bool) (m63 x lo hi) (call Tp Ms D 57 [.int .i64 x, .int .i64 lo, .int .i64 hi] h) := by
 obtain ⟨D, rfl⟩ : ∃ d, D = d + 1 := ⟨D - 1, by omega⟩
 rw [c57, e57]
 unfold m63
 have y0 := Cx.start0 h
 have E0 := Ext.refl h.size h
 refine Sm.i (fun k1 => ?_) (fun k1 => ?_)
 ·exact Sm.fin E0 rfl
 ·exact Sm.fin E0 rfl
def m64 (a : Ar) (hf : Int) : Option (Int) :=
 some (IntKind.i64.wrap ((IntKind.i64.wrap (hf * a.semi)) + 1))
theorem t64 {D : Nat} {h : AHeap} (hD : 1 ≤ D) {wv rv : Value} {a : Ar} (H : ArH h wv rv a) {pa : Nat} (RA : Row h pa (arCells wv rv a) ∧ pa < h.size) (hf : Int) : SmR h (En (Value.int .i64)) (m64 a hf) (call Tp Ms D 58 [ptr pa 0, .int .i64 hf] h) := by
 obtain ⟨D, rfl⟩ : ∃ d, D = d + 1 := ⟨D - 1, by omega⟩
 rw [c58, e58]
 unfold m64
 have y0 := (Cx.start0 h).addF RA.1 RA.2
 have E0 := Ext.refl h.size h
 refine Sm.b rfl ?_
 refine Sm.b rfl ?_
 refine Sm.b (y0.ldF 0 1 rfl rfl) ?_
 refine Sm.b rfl ?_
 exact Sm.fin E0 rfl
def m65 (a : Ar) (hf : Int) : Option (Int) :=
 some (IntKind.i64.wrap ((IntKind.i64.wrap (hf + 1)) * a.semi))
theorem t65 {D : Nat} {h : AHeap} (hD : 1 ≤ D) {wv rv : Value} {a : Ar} (H : ArH h wv rv a) {pa : Nat} (RA : Row h pa (arCells wv rv a) ∧ pa < h.size) (hf : Int) : SmR h (En (Value.int .i64)) (m65 a hf) (call Tp Ms D 59 [ptr pa 0, .int .i64 hf] h) := by
 obtain ⟨D, rfl⟩ : ∃ d, D = d + 1 := ⟨D - 1, by omega⟩
 rw [c59, e59]
 unfold m65
 have y0 := (Cx.start0 h).addF RA.1 RA.2
 have E0 := Ext.refl h.size h
 refine Sm.b rfl ?_
 refine Sm.b rfl ?_
 refine Sm.b (y0.ldF 0 1 rfl rfl) ?_
 refine Sm.b rfl ?_
 exact Sm.fin E0 rfl
def m67 (a : Ar) : Option (Int) :=
 some (IntKind.i64.wrap (1 - a.to))
theorem t67 {D : Nat} {h : AHeap} (hD : 1 ≤ D) {wv rv : Value} {a : Ar} (H : ArH h wv rv a) {pa : Nat} (RA : Row h pa (arCells wv rv a) ∧ pa < h.size) : SmR h (En (Value.int .i64)) (m67 a) (call Tp Ms D 61 [ptr pa 0] h) := by
 obtain ⟨D, rfl⟩ : ∃ d, D = d + 1 := ⟨D - 1, by omega⟩
 rw [c61, e61]
 unfold m67
 have y0 := (Cx.start0 h).addF RA.1 RA.2
 have E0 := Ext.refl h.size h
 refine Sm.b rfl ?_
 refine Sm.b rfl ?_
 refine Sm.b (y0.ldF 0 2 rfl rfl) ?_
 refine Sm.b rfl ?_
 exact Sm.fin E0 rfl
def m68 (a : Ar) : Option (Int) :=
 bif !a.cyc then some 0 else (m67 a).bind fun r2 => (m64 a r2).bind fun r3 => some (IntKind.i64.wrap ((IntKind.i64.wrap (a.old - r3)) - a.cop))
theorem t68 {D : Nat} {h : AHeap} (hD : 2 ≤ D) {wv rv : Value} {a : Ar} (H : ArH h wv rv a) {pa : Nat} (RA : Row h pa (arCells wv rv a) ∧ pa < h.size) : SmR h (En (Value.int .i64)) (m68 a) (call Tp Ms D 62 [ptr pa 0] h) := by
 obtain ⟨D, rfl⟩ : ∃ d, D = d + 1 := ⟨D - 1, by omega⟩
 rw [c62, e62]
 unfold m68
 have y0 := (Cx.start0 h).addF RA.1 RA.2
 have E0 := Ext.refl h.size h
 refine Sm.b rfl ?_
 refine Sm.b rfl ?_
 refine Sm.b (y0.ldF 0 4 rfl rfl) ?_
 refine Sm.b rfl ?_
 refine Sm.i (fun k1 => ?_) (fun k1 => ?_)
 ·exact Sm.fin E0 rfl
 ·refine Sm.b rfl ?_
  refine Sm.b rfl ?_
  refine Sm.b (y0.ldF 0 6 rfl rfl) ?_
  refine Sm.b rfl ?_
  refine Sm.b rfl ?_
  refine Sm.b rfl ?_
  refine Sm.b (y0.ldF 0 7 rfl rfl) ?_
  refine Sm.b rfl ?_
  refine Sm.c (t67 (by omega) (H.ext E0) (y0.rowF 0 rfl)) fun r2 g2 e2 X2 => ?_
  have y2 := y0.ext X2
  have E2 := E0.trans (X2.mono E0.size)
  refine Sm.b rfl ?_
  refine Sm.b (agI (y2.ldF 0 6 rfl rfl)) ?_
  refine Sm.ct rfl ?_
  refine Sm.b (agI (y2.ldF 0 7 rfl rfl)) ?_
  refine Sm.ct rfl ?_
  refine Sm.c (t64 (by omega) (H.ext E2) (y2.rowF 0 rfl) r2) fun r3 g3 e1003 X3 => ?_
  have y3 := y2.ext X3
  have E3 := E2.trans (X3.mono E2.size)
  refine Sm.b rfl ?_
  refine Sm.b (agI (y3.ldF 0 6 rfl rfl)) ?_
  refine Sm.ct rfl ?_
  refine Sm.b (agI (y3.ldF 0 7 rfl rfl)) ?_
  refine Sm.ct rfl ?_
  exact Sm.fin E3 rfl
def m110 (a : Ar) (p : Int) : Option (Bool) :=
 (m67 a).bind fun r1 => (m64 a r1).bind fun r2 => (m67 a).bind fun r3 => (m65 a r3).bind fun r4 => (m63 p r2 (IntKind.i64.wrap (r4 - 1))).bind fun r5 => some r5
theorem t110 {D : Nat} {h : AHeap} (hD : 2 ≤ D) {wv rv : Value} {a : Ar} (H : ArH h wv rv a) {pa : Nat} (RA : Row h pa (arCells wv rv a) ∧ pa < h.size) (p : Int) : SmR h (En Value.bool) (m110 a p) (call Tp Ms D 105 [ptr pa 0, .int .i64 p] h) := by
 obtain ⟨D, rfl⟩ : ∃ d, D = d + 1 := ⟨D - 1, by omega⟩
 rw [c105, e105]
 unfold m110
 have y0 := (Cx.start0 h).addF RA.1 RA.2
 have E0 := Ext.refl h.size h
 refine Sm.c (t67 (by omega) (H.ext E0) (y0.rowF 0 rfl)) fun r1 g1 e1 X1 => ?_
 have y1 := y0.ext X1
 have E1 := E0.trans (X1.mono E0.size)
 refine Sm.b rfl ?_
 refine Sm.c (t64 (by omega) (H.ext E1) (y1.rowF 0 rfl) r1) fun r2 g2 e2 X2 => ?_
 have y2 := y1.ext X2
 have E2 := E1.trans (X2.mono E1.size)
 refine Sm.b rfl ?_
 refine Sm.c (t67 (by omega) (H.ext E2) (y2.rowF 0 rfl)) fun r3 g3 e1003 X3 => ?_
 have y3 := y2.ext X3
 have E3 := E2.trans (X3.mono E2.size)
 refine Sm.b rfl ?_
 refine Sm.c (t65 (by omega) (H.ext E3) (y3.rowF 0 rfl) r3) fun r4 g4 e1004 X4 => ?_
 have y4 := y3.ext X4
 have E4 := E3.trans (X4.mono E3.size)
 refine Sm.b rfl ?_
 refine Sm.c (t63 (by omega) p r2 (IntKind.i64.wrap (r4 - 1))) fun r5 g5 e1005 X5 => ?_
 have y5 := y4.ext X5
 have E5 := E4.trans (X5.mono E4.size)
 refine Sm.b rfl ?_
 exact Sm.fin E5 rfl
def m102 (w : Int) : Option ((Int × Bool)) :=
 bif (IntKind.u64.wrap (BitVec.ofInt IntKind.u64.bits w &&& BitVec.ofInt IntKind.u64.bits 9223372036854775808).toNat) == 0 then some ((0, false)) else bif (decide ((IntKind.u64.wrap (BitVec.ofInt IntKind.u64.bits w &&& ~~~(BitVec.ofInt IntKind.u64.bits 9223372036854775808)).toNat) > 2147483647)) then some ((0, false)) else some ((IntKind.i64.wrap (IntKind.u64.wrap (BitVec.ofInt IntKind.u64.bits w &&& ~~~(BitVec.ofInt IntKind.u64.bits 9223372036854775808)).toNat), true))
theorem t102 {D : Nat} {h : AHeap} (hD : 1 ≤ D) (w : Int) : SmR h (En eIB) (m102 w) (call Tp Ms D 84 [.int .u64 w] h) := by
 obtain ⟨D, rfl⟩ : ∃ d, D = d + 1 := ⟨D - 1, by omega⟩
 rw [c84, e84]
 unfold m102
 have y0 := Cx.start0 h
 have E0 := Ext.refl h.size h
 refine Sm.i (fun k1 => ?_) (fun k1 => ?_)
 ·rw [s84_0_j, s84_0_eq]
  refine Sm.ct rfl ?_
  exact Sm.fin E0 rfl
 ·rw [s84_0_j, s84_0_eq]
  refine Sm.i (fun k2 => ?_) (fun k2 => ?_)
  ·exact Sm.fin E0 rfl
  ·exact Sm.fin E0 rfl
def m155 (k : Int) (sz : Int) : Option (Bool) :=
 bif k == 1 then (m63 sz 1 21).bind fun r2 => some r2 else bif k == 2 then some (sz == 3) else bif k == 3 then bif sz == 16 then some true else bif sz == 32 then some true else bif sz == 64 then some true else bif sz == 128 then some true else some (sz == 256) else bif k == 4 then (m63 sz 1 25).bind fun r10 => bif r10 then some ((Int.tmod sz 2) == 1) else some false else bif k == 5 then some (sz == 2) else bif k == 6 then some (sz == 126) else some false
theorem t155 {D : Nat} {h : AHeap} (hD : 2 ≤ D) (k : Int) (sz : Int) : SmR h (En Value.bool) (m155 k sz) (call Tp Ms D 106 [.int .i64 k, .int .i64 sz] h) := by
 obtain ⟨D, rfl⟩ : ∃ d, D = d + 1 := ⟨D - 1, by omega⟩
 rw [c106, e106]
 unfold m155
 have y0 := Cx.start0 h
 have E0 := Ext.refl h.size h
 refine Sm.i (fun k1 => ?_) (fun k1 => ?_)
 ·refine Sm.c (t63 (by omega) sz 1 21) fun r2 g2 e2 X2 => ?_
  have y2 := y0.ext X2
  have E2 := E0.trans (X2.mono E0.size)
  refine Sm.b rfl ?_
  exact Sm.fin E2 rfl
 ·refine Sm.i (fun k3 => ?_) (fun k3 => ?_)
  ·exact Sm.fin E0 rfl
  ·refine Sm.i (fun k4 => ?_) (fun k4 => ?_)
   ·refine Sm.i (fun k5 => ?_) (fun k5 => ?_)
    ·exact Sm.fin E0 rfl
    ·refine Sm.i (fun k6 => ?_) (fun k6 => ?_)
     ·exact Sm.fin E0 rfl
     ·refine Sm.i (fun k7 => ?_) (fun k7 => ?_)
      ·exact Sm.fin E0 rfl
      ·refine Sm.i (fun k8 => ?_) (fun k8 => ?_)
       ·exact Sm.fin E0 rfl
       ·exact Sm.fin E0 rfl
   ·refine Sm.i (fun k9 => ?_) (fun k9 => ?_)
    ·refine Sm.c (t63 (by omega) sz 1 25) fun r10 g10 e8 X10 => ?_
     have y10 := y0.ext X10
     have E10 := E0.trans (X10.mono E0.size)
     refine Sm.b rfl ?_
     refine Sm.i (fun k11 => ?_) (fun k11 => ?_)
     ·exact Sm.fin E10 rfl
     ·exact Sm.fin E10 rfl
    ·refine Sm.i (fun k12 => ?_) (fun k12 => ?_)
     ·exact Sm.fin E0 rfl
     ·refine Sm.i (fun k13 => ?_) (fun k13 => ?_)
      ·exact Sm.fin E0 rfl
      ·exact Sm.fin E0 rfl
def m156 (k : Int) : Option (Bool) :=
 bif k == 2 then some true else bif k == 4 then some true else some (k == 6)
theorem t156 {D : Nat} {h : AHeap} (hD : 1 ≤ D) (k : Int) : SmR h (En Value.bool) (m156 k) (call Tp Ms D 107 [.int .i64 k] h) := by
 obtain ⟨D, rfl⟩ : ∃ d, D = d + 1 := ⟨D - 1, by omega⟩
 rw [c107, e107]
 unfold m156
 have y0 := Cx.start0 h
 have E0 := Ext.refl h.size h
 refine Sm.i (fun k1 => ?_) (fun k1 => ?_)
 ·exact Sm.fin E0 rfl
 ·refine Sm.i (fun k2 => ?_) (fun k2 => ?_)
  ·exact Sm.fin E0 rfl
  ·exact Sm.fin E0 rfl
def m132 (x : Hd) : Option (Bool) :=
 (m155 x.k x.s).bind fun r2 => bif !r2 then some false else (m156 x.k).bind fun r4 => bif r4 then (m63 x.n 1 1000000000).bind fun r6 => some r6 else some (x.n == 0)
theorem t132 {D : Nat} {h : AHeap} (hD : 3 ≤ D) (x : Hd) : SmR h (En Value.bool) (m132 x) (call Tp Ms D 94 [x.v] h) := by
 obtain ⟨D, rfl⟩ : ∃ d, D = d + 1 := ⟨D - 1, by omega⟩
 rw [c94, e94]
 unfold m132
 have y0 := Cx.start0 h
 have E0 := Ext.refl h.size h
 refine Sm.b rfl ?_
 refine Sm.n y0 fun p1 g1 X1 y1 => ?_
 have E1 := E0.trans (X1.mono E0.size)
 refine Sm.b rfl ?_
 refine Sm.b (y1.ldO 0 0 rfl rfl) ?_
 refine Sm.b rfl ?_
 refine Sm.b rfl ?_
 refine Sm.b (y1.ldO 0 1 rfl rfl) ?_
 refine Sm.b rfl ?_
 refine Sm.c (t155 (by omega) x.k x.s) fun r2 g2 e2 X2 => ?_
 have y2 := y1.ext X2
 have E2 := E1.trans (X2.mono E1.size)
 refine Sm.b rfl ?_
 refine Sm.i (fun k3 => ?_) (fun k3 => ?_)
 ·exact Sm.fin E2 rfl
 ·refine Sm.b rfl ?_
  refine Sm.b (y2.ldO 0 0 rfl rfl) ?_
  refine Sm.b rfl ?_
  refine Sm.c (t156 (by omega) x.k) fun r4 g4 e1004 X4 => ?_
  have y4 := y2.ext X4
  have E4 := E2.trans (X4.mono E2.size)
  refine Sm.b rfl ?_
  refine Sm.i (fun k5 => ?_) (fun k5 => ?_)
  ·refine Sm.b rfl ?_
   refine Sm.b (y4.ldO 0 2 rfl rfl) ?_
   refine Sm.b rfl ?_
   refine Sm.c (t63 (by omega) x.n 1 1000000000) fun r6 g6 e4 X6 => ?_
   have y6 := y4.ext X6
   have E6 := E4.trans (X6.mono E4.size)
   refine Sm.b rfl ?_
   exact Sm.fin E6 rfl
  ·refine Sm.b rfl ?_
   refine Sm.b (y4.ldO 0 2 rfl rfl) ?_
   refine Sm.b rfl ?_
   exact Sm.fin E4 rfl
def m103 (w : Int) : Option ((Hd × Bool)) :=
 (m132 ⟨IntKind.i64.wrap (IntKind.u64.wrap (BitVec.ofInt IntKind.u64.bits w &&& BitVec.ofInt IntKind.u64.bits 15).toNat), IntKind.i64.wrap (IntKind.u64.wrap (BitVec.ofInt IntKind.u64.bits (Int.fdiv w (2 ^ (min (Int.toNat 4) IntKind.u64.bits))) &&& BitVec.ofInt IntKind.u64.bits 65535).toNat), IntKind.i64.wrap (Int.fdiv w (2 ^ (min (Int.toNat 20) IntKind.u64.bits)))⟩).bind fun r4 => bif !r4 then some ((⟨0, 0, 0⟩, false)) else some ((⟨IntKind.i64.wrap (IntKind.u64.wrap (BitVec.ofInt IntKind.u64.bits w &&& BitVec.ofInt IntKind.u64.bits 15).toNat), IntKind.i64.wrap (IntKind.u64.wrap (BitVec.ofInt IntKind.u64.bits (Int.fdiv w (2 ^ (min (Int.toNat 4) IntKind.u64.bits))) &&& BitVec.ofInt IntKind.u64.bits 65535).toNat), IntKind.i64.wrap (Int.fdiv w (2 ^ (min (Int.toNat 20) IntKind.u64.bits)))⟩, true))
theorem t103 {D : Nat} {h : AHeap} (hD : 4 ≤ D) (w : Int) : SmR h (En eHB) (m103 w) (call Tp Ms D 66 [.int .u64 w] h) := by
 obtain ⟨D, rfl⟩ : ∃ d, D = d + 1 := ⟨D - 1, by omega⟩
 rw [c66, e66]
 unfold m103
 have y0 := Cx.start0 h
 have E0 := Ext.refl h.size h
 refine Sm.n y0 fun p1 g1 X1 y1 => ?_
 have E1 := E0.trans (X1.mono E0.size)
 refine Sm.n y1 fun p2 g2 X2 y2 => ?_
 have E2 := E1.trans (X2.mono E1.size)
 refine Sm.st y2 0 rfl rfl rfl (by simp [splice]) fun g3 X3 y3 => ?_
 have E3 := E2.trans X3
 refine Sm.b (y3.ldON 0 rfl rfl) ?_
 refine Sm.c (t132 (by omega) ⟨IntKind.i64.wrap (IntKind.u64.wrap (BitVec.ofInt IntKind.u64.bits w &&& BitVec.ofInt IntKind.u64.bits 15).toNat), IntKind.i64.wrap (IntKind.u64.wrap (BitVec.ofInt IntKind.u64.bits (Int.fdiv w (2 ^ (min (Int.toNat 4) IntKind.u64.bits))) &&& BitVec.ofInt IntKind.u64.bits 65535).toNat), IntKind.i64.wrap (Int.fdiv w (2 ^ (min (Int.toNat 20) IntKind.u64.bits)))⟩) fun r4 g4 e1004 X4 => ?_
 have y4 := y3.ext X4
 have E4 := E3.trans (X4.mono E3.size)
 refine Sm.b rfl ?_
 refine Sm.i (fun k5 => ?_) (fun k5 => ?_)
 ·refine Sm.st y4 1 rfl rfl rfl (by simp [splice]) fun g6 X6 y6 => ?_
  have E6 := E4.trans X6
  refine Sm.b (y6.ldON 1 rfl rfl) ?_
  refine Sm.ct rfl ?_
  exact Sm.fin E6 rfl
 ·refine Sm.b (y4.ldON 0 rfl rfl) ?_
  refine Sm.st y4 1 rfl rfl rfl (by simp [splice]) fun g7 X7 y7 => ?_
  have E7 := E4.trans X7
  refine Sm.b (y7.ldON 1 rfl rfl) ?_
  refine Sm.ct rfl ?_
  exact Sm.fin E7 rfl
def m72 (a : Ar) (p : Int) : Option (Hd) :=
 (rd a.ws p).bind fun w2 => (m103 w2).bind fun r3 => some ⟨r3.1.k, r3.1.s, r3.1.n⟩
theorem t72 {D : Nat} {h : AHeap} (hD : 5 ≤ D) {wv rv : Value} {a : Ar} (H : ArH h wv rv a) {pa : Nat} (RA : Row h pa (arCells wv rv a) ∧ pa < h.size) (p : Int) : SmR h (En Hd.v) (m72 a p) (call Tp Ms D 29 [ptr pa 0, .int .i64 p] h) := by
 obtain ⟨D, rfl⟩ : ∃ d, D = d + 1 := ⟨D - 1, by omega⟩
 rw [c29, e29]
 unfold m72
 have y0 := (Cx.start0 h).addF RA.1 RA.2
 have E0 := Ext.refl h.size h
 refine Sm.n y0 fun p1 g1 X1 y1 => ?_
 have E1 := E0.trans (X1.mono E0.size)
 refine Sm.b rfl ?_
 refine Sm.b rfl ?_
 refine Sm.b (y1.ldF 0 0 rfl rfl) ?_
 refine Sm.mo fun w2 e2 => ?_
 obtain ⟨q2, i2, l2⟩ := H.w.at e2
 refine Sm.b i2 ?_
 refine Sm.b (l2 _ E1) ?_
 refine Sm.b rfl ?_
 refine Sm.c (t103 (by omega) w2) fun r3 g3 e1003 X3 => ?_
 have y3 := y1.ext X3
 have E3 := E1.trans (X3.mono E1.size)
 refine Sm.b rfl ?_
 refine Sm.b rfl ?_
 refine Sm.b rfl ?_
 refine Sm.n y3 fun p4 g4 X4 y4 => ?_
 have E4 := E3.trans (X4.mono E3.size)
 refine Sm.st y4 0 rfl rfl rfl (by simp [splice]) fun g5 X5 y5 => ?_
 have E5 := E4.trans X5
 refine Sm.b (y5.ldON 0 rfl rfl) ?_
 refine Sm.st y5 1 rfl rfl rfl (by simp [splice]) fun g6 X6 y6 => ?_
 have E6 := E5.trans X6
 refine Sm.b (y6.ldON 1 rfl rfl) ?_
 exact Sm.fin E6 rfl
def m71 (a : Ar) (v : Vl) : Option (Int) :=
 (m110 a v.n).bind fun r2 => bif r2 then (rd a.ws v.n).bind fun w4 => (m102 w4).bind fun r5 => bif r5.2 then some r5.1 else some v.n else some v.n
theorem t71 {D : Nat} {h : AHeap} (hD : 3 ≤ D) {wv rv : Value} {a : Ar} (H : ArH h wv rv a) {pa : Nat} (RA : Row h pa (arCells wv rv a) ∧ pa < h.size) (v : Vl) : SmR h (En (Value.int .i64)) (m71 a v) (call Tp Ms D 100 [ptr pa 0, v.v] h) := by
 obtain ⟨D, rfl⟩ : ∃ d, D = d + 1 := ⟨D - 1, by omega⟩
 rw [c100, e100]
 unfold m71
 have y0 := (Cx.start0 h).addF RA.1 RA.2
 have E0 := Ext.refl h.size h
 refine Sm.b rfl ?_
 refine Sm.n y0 fun p1 g1 X1 y1 => ?_
 have E1 := E0.trans (X1.mono E0.size)
 refine Sm.b rfl ?_
 refine Sm.b (y1.ldO 0 1 rfl rfl) ?_
 refine Sm.b rfl ?_
 refine Sm.c (t110 (by omega) (H.ext E1) (y1.rowF 0 rfl) v.n) fun r2 g2 e2 X2 => ?_
 have y2 := y1.ext X2
 have E2 := E1.trans (X2.mono E1.size)
 refine Sm.b rfl ?_
 refine Sm.i (fun k3 => ?_) (fun k3 => ?_)
 ·refine Sm.b rfl ?_
  refine Sm.b rfl ?_
  refine Sm.b (y2.ldF 0 0 rfl rfl) ?_
  refine Sm.b rfl ?_
  refine Sm.b (y2.ldO 0 1 rfl rfl) ?_
  refine Sm.b rfl ?_
  refine Sm.mo fun w4 e1004 => ?_
  obtain ⟨q4, i4, l4⟩ := H.w.at e1004
  refine Sm.b i4 ?_
  refine Sm.b (l4 _ E2) ?_
  refine Sm.b rfl ?_
  refine Sm.c (t102 (by omega) w4) fun r5 g5 e1005 X5 => ?_
  have y5 := y2.ext X5
  have E5 := E2.trans (X5.mono E2.size)
  refine Sm.b rfl ?_
  refine Sm.b rfl ?_
  refine Sm.b rfl ?_
  refine Sm.b rfl ?_
  refine Sm.i (fun k6 => ?_) (fun k6 => ?_)
  ·exact Sm.fin E5 rfl
  ·rw [s100_0_j, s100_0_eq]
   refine Sm.b rfl ?_
   refine Sm.b (y5.ldO 0 1 rfl rfl) ?_
   refine Sm.b rfl ?_
   exact Sm.fin E5 rfl
 ·rw [s100_0_j, s100_0_eq]
  refine Sm.b rfl ?_
  refine Sm.b (y2.ldO 0 1 rfl rfl) ?_
  refine Sm.b rfl ?_
  exact Sm.fin E2 rfl
def mS70_0 (a : Ar) : Nat → Int → List Int → Int → Int → Option (ByteArray)
 | 0, _, _, _, _ => none
 | f + 1, x1, lx6, x20, x21 =>
  bif decide (x21 < x20) then (rd a.ws (IntKind.i64.wrap ((IntKind.i64.wrap (x1 + 2)) + (IntKind.i64.wrap (Int.tdiv x21 8))))).bind fun w2 => (shrM .u64 w2 (IntKind.i64.wrap (8 * (Int.tmod x21 8)))).bind fun w3 => (upd lx6 x21 (IntKind.u8.wrap w3)).bind fun l4 => mS70_0 a f x1 l4 x20 (IntKind.i64.wrap (x21 + 1)) else some (bstr lx6)
theorem tS70_0 {D N : Nat} {h : AHeap} (hD : 0 ≤ D) (hN : 20000 ≤ N) {wv rv : Value} {a : Ar} (H : ArH h wv rv a) {pa : Nat}  : ∀ (f n2 : Nat) (_ : f ≤ n2) (x1 : Int) (ix6 rx6 : Nat) (lx6 : List Int) (x20 : Int) (x21 : Int) (g : AHeap) (_ : Ext h.size h g) (_ : Cx h.size g [(pa, arCells wv rv a)] [⟨ix6, rx6, 5, true, lx6.map (Value.int .u8)⟩] []), SmR h (En Value.string) (mS70_0 a f x1 lx6 x20 x21) (s30_0 hk0 (call Tp Ms D) N n2 (ptr pa 0) x1 (slc ix6 0 lx6.length) x20 x21 g) := by
 intro f
 induction f with
 | zero => intros; exact Sm.none
 | succ f ih =>
  intro n2 hf x1 ix6 rx6 lx6 x20 x21 g0 E0 y0
  obtain ⟨n2, rfl⟩ : ∃ k, n2 = k + 1 := ⟨n2 - 1, by omega⟩
  rw [s30_0_eq, mS70_0]
  refine Sm.i (fun k1 => ?_) (fun k1 => ?_)
  ·refine Sm.b rfl ?_
   refine Sm.b rfl ?_
   refine Sm.b (y0.ldF 0 0 rfl rfl) ?_
   refine Sm.mo fun w2 e2 => ?_
   obtain ⟨q2, i2, l2⟩ := H.w.at e2
   refine Sm.b i2 ?_
   refine Sm.b (l2 _ E0) ?_
   refine Sm.b rfl ?_
   refine Sm.mo fun w3 e1003 => ?_
   refine Sm.b (shr_ok e1003) ?_
   refine Sm.b rfl ?_
   refine Sm.up1 (Value.int .u8) (cI _) y0 0 lx6 rfl fun g4 l4 e1004 n4 X4 y4 => ?_
   have E4 := E0.trans X4
   rw [← n4]
   exact ih _ (by omega) x1 _ _ l4 x20 (IntKind.i64.wrap (x21 + 1)) _ E4 (y4.pick (.cons_cons _ .slnil))
  ·refine Sm.b (y0.cv 0 lx6 rfl) ?_
   refine Sm.b rfl ?_
   exact Sm.fin E0 rfl
def m70 (a : Ar) (p : Int) : Option (ByteArray) :=
 (rd a.ws (IntKind.i64.wrap (p + 1))).bind fun w1 => (mkL (IntKind.i64.wrap w1) ((0 : Int))).bind fun l2 => mS70_0 a 20000 p l2 (l2.length : Int) 0
theorem t70 {D : Nat} {h : AHeap} (hD : 20001 ≤ D) {wv rv : Value} {a : Ar} (H : ArH h wv rv a) {pa : Nat} (RA : Row h pa (arCells wv rv a) ∧ pa < h.size) (p : Int) : SmR h (En Value.string) (m70 a p) (call Tp Ms D 30 [ptr pa 0, .int .i64 p] h) := by
 obtain ⟨D, rfl⟩ : ∃ d, D = d + 1 := ⟨D - 1, by omega⟩
 rw [c30, e30]
 unfold m70
 have y0 := (Cx.start0 h).addF RA.1 RA.2
 have E0 := Ext.refl h.size h
 refine Sm.b rfl ?_
 refine Sm.b rfl ?_
 refine Sm.b (y0.ldF 0 0 rfl rfl) ?_
 refine Sm.mo fun w1 e1 => ?_
 obtain ⟨q1, i1, l1⟩ := H.w.at e1
 refine Sm.b i1 ?_
 refine Sm.b (l1 _ E0) ?_
 refine Sm.b rfl ?_
 refine Sm.mk (Value.int .u8) y0 0 (by decide) fun p2 g2 l2 e2 X2 y2 => ?_
 have E2 := E0.trans (X2.mono E0.size)
 refine Sm.b rfl ?_
 refine Sm.b rfl ?_
 exact tS70_0 (by omega) (by omega) H 20000 _ (by omega) p _ _ l2 (l2.length : Int) 0 _ E2 (y2.pick (.cons_cons _ .slnil))
def mS113_3 : Nat → Int → List Int → Int → Option (List Int)
 | 0, _, _, _ => none
 | f + 1, x1, lx6, x7 =>
  bif decide (x7 < x1) then (grow lx6 x7).bind fun l3 => mS113_3 f x1 l3 (IntKind.i64.wrap (x7 + 2)) else some lx6
theorem tS113_3 {D N : Nat} {h : AHeap} (hD : 0 ≤ D) (hN : 20000 ≤ N)  : ∀ (f n2 : Nat) (_ : f ≤ n2) (x1 : Int) (ix6 rx6 : Nat) (lx6 : List Int) (x7 : Int) (g : AHeap) (_ : Ext h.size h g) (_ : Cx h.size g [] [⟨ix6, rx6, 3, true, lx6.map (Value.int .i64)⟩] []), SmR h (RO h (Value.int .i64) 3) (mS113_3 f x1 lx6 x7) (s32_3 hk0 (call Tp Ms D) N n2 x1 (slc ix6 0 lx6.length) x7 g) := by
 intro f
 induction f with
 | zero => intros; exact Sm.none
 | succ f ih =>
  intro n2 hf x1 ix6 rx6 lx6 x7 g0 E0 y0
  obtain ⟨n2, rfl⟩ : ∃ k, n2 = k + 1 := ⟨n2 - 1, by omega⟩
  rw [s32_3_eq, mS113_3]
  refine Sm.i (fun k1 => ?_) (fun k1 => ?_)
  ·refine Sm.ns y0 fun p2 g2 X2 y2 => ?_
   have E2 := E0.trans (X2.mono E0.size)
   refine Sm.ap (Value.int .i64) y2 1 lx6 (by decide) rfl (y2.ldO 0 0 rfl rfl) fun i3 g3 l3 e1003 X3 y3 => ?_
   have E3 := E2.trans X3
   exact ih _ (by omega) x1 _ _ l3 (IntKind.i64.wrap (x7 + 2)) _ E3 (y3.pick (.cons _ (.cons_cons _ .slnil)))
  ·exact Sm.fin E0 (y0.ro 0 (Value.int .i64) lx6 rfl (LV.mk _ _))
def m113 (k : Int) (sz : Int) : Option (List Int) :=
 bif k == 2 then bif (k == 2) then (mkC (IntKind.i64.wrap (Int.tdiv sz 2))).bind fun (l3 : List Int) => mS113_3 20000 sz l3 2 else bif k == 3 then bif (k == 3) then (mkC (IntKind.i64.wrap (Int.tdiv sz 2))).bind fun (l6 : List Int) => mS113_3 20000 sz l6 1 else bif k == 6 then (mkC (IntKind.i64.wrap (Int.tdiv sz 2))).bind fun (l8 : List Int) => mS113_3 20000 sz l8 5 else some [] else bif (k == 5) then (mkC (IntKind.i64.wrap (Int.tdiv sz 2))).bind fun (l10 : List Int) => mS113_3 20000 sz l10 1 else bif k == 6 then (mkC (IntKind.i64.wrap (Int.tdiv sz 2))).bind fun (l12 : List Int) => mS113_3 20000 sz l12 5 else some [] else bif (k == 4) then (mkC (IntKind.i64.wrap (Int.tdiv sz 2))).bind fun (l14 : List Int) => mS113_3 20000 sz l14 2 else bif k == 3 then bif (k == 3) then (mkC (IntKind.i64.wrap (Int.tdiv sz 2))).bind fun (l17 : List Int) => mS113_3 20000 sz l17 1 else bif k == 6 then (mkC (IntKind.i64.wrap (Int.tdiv sz 2))).bind fun (l19 : List Int) => mS113_3 20000 sz l19 5 else some [] else bif (k == 5) then (mkC (IntKind.i64.wrap (Int.tdiv sz 2))).bind fun (l21 : List Int) => mS113_3 20000 sz l21 1 else bif k == 6 then (mkC (IntKind.i64.wrap (Int.tdiv sz 2))).bind fun (l23 : List Int) => mS113_3 20000 sz l23 5 else some []
theorem t113 {D : Nat} {h : AHeap} (hD : 20001 ≤ D) (k : Int) (sz : Int) : SmR h (RO h (Value.int .i64) 3) (m113 k sz) (call Tp Ms D 32 [.int .i64 k, .int .i64 sz] h) := by
 obtain ⟨D, rfl⟩ : ∃ d, D = d + 1 := ⟨D - 1, by omega⟩
 rw [c32, e32]
 unfold m113
 have y0 := Cx.start0 h
 have E0 := Ext.refl h.size h
 refine Sm.i (fun k1 => ?_) (fun k1 => ?_)
 ·rw [s32_0_j, s32_0_eq]
  refine Sm.i (fun k2 => ?_) (fun k2 => ?_)
  ·rw [s32_2_j, s32_2_eq]
   refine Sm.mk0 (Value.int .i64) y0 0 (by decide) fun p3 g3 l3 e1003 X3 y3 => ?_
   have E3 := E0.trans (X3.mono E0.size)
   exact tS113_3 (by omega) (by omega) 20000 _ (by omega) sz _ _ l3 2 _ E3 (y3.pick (.cons_cons _ .slnil))
  ·refine Sm.i (fun k4 => ?_) (fun k4 => ?_)
   ·rw [s32_1_j, s32_1_eq]
    refine Sm.i (fun k5 => ?_) (fun k5 => ?_)
    ·rw [s32_2_j, s32_2_eq]
     refine Sm.mk0 (Value.int .i64) y0 0 (by decide) fun p6 g6 l6 e4 X6 y6 => ?_
     have E6 := E0.trans (X6.mono E0.size)
     exact tS113_3 (by omega) (by omega) 20000 _ (by omega) sz _ _ l6 1 _ E6 (y6.pick (.cons_cons _ .slnil))
    ·refine Sm.i (fun k7 => ?_) (fun k7 => ?_)
     ·rw [s32_2_j, s32_2_eq]
      refine Sm.mk0 (Value.int .i64) y0 0 (by decide) fun p8 g8 l8 e6 X8 y8 => ?_
      have E8 := E0.trans (X8.mono E0.size)
      exact tS113_3 (by omega) (by omega) 20000 _ (by omega) sz _ _ l8 5 _ E8 (y8.pick (.cons_cons _ .slnil))
     ·exact Sm.fin E0 (RO.nil _ _ _ _)
   ·rw [s32_1_j, s32_1_eq]
    refine Sm.i (fun k9 => ?_) (fun k9 => ?_)
    ·rw [s32_2_j, s32_2_eq]
     refine Sm.mk0 (Value.int .i64) y0 0 (by decide) fun p10 g10 l10 e8 X10 y10 => ?_
     have E10 := E0.trans (X10.mono E0.size)
     exact tS113_3 (by omega) (by omega) 20000 _ (by omega) sz _ _ l10 1 _ E10 (y10.pick (.cons_cons _ .slnil))
    ·refine Sm.i (fun k11 => ?_) (fun k11 => ?_)
     ·rw [s32_2_j, s32_2_eq]
      refine Sm.mk0 (Value.int .i64) y0 0 (by decide) fun p12 g12 l12 e1012 X12 y12 => ?_
      have E12 := E0.trans (X12.mono E0.size)
      exact tS113_3 (by omega) (by omega) 20000 _ (by omega) sz _ _ l12 5 _ E12 (y12.pick (.cons_cons _ .slnil))
     ·exact Sm.fin E0 (RO.nil _ _ _ _)
 ·rw [s32_0_j, s32_0_eq]
  refine Sm.i (fun k13 => ?_) (fun k13 => ?_)
  ·rw [s32_2_j, s32_2_eq]
   refine Sm.mk0 (Value.int .i64) y0 0 (by decide) fun p14 g14 l14 e9 X14 y14 => ?_
   have E14 := E0.trans (X14.mono E0.size)
   exact tS113_3 (by omega) (by omega) 20000 _ (by omega) sz _ _ l14 2 _ E14 (y14.pick (.cons_cons _ .slnil))
  ·refine Sm.i (fun k15 => ?_) (fun k15 => ?_)
   ·rw [s32_1_j, s32_1_eq]
    refine Sm.i (fun k16 => ?_) (fun k16 => ?_)
    ·rw [s32_2_j, s32_2_eq]
     refine Sm.mk0 (Value.int .i64) y0 0 (by decide) fun p17 g17 l17 e1017 X17 y17 => ?_
     have E17 := E0.trans (X17.mono E0.size)
     exact tS113_3 (by omega) (by omega) 20000 _ (by omega) sz _ _ l17 1 _ E17 (y17.pick (.cons_cons _ .slnil))
    ·refine Sm.i (fun k18 => ?_) (fun k18 => ?_)
     ·rw [s32_2_j, s32_2_eq]
      refine Sm.mk0 (Value.int .i64) y0 0 (by decide) fun p19 g19 l19 e1019 X19 y19 => ?_
      have E19 := E0.trans (X19.mono E0.size)
      exact tS113_3 (by omega) (by omega) 20000 _ (by omega) sz _ _ l19 5 _ E19 (y19.pick (.cons_cons _ .slnil))
     ·exact Sm.fin E0 (RO.nil _ _ _ _)
   ·rw [s32_1_j, s32_1_eq]
    refine Sm.i (fun k20 => ?_) (fun k20 => ?_)
    ·rw [s32_2_j, s32_2_eq]
     refine Sm.mk0 (Value.int .i64) y0 0 (by decide) fun p21 g21 l21 e1021 X21 y21 => ?_
     have E21 := E0.trans (X21.mono E0.size)
     exact tS113_3 (by omega) (by omega) 20000 _ (by omega) sz _ _ l21 1 _ E21 (y21.pick (.cons_cons _ .slnil))
    ·refine Sm.i (fun k22 => ?_) (fun k22 => ?_)
     ·rw [s32_2_j, s32_2_eq]
      refine Sm.mk0 (Value.int .i64) y0 0 (by decide) fun p23 g23 l23 e1023 X23 y23 => ?_
      have E23 := E0.trans (X23.mono E0.size)
      exact tS113_3 (by omega) (by omega) 20000 _ (by omega) sz _ _ l23 5 _ E23 (y23.pick (.cons_cons _ .slnil))
     ·exact Sm.fin E0 (RO.nil _ _ _ _)
def m114 (a : Ar) (p : Int) : Option (Vl) :=
 (rd a.ws p).bind fun w2 => (rd a.ws (IntKind.i64.wrap (p + 1))).bind fun w3 => some ⟨IntKind.i64.wrap w2, IntKind.i64.wrap w3⟩
theorem t114 {D : Nat} {h : AHeap} (hD : 1 ≤ D) {wv rv : Value} {a : Ar} (H : ArH h wv rv a) {pa : Nat} (RA : Row h pa (arCells wv rv a) ∧ pa < h.size) (p : Int) : SmR h (En Vl.v) (m114 a p) (call Tp Ms D 34 [ptr pa 0, .int .i64 p] h) := by
 obtain ⟨D, rfl⟩ : ∃ d, D = d + 1 := ⟨D - 1, by omega⟩
 rw [c34, e34]
 unfold m114
 have y0 := (Cx.start0 h).addF RA.1 RA.2
 have E0 := Ext.refl h.size h
 refine Sm.n y0 fun p1 g1 X1 y1 => ?_
 have E1 := E0.trans (X1.mono E0.size)
 refine Sm.b rfl ?_
 refine Sm.b rfl ?_
 refine Sm.b (y1.ldF 0 0 rfl rfl) ?_
 refine Sm.mo fun w2 e2 => ?_
 obtain ⟨q2, i2, l2⟩ := H.w.at e2
 refine Sm.b i2 ?_
 refine Sm.b (l2 _ E1) ?_
 refine Sm.b rfl ?_
 refine Sm.b rfl ?_
 refine Sm.b rfl ?_
 refine Sm.b (y1.ldF 0 0 rfl rfl) ?_
 refine Sm.mo fun w3 e1003 => ?_
 obtain ⟨q3, i3, l3⟩ := H.w.at e1003
 refine Sm.b i3 ?_
 refine Sm.b (l3 _ E1) ?_
 refine Sm.b rfl ?_
 refine Sm.st y1 0 rfl rfl rfl (by simp [splice]) fun g4 X4 y4 => ?_
 have E4 := E1.trans X4
 refine Sm.b (y4.ldON 0 rfl rfl) ?_
 exact Sm.fin E4 rfl
def m138 (t : Int) : Option (Int) :=
 bif t == 3 then some 1 else bif t == 4 then some 2 else bif t == 5 then some 4 else bif t == 6 then some 6 else bif t == 8 then some 3 else bif t == 9 then some 5 else some 0
theorem t138 {D : Nat} {h : AHeap} (hD : 1 ≤ D) (t : Int) : SmR h (En (Value.int .i64)) (m138 t) (call Tp Ms D 103 [.int .i64 t] h) := by
 obtain ⟨D, rfl⟩ : ∃ d, D = d + 1 := ⟨D - 1, by omega⟩
 rw [c103, e103]
 unfold m138
 have y0 := Cx.start0 h
 have E0 := Ext.refl h.size h
 refine Sm.i (fun k1 => ?_) (fun k1 => ?_)
 ·exact Sm.fin E0 rfl
 ·refine Sm.i (fun k2 => ?_) (fun k2 => ?_)
  ·exact Sm.fin E0 rfl
  ·refine Sm.i (fun k3 => ?_) (fun k3 => ?_)
   ·exact Sm.fin E0 rfl
   ·refine Sm.i (fun k4 => ?_) (fun k4 => ?_)
    ·exact Sm.fin E0 rfl
    ·refine Sm.i (fun k5 => ?_) (fun k5 => ?_)
     ·exact Sm.fin E0 rfl
     ·refine Sm.i (fun k6 => ?_) (fun k6 => ?_)
      ·exact Sm.fin E0 rfl
      ·exact Sm.fin E0 rfl
def m112 (v : Vl) : Option (Bool) :=
 (m138 v.t).bind fun r2 => some (r2 != 0)
theorem t112 {D : Nat} {h : AHeap} (hD : 2 ≤ D) (v : Vl) : SmR h (En Value.bool) (m112 v) (call Tp Ms D 104 [v.v] h) := by
 obtain ⟨D, rfl⟩ : ∃ d, D = d + 1 := ⟨D - 1, by omega⟩
 rw [c104, e104]
 unfold m112
 have y0 := Cx.start0 h
 have E0 := Ext.refl h.size h
 refine Sm.b rfl ?_
 refine Sm.n y0 fun p1 g1 X1 y1 => ?_
 have E1 := E0.trans (X1.mono E0.size)
 refine Sm.b rfl ?_
 refine Sm.b (y1.ldO 0 0 rfl rfl) ?_
 refine Sm.b rfl ?_
 refine Sm.c (t138 (by omega) v.t) fun r2 g2 e2 X2 => ?_
 have y2 := y1.ext X2
 have E2 := E1.trans (X2.mono E1.size)
 refine Sm.b rfl ?_
 exact Sm.fin E2 rfl
def m108 (v : Vl) : Option (Bool) :=
 bif v.t == 0 then some (v.n == 0) else bif v.t == 1 then (m63 v.n 0 1).bind fun r4 => some r4 else bif v.t == 2 then some true else bif v.t == 7 then (m63 v.n 1 20).bind fun r7 => some r7 else (m138 v.t).bind fun r8 => bif r8 != 0 then some (decide (v.n > 0)) else some false
theorem t108 {D : Nat} {h : AHeap} (hD : 2 ≤ D) (v : Vl) : SmR h (En Value.bool) (m108 v) (call Tp Ms D 89 [v.v] h) := by
 obtain ⟨D, rfl⟩ : ∃ d, D = d + 1 := ⟨D - 1, by omega⟩
 rw [c89, e89]
 unfold m108
 have y0 := Cx.start0 h
 have E0 := Ext.refl h.size h
 refine Sm.b rfl ?_
 refine Sm.n y0 fun p1 g1 X1 y1 => ?_
 have E1 := E0.trans (X1.mono E0.size)
 refine Sm.b rfl ?_
 refine Sm.b (y1.ldO 0 0 rfl rfl) ?_
 refine Sm.b rfl ?_
 refine Sm.i (fun k2 => ?_) (fun k2 => ?_)
 ·refine Sm.b rfl ?_
  refine Sm.b (y1.ldO 0 1 rfl rfl) ?_
  refine Sm.b rfl ?_
  exact Sm.fin E1 rfl
 ·refine Sm.i (fun k3 => ?_) (fun k3 => ?_)
  ·refine Sm.b rfl ?_
   refine Sm.b (y1.ldO 0 1 rfl rfl) ?_
   refine Sm.b rfl ?_
   refine Sm.c (t63 (by omega) v.n 0 1) fun r4 g4 e1004 X4 => ?_
   have y4 := y1.ext X4
   have E4 := E1.trans (X4.mono E1.size)
   refine Sm.b rfl ?_
   exact Sm.fin E4 rfl
  ·refine Sm.i (fun k5 => ?_) (fun k5 => ?_)
   ·exact Sm.fin E1 rfl
   ·refine Sm.i (fun k6 => ?_) (fun k6 => ?_)
    ·refine Sm.b rfl ?_
     refine Sm.b (y1.ldO 0 1 rfl rfl) ?_
     refine Sm.b rfl ?_
     refine Sm.c (t63 (by omega) v.n 1 20) fun r7 g7 e1007 X7 => ?_
     have y7 := y1.ext X7
     have E7 := E1.trans (X7.mono E1.size)
     refine Sm.b rfl ?_
     exact Sm.fin E7 rfl
    ·refine Sm.b rfl ?_
     refine Sm.b (y1.ldO 0 0 rfl rfl) ?_
     refine Sm.b rfl ?_
     refine Sm.c (t138 (by omega) v.t) fun r8 g8 e6 X8 => ?_
     have y8 := y1.ext X8
     have E8 := E1.trans (X8.mono E1.size)
     refine Sm.b rfl ?_
     refine Sm.i (fun k9 => ?_) (fun k9 => ?_)
     ·refine Sm.b rfl ?_
      refine Sm.b (y8.ldO 0 1 rfl rfl) ?_
      refine Sm.b rfl ?_
      exact Sm.fin E8 rfl
     ·exact Sm.fin E8 rfl
def m133 (ws : List Int) (i : Int) : Option ((Vl × Bool)) :=
 (m63 i 0 (IntKind.i64.wrap (((ws.length : Int)) - 2))).bind fun r2 => bif !r2 then some ((⟨0, 0⟩, false)) else (rd ws i).bind fun w5 => bif (decide (w5 > 9)) then some ((⟨0, 0⟩, false)) else (rd ws (IntKind.i64.wrap (i + 1))).bind fun w8 => (m108 ⟨IntKind.i64.wrap w5, IntKind.i64.wrap w8⟩).bind fun r11 => bif !r11 then some ((⟨0, 0⟩, false)) else some ((⟨IntKind.i64.wrap w5, IntKind.i64.wrap w8⟩, true))
theorem t133 {D : Nat} {h : AHeap} (hD : 3 ≤ D) {vws : Value} {ws : List Int} (Sws : SlI .u64 h vws ws) (i : Int) : SmR h (En eVB) (m133 ws i) (call Tp Ms D 97 [vws, .int .i64 i] h) := by
 obtain ⟨D, rfl⟩ : ∃ d, D = d + 1 := ⟨D - 1, by omega⟩
 rw [c97, e97]
 unfold m133
 have y0 := Cx.start0 h
 have E0 := Ext.refl h.size h
 refine Sm.n y0 fun p1 g1 X1 y1 => ?_
 have E1 := E0.trans (X1.mono E0.size)
 refine Sm.b Sws.len ?_
 refine Sm.b rfl ?_
 refine Sm.c (t63 (by omega) i 0 (IntKind.i64.wrap (((ws.length : Int)) - 2))) fun r2 g2 e2 X2 => ?_
 have y2 := y1.ext X2
 have E2 := E1.trans (X2.mono E1.size)
 refine Sm.b rfl ?_
 refine Sm.i (fun k3 => ?_) (fun k3 => ?_)
 ·rw [s97_0_j, s97_0_eq]
  refine Sm.ct rfl ?_
  refine Sm.st y2 0 rfl rfl rfl (by simp [splice]) fun g4 X4 y4 => ?_
  have E4 := E2.trans X4
  refine Sm.b (y4.ldON 0 rfl rfl) ?_
  refine Sm.ct rfl ?_
  exact Sm.fin E4 rfl
 ·refine Sm.mo fun w5 e1005 => ?_
  obtain ⟨q5, i5, l5⟩ := Sws.at e1005
  refine Sm.b i5 ?_
  refine Sm.b (l5 _ E2) ?_
  refine Sm.b rfl ?_
  rw [s97_0_j, s97_0_eq]
  refine Sm.i (fun k6 => ?_) (fun k6 => ?_)
  ·refine Sm.st y2 0 rfl rfl rfl (by simp [splice]) fun g7 X7 y7 => ?_
   have E7 := E2.trans X7
   refine Sm.b (y7.ldON 0 rfl rfl) ?_
   refine Sm.ct rfl ?_
   exact Sm.fin E7 rfl
  ·rw [s97_1_j, s97_1_eq]
   refine Sm.b i5 ?_
   refine Sm.b (l5 _ E2) ?_
   refine Sm.b rfl ?_
   refine Sm.mo fun w8 e6 => ?_
   obtain ⟨q8, i8, l8⟩ := Sws.at e6
   refine Sm.b i8 ?_
   refine Sm.b (l8 _ E2) ?_
   refine Sm.b rfl ?_
   refine Sm.n y2 fun p9 g9 X9 y9 => ?_
   have E9 := E2.trans (X9.mono E2.size)
   refine Sm.b (agI (l5 _ E9)) ?_
   refine Sm.ct rfl ?_
   refine Sm.b (congrArg some (vbI' _ _)) ?_
   refine Sm.ct rfl ?_
   refine Sm.b (agI (l8 _ E9)) ?_
   refine Sm.ct rfl ?_
   refine Sm.b (congrArg some (vbI' _ _)) ?_
   refine Sm.ct rfl ?_
   refine Sm.st y9 0 rfl rfl rfl (by simp [splice]) fun g10 X10 y10 => ?_
   have E10 := E9.trans X10
   refine Sm.b (y10.ldON 0 rfl rfl) ?_
   refine Sm.c (t108 (by omega) ⟨IntKind.i64.wrap w5, IntKind.i64.wrap w8⟩) fun r11 g11 e1011 X11 => ?_
   have y11 := y10.ext X11
   have E11 := E10.trans (X11.mono E10.size)
   refine Sm.b rfl ?_
   refine Sm.i (fun k12 => ?_) (fun k12 => ?_)
   ·refine Sm.st y11 1 rfl rfl rfl (by simp [splice]) fun g13 X13 y13 => ?_
    have E13 := E11.trans X13
    refine Sm.b (y13.ldON 1 rfl rfl) ?_
    refine Sm.ct rfl ?_
    exact Sm.fin E13 rfl
   ·refine Sm.b (y11.ldON 0 rfl rfl) ?_
    refine Sm.st y11 1 rfl rfl rfl (by simp [splice]) fun g14 X14 y14 => ?_
    have E14 := E11.trans X14
    refine Sm.b (y14.ldON 1 rfl rfl) ?_
    refine Sm.ct rfl ?_
    exact Sm.fin E14 rfl
def mS35_0 : Nat → Int → ByteArray → Int → Int → Option (Int)
 | 0, _, _, _, _ => none
 | f + 1, x5, x6, x30, x31 =>
  bif decide (x31 < x30) then (chr x6 x31).bind fun w2 => mS35_0 f (Int.tmod (IntKind.i64.wrap ((IntKind.i64.wrap (33 * x5)) + (IntKind.i64.wrap w2))) 1000003) x6 x30 (IntKind.i64.wrap (x31 + 1)) else some x5
theorem tS35_0 {D N : Nat} {h : AHeap} (hD : 0 ≤ D) (hN : 20000 ≤ N)  : ∀ (f n2 : Nat) (_ : f ≤ n2) (x5 : Int) (x6 : ByteArray) (x30 : Int) (x31 : Int) (g : AHeap) (_ : Ext h.size h g) (_ : Cx h.size g [] [] []), SmR h (En (Value.int .i64)) (mS35_0 f x5 x6 x30 x31) (s108_0 hk0 (call Tp Ms D) N n2 x5 x6 x30 x31 g) := by
 intro f
 induction f with
 | zero => intros; exact Sm.none
 | succ f ih =>
  intro n2 hf x5 x6 x30 x31 g0 E0 y0
  obtain ⟨n2, rfl⟩ : ∃ k, n2 = k + 1 := ⟨n2 - 1, by omega⟩
  rw [s108_0_eq, mS35_0]
  refine Sm.i (fun k1 => ?_) (fun k1 => ?_)
  ·refine Sm.mo fun w2 e2 => ?_
   refine Sm.b (chr_ok e2) ?_
   refine Sm.b rfl ?_
   exact ih _ (by omega) (Int.tmod (IntKind.i64.wrap ((IntKind.i64.wrap (33 * x5)) + (IntKind.i64.wrap w2))) 1000003) x6 x30 (IntKind.i64.wrap (x31 + 1)) _ E0 (y0.pick .slnil)
  ·exact Sm.fin E0 rfl
def m35 (a : Ar) (v : Vl) : Option (Int) :=
 bif v.t == 2 then some (IntKind.i64.wrap (Int.tmod (IntKind.u64.wrap v.n) 1000003)) else bif v.t == 7 then some (IntKind.i64.wrap (v.n + 7)) else bif v.t == 3 then (m71 a ⟨v.t, v.n⟩).bind fun r5 => (m70 a r5).bind fun r6 => mS35_0 20000 5381 r6 (ByteArray.size r6 : Int) 0 else bif v.t == 4 then bif (v.t == 4) then (m71 a ⟨v.t, v.n⟩).bind fun r9 => (m72 a r9).bind fun r10 => some r10.n else some v.n else bif v.t == 5 then bif (v.t == 5) then (m71 a ⟨v.t, v.n⟩).bind fun r13 => (m72 a r13).bind fun r14 => some r14.n else some v.n else bif (v.t == 6) then (m71 a ⟨v.t, v.n⟩).bind fun r16 => (m72 a r16).bind fun r17 => some r17.n else some v.n
theorem t35 {D : Nat} {h : AHeap} (hD : 20002 ≤ D) {wv rv : Value} {a : Ar} (H : ArH h wv rv a) {pa : Nat} (RA : Row h pa (arCells wv rv a) ∧ pa < h.size) (v : Vl) : SmR h (En (Value.int .i64)) (m35 a v) (call Tp Ms D 108 [ptr pa 0, v.v] h) := by
 obtain ⟨D, rfl⟩ : ∃ d, D = d + 1 := ⟨D - 1, by omega⟩
 rw [c108, e108]
 unfold m35
 have y0 := (Cx.start0 h).addF RA.1 RA.2
 have E0 := Ext.refl h.size h
 refine Sm.b rfl ?_
 refine Sm.n y0 fun p1 g1 X1 y1 => ?_
 have E1 := E0.trans (X1.mono E0.size)
 refine Sm.b rfl ?_
 refine Sm.b (y1.ldO 0 0 rfl rfl) ?_
 refine Sm.b rfl ?_
 refine Sm.i (fun k2 => ?_) (fun k2 => ?_)
 ·refine Sm.b rfl ?_
  refine Sm.b (y1.ldO 0 1 rfl rfl) ?_
  refine Sm.b rfl ?_
  exact Sm.fin E1 rfl
 ·refine Sm.i (fun k3 => ?_) (fun k3 => ?_)
  ·refine Sm.b rfl ?_
   refine Sm.b (y1.ldO 0 1 rfl rfl) ?_
   refine Sm.b rfl ?_
   exact Sm.fin E1 rfl
  ·refine Sm.i (fun k4 => ?_) (fun k4 => ?_)
   ·refine Sm.b (y1.ldON 0 rfl rfl) ?_
    refine Sm.c (t71 (by omega) (H.ext E1) (y1.rowF 0 rfl) ⟨v.t, v.n⟩) fun r5 g5 e1005 X5 => ?_
    have y5 := y1.ext X5
    have E5 := E1.trans (X5.mono E1.size)
    refine Sm.b rfl ?_
    refine Sm.c (t70 (by omega) (H.ext E5) (y5.rowF 0 rfl) r5) fun r6 g6 e4 X6 => ?_
    have y6 := y5.ext X6
    have E6 := E5.trans (X6.mono E5.size)
    refine Sm.b rfl ?_
    exact tS35_0 (by omega) (by omega) 20000 _ (by omega) 5381 r6 (ByteArray.size r6 : Int) 0 _ E6 (y6.pick (.cons _ .slnil)).noF
   ·refine Sm.i (fun k7 => ?_) (fun k7 => ?_)
    ·rw [s108_1_j, s108_1_eq]
     refine Sm.i (fun k8 => ?_) (fun k8 => ?_)
     ·refine Sm.b (y1.ldON 0 rfl rfl) ?_
      refine Sm.c (t71 (by omega) (H.ext E1) (y1.rowF 0 rfl) ⟨v.t, v.n⟩) fun r9 g9 e1009 X9 => ?_
      have y9 := y1.ext X9
      have E9 := E1.trans (X9.mono E1.size)
      refine Sm.b rfl ?_
      refine Sm.c (t72 (by omega) (H.ext E9) (y9.rowF 0 rfl) r9) fun r10 g10 e8 X10 => ?_
      have y10 := y9.ext X10
      have E10 := E9.trans (X10.mono E9.size)
      refine Sm.b rfl ?_
      refine Sm.b rfl ?_
      exact Sm.fin E10 rfl
     ·rw [s108_2_j, s108_2_eq]
      refine Sm.b rfl ?_
      refine Sm.b (y1.ldO 0 1 rfl rfl) ?_
      refine Sm.b rfl ?_
      exact Sm.fin E1 rfl
    ·refine Sm.i (fun k11 => ?_) (fun k11 => ?_)
     ·rw [s108_1_j, s108_1_eq]
      refine Sm.i (fun k12 => ?_) (fun k12 => ?_)
      ·refine Sm.b (y1.ldON 0 rfl rfl) ?_
       refine Sm.c (t71 (by omega) (H.ext E1) (y1.rowF 0 rfl) ⟨v.t, v.n⟩) fun r13 g13 e1013 X13 => ?_
       have y13 := y1.ext X13
       have E13 := E1.trans (X13.mono E1.size)
       refine Sm.b rfl ?_
       refine Sm.c (t72 (by omega) (H.ext E13) (y13.rowF 0 rfl) r13) fun r14 g14 e9 X14 => ?_
       have y14 := y13.ext X14
       have E14 := E13.trans (X14.mono E13.size)
       refine Sm.b rfl ?_
       refine Sm.b rfl ?_
       exact Sm.fin E14 rfl
      ·rw [s108_2_j, s108_2_eq]
       refine Sm.b rfl ?_
       refine Sm.b (y1.ldO 0 1 rfl rfl) ?_
       refine Sm.b rfl ?_
       exact Sm.fin E1 rfl
     ·rw [s108_1_j, s108_1_eq]
      refine Sm.i (fun k15 => ?_) (fun k15 => ?_)
      ·refine Sm.b (y1.ldON 0 rfl rfl) ?_
       refine Sm.c (t71 (by omega) (H.ext E1) (y1.rowF 0 rfl) ⟨v.t, v.n⟩) fun r16 g16 e1016 X16 => ?_
       have y16 := y1.ext X16
       have E16 := E1.trans (X16.mono E1.size)
       refine Sm.b rfl ?_
       refine Sm.c (t72 (by omega) (H.ext E16) (y16.rowF 0 rfl) r16) fun r17 g17 e1017 X17 => ?_
       have y17 := y16.ext X17
       have E17 := E16.trans (X17.mono E16.size)
       refine Sm.b rfl ?_
       refine Sm.b rfl ?_
       exact Sm.fin E17 rfl
      ·rw [s108_2_j, s108_2_eq]
       refine Sm.b rfl ?_
       refine Sm.b (y1.ldO 0 1 rfl rfl) ?_
       refine Sm.b rfl ?_
       exact Sm.fin E1 rfl
def m157 (a : Ar) (v : Vl) (w : Vl) : Option (Bool) :=
 bif v.t != w.t then some false else (m112 ⟨v.t, v.n⟩).bind fun r4 => bif !r4 then some (v.n == w.n) else (m71 a ⟨v.t, v.n⟩).bind fun r6 => (m71 a ⟨w.t, w.n⟩).bind fun r7 => bif r6 == r7 then some true else bif v.t == 3 then (m70 a r6).bind fun r10 => (m70 a r7).bind fun r11 => some (r10.toList == r11.toList) else some false
theorem t157 {D : Nat} {h : AHeap} (hD : 20002 ≤ D) {wv rv : Value} {a : Ar} (H : ArH h wv rv a) {pa : Nat} (RA : Row h pa (arCells wv rv a) ∧ pa < h.size) (v : Vl) (w : Vl) : SmR h (En Value.bool) (m157 a v w) (call Tp Ms D 109 [ptr pa 0, v.v, w.v] h) := by
 obtain ⟨D, rfl⟩ : ∃ d, D = d + 1 := ⟨D - 1, by omega⟩
 rw [c109, e109]
 unfold m157
 have y0 := (Cx.start0 h).addF RA.1 RA.2
 have E0 := Ext.refl h.size h
 refine Sm.b rfl ?_
 refine Sm.n y0 fun p1 g1 X1 y1 => ?_
 have E1 := E0.trans (X1.mono E0.size)
 refine Sm.b rfl ?_
 refine Sm.n y1 fun p2 g2 X2 y2 => ?_
 have E2 := E1.trans (X2.mono E1.size)
 refine Sm.b rfl ?_
 refine Sm.b (y2.ldO 1 0 rfl rfl) ?_
 refine Sm.b rfl ?_
 refine Sm.b rfl ?_
 refine Sm.b (y2.ldO 0 0 rfl rfl) ?_
 refine Sm.b rfl ?_
 refine Sm.i (fun k3 => ?_) (fun k3 => ?_)
 ·exact Sm.fin E2 rfl
 ·refine Sm.b (y2.ldON 1 rfl rfl) ?_
  refine Sm.c (t112 (by omega) ⟨v.t, v.n⟩) fun r4 g4 e1004 X4 => ?_
  have y4 := y2.ext X4
  have E4 := E2.trans (X4.mono E2.size)
  refine Sm.b rfl ?_
  refine Sm.i (fun k5 => ?_) (fun k5 => ?_)
  ·refine Sm.b rfl ?_
   refine Sm.b (y4.ldO 1 1 rfl rfl) ?_
   refine Sm.b rfl ?_
   refine Sm.b rfl ?_
   refine Sm.b (y4.ldO 0 1 rfl rfl) ?_
   refine Sm.b rfl ?_
   exact Sm.fin E4 rfl
  ·refine Sm.b (y4.ldON 1 rfl rfl) ?_
   refine Sm.b (y4.ldON 0 rfl rfl) ?_
   refine Sm.c (t71 (by omega) (H.ext E4) (y4.rowF 0 rfl) ⟨v.t, v.n⟩) fun r6 g6 e4 X6 => ?_
   have y6 := y4.ext X6
   have E6 := E4.trans (X6.mono E4.size)
   refine Sm.b rfl ?_
   refine Sm.b (agA (y6.ldON 0 rfl rfl) (vbVl ⟨w.t, w.n⟩)) ?_
   refine Sm.ct rfl ?_
   refine Sm.c (t71 (by omega) (H.ext E6) (y6.rowF 0 rfl) ⟨w.t, w.n⟩) fun r7 g7 e1007 X7 => ?_
   have y7 := y6.ext X7
   have E7 := E6.trans (X7.mono E6.size)
   refine Sm.b rfl ?_
   refine Sm.i (fun k8 => ?_) (fun k8 => ?_)
   ·exact Sm.fin E7 rfl
   ·refine Sm.b rfl ?_
    refine Sm.b (y7.ldO 1 0 rfl rfl) ?_
    refine Sm.b rfl ?_
    refine Sm.i (fun k9 => ?_) (fun k9 => ?_)
    ·refine Sm.c (t70 (by omega) (H.ext E7) (y7.rowF 0 rfl) r6) fun r10 g10 e8 X10 => ?_
     have y10 := y7.ext X10
     have E10 := E7.trans (X10.mono E7.size)
     refine Sm.b rfl ?_
     refine Sm.c (t70 (by omega) (H.ext E10) (y10.rowF 0 rfl) r7) fun r11 g11 e1011 X11 => ?_
     have y11 := y10.ext X11
     have E11 := E10.trans (X11.mono E10.size)
     refine Sm.b rfl ?_
     exact Sm.fin E11 rfl
    ·exact Sm.fin E7 rfl
def mS136_0 (a : Ar) : Nat → Int → Vl → Int → Int → Int → Int → Option ((Int × Bool))
 | 0, _, _, _, _, _, _ => none
 | f + 1, x1, zx5, x8, x9, x21, x22 =>
  bif decide (x22 < x21) then (m114 a (IntKind.i64.wrap ((IntKind.i64.wrap (x1 + 1)) + (IntKind.i64.wrap (4 * x9))))).bind fun r2 => bif r2.t == 0 then some ((x9, false)) else (m157 a ⟨r2.t, r2.n⟩ ⟨zx5.t, zx5.n⟩).bind fun r6 => bif r6 then some ((x9, true)) else (remM (IntKind.i64.wrap (x9 + 1)) x8).bind fun w8 => mS136_0 a f x1 ⟨zx5.t, zx5.n⟩ x8 w8 x21 (IntKind.i64.wrap (x22 + 1)) else some ((-1, false))
theorem tS136_0 {D N : Nat} {h : AHeap} (hD : 20002 ≤ D) (hN : 20000 ≤ N) {wv rv : Value} {a : Ar} (H : ArH h wv rv a) {pa : Nat}  : ∀ (f n2 : Nat) (_ : f ≤ n2) (x1 : Int) (px5 : Nat) (zx5 : Vl) (x8 : Int) (x9 : Int) (x21 : Int) (x22 : Int) (g : AHeap) (_ : Ext h.size h g) (_ : Cx h.size g [(pa, arCells wv rv a)] [⟨px5, px5, 42, true, [.int .i64 zx5.t, .int .i64 zx5.n]⟩] []), SmR h (En eIB) (mS136_0 a f x1 zx5 x8 x9 x21 x22) (s101_0 hk0 (call Tp Ms D) N n2 (ptr pa 0) x1 (ptr px5 0) x8 x9 x21 x22 g) := by
 intro f
 induction f with
 | zero => intros; exact Sm.none
 | succ f ih =>
  intro n2 hf x1 px5 zx5 x8 x9 x21 x22 g0 E0 y0
  obtain ⟨n2, rfl⟩ : ∃ k, n2 = k + 1 := ⟨n2 - 1, by omega⟩
  rw [s101_0_eq, mS136_0]
  refine Sm.i (fun k1 => ?_) (fun k1 => ?_)
  ·refine Sm.c (t114 (by omega) (H.ext E0) (y0.rowF 0 rfl) (IntKind.i64.wrap ((IntKind.i64.wrap (x1 + 1)) + (IntKind.i64.wrap (4 * x9))))) fun r2 g2 e2 X2 => ?_
   have y2 := y0.ext X2
   have E2 := E0.trans (X2.mono E0.size)
   refine Sm.n y2 fun p3 g3 X3 y3 => ?_
   have E3 := E2.trans (X3.mono E2.size)
   refine Sm.st y3 0 rfl rfl rfl (by simp [splice]) fun g4 X4 y4 => ?_
   have E4 := E3.trans X4
   refine Sm.b rfl ?_
   refine Sm.b (y4.ldO 0 0 rfl rfl) ?_
   refine Sm.b rfl ?_
   refine Sm.i (fun k5 => ?_) (fun k5 => ?_)
   ·exact Sm.fin E4 rfl
   ·refine Sm.b (y4.ldON 0 rfl rfl) ?_
    refine Sm.b (y4.ldON 1 rfl rfl) ?_
    refine Sm.c (t157 (by omega) (H.ext E4) (y4.rowF 0 rfl) ⟨r2.t, r2.n⟩ ⟨zx5.t, zx5.n⟩) fun r6 g6 e4 X6 => ?_
    have y6 := y4.ext X6
    have E6 := E4.trans (X6.mono E4.size)
    refine Sm.b rfl ?_
    refine Sm.i (fun k7 => ?_) (fun k7 => ?_)
    ·exact Sm.fin E6 rfl
    ·refine Sm.mo fun w8 e6 => ?_
     refine Sm.b (rem_ok e6) ?_
     refine Sm.b rfl ?_
     exact ih _ (by omega) x1 _ ⟨zx5.t, zx5.n⟩ x8 w8 x21 (IntKind.i64.wrap (x22 + 1)) _ E6 (y6.pick (.cons _ (.cons_cons _ .slnil)))
  ·exact Sm.fin E0 rfl
def m136 (a : Ar) (b : Int) (key : Vl) : Option ((Int × Bool)) :=
 (m72 a b).bind fun r2 => (m35 a ⟨key.t, key.n⟩).bind fun r3 => (remM r3 (IntKind.i64.wrap (Int.tdiv r2.s 4))).bind fun w4 => mS136_0 a 20000 b ⟨key.t, key.n⟩ (IntKind.i64.wrap (Int.tdiv r2.s 4)) w4 (IntKind.i64.wrap (Int.tdiv r2.s 4)) 0
theorem t136 {D : Nat} {h : AHeap} (hD : 20003 ≤ D) {wv rv : Value} {a : Ar} (H : ArH h wv rv a) {pa : Nat} (RA : Row h pa (arCells wv rv a) ∧ pa < h.size) (b : Int) (key : Vl) : SmR h (En eIB) (m136 a b key) (call Tp Ms D 101 [ptr pa 0, .int .i64 b, key.v] h) := by
 obtain ⟨D, rfl⟩ : ∃ d, D = d + 1 := ⟨D - 1, by omega⟩
 rw [c101, e101]
 unfold m136
 have y0 := (Cx.start0 h).addF RA.1 RA.2
 have E0 := Ext.refl h.size h
 refine Sm.b rfl ?_
 refine Sm.n y0 fun p1 g1 X1 y1 => ?_
 have E1 := E0.trans (X1.mono E0.size)
 refine Sm.c (t72 (by omega) (H.ext E1) (y1.rowF 0 rfl) b) fun r2 g2 e2 X2 => ?_
 have y2 := y1.ext X2
 have E2 := E1.trans (X2.mono E1.size)
 refine Sm.b rfl ?_
 refine Sm.b rfl ?_
 refine Sm.b (y2.ldON 0 rfl rfl) ?_
 refine Sm.c (t35 (by omega) (H.ext E2) (y2.rowF 0 rfl) ⟨key.t, key.n⟩) fun r3 g3 e1003 X3 => ?_
 have y3 := y2.ext X3
 have E3 := E2.trans (X3.mono E2.size)
 refine Sm.b rfl ?_
 refine Sm.mo fun w4 e1004 => ?_
 refine Sm.b (rem_ok e1004) ?_
 refine Sm.b rfl ?_
 exact tS136_0 (by omega) (by omega) H 20000 _ (by omega) b _ ⟨key.t, key.n⟩ (IntKind.i64.wrap (Int.tdiv r2.s 4)) w4 (IntKind.i64.wrap (Int.tdiv r2.s 4)) 0 _ E3 (y3.pick (.cons_cons _ .slnil))
def mS34_0 (a : Ar) : Nat → List Int → Int → Int → Option (Bool)
 | 0, _, _, _ => none
 | f + 1, mk, x8, x9 =>
  bif decide (x9 < x8) then (rd mk x9).bind fun w2 => (m63 w2 0 (IntKind.i64.wrap (((a.rs.length : Int)) - 1))).bind fun r3 => bif !r3 then some false else mS34_0 a f mk x8 (IntKind.i64.wrap (x9 + 1)) else some true
def m34 (a : Ar) (mk : List Int) : Option (Bool) :=
 mS34_0 a 20000 mk (mk.length : Int) 0
end Go.Proofs.YtnjnggejbpkgoaaGreat
