import Derived.Test.YtnjnggejbpkgoaaGreatXAH
set_option linter.unusedSimpArgs false
set_option linter.unusedVariables false
/- Arenas (printed by gw.py). -/
namespace Go.Proofs.YtnjnggejbpkgoaaGreat
open Go Go.AH Go.AM
def m109 (a : Ar) (is : List Int) (v : Vl) (p : Int) : Option (Bool) :=
 (m112 ⟨v.t, v.n⟩).bind fun r2 => bif !r2 then some true else bif decide (v.n ≥ ((is.length : Int))) then some false else (rd is v.n).bind fun w5 => bif decide (p < 0) then bif w5 == 0 then some false else bif w5 == 1 then bif (!true) then some false else bif w5 != 1 then bif decide (p < 0) then some false else bif !a.cyc then some false else bif (decide (p < a.scan)) then some false else (m71 a ⟨v.t, v.n⟩).bind fun r14 => (m72 a r14).bind fun r15 => (m138 v.t).bind fun r16 => some (r15.k == r16) else (m71 a ⟨v.t, v.n⟩).bind fun r17 => (m72 a r17).bind fun r18 => (m138 v.t).bind fun r19 => some (r18.k == r19) else bif w5 != 1 then bif decide (p < 0) then some false else bif !a.cyc then some false else bif (decide (p < a.scan)) then some false else (m71 a ⟨v.t, v.n⟩).bind fun r24 => (m72 a r24).bind fun r25 => (m138 v.t).bind fun r26 => some (r25.k == r26) else (m71 a ⟨v.t, v.n⟩).bind fun r27 => (m72 a r27).bind fun r28 => (m138 v.t).bind fun r29 => some (r28.k == r29) else (rd is p).bind fun w30 => bif w5 == 0 then some false else bif w5 == 1 then bif (!(w30 == 1)) then some false else bif w5 != 1 then bif (w30 == 1) then bif decide (p < 0) then some false else bif !a.cyc then some false else bif (decide (p < a.scan)) then some false else (m71 a ⟨v.t, v.n⟩).bind fun r39 => (m72 a r39).bind fun r40 => (m138 v.t).bind fun r41 => some (r40.k == r41) else (m71 a ⟨v.t, v.n⟩).bind fun r42 => (m72 a r42).bind fun r43 => (m138 v.t).bind fun r44 => some (r43.k == r44) else (m71 a ⟨v.t, v.n⟩).bind fun r45 => (m72 a r45).bind fun r46 => (m138 v.t).bind fun r47 => some (r46.k == r47) else bif w5 != 1 then bif (w30 == 1) then bif decide (p < 0) then some false else bif !a.cyc then some false else bif (decide (p < a.scan)) then some false else (m71 a ⟨v.t, v.n⟩).bind fun r53 => (m72 a r53).bind fun r54 => (m138 v.t).bind fun r55 => some (r54.k == r55) else (m71 a ⟨v.t, v.n⟩).bind fun r56 => (m72 a r56).bind fun r57 => (m138 v.t).bind fun r58 => some (r57.k == r58) else (m71 a ⟨v.t, v.n⟩).bind fun r59 => (m72 a r59).bind fun r60 => (m138 v.t).bind fun r61 => some (r60.k == r61)
theorem t109 {D : Nat} {h : AHeap} (hD : 6 ≤ D) {wv rv : Value} {a : Ar} (H : ArH h wv rv a) {pa : Nat} (RA : Row h pa (arCells wv rv a) ∧ pa < h.size) {vis ms mb : Value} {is : List Int} (Sis : SlI .u8 h vis is) {ps : Nat} (RS : Row h ps [ptr pa 0, vis, ms, mb] ∧ ps < h.size) (v : Vl) (p : Int) : SmR h (En Value.bool) (m109 a is v p) (call Tp Ms D 90 [ptr ps 0, v.v, .int .i64 p] h) := by
 obtain ⟨D, rfl⟩ : ∃ d, D = d + 1 := ⟨D - 1, by omega⟩
 rw [c90, e90]
 unfold m109
 have y0 := ((Cx.start0 h).addF RA.1 RA.2).addF RS.1 RS.2
 have E0 := Ext.refl h.size h
 refine Sm.b rfl ?_
 refine Sm.n y0 fun p1 g1 X1 y1 => ?_
 have E1 := E0.trans (X1.mono E0.size)
 refine Sm.b (y1.ldON 0 rfl rfl) ?_
 refine Sm.c (t112 (by omega) ⟨v.t, v.n⟩) fun r2 g2 e2 X2 => ?_
 have y2 := y1.ext X2
 have E2 := E1.trans (X2.mono E1.size)
 refine Sm.b rfl ?_
 refine Sm.i (fun k3 => ?_) (fun k3 => ?_)
 ·exact Sm.fin E2 rfl
 ·refine Sm.b rfl ?_
  refine Sm.b (y2.ldO 0 1 rfl rfl) ?_
  refine Sm.b rfl ?_
  refine Sm.b rfl ?_
  refine Sm.b rfl ?_
  refine Sm.b (y2.ldF 0 1 rfl rfl) ?_
  refine Sm.b Sis.len ?_
  refine Sm.b rfl ?_
  refine Sm.i (fun k4 => ?_) (fun k4 => ?_)
  ·exact Sm.fin E2 rfl
  ·refine Sm.b rfl ?_
   refine Sm.b rfl ?_
   refine Sm.b (y2.ldF 0 1 rfl rfl) ?_
   refine Sm.b rfl ?_
   refine Sm.b (y2.ldO 0 1 rfl rfl) ?_
   refine Sm.b rfl ?_
   refine Sm.mo fun w5 e1005 => ?_
   obtain ⟨q5, i5, l5⟩ := Sis.at e1005
   refine Sm.b i5 ?_
   refine Sm.b (l5 _ E2) ?_
   refine Sm.b rfl ?_
   refine Sm.i (fun k6 => ?_) (fun k6 => ?_)
   ·rw [s90_0_j, s90_0_eq]
    refine Sm.i (fun k7 => ?_) (fun k7 => ?_)
    ·exact Sm.fin E2 rfl
    ·refine Sm.i (fun k8 => ?_) (fun k8 => ?_)
     ·rw [s90_1_j, s90_1_eq]
      refine Sm.i (fun k9 => ?_) (fun k9 => ?_)
      ·exact Sm.fin E2 rfl
      ·refine Sm.i (fun k10 => ?_) (fun k10 => ?_)
       ·refine Sm.ct rfl ?_
        refine Sm.i (fun k11 => ?_) (fun k11 => ?_)
        ·rw [s90_2_j, s90_2_eq]
         refine Sm.ct rfl ?_
         exact Sm.fin E2 rfl
        ·refine Sm.b rfl ?_
         refine Sm.b rfl ?_
         refine Sm.b (y2.ldF 0 0 rfl rfl) ?_
         refine Sm.b rfl ?_
         refine Sm.b rfl ?_
         refine Sm.b (y2.ldF 1 4 rfl rfl) ?_
         refine Sm.b rfl ?_
         refine Sm.i (fun k12 => ?_) (fun k12 => ?_)
         ·rw [s90_2_j, s90_2_eq]
          refine Sm.ct rfl ?_
          exact Sm.fin E2 rfl
         ·refine Sm.b rfl ?_
          refine Sm.b rfl ?_
          refine Sm.b (y2.ldF 0 0 rfl rfl) ?_
          refine Sm.b rfl ?_
          refine Sm.b rfl ?_
          refine Sm.b (y2.ldF 1 5 rfl rfl) ?_
          refine Sm.b rfl ?_
          rw [s90_2_j, s90_2_eq]
          refine Sm.i (fun k13 => ?_) (fun k13 => ?_)
          ·exact Sm.fin E2 rfl
          ·rw [s90_3_j, s90_3_eq]
           refine Sm.b rfl ?_
           refine Sm.b rfl ?_
           refine Sm.b (y2.ldF 0 0 rfl rfl) ?_
           refine Sm.b rfl ?_
           refine Sm.b rfl ?_
           refine Sm.b (y2.ldF 0 0 rfl rfl) ?_
           refine Sm.b (y2.ldON 0 rfl rfl) ?_
           refine Sm.b rfl ?_
           refine Sm.b (y2.ldO 0 0 rfl rfl) ?_
           refine Sm.b rfl ?_
           refine Sm.c (t71 (by omega) (H.ext E2) (y2.rowF 1 rfl) ⟨v.t, v.n⟩) fun r14 g14 e9 X14 => ?_
           have y14 := y2.ext X14
           have E14 := E2.trans (X14.mono E2.size)
           refine Sm.b rfl ?_
           refine Sm.b (agA (y14.ldF 0 0 rfl rfl) (vbP _ _)) ?_
           refine Sm.ct rfl ?_
           refine Sm.b (agI (y14.ldO 0 0 rfl rfl)) ?_
           refine Sm.ct rfl ?_
           refine Sm.c (t72 (by omega) (H.ext E14) (y14.rowF 1 rfl) r14) fun r15 g15 e1015 X15 => ?_
           have y15 := y14.ext X15
           have E15 := E14.trans (X15.mono E14.size)
           refine Sm.b (agI (y15.ldO 0 0 rfl rfl)) ?_
           refine Sm.ct rfl ?_
           refine Sm.b rfl ?_
           refine Sm.b rfl ?_
           refine Sm.c (t138 (by omega) v.t) fun r16 g16 e1016 X16 => ?_
           have y16 := y15.ext X16
           have E16 := E15.trans (X16.mono E15.size)
           refine Sm.b rfl ?_
           exact Sm.fin E16 rfl
       ·rw [s90_2_j, s90_2_eq]
        refine Sm.cf rfl ?_
        rw [s90_3_j, s90_3_eq]
        refine Sm.b rfl ?_
        refine Sm.b rfl ?_
        refine Sm.b (y2.ldF 0 0 rfl rfl) ?_
        refine Sm.b rfl ?_
        refine Sm.b rfl ?_
        refine Sm.b (y2.ldF 0 0 rfl rfl) ?_
        refine Sm.b (y2.ldON 0 rfl rfl) ?_
        refine Sm.b rfl ?_
        refine Sm.b (y2.ldO 0 0 rfl rfl) ?_
        refine Sm.b rfl ?_
        refine Sm.c (t71 (by omega) (H.ext E2) (y2.rowF 1 rfl) ⟨v.t, v.n⟩) fun r17 g17 e1017 X17 => ?_
        have y17 := y2.ext X17
        have E17 := E2.trans (X17.mono E2.size)
        refine Sm.b rfl ?_
        refine Sm.b (agA (y17.ldF 0 0 rfl rfl) (vbP _ _)) ?_
        refine Sm.ct rfl ?_
        refine Sm.b (agI (y17.ldO 0 0 rfl rfl)) ?_
        refine Sm.ct rfl ?_
        refine Sm.c (t72 (by omega) (H.ext E17) (y17.rowF 1 rfl) r17) fun r18 g18 e1018 X18 => ?_
        have y18 := y17.ext X18
        have E18 := E17.trans (X18.mono E17.size)
        refine Sm.b (agI (y18.ldO 0 0 rfl rfl)) ?_
        refine Sm.ct rfl ?_
        refine Sm.b rfl ?_
        refine Sm.b rfl ?_
        refine Sm.c (t138 (by omega) v.t) fun r19 g19 e1019 X19 => ?_
        have y19 := y18.ext X19
        have E19 := E18.trans (X19.mono E18.size)
        refine Sm.b rfl ?_
        exact Sm.fin E19 rfl
     ·rw [s90_1_j, s90_1_eq]
      refine Sm.cf rfl ?_
      refine Sm.i (fun k20 => ?_) (fun k20 => ?_)
      ·refine Sm.ct rfl ?_
       refine Sm.i (fun k21 => ?_) (fun k21 => ?_)
       ·rw [s90_2_j, s90_2_eq]
        refine Sm.ct rfl ?_
        exact Sm.fin E2 rfl
       ·refine Sm.b rfl ?_
        refine Sm.b rfl ?_
        refine Sm.b (y2.ldF 0 0 rfl rfl) ?_
        refine Sm.b rfl ?_
        refine Sm.b rfl ?_
        refine Sm.b (y2.ldF 1 4 rfl rfl) ?_
        refine Sm.b rfl ?_
        refine Sm.i (fun k22 => ?_) (fun k22 => ?_)
        ·rw [s90_2_j, s90_2_eq]
         refine Sm.ct rfl ?_
         exact Sm.fin E2 rfl
        ·refine Sm.b rfl ?_
         refine Sm.b rfl ?_
         refine Sm.b (y2.ldF 0 0 rfl rfl) ?_
         refine Sm.b rfl ?_
         refine Sm.b rfl ?_
         refine Sm.b (y2.ldF 1 5 rfl rfl) ?_
         refine Sm.b rfl ?_
         rw [s90_2_j, s90_2_eq]
         refine Sm.i (fun k23 => ?_) (fun k23 => ?_)
         ·exact Sm.fin E2 rfl
         ·rw [s90_3_j, s90_3_eq]
          refine Sm.b rfl ?_
          refine Sm.b rfl ?_
          refine Sm.b (y2.ldF 0 0 rfl rfl) ?_
          refine Sm.b rfl ?_
          refine Sm.b rfl ?_
          refine Sm.b (y2.ldF 0 0 rfl rfl) ?_
          refine Sm.b (y2.ldON 0 rfl rfl) ?_
          refine Sm.b rfl ?_
          refine Sm.b (y2.ldO 0 0 rfl rfl) ?_
          refine Sm.b rfl ?_
          refine Sm.c (t71 (by omega) (H.ext E2) (y2.rowF 1 rfl) ⟨v.t, v.n⟩) fun r24 g24 e1024 X24 => ?_
          have y24 := y2.ext X24
          have E24 := E2.trans (X24.mono E2.size)
          refine Sm.b rfl ?_
          refine Sm.b (agA (y24.ldF 0 0 rfl rfl) (vbP _ _)) ?_
          refine Sm.ct rfl ?_
          refine Sm.b (agI (y24.ldO 0 0 rfl rfl)) ?_
          refine Sm.ct rfl ?_
          refine Sm.c (t72 (by omega) (H.ext E24) (y24.rowF 1 rfl) r24) fun r25 g25 e1025 X25 => ?_
          have y25 := y24.ext X25
          have E25 := E24.trans (X25.mono E24.size)
          refine Sm.b (agI (y25.ldO 0 0 rfl rfl)) ?_
          refine Sm.ct rfl ?_
          refine Sm.b rfl ?_
          refine Sm.b rfl ?_
          refine Sm.c (t138 (by omega) v.t) fun r26 g26 e11 X26 => ?_
          have y26 := y25.ext X26
          have E26 := E25.trans (X26.mono E25.size)
          refine Sm.b rfl ?_
          exact Sm.fin E26 rfl
      ·rw [s90_2_j, s90_2_eq]
       refine Sm.cf rfl ?_
       rw [s90_3_j, s90_3_eq]
       refine Sm.b rfl ?_
       refine Sm.b rfl ?_
       refine Sm.b (y2.ldF 0 0 rfl rfl) ?_
       refine Sm.b rfl ?_
       refine Sm.b rfl ?_
       refine Sm.b (y2.ldF 0 0 rfl rfl) ?_
       refine Sm.b (y2.ldON 0 rfl rfl) ?_
       refine Sm.b rfl ?_
       refine Sm.b (y2.ldO 0 0 rfl rfl) ?_
       refine Sm.b rfl ?_
       refine Sm.c (t71 (by omega) (H.ext E2) (y2.rowF 1 rfl) ⟨v.t, v.n⟩) fun r27 g27 e12 X27 => ?_
       have y27 := y2.ext X27
       have E27 := E2.trans (X27.mono E2.size)
       refine Sm.b rfl ?_
       refine Sm.b (agA (y27.ldF 0 0 rfl rfl) (vbP _ _)) ?_
       refine Sm.ct rfl ?_
       refine Sm.b (agI (y27.ldO 0 0 rfl rfl)) ?_
       refine Sm.ct rfl ?_
       refine Sm.c (t72 (by omega) (H.ext E27) (y27.rowF 1 rfl) r27) fun r28 g28 e13 X28 => ?_
       have y28 := y27.ext X28
       have E28 := E27.trans (X28.mono E27.size)
       refine Sm.b (agI (y28.ldO 0 0 rfl rfl)) ?_
       refine Sm.ct rfl ?_
       refine Sm.b rfl ?_
       refine Sm.b rfl ?_
       refine Sm.c (t138 (by omega) v.t) fun r29 g29 e1029 X29 => ?_
       have y29 := y28.ext X29
       have E29 := E28.trans (X29.mono E28.size)
       refine Sm.b rfl ?_
       exact Sm.fin E29 rfl
   ·refine Sm.b rfl ?_
    refine Sm.b rfl ?_
    refine Sm.b (y2.ldF 0 1 rfl rfl) ?_
    refine Sm.mo fun w30 e95 => ?_
    obtain ⟨q30, i30, l30⟩ := Sis.at e95
    refine Sm.b i30 ?_
    refine Sm.b (l30 _ E2) ?_
    refine Sm.b rfl ?_
    rw [s90_0_j, s90_0_eq]
    refine Sm.i (fun k31 => ?_) (fun k31 => ?_)
    ·exact Sm.fin E2 rfl
    ·refine Sm.i (fun k32 => ?_) (fun k32 => ?_)
     ·rw [s90_1_j, s90_1_eq]
      refine Sm.i (fun k33 => ?_) (fun k33 => ?_)
      ·exact Sm.fin E2 rfl
      ·refine Sm.i (fun k34 => ?_) (fun k34 => ?_)
       ·refine Sm.i (fun k35 => ?_) (fun k35 => ?_)
        ·refine Sm.i (fun k36 => ?_) (fun k36 => ?_)
         ·rw [s90_2_j, s90_2_eq]
          refine Sm.ct rfl ?_
          exact Sm.fin E2 rfl
         ·refine Sm.b rfl ?_
          refine Sm.b rfl ?_
          refine Sm.b (y2.ldF 0 0 rfl rfl) ?_
          refine Sm.b rfl ?_
          refine Sm.b rfl ?_
          refine Sm.b (y2.ldF 1 4 rfl rfl) ?_
          refine Sm.b rfl ?_
          refine Sm.i (fun k37 => ?_) (fun k37 => ?_)
          ·rw [s90_2_j, s90_2_eq]
           refine Sm.ct rfl ?_
           exact Sm.fin E2 rfl
          ·refine Sm.b rfl ?_
           refine Sm.b rfl ?_
           refine Sm.b (y2.ldF 0 0 rfl rfl) ?_
           refine Sm.b rfl ?_
           refine Sm.b rfl ?_
           refine Sm.b (y2.ldF 1 5 rfl rfl) ?_
           refine Sm.b rfl ?_
           rw [s90_2_j, s90_2_eq]
           refine Sm.i (fun k38 => ?_) (fun k38 => ?_)
           ·exact Sm.fin E2 rfl
           ·rw [s90_3_j, s90_3_eq]
            refine Sm.b rfl ?_
            refine Sm.b rfl ?_
            refine Sm.b (y2.ldF 0 0 rfl rfl) ?_
            refine Sm.b rfl ?_
            refine Sm.b rfl ?_
            refine Sm.b (y2.ldF 0 0 rfl rfl) ?_
            refine Sm.b (y2.ldON 0 rfl rfl) ?_
            refine Sm.b rfl ?_
            refine Sm.b (y2.ldO 0 0 rfl rfl) ?_
            refine Sm.b rfl ?_
            refine Sm.c (t71 (by omega) (H.ext E2) (y2.rowF 1 rfl) ⟨v.t, v.n⟩) fun r39 g39 e1039 X39 => ?_
            have y39 := y2.ext X39
            have E39 := E2.trans (X39.mono E2.size)
            refine Sm.b rfl ?_
            refine Sm.b (agA (y39.ldF 0 0 rfl rfl) (vbP _ _)) ?_
            refine Sm.ct rfl ?_
            refine Sm.b (agI (y39.ldO 0 0 rfl rfl)) ?_
            refine Sm.ct rfl ?_
            refine Sm.c (t72 (by omega) (H.ext E39) (y39.rowF 1 rfl) r39) fun r40 g40 e38 X40 => ?_
            have y40 := y39.ext X40
            have E40 := E39.trans (X40.mono E39.size)
            refine Sm.b (agI (y40.ldO 0 0 rfl rfl)) ?_
            refine Sm.ct rfl ?_
            refine Sm.b rfl ?_
            refine Sm.b rfl ?_
            refine Sm.c (t138 (by omega) v.t) fun r41 g41 e39 X41 => ?_
            have y41 := y40.ext X41
            have E41 := E40.trans (X41.mono E40.size)
            refine Sm.b rfl ?_
            exact Sm.fin E41 rfl
        ·rw [s90_2_j, s90_2_eq]
         refine Sm.cf rfl ?_
         rw [s90_3_j, s90_3_eq]
         refine Sm.b rfl ?_
         refine Sm.b rfl ?_
         refine Sm.b (y2.ldF 0 0 rfl rfl) ?_
         refine Sm.b rfl ?_
         refine Sm.b rfl ?_
         refine Sm.b (y2.ldF 0 0 rfl rfl) ?_
         refine Sm.b (y2.ldON 0 rfl rfl) ?_
         refine Sm.b rfl ?_
         refine Sm.b (y2.ldO 0 0 rfl rfl) ?_
         refine Sm.b rfl ?_
         refine Sm.c (t71 (by omega) (H.ext E2) (y2.rowF 1 rfl) ⟨v.t, v.n⟩) fun r42 g42 e1042 X42 => ?_
         have y42 := y2.ext X42
         have E42 := E2.trans (X42.mono E2.size)
         refine Sm.b rfl ?_
         refine Sm.b (agA (y42.ldF 0 0 rfl rfl) (vbP _ _)) ?_
         refine Sm.ct rfl ?_
         refine Sm.b (agI (y42.ldO 0 0 rfl rfl)) ?_
         refine Sm.ct rfl ?_
         refine Sm.c (t72 (by omega) (H.ext E42) (y42.rowF 1 rfl) r42) fun r43 g43 e1043 X43 => ?_
         have y43 := y42.ext X43
         have E43 := E42.trans (X43.mono E42.size)
         refine Sm.b (agI (y43.ldO 0 0 rfl rfl)) ?_
         refine Sm.ct rfl ?_
         refine Sm.b rfl ?_
         refine Sm.b rfl ?_
         refine Sm.c (t138 (by omega) v.t) fun r44 g44 e1044 X44 => ?_
         have y44 := y43.ext X44
         have E44 := E43.trans (X44.mono E43.size)
         refine Sm.b rfl ?_
         exact Sm.fin E44 rfl
       ·rw [s90_2_j, s90_2_eq]
        refine Sm.cf rfl ?_
        rw [s90_3_j, s90_3_eq]
        refine Sm.b rfl ?_
        refine Sm.b rfl ?_
        refine Sm.b (y2.ldF 0 0 rfl rfl) ?_
        refine Sm.b rfl ?_
        refine Sm.b rfl ?_
        refine Sm.b (y2.ldF 0 0 rfl rfl) ?_
        refine Sm.b (y2.ldON 0 rfl rfl) ?_
        refine Sm.b rfl ?_
        refine Sm.b (y2.ldO 0 0 rfl rfl) ?_
        refine Sm.b rfl ?_
        refine Sm.c (t71 (by omega) (H.ext E2) (y2.rowF 1 rfl) ⟨v.t, v.n⟩) fun r45 g45 e1045 X45 => ?_
        have y45 := y2.ext X45
        have E45 := E2.trans (X45.mono E2.size)
        refine Sm.b rfl ?_
        refine Sm.b (agA (y45.ldF 0 0 rfl rfl) (vbP _ _)) ?_
        refine Sm.ct rfl ?_
        refine Sm.b (agI (y45.ldO 0 0 rfl rfl)) ?_
        refine Sm.ct rfl ?_
        refine Sm.c (t72 (by omega) (H.ext E45) (y45.rowF 1 rfl) r45) fun r46 g46 e1046 X46 => ?_
        have y46 := y45.ext X46
        have E46 := E45.trans (X46.mono E45.size)
        refine Sm.b (agI (y46.ldO 0 0 rfl rfl)) ?_
        refine Sm.ct rfl ?_
        refine Sm.b rfl ?_
        refine Sm.b rfl ?_
        refine Sm.c (t138 (by omega) v.t) fun r47 g47 e1047 X47 => ?_
        have y47 := y46.ext X47
        have E47 := E46.trans (X47.mono E46.size)
        refine Sm.b rfl ?_
        exact Sm.fin E47 rfl
     ·rw [s90_1_j, s90_1_eq]
      refine Sm.cf rfl ?_
      refine Sm.i (fun k48 => ?_) (fun k48 => ?_)
      ·refine Sm.i (fun k49 => ?_) (fun k49 => ?_)
       ·refine Sm.i (fun k50 => ?_) (fun k50 => ?_)
        ·rw [s90_2_j, s90_2_eq]
         refine Sm.ct rfl ?_
         exact Sm.fin E2 rfl
        ·refine Sm.b rfl ?_
         refine Sm.b rfl ?_
         refine Sm.b (y2.ldF 0 0 rfl rfl) ?_
         refine Sm.b rfl ?_
         refine Sm.b rfl ?_
         refine Sm.b (y2.ldF 1 4 rfl rfl) ?_
         refine Sm.b rfl ?_
         refine Sm.i (fun k51 => ?_) (fun k51 => ?_)
         ·rw [s90_2_j, s90_2_eq]
          refine Sm.ct rfl ?_
          exact Sm.fin E2 rfl
         ·refine Sm.b rfl ?_
          refine Sm.b rfl ?_
          refine Sm.b (y2.ldF 0 0 rfl rfl) ?_
          refine Sm.b rfl ?_
          refine Sm.b rfl ?_
          refine Sm.b (y2.ldF 1 5 rfl rfl) ?_
          refine Sm.b rfl ?_
          rw [s90_2_j, s90_2_eq]
          refine Sm.i (fun k52 => ?_) (fun k52 => ?_)
          ·exact Sm.fin E2 rfl
          ·rw [s90_3_j, s90_3_eq]
           refine Sm.b rfl ?_
           refine Sm.b rfl ?_
           refine Sm.b (y2.ldF 0 0 rfl rfl) ?_
           refine Sm.b rfl ?_
           refine Sm.b rfl ?_
           refine Sm.b (y2.ldF 0 0 rfl rfl) ?_
           refine Sm.b (y2.ldON 0 rfl rfl) ?_
           refine Sm.b rfl ?_
           refine Sm.b (y2.ldO 0 0 rfl rfl) ?_
           refine Sm.b rfl ?_
           refine Sm.c (t71 (by omega) (H.ext E2) (y2.rowF 1 rfl) ⟨v.t, v.n⟩) fun r53 g53 e44 X53 => ?_
           have y53 := y2.ext X53
           have E53 := E2.trans (X53.mono E2.size)
           refine Sm.b rfl ?_
           refine Sm.b (agA (y53.ldF 0 0 rfl rfl) (vbP _ _)) ?_
           refine Sm.ct rfl ?_
           refine Sm.b (agI (y53.ldO 0 0 rfl rfl)) ?_
           refine Sm.ct rfl ?_
           refine Sm.c (t72 (by omega) (H.ext E53) (y53.rowF 1 rfl) r53) fun r54 g54 e45 X54 => ?_
           have y54 := y53.ext X54
           have E54 := E53.trans (X54.mono E53.size)
           refine Sm.b (agI (y54.ldO 0 0 rfl rfl)) ?_
           refine Sm.ct rfl ?_
           refine Sm.b rfl ?_
           refine Sm.b rfl ?_
           refine Sm.c (t138 (by omega) v.t) fun r55 g55 e19 X55 => ?_
           have y55 := y54.ext X55
           have E55 := E54.trans (X55.mono E54.size)
           refine Sm.b rfl ?_
           exact Sm.fin E55 rfl
       ·rw [s90_2_j, s90_2_eq]
        refine Sm.cf rfl ?_
        rw [s90_3_j, s90_3_eq]
        refine Sm.b rfl ?_
        refine Sm.b rfl ?_
        refine Sm.b (y2.ldF 0 0 rfl rfl) ?_
        refine Sm.b rfl ?_
        refine Sm.b rfl ?_
        refine Sm.b (y2.ldF 0 0 rfl rfl) ?_
        refine Sm.b (y2.ldON 0 rfl rfl) ?_
        refine Sm.b rfl ?_
        refine Sm.b (y2.ldO 0 0 rfl rfl) ?_
        refine Sm.b rfl ?_
        refine Sm.c (t71 (by omega) (H.ext E2) (y2.rowF 1 rfl) ⟨v.t, v.n⟩) fun r56 g56 e46 X56 => ?_
        have y56 := y2.ext X56
        have E56 := E2.trans (X56.mono E2.size)
        refine Sm.b rfl ?_
        refine Sm.b (agA (y56.ldF 0 0 rfl rfl) (vbP _ _)) ?_
        refine Sm.ct rfl ?_
        refine Sm.b (agI (y56.ldO 0 0 rfl rfl)) ?_
        refine Sm.ct rfl ?_
        refine Sm.c (t72 (by omega) (H.ext E56) (y56.rowF 1 rfl) r56) fun r57 g57 e47 X57 => ?_
        have y57 := y56.ext X57
        have E57 := E56.trans (X57.mono E56.size)
        refine Sm.b (agI (y57.ldO 0 0 rfl rfl)) ?_
        refine Sm.ct rfl ?_
        refine Sm.b rfl ?_
        refine Sm.b rfl ?_
        refine Sm.c (t138 (by omega) v.t) fun r58 g58 e48 X58 => ?_
        have y58 := y57.ext X58
        have E58 := E57.trans (X58.mono E57.size)
        refine Sm.b rfl ?_
        exact Sm.fin E58 rfl
      ·rw [s90_2_j, s90_2_eq]
       refine Sm.cf rfl ?_
       rw [s90_3_j, s90_3_eq]
       refine Sm.b rfl ?_
       refine Sm.b rfl ?_
       refine Sm.b (y2.ldF 0 0 rfl rfl) ?_
       refine Sm.b rfl ?_
       refine Sm.b rfl ?_
       refine Sm.b (y2.ldF 0 0 rfl rfl) ?_
       refine Sm.b (y2.ldON 0 rfl rfl) ?_
       refine Sm.b rfl ?_
       refine Sm.b (y2.ldO 0 0 rfl rfl) ?_
       refine Sm.b rfl ?_
       refine Sm.c (t71 (by omega) (H.ext E2) (y2.rowF 1 rfl) ⟨v.t, v.n⟩) fun r59 g59 e68 X59 => ?_
       have y59 := y2.ext X59
       have E59 := E2.trans (X59.mono E2.size)
       refine Sm.b rfl ?_
       refine Sm.b (agA (y59.ldF 0 0 rfl rfl) (vbP _ _)) ?_
       refine Sm.ct rfl ?_
       refine Sm.b (agI (y59.ldO 0 0 rfl rfl)) ?_
       refine Sm.ct rfl ?_
       refine Sm.c (t72 (by omega) (H.ext E59) (y59.rowF 1 rfl) r59) fun r60 g60 e52 X60 => ?_
       have y60 := y59.ext X60
       have E60 := E59.trans (X60.mono E59.size)
       refine Sm.b (agI (y60.ldO 0 0 rfl rfl)) ?_
       refine Sm.ct rfl ?_
       refine Sm.b rfl ?_
       refine Sm.b rfl ?_
       refine Sm.c (t138 (by omega) v.t) fun r61 g61 e74 X61 => ?_
       have y61 := y60.ext X61
       have E61 := E60.trans (X61.mono E60.size)
       refine Sm.b rfl ?_
       exact Sm.fin E61 rfl
def m134 (a : Ar) (is : List Int) (p : Int) (sz : Int) : Option (Bool) :=
 (rd a.ws (IntKind.i64.wrap (p + 1))).bind fun w1 => bif decide (w1 > 160) then some false else bif ((IntKind.i64.wrap (1 + (IntKind.i64.wrap (Int.tdiv (IntKind.i64.wrap ((IntKind.i64.wrap w1) + 7)) 8)))) != sz) then some false else bif (Int.tmod (IntKind.i64.wrap w1) 8) == 0 then some true else (rd a.ws (IntKind.i64.wrap (p + sz))).bind fun w5 => (shrM .u64 w5 (IntKind.i64.wrap (8 * (Int.tmod (IntKind.i64.wrap w1) 8)))).bind fun w6 => some (w6 == 0)
theorem t134 {D : Nat} {h : AHeap} (hD : 1 ≤ D) {wv rv : Value} {a : Ar} (H : ArH h wv rv a) {pa : Nat} (RA : Row h pa (arCells wv rv a) ∧ pa < h.size) {vis ms mb : Value} {is : List Int} (Sis : SlI .u8 h vis is) {ps : Nat} (RS : Row h ps [ptr pa 0, vis, ms, mb] ∧ ps < h.size) (p : Int) (sz : Int) : SmR h (En Value.bool) (m134 a is p sz) (call Tp Ms D 98 [ptr ps 0, .int .i64 p, .int .i64 sz] h) := by
 obtain ⟨D, rfl⟩ : ∃ d, D = d + 1 := ⟨D - 1, by omega⟩
 rw [c98, e98]
 unfold m134
 have y0 := ((Cx.start0 h).addF RA.1 RA.2).addF RS.1 RS.2
 have E0 := Ext.refl h.size h
 refine Sm.b rfl ?_
 refine Sm.b rfl ?_
 refine Sm.b (y0.ldF 0 0 rfl rfl) ?_
 refine Sm.b rfl ?_
 refine Sm.b rfl ?_
 refine Sm.b (y0.ldF 1 0 rfl rfl) ?_
 refine Sm.mo fun w1 e1 => ?_
 obtain ⟨q1, i1, l1⟩ := H.w.at e1
 refine Sm.b i1 ?_
 refine Sm.b (l1 _ E0) ?_
 refine Sm.b rfl ?_
 refine Sm.i (fun k2 => ?_) (fun k2 => ?_)
 ·rw [s98_0_j, s98_0_eq]
  refine Sm.ct rfl ?_
  exact Sm.fin E0 rfl
 ·rw [s98_0_j, s98_0_eq]
  refine Sm.i (fun k3 => ?_) (fun k3 => ?_)
  ·exact Sm.fin E0 rfl
  ·rw [s98_1_j, s98_1_eq]
   refine Sm.i (fun k4 => ?_) (fun k4 => ?_)
   ·exact Sm.fin E0 rfl
   ·refine Sm.b rfl ?_
    refine Sm.b rfl ?_
    refine Sm.b (y0.ldF 0 0 rfl rfl) ?_
    refine Sm.b rfl ?_
    refine Sm.b rfl ?_
    refine Sm.b (y0.ldF 1 0 rfl rfl) ?_
    refine Sm.mo fun w5 e1005 => ?_
    obtain ⟨q5, i5, l5⟩ := H.w.at e1005
    refine Sm.b i5 ?_
    refine Sm.b (l5 _ E0) ?_
    refine Sm.b rfl ?_
    refine Sm.mo fun w6 e4 => ?_
    refine Sm.b (shr_ok e4) ?_
    refine Sm.b rfl ?_
    exact Sm.fin E0 rfl
def mS135_2 (a : Ar) (is : List Int) : Nat → Int → List Int → List Int → Int → Int → Option (Bool)
 | 0, _, _, _, _, _ => none
 | f + 1, x1, u, lx49, x50, x51 =>
  bif decide (x51 < x50) then (rd lx49 x51).bind fun w2 => (m114 a (IntKind.i64.wrap (x1 + w2))).bind fun r3 => bif x51 == 0 then bif r3.t != 0 then bif r3.t != 6 then some false else (rd u 1).bind fun w7 => bif decide (x51 > (IntKind.i64.wrap w7)) then bif (r3.t != 0) then some false else mS135_2 a is f x1 u lx49 x50 (IntKind.i64.wrap (x51 + 1)) else mS135_2 a is f x1 u lx49 x50 (IntKind.i64.wrap (x51 + 1)) else (rd u 1).bind fun w10 => bif decide (x51 > (IntKind.i64.wrap w10)) then bif (r3.t != 0) then some false else mS135_2 a is f x1 u lx49 x50 (IntKind.i64.wrap (x51 + 1)) else mS135_2 a is f x1 u lx49 x50 (IntKind.i64.wrap (x51 + 1)) else (rd u 1).bind fun w13 => bif decide (x51 > (IntKind.i64.wrap w13)) then bif (r3.t != 0) then some false else mS135_2 a is f x1 u lx49 x50 (IntKind.i64.wrap (x51 + 1)) else mS135_2 a is f x1 u lx49 x50 (IntKind.i64.wrap (x51 + 1)) else some true
theorem tS135_2 {D N : Nat} {h : AHeap} (hD : 1 ≤ D) (hN : 20000 ≤ N) {wv rv : Value} {a : Ar} (H : ArH h wv rv a) {pa : Nat} {vis ms mb : Value} {is : List Int} (Sis : SlI .u8 h vis is) {ps : Nat} {vu : Value} {u : List Int} (Su : SlS .u64 h vu u) : ∀ (f n2 : Nat) (_ : f ≤ n2) (x1 : Int) (vx49 : Value) (ix49 rx49 : Nat) (bx49 : Bool) (lx49 : List Int) (hx49 : LV vx49 ix49 bx49 lx49.length) (x50 : Int) (x51 : Int) (g : AHeap) (_ : Ext h.size h g) (_ : Cx h.size g [(ps, [ptr pa 0, vis, ms, mb]), (pa, arCells wv rv a)] [⟨ix49, rx49, 3, bx49, lx49.map (Value.int .i64)⟩] []), SmR h (En Value.bool) (mS135_2 a is f x1 u lx49 x50 x51) (s99_2 hk0 (call Tp Ms D) N n2 (ptr ps 0) x1 vu vx49 x50 x51 g) := by
 intro f
 induction f with
 | zero => intros; exact Sm.none
 | succ f ih =>
  intro n2 hf x1 vx49 ix49 rx49 bx49 lx49 hx49 x50 x51 g0 E0 y0
  obtain ⟨n2, rfl⟩ : ∃ k, n2 = k + 1 := ⟨n2 - 1, by omega⟩
  rw [s99_2_eq, mS135_2]
  refine Sm.i (fun k1 => ?_) (fun k1 => ?_)
  ·refine Sm.mo fun w2 e2 => ?_
   refine Sm.b (y0.atS 0 (Value.int .i64) lx49 rfl hx49 e2).1 ?_
   refine Sm.b (y0.atS 0 (Value.int .i64) lx49 rfl hx49 e2).2 ?_
   refine Sm.b rfl ?_
   refine Sm.b rfl ?_
   refine Sm.b rfl ?_
   refine Sm.b (y0.ldF 0 0 rfl rfl) ?_
   refine Sm.c (t114 (by omega) (H.ext E0) (y0.rowF 1 rfl) (IntKind.i64.wrap (x1 + w2))) fun r3 g3 e1003 X3 => ?_
   have y3 := y0.ext X3
   have E3 := E0.trans (X3.mono E0.size)
   refine Sm.b rfl ?_
   refine Sm.b rfl ?_
   refine Sm.i (fun k4 => ?_) (fun k4 => ?_)
   ·refine Sm.i (fun k5 => ?_) (fun k5 => ?_)
    ·refine Sm.i (fun k6 => ?_) (fun k6 => ?_)
     ·rw [s99_3_j, s99_3_eq]
      refine Sm.ct rfl ?_
      exact Sm.fin E3 rfl
     ·refine Sm.mo fun w7 e1007 => ?_
      obtain ⟨q7, i7, l7⟩ := Su.at e1007
      refine Sm.b i7 ?_
      refine Sm.b (l7 _ E3) ?_
      refine Sm.b rfl ?_
      refine Sm.i (fun k8 => ?_) (fun k8 => ?_)
      ·rw [s99_3_j, s99_3_eq]
       refine Sm.i (fun k9 => ?_) (fun k9 => ?_)
       ·exact Sm.fin E3 rfl
       ·exact ih _ (by omega) x1 _ _ _ _ lx49 hx49 x50 (IntKind.i64.wrap (x51 + 1)) _ E3 (y3.pick (.cons_cons _ .slnil))
      ·rw [s99_3_j, s99_3_eq]
       refine Sm.cf rfl ?_
       exact ih _ (by omega) x1 _ _ _ _ lx49 hx49 x50 (IntKind.i64.wrap (x51 + 1)) _ E3 (y3.pick (.cons_cons _ .slnil))
    ·refine Sm.mo fun w10 e8 => ?_
     obtain ⟨q10, i10, l10⟩ := Su.at e8
     refine Sm.b i10 ?_
     refine Sm.b (l10 _ E3) ?_
     refine Sm.b rfl ?_
     refine Sm.i (fun k11 => ?_) (fun k11 => ?_)
     ·rw [s99_3_j, s99_3_eq]
      refine Sm.i (fun k12 => ?_) (fun k12 => ?_)
      ·exact Sm.fin E3 rfl
      ·exact ih _ (by omega) x1 _ _ _ _ lx49 hx49 x50 (IntKind.i64.wrap (x51 + 1)) _ E3 (y3.pick (.cons_cons _ .slnil))
     ·rw [s99_3_j, s99_3_eq]
      refine Sm.cf rfl ?_
      exact ih _ (by omega) x1 _ _ _ _ lx49 hx49 x50 (IntKind.i64.wrap (x51 + 1)) _ E3 (y3.pick (.cons_cons _ .slnil))
   ·refine Sm.mo fun w13 e1013 => ?_
    obtain ⟨q13, i13, l13⟩ := Su.at e1013
    refine Sm.b i13 ?_
    refine Sm.b (l13 _ E3) ?_
    refine Sm.b rfl ?_
    refine Sm.i (fun k14 => ?_) (fun k14 => ?_)
    ·rw [s99_3_j, s99_3_eq]
     refine Sm.i (fun k15 => ?_) (fun k15 => ?_)
     ·exact Sm.fin E3 rfl
     ·exact ih _ (by omega) x1 _ _ _ _ lx49 hx49 x50 (IntKind.i64.wrap (x51 + 1)) _ E3 (y3.pick (.cons_cons _ .slnil))
    ·rw [s99_3_j, s99_3_eq]
     refine Sm.cf rfl ?_
     exact ih _ (by omega) x1 _ _ _ _ lx49 hx49 x50 (IntKind.i64.wrap (x51 + 1)) _ E3 (y3.pick (.cons_cons _ .slnil))
  ·exact Sm.fin E0 rfl
def m135 (a : Ar) (is : List Int) (p : Int) (sz : Int) : Option (Bool) :=
 (subM a.ws (IntKind.i64.wrap (p + 1)) (IntKind.i64.wrap (p + 5))).bind fun u1 => (rd u1 0).bind fun w2 => bif decide (w2 > 4) then some false else (rd u1 1).bind fun w4 => bif decide (w4 > 60) then some false else (rd u1 2).bind fun w6 => bif decide (w6 > w4) then some false else (rd u1 3).bind fun w8 => bif (decide (w8 > 4095)) then some false else (m113 6 sz).bind fun r10 => mS135_2 a is 20000 p u1 r10 (r10.length : Int) 0
theorem t135 {D : Nat} {h : AHeap} (hD : 20002 ≤ D) {wv rv : Value} {a : Ar} (H : ArH h wv rv a) {pa : Nat} (RA : Row h pa (arCells wv rv a) ∧ pa < h.size) {vis ms mb : Value} {is : List Int} (Sis : SlI .u8 h vis is) {ps : Nat} (RS : Row h ps [ptr pa 0, vis, ms, mb] ∧ ps < h.size) (p : Int) (sz : Int) : SmR h (En Value.bool) (m135 a is p sz) (call Tp Ms D 99 [ptr ps 0, .int .i64 p, .int .i64 sz] h) := by
 obtain ⟨D, rfl⟩ : ∃ d, D = d + 1 := ⟨D - 1, by omega⟩
 rw [c99, e99]
 unfold m135
 have y0 := ((Cx.start0 h).addF RA.1 RA.2).addF RS.1 RS.2
 have E0 := Ext.refl h.size h
 refine Sm.b rfl ?_
 refine Sm.b rfl ?_
 refine Sm.b (y0.ldF 0 0 rfl rfl) ?_
 refine Sm.b rfl ?_
 refine Sm.b rfl ?_
 refine Sm.b (y0.ldF 1 0 rfl rfl) ?_
 refine Sm.sub H.w H.we E0 fun u1 vu1 eu1 Su1 => ?_
 refine Sm.mo fun w2 e2 => ?_
 obtain ⟨q2, i2, l2⟩ := Su1.at e2
 refine Sm.b i2 ?_
 refine Sm.b (l2 _ E0) ?_
 refine Sm.b rfl ?_
 refine Sm.i (fun k3 => ?_) (fun k3 => ?_)
 ·rw [s99_0_j, s99_0_eq]
  refine Sm.ct rfl ?_
  exact Sm.fin E0 rfl
 ·refine Sm.mo fun w4 e1004 => ?_
  obtain ⟨q4, i4, l4⟩ := Su1.at e1004
  refine Sm.b i4 ?_
  refine Sm.b (l4 _ E0) ?_
  refine Sm.b rfl ?_
  refine Sm.i (fun k5 => ?_) (fun k5 => ?_)
  ·rw [s99_0_j, s99_0_eq]
   refine Sm.ct rfl ?_
   exact Sm.fin E0 rfl
  ·refine Sm.mo fun w6 e4 => ?_
   obtain ⟨q6, i6, l6⟩ := Su1.at e4
   refine Sm.b i6 ?_
   refine Sm.b (l6 _ E0) ?_
   refine Sm.b rfl ?_
   refine Sm.b i4 ?_
   refine Sm.b (l4 _ E0) ?_
   refine Sm.b rfl ?_
   refine Sm.i (fun k7 => ?_) (fun k7 => ?_)
   ·rw [s99_0_j, s99_0_eq]
    refine Sm.ct rfl ?_
    exact Sm.fin E0 rfl
   ·refine Sm.mo fun w8 e6 => ?_
    obtain ⟨q8, i8, l8⟩ := Su1.at e6
    refine Sm.b i8 ?_
    refine Sm.b (l8 _ E0) ?_
    refine Sm.b rfl ?_
    rw [s99_0_j, s99_0_eq]
    refine Sm.i (fun k9 => ?_) (fun k9 => ?_)
    ·exact Sm.fin E0 rfl
    ·rw [s99_1_j, s99_1_eq]
     refine Sm.cr (t113 (by omega) 6 sz) fun r10 v10 g10 e8 X10 R10 => ?_
     obtain ⟨i10, q10, b10, h10, o10, z10⟩ := R10
     have y10 := y0.add X10 o10 z10
     have E10 := E0.trans (X10.mono E0.size)
     refine Sm.b h10.len ?_
     refine Sm.b rfl ?_
     exact tS135_2 (by omega) (by omega) H Sis Su1 20000 _ (by omega) p _ _ _ _ r10 h10 (r10.length : Int) 0 _ E10 (y10.pick (.cons_cons _ .slnil))
def mS104_0 (a : Ar) (is : List Int) : Nat → Int → Hd → List Int → Int → Int → Option (Bool)
 | 0, _, _, _, _, _ => none
 | f + 1, x1, zx5, lx20, x21, x22 =>
  bif decide (x22 < x21) then (rd lx20 x22).bind fun w2 => (m133 a.ws (IntKind.i64.wrap (x1 + w2))).bind fun r3 => bif !r3.2 then some false else (m109 a is ⟨r3.1.t, r3.1.n⟩ x1).bind fun r7 => bif !r7 then some false else bif r3.1.t == 8 then bif (zx5.k != 2) then some false else bif zx5.k == 2 then bif r3.1.t != 0 then bif (r3.1.t != 8) then bif (r3.1.t != 8) then some false else mS104_0 a is f x1 ⟨zx5.k, zx5.s, zx5.n⟩ lx20 x21 (IntKind.i64.wrap (x22 + 1)) else bif zx5.k == 3 then bif (r3.1.t == 9) then bif (r3.1.t == 9) then some false else mS104_0 a is f x1 ⟨zx5.k, zx5.s, zx5.n⟩ lx20 x21 (IntKind.i64.wrap (x22 + 1)) else bif zx5.k == 4 then bif (r3.1.t != 9) then some false else mS104_0 a is f x1 ⟨zx5.k, zx5.s, zx5.n⟩ lx20 x21 (IntKind.i64.wrap (x22 + 1)) else mS104_0 a is f x1 ⟨zx5.k, zx5.s, zx5.n⟩ lx20 x21 (IntKind.i64.wrap (x22 + 1)) else bif zx5.k == 4 then bif (r3.1.t != 9) then some false else mS104_0 a is f x1 ⟨zx5.k, zx5.s, zx5.n⟩ lx20 x21 (IntKind.i64.wrap (x22 + 1)) else mS104_0 a is f x1 ⟨zx5.k, zx5.s, zx5.n⟩ lx20 x21 (IntKind.i64.wrap (x22 + 1)) else bif zx5.k == 3 then bif (r3.1.t == 9) then bif (r3.1.t == 9) then some false else mS104_0 a is f x1 ⟨zx5.k, zx5.s, zx5.n⟩ lx20 x21 (IntKind.i64.wrap (x22 + 1)) else bif zx5.k == 4 then bif (r3.1.t != 9) then some false else mS104_0 a is f x1 ⟨zx5.k, zx5.s, zx5.n⟩ lx20 x21 (IntKind.i64.wrap (x22 + 1)) else mS104_0 a is f x1 ⟨zx5.k, zx5.s, zx5.n⟩ lx20 x21 (IntKind.i64.wrap (x22 + 1)) else bif zx5.k == 4 then bif (r3.1.t != 9) then some false else mS104_0 a is f x1 ⟨zx5.k, zx5.s, zx5.n⟩ lx20 x21 (IntKind.i64.wrap (x22 + 1)) else mS104_0 a is f x1 ⟨zx5.k, zx5.s, zx5.n⟩ lx20 x21 (IntKind.i64.wrap (x22 + 1)) else bif zx5.k == 3 then bif (r3.1.t == 9) then bif (r3.1.t == 9) then some false else mS104_0 a is f x1 ⟨zx5.k, zx5.s, zx5.n⟩ lx20 x21 (IntKind.i64.wrap (x22 + 1)) else bif zx5.k == 4 then bif (r3.1.t != 9) then some false else mS104_0 a is f x1 ⟨zx5.k, zx5.s, zx5.n⟩ lx20 x21 (IntKind.i64.wrap (x22 + 1)) else mS104_0 a is f x1 ⟨zx5.k, zx5.s, zx5.n⟩ lx20 x21 (IntKind.i64.wrap (x22 + 1)) else bif zx5.k == 4 then bif (r3.1.t != 9) then some false else mS104_0 a is f x1 ⟨zx5.k, zx5.s, zx5.n⟩ lx20 x21 (IntKind.i64.wrap (x22 + 1)) else mS104_0 a is f x1 ⟨zx5.k, zx5.s, zx5.n⟩ lx20 x21 (IntKind.i64.wrap (x22 + 1)) else bif zx5.k == 2 then bif r3.1.t != 0 then bif (r3.1.t != 8) then bif (r3.1.t != 8) then some false else mS104_0 a is f x1 ⟨zx5.k, zx5.s, zx5.n⟩ lx20 x21 (IntKind.i64.wrap (x22 + 1)) else bif zx5.k == 3 then bif (r3.1.t == 9) then bif (r3.1.t == 9) then some false else mS104_0 a is f x1 ⟨zx5.k, zx5.s, zx5.n⟩ lx20 x21 (IntKind.i64.wrap (x22 + 1)) else bif zx5.k == 4 then bif (r3.1.t != 9) then some false else mS104_0 a is f x1 ⟨zx5.k, zx5.s, zx5.n⟩ lx20 x21 (IntKind.i64.wrap (x22 + 1)) else mS104_0 a is f x1 ⟨zx5.k, zx5.s, zx5.n⟩ lx20 x21 (IntKind.i64.wrap (x22 + 1)) else bif zx5.k == 4 then bif (r3.1.t != 9) then some false else mS104_0 a is f x1 ⟨zx5.k, zx5.s, zx5.n⟩ lx20 x21 (IntKind.i64.wrap (x22 + 1)) else mS104_0 a is f x1 ⟨zx5.k, zx5.s, zx5.n⟩ lx20 x21 (IntKind.i64.wrap (x22 + 1)) else bif zx5.k == 3 then bif (r3.1.t == 9) then bif (r3.1.t == 9) then some false else mS104_0 a is f x1 ⟨zx5.k, zx5.s, zx5.n⟩ lx20 x21 (IntKind.i64.wrap (x22 + 1)) else bif zx5.k == 4 then bif (r3.1.t != 9) then some false else mS104_0 a is f x1 ⟨zx5.k, zx5.s, zx5.n⟩ lx20 x21 (IntKind.i64.wrap (x22 + 1)) else mS104_0 a is f x1 ⟨zx5.k, zx5.s, zx5.n⟩ lx20 x21 (IntKind.i64.wrap (x22 + 1)) else bif zx5.k == 4 then bif (r3.1.t != 9) then some false else mS104_0 a is f x1 ⟨zx5.k, zx5.s, zx5.n⟩ lx20 x21 (IntKind.i64.wrap (x22 + 1)) else mS104_0 a is f x1 ⟨zx5.k, zx5.s, zx5.n⟩ lx20 x21 (IntKind.i64.wrap (x22 + 1)) else bif zx5.k == 3 then bif (r3.1.t == 9) then bif (r3.1.t == 9) then some false else mS104_0 a is f x1 ⟨zx5.k, zx5.s, zx5.n⟩ lx20 x21 (IntKind.i64.wrap (x22 + 1)) else bif zx5.k == 4 then bif (r3.1.t != 9) then some false else mS104_0 a is f x1 ⟨zx5.k, zx5.s, zx5.n⟩ lx20 x21 (IntKind.i64.wrap (x22 + 1)) else mS104_0 a is f x1 ⟨zx5.k, zx5.s, zx5.n⟩ lx20 x21 (IntKind.i64.wrap (x22 + 1)) else bif zx5.k == 4 then bif (r3.1.t != 9) then some false else mS104_0 a is f x1 ⟨zx5.k, zx5.s, zx5.n⟩ lx20 x21 (IntKind.i64.wrap (x22 + 1)) else mS104_0 a is f x1 ⟨zx5.k, zx5.s, zx5.n⟩ lx20 x21 (IntKind.i64.wrap (x22 + 1)) else bif zx5.k == 1 then (m134 a is x1 zx5.s).bind fun r62 => some r62 else bif zx5.k == 4 then (rd a.ws (IntKind.i64.wrap (x1 + 1))).bind fun w64 => some (decide (w64 ≤ 255)) else bif zx5.k == 6 then (m135 a is x1 zx5.s).bind fun r66 => some r66 else some true
theorem tS104_0 {D N : Nat} {h : AHeap} (hD : 20002 ≤ D) (hN : 20000 ≤ N) {wv rv : Value} {a : Ar} (H : ArH h wv rv a) {pa : Nat} {vis ms mb : Value} {is : List Int} (Sis : SlI .u8 h vis is) {ps : Nat}  : ∀ (f n2 : Nat) (_ : f ≤ n2) (x1 : Int) (px5 : Nat) (zx5 : Hd) (vx20 : Value) (ix20 rx20 : Nat) (bx20 : Bool) (lx20 : List Int) (hx20 : LV vx20 ix20 bx20 lx20.length) (x21 : Int) (x22 : Int) (g : AHeap) (_ : Ext h.size h g) (_ : Cx h.size g [(ps, [ptr pa 0, vis, ms, mb]), (pa, arCells wv rv a)] [⟨ix20, rx20, 3, bx20, lx20.map (Value.int .i64)⟩, ⟨px5, px5, 44, true, [.int .i64 zx5.k, .int .i64 zx5.s, .int .i64 zx5.n]⟩] []), SmR h (En Value.bool) (mS104_0 a is f x1 zx5 lx20 x21 x22) (s85_0 hk0 (call Tp Ms D) N n2 (ptr ps 0) x1 (ptr px5 0) vx20 x21 x22 g) := by
 intro f
 induction f with
 | zero => intros; exact Sm.none
 | succ f ih =>
  intro n2 hf x1 px5 zx5 vx20 ix20 rx20 bx20 lx20 hx20 x21 x22 g0 E0 y0
  obtain ⟨n2, rfl⟩ : ∃ k, n2 = k + 1 := ⟨n2 - 1, by omega⟩
  rw [s85_0_eq, mS104_0]
  refine Sm.i (fun k1 => ?_) (fun k1 => ?_)
  ·refine Sm.mo fun w2 e2 => ?_
   refine Sm.b (y0.atS 0 (Value.int .i64) lx20 rfl hx20 e2).1 ?_
   refine Sm.b (y0.atS 0 (Value.int .i64) lx20 rfl hx20 e2).2 ?_
   refine Sm.b rfl ?_
   refine Sm.b rfl ?_
   refine Sm.b rfl ?_
   refine Sm.b (y0.ldF 0 0 rfl rfl) ?_
   refine Sm.b rfl ?_
   refine Sm.b rfl ?_
   refine Sm.b (y0.ldF 1 0 rfl rfl) ?_
   refine Sm.c (t133 (by omega) (H.w.ext E0) (IntKind.i64.wrap (x1 + w2))) fun r3 g3 e1003 X3 => ?_
   have y3 := y0.ext X3
   have E3 := E0.trans (X3.mono E0.size)
   refine Sm.b rfl ?_
   refine Sm.b rfl ?_
   refine Sm.b rfl ?_
   refine Sm.n y3 fun p4 g4 X4 y4 => ?_
   have E4 := E3.trans (X4.mono E3.size)
   refine Sm.st y4 0 rfl rfl rfl (by simp [splice]) fun g5 X5 y5 => ?_
   have E5 := E4.trans X5
   refine Sm.i (fun k6 => ?_) (fun k6 => ?_)
   ·rw [s85_1_j, s85_1_eq]
    refine Sm.ct rfl ?_
    exact Sm.fin E5 rfl
   ·refine Sm.b (y5.ldON 0 rfl rfl) ?_
    refine Sm.c (t109 (by omega) (H.ext E5) (y5.rowF 1 rfl) (Sis.ext E5) (y5.rowF 0 rfl) ⟨r3.1.t, r3.1.n⟩ x1) fun r7 g7 e1007 X7 => ?_
    have y7 := y5.ext X7
    have E7 := E5.trans (X7.mono E5.size)
    refine Sm.b rfl ?_
    refine Sm.i (fun k8 => ?_) (fun k8 => ?_)
    ·rw [s85_1_j, s85_1_eq]
     refine Sm.ct rfl ?_
     exact Sm.fin E7 rfl
    ·refine Sm.b rfl ?_
     refine Sm.b (y7.ldO 0 0 rfl rfl) ?_
     refine Sm.b rfl ?_
     refine Sm.i (fun k9 => ?_) (fun k9 => ?_)
     ·refine Sm.b rfl ?_
      refine Sm.b (y7.ldO 2 0 rfl rfl) ?_
      refine Sm.b rfl ?_
      rw [s85_1_j, s85_1_eq]
      refine Sm.i (fun k10 => ?_) (fun k10 => ?_)
      ·exact Sm.fin E7 rfl
      ·rw [s85_2_j, s85_2_eq]
       refine Sm.b rfl ?_
       refine Sm.b (y7.ldO 2 0 rfl rfl) ?_
       refine Sm.b rfl ?_
       refine Sm.i (fun k11 => ?_) (fun k11 => ?_)
       ·refine Sm.b rfl ?_
        refine Sm.b (y7.ldO 0 0 rfl rfl) ?_
        refine Sm.b rfl ?_
        refine Sm.i (fun k12 => ?_) (fun k12 => ?_)
        ·refine Sm.b rfl ?_
         refine Sm.b (y7.ldO 0 0 rfl rfl) ?_
         refine Sm.b rfl ?_
         rw [s85_3_j, s85_3_eq]
         refine Sm.i (fun k13 => ?_) (fun k13 => ?_)
         ·rw [s85_5_j, s85_5_eq]
          refine Sm.i (fun k14 => ?_) (fun k14 => ?_)
          ·exact Sm.fin E7 rfl
          ·exact ih _ (by omega) x1 _ ⟨zx5.k, zx5.s, zx5.n⟩ _ _ _ _ lx20 hx20 x21 (IntKind.i64.wrap (x22 + 1)) _ E7 (y7.pick (.cons _ (.cons_cons _ (.cons_cons _ .slnil))))
         ·refine Sm.b rfl ?_
          refine Sm.b (y7.ldO 2 0 rfl rfl) ?_
          refine Sm.b rfl ?_
          refine Sm.i (fun k15 => ?_) (fun k15 => ?_)
          ·refine Sm.b rfl ?_
           refine Sm.b (y7.ldO 0 0 rfl rfl) ?_
           refine Sm.b rfl ?_
           rw [s85_4_j, s85_4_eq]
           refine Sm.i (fun k16 => ?_) (fun k16 => ?_)
           ·rw [s85_5_j, s85_5_eq]
            refine Sm.i (fun k17 => ?_) (fun k17 => ?_)
            ·exact Sm.fin E7 rfl
            ·exact ih _ (by omega) x1 _ ⟨zx5.k, zx5.s, zx5.n⟩ _ _ _ _ lx20 hx20 x21 (IntKind.i64.wrap (x22 + 1)) _ E7 (y7.pick (.cons _ (.cons_cons _ (.cons_cons _ .slnil))))
           ·refine Sm.b rfl ?_
            refine Sm.b (y7.ldO 2 0 rfl rfl) ?_
            refine Sm.b rfl ?_
            refine Sm.i (fun k18 => ?_) (fun k18 => ?_)
            ·refine Sm.b rfl ?_
             refine Sm.b (y7.ldO 0 0 rfl rfl) ?_
             refine Sm.b rfl ?_
             rw [s85_5_j, s85_5_eq]
             refine Sm.i (fun k19 => ?_) (fun k19 => ?_)
             ·exact Sm.fin E7 rfl
             ·exact ih _ (by omega) x1 _ ⟨zx5.k, zx5.s, zx5.n⟩ _ _ _ _ lx20 hx20 x21 (IntKind.i64.wrap (x22 + 1)) _ E7 (y7.pick (.cons _ (.cons_cons _ (.cons_cons _ .slnil))))
            ·rw [s85_5_j, s85_5_eq]
             refine Sm.cf rfl ?_
             exact ih _ (by omega) x1 _ ⟨zx5.k, zx5.s, zx5.n⟩ _ _ _ _ lx20 hx20 x21 (IntKind.i64.wrap (x22 + 1)) _ E7 (y7.pick (.cons _ (.cons_cons _ (.cons_cons _ .slnil))))
          ·rw [s85_4_j, s85_4_eq]
           refine Sm.cf rfl ?_
           refine Sm.b rfl ?_
           refine Sm.b (y7.ldO 2 0 rfl rfl) ?_
           refine Sm.b rfl ?_
           refine Sm.i (fun k20 => ?_) (fun k20 => ?_)
           ·refine Sm.b rfl ?_
            refine Sm.b (y7.ldO 0 0 rfl rfl) ?_
            refine Sm.b rfl ?_
            rw [s85_5_j, s85_5_eq]
            refine Sm.i (fun k21 => ?_) (fun k21 => ?_)
            ·exact Sm.fin E7 rfl
            ·exact ih _ (by omega) x1 _ ⟨zx5.k, zx5.s, zx5.n⟩ _ _ _ _ lx20 hx20 x21 (IntKind.i64.wrap (x22 + 1)) _ E7 (y7.pick (.cons _ (.cons_cons _ (.cons_cons _ .slnil))))
           ·rw [s85_5_j, s85_5_eq]
            refine Sm.cf rfl ?_
            exact ih _ (by omega) x1 _ ⟨zx5.k, zx5.s, zx5.n⟩ _ _ _ _ lx20 hx20 x21 (IntKind.i64.wrap (x22 + 1)) _ E7 (y7.pick (.cons _ (.cons_cons _ (.cons_cons _ .slnil))))
        ·rw [s85_3_j, s85_3_eq]
         refine Sm.cf rfl ?_
         refine Sm.b rfl ?_
         refine Sm.b (y7.ldO 2 0 rfl rfl) ?_
         refine Sm.b rfl ?_
         refine Sm.i (fun k22 => ?_) (fun k22 => ?_)
         ·refine Sm.b rfl ?_
          refine Sm.b (y7.ldO 0 0 rfl rfl) ?_
          refine Sm.b rfl ?_
          rw [s85_4_j, s85_4_eq]
          refine Sm.i (fun k23 => ?_) (fun k23 => ?_)
          ·rw [s85_5_j, s85_5_eq]
           refine Sm.i (fun k24 => ?_) (fun k24 => ?_)
           ·exact Sm.fin E7 rfl
           ·exact ih _ (by omega) x1 _ ⟨zx5.k, zx5.s, zx5.n⟩ _ _ _ _ lx20 hx20 x21 (IntKind.i64.wrap (x22 + 1)) _ E7 (y7.pick (.cons _ (.cons_cons _ (.cons_cons _ .slnil))))
          ·refine Sm.b rfl ?_
           refine Sm.b (y7.ldO 2 0 rfl rfl) ?_
           refine Sm.b rfl ?_
           refine Sm.i (fun k25 => ?_) (fun k25 => ?_)
           ·refine Sm.b rfl ?_
            refine Sm.b (y7.ldO 0 0 rfl rfl) ?_
            refine Sm.b rfl ?_
            rw [s85_5_j, s85_5_eq]
            refine Sm.i (fun k26 => ?_) (fun k26 => ?_)
            ·exact Sm.fin E7 rfl
            ·exact ih _ (by omega) x1 _ ⟨zx5.k, zx5.s, zx5.n⟩ _ _ _ _ lx20 hx20 x21 (IntKind.i64.wrap (x22 + 1)) _ E7 (y7.pick (.cons _ (.cons_cons _ (.cons_cons _ .slnil))))
           ·rw [s85_5_j, s85_5_eq]
            refine Sm.cf rfl ?_
            exact ih _ (by omega) x1 _ ⟨zx5.k, zx5.s, zx5.n⟩ _ _ _ _ lx20 hx20 x21 (IntKind.i64.wrap (x22 + 1)) _ E7 (y7.pick (.cons _ (.cons_cons _ (.cons_cons _ .slnil))))
         ·rw [s85_4_j, s85_4_eq]
          refine Sm.cf rfl ?_
          refine Sm.b rfl ?_
          refine Sm.b (y7.ldO 2 0 rfl rfl) ?_
          refine Sm.b rfl ?_
          refine Sm.i (fun k27 => ?_) (fun k27 => ?_)
          ·refine Sm.b rfl ?_
           refine Sm.b (y7.ldO 0 0 rfl rfl) ?_
           refine Sm.b rfl ?_
           rw [s85_5_j, s85_5_eq]
           refine Sm.i (fun k28 => ?_) (fun k28 => ?_)
           ·exact Sm.fin E7 rfl
           ·exact ih _ (by omega) x1 _ ⟨zx5.k, zx5.s, zx5.n⟩ _ _ _ _ lx20 hx20 x21 (IntKind.i64.wrap (x22 + 1)) _ E7 (y7.pick (.cons _ (.cons_cons _ (.cons_cons _ .slnil))))
          ·rw [s85_5_j, s85_5_eq]
           refine Sm.cf rfl ?_
           exact ih _ (by omega) x1 _ ⟨zx5.k, zx5.s, zx5.n⟩ _ _ _ _ lx20 hx20 x21 (IntKind.i64.wrap (x22 + 1)) _ E7 (y7.pick (.cons _ (.cons_cons _ (.cons_cons _ .slnil))))
       ·rw [s85_3_j, s85_3_eq]
        refine Sm.cf rfl ?_
        refine Sm.b rfl ?_
        refine Sm.b (y7.ldO 2 0 rfl rfl) ?_
        refine Sm.b rfl ?_
        refine Sm.i (fun k29 => ?_) (fun k29 => ?_)
        ·refine Sm.b rfl ?_
         refine Sm.b (y7.ldO 0 0 rfl rfl) ?_
         refine Sm.b rfl ?_
         rw [s85_4_j, s85_4_eq]
         refine Sm.i (fun k30 => ?_) (fun k30 => ?_)
         ·rw [s85_5_j, s85_5_eq]
          refine Sm.i (fun k31 => ?_) (fun k31 => ?_)
          ·exact Sm.fin E7 rfl
          ·exact ih _ (by omega) x1 _ ⟨zx5.k, zx5.s, zx5.n⟩ _ _ _ _ lx20 hx20 x21 (IntKind.i64.wrap (x22 + 1)) _ E7 (y7.pick (.cons _ (.cons_cons _ (.cons_cons _ .slnil))))
         ·refine Sm.b rfl ?_
          refine Sm.b (y7.ldO 2 0 rfl rfl) ?_
          refine Sm.b rfl ?_
          refine Sm.i (fun k32 => ?_) (fun k32 => ?_)
          ·refine Sm.b rfl ?_
           refine Sm.b (y7.ldO 0 0 rfl rfl) ?_
           refine Sm.b rfl ?_
           rw [s85_5_j, s85_5_eq]
           refine Sm.i (fun k33 => ?_) (fun k33 => ?_)
           ·exact Sm.fin E7 rfl
           ·exact ih _ (by omega) x1 _ ⟨zx5.k, zx5.s, zx5.n⟩ _ _ _ _ lx20 hx20 x21 (IntKind.i64.wrap (x22 + 1)) _ E7 (y7.pick (.cons _ (.cons_cons _ (.cons_cons _ .slnil))))
          ·rw [s85_5_j, s85_5_eq]
           refine Sm.cf rfl ?_
           exact ih _ (by omega) x1 _ ⟨zx5.k, zx5.s, zx5.n⟩ _ _ _ _ lx20 hx20 x21 (IntKind.i64.wrap (x22 + 1)) _ E7 (y7.pick (.cons _ (.cons_cons _ (.cons_cons _ .slnil))))
        ·rw [s85_4_j, s85_4_eq]
         refine Sm.cf rfl ?_
         refine Sm.b rfl ?_
         refine Sm.b (y7.ldO 2 0 rfl rfl) ?_
         refine Sm.b rfl ?_
         refine Sm.i (fun k34 => ?_) (fun k34 => ?_)
         ·refine Sm.b rfl ?_
          refine Sm.b (y7.ldO 0 0 rfl rfl) ?_
          refine Sm.b rfl ?_
          rw [s85_5_j, s85_5_eq]
          refine Sm.i (fun k35 => ?_) (fun k35 => ?_)
          ·exact Sm.fin E7 rfl
          ·exact ih _ (by omega) x1 _ ⟨zx5.k, zx5.s, zx5.n⟩ _ _ _ _ lx20 hx20 x21 (IntKind.i64.wrap (x22 + 1)) _ E7 (y7.pick (.cons _ (.cons_cons _ (.cons_cons _ .slnil))))
         ·rw [s85_5_j, s85_5_eq]
          refine Sm.cf rfl ?_
          exact ih _ (by omega) x1 _ ⟨zx5.k, zx5.s, zx5.n⟩ _ _ _ _ lx20 hx20 x21 (IntKind.i64.wrap (x22 + 1)) _ E7 (y7.pick (.cons _ (.cons_cons _ (.cons_cons _ .slnil))))
     ·rw [s85_1_j, s85_1_eq]
      refine Sm.cf rfl ?_
      rw [s85_2_j, s85_2_eq]
      refine Sm.b rfl ?_
      refine Sm.b (y7.ldO 2 0 rfl rfl) ?_
      refine Sm.b rfl ?_
      refine Sm.i (fun k36 => ?_) (fun k36 => ?_)
      ·refine Sm.b rfl ?_
       refine Sm.b (y7.ldO 0 0 rfl rfl) ?_
       refine Sm.b rfl ?_
       refine Sm.i (fun k37 => ?_) (fun k37 => ?_)
       ·refine Sm.b rfl ?_
        refine Sm.b (y7.ldO 0 0 rfl rfl) ?_
        refine Sm.b rfl ?_
        rw [s85_3_j, s85_3_eq]
        refine Sm.i (fun k38 => ?_) (fun k38 => ?_)
        ·rw [s85_5_j, s85_5_eq]
         refine Sm.i (fun k39 => ?_) (fun k39 => ?_)
         ·exact Sm.fin E7 rfl
         ·exact ih _ (by omega) x1 _ ⟨zx5.k, zx5.s, zx5.n⟩ _ _ _ _ lx20 hx20 x21 (IntKind.i64.wrap (x22 + 1)) _ E7 (y7.pick (.cons _ (.cons_cons _ (.cons_cons _ .slnil))))
        ·refine Sm.b rfl ?_
         refine Sm.b (y7.ldO 2 0 rfl rfl) ?_
         refine Sm.b rfl ?_
         refine Sm.i (fun k40 => ?_) (fun k40 => ?_)
         ·refine Sm.b rfl ?_
          refine Sm.b (y7.ldO 0 0 rfl rfl) ?_
          refine Sm.b rfl ?_
          rw [s85_4_j, s85_4_eq]
          refine Sm.i (fun k41 => ?_) (fun k41 => ?_)
          ·rw [s85_5_j, s85_5_eq]
           refine Sm.i (fun k42 => ?_) (fun k42 => ?_)
           ·exact Sm.fin E7 rfl
           ·exact ih _ (by omega) x1 _ ⟨zx5.k, zx5.s, zx5.n⟩ _ _ _ _ lx20 hx20 x21 (IntKind.i64.wrap (x22 + 1)) _ E7 (y7.pick (.cons _ (.cons_cons _ (.cons_cons _ .slnil))))
          ·refine Sm.b rfl ?_
           refine Sm.b (y7.ldO 2 0 rfl rfl) ?_
           refine Sm.b rfl ?_
           refine Sm.i (fun k43 => ?_) (fun k43 => ?_)
           ·refine Sm.b rfl ?_
            refine Sm.b (y7.ldO 0 0 rfl rfl) ?_
            refine Sm.b rfl ?_
            rw [s85_5_j, s85_5_eq]
            refine Sm.i (fun k44 => ?_) (fun k44 => ?_)
            ·exact Sm.fin E7 rfl
            ·exact ih _ (by omega) x1 _ ⟨zx5.k, zx5.s, zx5.n⟩ _ _ _ _ lx20 hx20 x21 (IntKind.i64.wrap (x22 + 1)) _ E7 (y7.pick (.cons _ (.cons_cons _ (.cons_cons _ .slnil))))
           ·rw [s85_5_j, s85_5_eq]
            refine Sm.cf rfl ?_
            exact ih _ (by omega) x1 _ ⟨zx5.k, zx5.s, zx5.n⟩ _ _ _ _ lx20 hx20 x21 (IntKind.i64.wrap (x22 + 1)) _ E7 (y7.pick (.cons _ (.cons_cons _ (.cons_cons _ .slnil))))
         ·rw [s85_4_j, s85_4_eq]
          refine Sm.cf rfl ?_
          refine Sm.b rfl ?_
          refine Sm.b (y7.ldO 2 0 rfl rfl) ?_
          refine Sm.b rfl ?_
          refine Sm.i (fun k45 => ?_) (fun k45 => ?_)
          ·refine Sm.b rfl ?_
           refine Sm.b (y7.ldO 0 0 rfl rfl) ?_
           refine Sm.b rfl ?_
           rw [s85_5_j, s85_5_eq]
           refine Sm.i (fun k46 => ?_) (fun k46 => ?_)
           ·exact Sm.fin E7 rfl
           ·exact ih _ (by omega) x1 _ ⟨zx5.k, zx5.s, zx5.n⟩ _ _ _ _ lx20 hx20 x21 (IntKind.i64.wrap (x22 + 1)) _ E7 (y7.pick (.cons _ (.cons_cons _ (.cons_cons _ .slnil))))
          ·rw [s85_5_j, s85_5_eq]
           refine Sm.cf rfl ?_
           exact ih _ (by omega) x1 _ ⟨zx5.k, zx5.s, zx5.n⟩ _ _ _ _ lx20 hx20 x21 (IntKind.i64.wrap (x22 + 1)) _ E7 (y7.pick (.cons _ (.cons_cons _ (.cons_cons _ .slnil))))
       ·rw [s85_3_j, s85_3_eq]
        refine Sm.cf rfl ?_
        refine Sm.b rfl ?_
        refine Sm.b (y7.ldO 2 0 rfl rfl) ?_
        refine Sm.b rfl ?_
        refine Sm.i (fun k47 => ?_) (fun k47 => ?_)
        ·refine Sm.b rfl ?_
         refine Sm.b (y7.ldO 0 0 rfl rfl) ?_
         refine Sm.b rfl ?_
         rw [s85_4_j, s85_4_eq]
         refine Sm.i (fun k48 => ?_) (fun k48 => ?_)
         ·rw [s85_5_j, s85_5_eq]
          refine Sm.i (fun k49 => ?_) (fun k49 => ?_)
          ·exact Sm.fin E7 rfl
          ·exact ih _ (by omega) x1 _ ⟨zx5.k, zx5.s, zx5.n⟩ _ _ _ _ lx20 hx20 x21 (IntKind.i64.wrap (x22 + 1)) _ E7 (y7.pick (.cons _ (.cons_cons _ (.cons_cons _ .slnil))))
         ·refine Sm.b rfl ?_
          refine Sm.b (y7.ldO 2 0 rfl rfl) ?_
          refine Sm.b rfl ?_
          refine Sm.i (fun k50 => ?_) (fun k50 => ?_)
          ·refine Sm.b rfl ?_
           refine Sm.b (y7.ldO 0 0 rfl rfl) ?_
           refine Sm.b rfl ?_
           rw [s85_5_j, s85_5_eq]
           refine Sm.i (fun k51 => ?_) (fun k51 => ?_)
           ·exact Sm.fin E7 rfl
           ·exact ih _ (by omega) x1 _ ⟨zx5.k, zx5.s, zx5.n⟩ _ _ _ _ lx20 hx20 x21 (IntKind.i64.wrap (x22 + 1)) _ E7 (y7.pick (.cons _ (.cons_cons _ (.cons_cons _ .slnil))))
          ·rw [s85_5_j, s85_5_eq]
           refine Sm.cf rfl ?_
           exact ih _ (by omega) x1 _ ⟨zx5.k, zx5.s, zx5.n⟩ _ _ _ _ lx20 hx20 x21 (IntKind.i64.wrap (x22 + 1)) _ E7 (y7.pick (.cons _ (.cons_cons _ (.cons_cons _ .slnil))))
        ·rw [s85_4_j, s85_4_eq]
         refine Sm.cf rfl ?_
         refine Sm.b rfl ?_
         refine Sm.b (y7.ldO 2 0 rfl rfl) ?_
         refine Sm.b rfl ?_
         refine Sm.i (fun k52 => ?_) (fun k52 => ?_)
         ·refine Sm.b rfl ?_
          refine Sm.b (y7.ldO 0 0 rfl rfl) ?_
          refine Sm.b rfl ?_
          rw [s85_5_j, s85_5_eq]
          refine Sm.i (fun k53 => ?_) (fun k53 => ?_)
          ·exact Sm.fin E7 rfl
          ·exact ih _ (by omega) x1 _ ⟨zx5.k, zx5.s, zx5.n⟩ _ _ _ _ lx20 hx20 x21 (IntKind.i64.wrap (x22 + 1)) _ E7 (y7.pick (.cons _ (.cons_cons _ (.cons_cons _ .slnil))))
         ·rw [s85_5_j, s85_5_eq]
          refine Sm.cf rfl ?_
          exact ih _ (by omega) x1 _ ⟨zx5.k, zx5.s, zx5.n⟩ _ _ _ _ lx20 hx20 x21 (IntKind.i64.wrap (x22 + 1)) _ E7 (y7.pick (.cons _ (.cons_cons _ (.cons_cons _ .slnil))))
      ·rw [s85_3_j, s85_3_eq]
       refine Sm.cf rfl ?_
       refine Sm.b rfl ?_
       refine Sm.b (y7.ldO 2 0 rfl rfl) ?_
       refine Sm.b rfl ?_
       refine Sm.i (fun k54 => ?_) (fun k54 => ?_)
       ·refine Sm.b rfl ?_
        refine Sm.b (y7.ldO 0 0 rfl rfl) ?_
        refine Sm.b rfl ?_
        rw [s85_4_j, s85_4_eq]
        refine Sm.i (fun k55 => ?_) (fun k55 => ?_)
        ·rw [s85_5_j, s85_5_eq]
         refine Sm.i (fun k56 => ?_) (fun k56 => ?_)
         ·exact Sm.fin E7 rfl
         ·exact ih _ (by omega) x1 _ ⟨zx5.k, zx5.s, zx5.n⟩ _ _ _ _ lx20 hx20 x21 (IntKind.i64.wrap (x22 + 1)) _ E7 (y7.pick (.cons _ (.cons_cons _ (.cons_cons _ .slnil))))
        ·refine Sm.b rfl ?_
         refine Sm.b (y7.ldO 2 0 rfl rfl) ?_
         refine Sm.b rfl ?_
         refine Sm.i (fun k57 => ?_) (fun k57 => ?_)
         ·refine Sm.b rfl ?_
          refine Sm.b (y7.ldO 0 0 rfl rfl) ?_
          refine Sm.b rfl ?_
          rw [s85_5_j, s85_5_eq]
          refine Sm.i (fun k58 => ?_) (fun k58 => ?_)
          ·exact Sm.fin E7 rfl
          ·exact ih _ (by omega) x1 _ ⟨zx5.k, zx5.s, zx5.n⟩ _ _ _ _ lx20 hx20 x21 (IntKind.i64.wrap (x22 + 1)) _ E7 (y7.pick (.cons _ (.cons_cons _ (.cons_cons _ .slnil))))
         ·rw [s85_5_j, s85_5_eq]
          refine Sm.cf rfl ?_
          exact ih _ (by omega) x1 _ ⟨zx5.k, zx5.s, zx5.n⟩ _ _ _ _ lx20 hx20 x21 (IntKind.i64.wrap (x22 + 1)) _ E7 (y7.pick (.cons _ (.cons_cons _ (.cons_cons _ .slnil))))
       ·rw [s85_4_j, s85_4_eq]
        refine Sm.cf rfl ?_
        refine Sm.b rfl ?_
        refine Sm.b (y7.ldO 2 0 rfl rfl) ?_
        refine Sm.b rfl ?_
        refine Sm.i (fun k59 => ?_) (fun k59 => ?_)
        ·refine Sm.b rfl ?_
         refine Sm.b (y7.ldO 0 0 rfl rfl) ?_
         refine Sm.b rfl ?_
         rw [s85_5_j, s85_5_eq]
         refine Sm.i (fun k60 => ?_) (fun k60 => ?_)
         ·exact Sm.fin E7 rfl
         ·exact ih _ (by omega) x1 _ ⟨zx5.k, zx5.s, zx5.n⟩ _ _ _ _ lx20 hx20 x21 (IntKind.i64.wrap (x22 + 1)) _ E7 (y7.pick (.cons _ (.cons_cons _ (.cons_cons _ .slnil))))
        ·rw [s85_5_j, s85_5_eq]
         refine Sm.cf rfl ?_
         exact ih _ (by omega) x1 _ ⟨zx5.k, zx5.s, zx5.n⟩ _ _ _ _ lx20 hx20 x21 (IntKind.i64.wrap (x22 + 1)) _ E7 (y7.pick (.cons _ (.cons_cons _ (.cons_cons _ .slnil))))
  ·refine Sm.b rfl ?_
   refine Sm.b (y0.ldO 1 0 rfl rfl) ?_
   refine Sm.b rfl ?_
   refine Sm.i (fun k61 => ?_) (fun k61 => ?_)
   ·refine Sm.b rfl ?_
    refine Sm.b (y0.ldO 1 1 rfl rfl) ?_
    refine Sm.b rfl ?_
    refine Sm.c (t134 (by omega) (H.ext E0) (y0.rowF 1 rfl) (Sis.ext E0) (y0.rowF 0 rfl) x1 zx5.s) fun r62 g62 e55 X62 => ?_
    have y62 := y0.ext X62
    have E62 := E0.trans (X62.mono E0.size)
    refine Sm.b rfl ?_
    exact Sm.fin E62 rfl
   ·refine Sm.i (fun k63 => ?_) (fun k63 => ?_)
    ·refine Sm.b rfl ?_
     refine Sm.b rfl ?_
     refine Sm.b (y0.ldF 0 0 rfl rfl) ?_
     refine Sm.b rfl ?_
     refine Sm.b rfl ?_
     refine Sm.b (y0.ldF 1 0 rfl rfl) ?_
     refine Sm.mo fun w64 e58 => ?_
     obtain ⟨q64, i64, l64⟩ := H.w.at e58
     refine Sm.b i64 ?_
     refine Sm.b (l64 _ E0) ?_
     refine Sm.b rfl ?_
     exact Sm.fin E0 rfl
    ·refine Sm.i (fun k65 => ?_) (fun k65 => ?_)
     ·refine Sm.b rfl ?_
      refine Sm.b (y0.ldO 1 1 rfl rfl) ?_
      refine Sm.b rfl ?_
      refine Sm.c (t135 (by omega) (H.ext E0) (y0.rowF 1 rfl) (Sis.ext E0) (y0.rowF 0 rfl) x1 zx5.s) fun r66 g66 e60 X66 => ?_
      have y66 := y0.ext X66
      have E66 := E0.trans (X66.mono E0.size)
      refine Sm.b rfl ?_
      exact Sm.fin E66 rfl
     ·exact Sm.fin E0 rfl
def m104 (a : Ar) (is : List Int) (p : Int) : Option (Bool) :=
 (m72 a p).bind fun r1 => (m113 r1.k r1.s).bind fun r4 => mS104_0 a is 20000 p ⟨r1.k, r1.s, r1.n⟩ r4 (r4.length : Int) 0
theorem t104 {D : Nat} {h : AHeap} (hD : 20003 ≤ D) {wv rv : Value} {a : Ar} (H : ArH h wv rv a) {pa : Nat} (RA : Row h pa (arCells wv rv a) ∧ pa < h.size) {vis ms mb : Value} {is : List Int} (Sis : SlI .u8 h vis is) {ps : Nat} (RS : Row h ps [ptr pa 0, vis, ms, mb] ∧ ps < h.size) (p : Int) : SmR h (En Value.bool) (m104 a is p) (call Tp Ms D 85 [ptr ps 0, .int .i64 p] h) := by
 obtain ⟨D, rfl⟩ : ∃ d, D = d + 1 := ⟨D - 1, by omega⟩
 rw [c85, e85]
 unfold m104
 have y0 := ((Cx.start0 h).addF RA.1 RA.2).addF RS.1 RS.2
 have E0 := Ext.refl h.size h
 refine Sm.b rfl ?_
 refine Sm.b rfl ?_
 refine Sm.b (y0.ldF 0 0 rfl rfl) ?_
 refine Sm.c (t72 (by omega) (H.ext E0) (y0.rowF 1 rfl) p) fun r1 g1 e1 X1 => ?_
 have y1 := y0.ext X1
 have E1 := E0.trans (X1.mono E0.size)
 refine Sm.n y1 fun p2 g2 X2 y2 => ?_
 have E2 := E1.trans (X2.mono E1.size)
 refine Sm.st y2 0 rfl rfl rfl (by simp [splice]) fun g3 X3 y3 => ?_
 have E3 := E2.trans X3
 refine Sm.b rfl ?_
 refine Sm.b (y3.ldO 0 0 rfl rfl) ?_
 refine Sm.b rfl ?_
 refine Sm.b rfl ?_
 refine Sm.b (y3.ldO 0 1 rfl rfl) ?_
 refine Sm.b rfl ?_
 refine Sm.cr (t113 (by omega) r1.k r1.s) fun r4 v4 g4 e1004 X4 R4 => ?_
 obtain ⟨i4, q4, b4, h4, o4, z4⟩ := R4
 have y4 := y3.add X4 o4 z4
 have E4 := E3.trans (X4.mono E3.size)
 refine Sm.b h4.len ?_
 refine Sm.b rfl ?_
 exact tS104_0 (by omega) (by omega) H Sis 20000 _ (by omega) p _ ⟨r1.k, r1.s, r1.n⟩ _ _ _ _ r4 h4 (r4.length : Int) 0 _ E4 (y4.pick (.cons_cons _ (.cons_cons _ .slnil)))
def m107 (v : Vl) (a : Ar) (is : List Int) : Option (Bool) :=
 (m108 ⟨v.t, v.n⟩).bind fun r2 => bif !r2 then some true else bif v.t == 8 then some true else (m109 a is ⟨v.t, v.n⟩ (-1)).bind fun r5 => some (!r5)
theorem t107 {D : Nat} {h : AHeap} (hD : 7 ≤ D) (v : Vl) {wv rv : Value} {a : Ar} (H : ArH h wv rv a) {pa : Nat} (RA : Row h pa (arCells wv rv a) ∧ pa < h.size) {vis ms mb : Value} {is : List Int} (Sis : SlI .u8 h vis is) {ps : Nat} (RS : Row h ps [ptr pa 0, vis, ms, mb] ∧ ps < h.size) {pc : Nat} (RC : Row h pc [ptr ps 0] ∧ pc < h.size) : SmR h (En Value.bool) (m107 v a is) (call Tp Ms D 88 [v.v, ptr pc 0] h) := by
 obtain ⟨D, rfl⟩ : ∃ d, D = d + 1 := ⟨D - 1, by omega⟩
 rw [c88, e88]
 unfold m107
 have y0 := (((Cx.start0 h).addF RA.1 RA.2).addF RS.1 RS.2).addF RC.1 RC.2
 have E0 := Ext.refl h.size h
 refine Sm.b rfl ?_
 refine Sm.n y0 fun p1 g1 X1 y1 => ?_
 have E1 := E0.trans (X1.mono E0.size)
 refine Sm.b (y1.ldON 0 rfl rfl) ?_
 refine Sm.c (t108 (by omega) ⟨v.t, v.n⟩) fun r2 g2 e2 X2 => ?_
 have y2 := y1.ext X2
 have E2 := E1.trans (X2.mono E1.size)
 refine Sm.b rfl ?_
 refine Sm.i (fun k3 => ?_) (fun k3 => ?_)
 ·exact Sm.fin E2 rfl
 ·refine Sm.b rfl ?_
  refine Sm.b (y2.ldO 0 0 rfl rfl) ?_
  refine Sm.b rfl ?_
  refine Sm.i (fun k4 => ?_) (fun k4 => ?_)
  ·exact Sm.fin E2 rfl
  ·refine Sm.b (y2.ldF 0 0 rfl rfl) ?_
   refine Sm.b (y2.ldON 0 rfl rfl) ?_
   refine Sm.c (t109 (by omega) (H.ext E2) (y2.rowF 2 rfl) (Sis.ext E2) (y2.rowF 1 rfl) ⟨v.t, v.n⟩ (-1)) fun r5 g5 e1005 X5 => ?_
   have y5 := y2.ext X5
   have E5 := E2.trans (X5.mono E2.size)
   refine Sm.b rfl ?_
   exact Sm.fin E5 rfl
def mS137_0 (a : Ar) (is : List Int) : Nat → Int → Int → Option (Int)
 | 0, _, _ => none
 | f + 1, x7, x8 =>
  bif decide (x8 < x7) then (rd a.rs x8).bind fun w2 => (m107 ⟨w2.t, w2.n⟩ a is).bind fun r3 => bif r3 then some x8 else mS137_0 a is f x7 (IntKind.i64.wrap (x8 + 1)) else some (-1)
theorem tS137_0 {D N : Nat} {h : AHeap} (hD : 7 ≤ D) (hN : 20000 ≤ N) {wv rv : Value} {a : Ar} (H : ArH h wv rv a) {pa : Nat} {vis ms mb : Value} {is : List Int} (Sis : SlI .u8 h vis is) {ps pc : Nat}  : ∀ (f n2 : Nat) (_ : f ≤ n2) (x7 : Int) (x8 : Int) (g : AHeap) (_ : Ext h.size h g) (_ : Cx h.size g [(pc, [ptr ps 0]), (ps, [ptr pa 0, vis, ms, mb]), (pa, arCells wv rv a)] [] []), SmR h (En (Value.int .i64)) (mS137_0 a is f x7 x8) (s102_0 hk0 (call Tp Ms D) N n2 rv (.func (.func 88) (List.toArray []) (List.toArray [ptr pc 0])) x7 x8 g) := by
 intro f
 induction f with
 | zero => intros; exact Sm.none
 | succ f ih =>
  intro n2 hf x7 x8 g0 E0 y0
  obtain ⟨n2, rfl⟩ : ∃ k, n2 = k + 1 := ⟨n2 - 1, by omega⟩
  rw [s102_0_eq, mS137_0]
  refine Sm.i (fun k1 => ?_) (fun k1 => ?_)
  ·refine Sm.mo fun w2 e2 => ?_
   obtain ⟨q2, o2, i2, l2⟩ := H.r.at e2
   refine Sm.b i2 ?_
   refine Sm.b (l2 _ E0).1 ?_
   refine Sm.c (t107 (by omega) ⟨w2.t, w2.n⟩ (H.ext E0) (y0.rowF 2 rfl) (Sis.ext E0) (y0.rowF 1 rfl) (y0.rowF 0 rfl)) fun r3 g3 e1003 X3 => ?_
   have y3 := y0.ext X3
   have E3 := E0.trans (X3.mono E0.size)
   refine Sm.b rfl ?_
   refine Sm.i (fun k4 => ?_) (fun k4 => ?_)
   ·exact Sm.fin E3 rfl
   ·exact ih _ (by omega) x7 (IntKind.i64.wrap (x8 + 1)) _ E3 (y3.pick .slnil)
  ·exact Sm.fin E0 rfl
def m137 (a : Ar) (is : List Int) : Option (Int) :=
 mS137_0 a is 20000 (a.rs.length : Int) 0
theorem t137 {D : Nat} {h : AHeap} (hD : 20001 ≤ D) {wv rv : Value} {a : Ar} (H : ArH h wv rv a) {pa : Nat} (RA : Row h pa (arCells wv rv a) ∧ pa < h.size) {vis ms mb : Value} {is : List Int} (Sis : SlI .u8 h vis is) {ps : Nat} (RS : Row h ps [ptr pa 0, vis, ms, mb] ∧ ps < h.size) {pc : Nat} (RC : Row h pc [ptr ps 0] ∧ pc < h.size) : SmR h (En (Value.int .i64)) (m137 a is) (call Tp Ms D 102 [rv, .func (.func 88) (List.toArray []) (List.toArray [ptr pc 0])] h) := by
 obtain ⟨D, rfl⟩ : ∃ d, D = d + 1 := ⟨D - 1, by omega⟩
 rw [c102, e102]
 unfold m137
 have y0 := (((Cx.start0 h).addF RA.1 RA.2).addF RS.1 RS.2).addF RC.1 RC.2
 have E0 := Ext.refl h.size h
 refine Sm.b H.r.len ?_
 refine Sm.b rfl ?_
 exact tS137_0 (by omega) (by omega) H Sis 20000 _ (by omega) (a.rs.length : Int) 0 _ E0 (y0.pick .slnil)
def m106 (a : Ar) (is : List Int) : Option (Bool) :=
 (m137 a is).bind fun r1 => some (decide (r1 ≥ 0))
theorem t106 {D : Nat} {h : AHeap} (hD : 20002 ≤ D) {wv rv : Value} {a : Ar} (H : ArH h wv rv a) {pa : Nat} (RA : Row h pa (arCells wv rv a) ∧ pa < h.size) {vis ms mb : Value} {is : List Int} (Sis : SlI .u8 h vis is) {ps : Nat} (RS : Row h ps [ptr pa 0, vis, ms, mb] ∧ ps < h.size) {pc : Nat} (RC : Row h pc [ptr ps 0] ∧ pc < h.size) : SmR h (En Value.bool) (m106 a is) (call Tp Ms D 87 [rv, .func (.func 88) (List.toArray []) (List.toArray [ptr pc 0])] h) := by
 obtain ⟨D, rfl⟩ : ∃ d, D = d + 1 := ⟨D - 1, by omega⟩
 rw [c87, e87]
 unfold m106
 have y0 := (((Cx.start0 h).addF RA.1 RA.2).addF RS.1 RS.2).addF RC.1 RC.2
 have E0 := Ext.refl h.size h
 refine Sm.c (t137 (by omega) (H.ext E0) (y0.rowF 2 rfl) (Sis.ext E0) (y0.rowF 1 rfl) (y0.rowF 0 rfl)) fun r1 g1 e1 X1 => ?_
 have y1 := y0.ext X1
 have E1 := E0.trans (X1.mono E0.size)
 refine Sm.b rfl ?_
 exact Sm.fin E1 rfl
end Go.Proofs.YtnjnggejbpkgoaaGreat
