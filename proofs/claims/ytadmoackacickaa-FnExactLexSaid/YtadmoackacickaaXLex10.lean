/- impl's number. -/
import Derived.Test.YtadmoackacickaaXLex9
set_option linter.unusedSimpArgs false
namespace Go.Proofs.Ytadmoackacickaa
open Go Go.AH

def tok0 : Tok := ⟨0, 0, ⟨#[]⟩, 0⟩
def numBad (s : ByteArray) (i : Nat) : Bool :=
  let e := endOf isDig s i
  decide (e - i > 15) || (decide (e - i > 1) && bt s i == 48) || (decide (e < s.size) && isLet (bt s e))
def numTok (s : ByteArray) (i : Nat) : Tok := ⟨3, i, s.extract i (endOf isDig s i), numGo s (endOf isDig s i - i) i 0⟩
theorem subS {s : ByteArray} {i e : Nat} (h1 : i ≤ e) (h2 : e ≤ s.size) : aSubS (.string s) (some (.int .i64 (i : Int))) (some (.int .i64 (e : Int))) = some (.string (s.extract i e)) := by
  have : ((e : Int) ≤ (s.size : Int)) := by omega
  simp [aSubS, aBound, h1, h2]
theorem l95 {d : Nat} (hd : 3010 < d) {s : ByteArray} (hs : s.size ≤ 3000) {i : Nat} (hi : i < s.size) (h : AHeap) :
    ∃ h', call Try.prog Ms (d + 2) 95 [.string s, .int .i64 (i : Int)] h = some (.tuple (List.toArray [(if numBad s i then tok0 else numTok s i).val, .int .i64 (if numBad s i then 3 else 0)]), h') ∧ Ext h.size h h' := by
  have hbd := endOf_bd (p := isDig) (s := s) _ i rfl (by omega)
  generalize he : endOf isDig s i = e at hbd
  obtain ⟨hb1, hb2⟩ := hbd
  have x1 := Ext.new (Nat.le_refl h.size) 53 tok0.cells
  have q1 := TB.new h tok0
  have x2 := Ext.new (Nat.le_refl (h.new 53 tok0.cells).size) 53 tok0.cells
  have p1 := TB.new (h.new 53 tok0.cells) tok0
  obtain ⟨h3, s3, x3, p3⟩ := p1.stAll ⟨3, i, s.extract i e, 0⟩
  have q3 := (q1.ext x2 (by simp [AHeap.new])).ext x3 (by simp [AHeap.new])
  have l51' := l51 (d := d) (g := 94) (p := isDig) hs (by omega) (fun n h => by obtain ⟨d, rfl⟩ : ∃ k, d = k + 1 := ⟨d - 1, by omega⟩; exact l94 d n h) (i := i) (by omega) (h.new 53 tok0.cells)
  rw [he] at l51'
  obtain ⟨h4, s4, x4, q4⟩ := q3.stAll tok0
  have hsz : h.size + 1 = (h.new 53 tok0.cells).size := rfl
  have X3 : Ext h.size h h3 := x1.trans ((x2.mono (by omega)).trans (x3.mono (by omega)))
  have hw : IntKind.i64.wrap ((e : Int) - (i : Int)) = (e : Int) - (i : Int) := wr (by omega) (by omega)
  have hz : ([Value.int .i64 0, .int .i64 0, .string ⟨#[]⟩, .int .i64 0] : List Value) = tok0.cells := rfl
  have hz2 : (Value.agg (List.toArray [Value.int .i64 0, .int .i64 0, .string ⟨#[]⟩, .int .i64 0])) = tok0.val := rfl
  have hz3 : (Value.agg (List.toArray [Value.int .i64 3, .int .i64 (i : Int), .string (s.extract i e), .int .i64 0])) = (⟨3, i, s.extract i e, 0⟩ : Tok).val := rfl
  have s4' : aSt h3 (ptr h.size 0) (.agg tok0.cells.toArray) 4 = some h4 := s4
  have l4 : aLdN h4 (ptr h.size 0) 4 = some tok0.val := TB.ldAll q4.row
  obtain ⟨h5, r5, x5⟩ := num95 (d := d + 1) (N := d + 1) (q := h.size) (p := (h.new 53 tok0.cells).size) hs hb2 (e - i) i (d + 1) _ tok0 h3 rfl (by omega) (by omega) p3 q3 (by omega) (by omega)
  have good : s95_0 hk0 (call Try.prog Ms (d + 1)) (d + 1) s (i : Int) (ptr h.size 0) (e : Int) (ptr (h.new 53 tok0.cells).size 0) h3 = some (.tuple (List.toArray [(numTok s i).val, .int .i64 0]), h5) := by
    rw [s95_0_j, s95_0_eq, r5]; unfold numTok; rw [he]
  rw [c95, e95]
  simp only [aNew, hz, hz2, l51', Option.bind_some, asI, if_true, subS hb1 hb2, asS, hz3, s3, hw]
  have l92' : ∀ (n : Int) (h : AHeap), call Try.prog Ms (d + 1) 92 [.int .u8 n] h = some (.bool (isLet n), h) := l92 d
  have a3 : ∀ t : Tok, List.all [t.val, .int .i64 3] isS2 = true := fun _ => rfl
  simp only [s4', l4, good, l92', Option.bind_some, asB, a3, cond_true]
  unfold numBad
  simp only [he]
  have c1 : decide ((e : Int) - (i : Int) > 15) = decide (e - i > 15) := by simp; omega
  have c2 : decide ((e : Int) - (i : Int) > 1) = decide (e - i > 1) := by simp; omega
  have c3 : decide ((e : Int) < (s.size : Int)) = decide (e < s.size) := by simp
  rw [c1, c2, c3, strIx hi]
  generalize decide (e - i > 15) = b1
  generalize decide (e - i > 1) = b2
  simp only [Option.bind_some, if_true]
  generalize (bt s i == 48) = b3
  have B := X3.trans x4
  have G := X3.trans x5
  by_cases hlt : e < s.size
  · simp only [hlt, decide_true, cond_true, strIx hlt, Option.bind_some, if_true]
    generalize isLet (bt s e) = b4
    cases b1 <;> cases b2 <;> cases b3 <;> cases b4 <;> first | exact ⟨h4, rfl, B⟩ | exact ⟨h5, rfl, G⟩
  · simp only [hlt, decide_false, cond_false]
    cases b1 <;> cases b2 <;> cases b3 <;> first | exact ⟨h4, rfl, B⟩ | exact ⟨h5, rfl, G⟩
end Go.Proofs.Ytadmoackacickaa
