/- Plain laws of the small evaluator's heap: frames, rows that are one's own. -/
import Derived.Test.YtadmoackacickaaXApp
namespace Go.AH

/-- Below b nothing has turned. -/
structure Ext (b : Nat) (h h' : AHeap) : Prop where
  size : h.size ≤ h'.size
  obj : ∀ i, i < b → h'.obj i = h.obj i
  ep : ∀ e r, r < b → h'.ep e r = h.ep e r
  tip : ∀ e r, r < b → h'.tip e r = h.tip e r
theorem Ext.refl (b : Nat) (h : AHeap) : Ext b h h := ⟨Nat.le_refl _, fun _ _ => rfl, fun _ _ _ => rfl, fun _ _ _ => rfl⟩
theorem Ext.trans {b : Nat} {h h' h'' : AHeap} (x : Ext b h h') (y : Ext b h' h'') : Ext b h h'' :=
  ⟨Nat.le_trans x.size y.size, fun i hi => (y.obj i hi).trans (x.obj i hi), fun e r hr => (y.ep e r hr).trans (x.ep e r hr), fun e r hr => (y.tip e r hr).trans (x.tip e r hr)⟩
theorem Ext.mono {b c : Nat} {h h' : AHeap} (x : Ext b h h') (hc : c ≤ b) : Ext c h h' :=
  ⟨x.size, fun i hi => x.obj i (by omega), fun e r hr => x.ep e r (by omega), fun e r hr => x.tip e r (by omega)⟩
theorem Ext.at? {b : Nat} {h h' : AHeap} (x : Ext b h h') {i : Nat} {o : AObj} (hi : i < b) (ho : h.at? i = some o) : h'.at? i = some o := by
  obtain ⟨h1, h2, h3, h4⟩ := at?_obj ho
  exact at?_mk ((x.obj i hi).trans h1) (by have := x.size; omega) h3 ((x.ep _ _ (by omega)).trans h4)
theorem Ext.new {b : Nat} {h : AHeap} (hb : b ≤ h.size) (e : TypeId) (cs : List Value) : Ext b h (h.new e cs) :=
  ⟨by simp [AHeap.new], fun i hi => by simp [AHeap.new]; omega, fun _ _ _ => rfl, fun e' r hr => by simp [AHeap.new]; omega⟩
theorem Ext.put {b : Nat} {h : AHeap} {i : Nat} {o : AObj} (hi : b ≤ i) (hr : b ≤ o.root) (cs : List Value) : Ext b h (h.put i o cs) :=
  ⟨Nat.le_refl _, fun j hj => by simp [AHeap.put]; omega, fun e r h' => by simp [AHeap.put]; omega, fun e r h' => by simp [AHeap.put]; omega⟩
theorem Ext.app {b : Nat} {h : AHeap} {o : AObj} (hb : b ≤ h.size) (hr : b ≤ o.root) (k : Nat) (cs : List Value) : Ext b h (h.app o k cs) :=
  ⟨by simp [AHeap.app], fun j hj => by simp [AHeap.app]; omega, fun e r h' => by simp only [AHeap.app]; rw [if_neg (by omega)], fun e r h' => by simp only [AHeap.app]; rw [if_neg (by omega)]⟩

/-- A row that may be written, of a family from b on. -/
def Own (b : Nat) (h : AHeap) (i : Nat) (e : TypeId) (cs : List Value) : Prop := ∃ root ep, h.at? i = some ⟨root, ep, false, e, cs⟩ ∧ b ≤ root
/-- A row that can be read. -/
def Row (h : AHeap) (i : Nat) (cs : List Value) : Prop := ∃ o, h.at? i = some o ∧ o.cells = cs
theorem Own.row {b : Nat} {h : AHeap} {i : Nat} {e : TypeId} {cs : List Value} (x : Own b h i e cs) : Row h i cs := let ⟨_, _, h1, _⟩ := x; ⟨_, h1, rfl⟩
theorem Own.lt {b : Nat} {h : AHeap} {i : Nat} {e : TypeId} {cs : List Value} (x : Own b h i e cs) : b ≤ i ∧ i < h.size := by
  obtain ⟨r, ep, h1, h2⟩ := x
  obtain ⟨_, h3, h4, _⟩ := at?_obj h1
  exact ⟨Nat.le_trans h2 h4, h3⟩
theorem Own.ext {b c : Nat} {h h' : AHeap} {i : Nat} {e : TypeId} {cs : List Value} (x : Own b h i e cs) (y : Ext c h h') (hi : i < c) : Own b h' i e cs :=
  let ⟨r, ep, h1, h2⟩ := x; ⟨r, ep, y.at? hi h1, h2⟩
theorem Row.ext {c : Nat} {h h' : AHeap} {i : Nat} {cs : List Value} (x : Row h i cs) (y : Ext c h h') (hi : i < c) : Row h' i cs :=
  let ⟨o, h1, h2⟩ := x; ⟨o, y.at? hi h1, h2⟩
theorem Own.mono {b c : Nat} {h : AHeap} {i : Nat} {e : TypeId} {cs : List Value} (x : Own b h i e cs) (hc : c ≤ b) : Own c h i e cs :=
  let ⟨r, ep, h1, h2⟩ := x; ⟨r, ep, h1, Nat.le_trans hc h2⟩
theorem Own.new {b : Nat} {h : AHeap} (hb : b ≤ h.size) (e : TypeId) (cs : List Value) : Own b (h.new e cs) h.size e cs := ⟨_, _, at?_new_same h e cs, hb⟩
theorem Row.rd {h : AHeap} {i off n : Nat} {cs : List Value} (x : Row h i cs) (hn : off + n ≤ cs.length) : h.rd i off n = some ((cs.drop off).take n) := by
  obtain ⟨o, h1, rfl⟩ := x
  simp [AHeap.rd, h1, hn]
theorem Row.ld1 {h : AHeap} {i off : Nat} {cs : List Value} {v : Value} (x : Row h i cs) (hv : cs[off]? = some v) : aLd1 h (ptr i off) = some v := by
  have hl := (List.getElem?_eq_some_iff.1 hv).1
  simp only [aLd1, ptr, x.rd (off := off) (n := 1) (by omega), Option.bind_some]
  rw [List.head?_take, if_neg (by omega), List.head?_drop, hv]
theorem Row.ldN {h : AHeap} {i off n : Nat} {cs : List Value} (x : Row h i cs) (hn : off + n ≤ cs.length) : aLdN h (ptr i off) n = some (.agg ((cs.drop off).take n).toArray) := by
  simp [aLdN, ptr, x.rd hn]
theorem Own.st {b : Nat} {h : AHeap} {i off n : Nat} {e : TypeId} {cs vs : List Value} {v : Value} (x : Own b h i e cs) (hv : aCells v = some vs) (hl : vs.length = n) (hn : off + n ≤ cs.length) :
    ∃ h', aSt h (ptr i off) v n = some h' ∧ Ext b h h' ∧ Own b h' i e (splice cs off vs) ∧ h'.size = h.size ∧
      (∀ j cs', Row h j cs' → (∀ o, h.at? j = some o → ¬ (o.elem = e ∧ ∃ oi, h.at? i = some oi ∧ o.root = oi.root)) → j ≠ i → Row h' j cs') := by
  obtain ⟨r, ep, h1, h2⟩ := x
  have hi := at?_obj h1
  refine ⟨h.put i ⟨r, ep, false, e, cs⟩ (splice cs off vs), by simp [aSt, ptr, h1, hv, hl, hn], Ext.put (Nat.le_trans h2 hi.2.2.1) h2 _, ⟨_, _, at?_put_same h1 _, h2⟩, rfl, fun j cs' ⟨o, ho, hc⟩ hf hne => ?_⟩
  exact ⟨o, at?_put_other ho hne _ (fun hh => hf o ho ⟨hh.1, _, h1, hh.2⟩), hc⟩
theorem Own.app {b : Nat} {h : AHeap} {i n m esz bytes : Nat} {e : TypeId} {cs ms : List Value} {x : Value} (o : Own b h i e cs) (hb : b ≤ h.size) (hsrc : aSrc h esz x = some (m, ms)) (hn : n * esz = cs.length)
    (h1 : n + m ≤ most) (h2 : (n + m) * bytes ≤ most) :
    ∃ h', aApp h e esz bytes (slc i 0 n) x = some (slc h.size 0 (n + m), h') ∧ Ext b h h' ∧ Own b h' h.size e (cs ++ ms) ∧ h'.size = h.size + 1 := by
  obtain ⟨r, ep, ha, hr⟩ := o
  refine ⟨h.app ⟨r, ep, false, e, cs⟩ (n * esz) (cs ++ ms), ?_, Ext.app hb hr _ _, ⟨_, _, at?_app_same ha _ _, hr⟩, rfl⟩
  simp [aApp, aAppG, slc, ha, hsrc, hn, h1, h2]
theorem Row.src {h : AHeap} {i off n esz : Nat} {cs : List Value} (x : Row h i cs) (hn : off + n * esz ≤ cs.length) : aSrc h esz (slc i off n) = some (n, (cs.drop off).take (n * esz)) := by
  simp [aSrc, slc, x.rd hn]
end Go.AH
