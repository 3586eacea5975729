import Derived.Test.YtajpnemfppaafaaGreatXAD
import Derived.Laws.Strings
import Derived.KernelRfl
import Derived.Test.YtajpnemfppaafaaGreatProg
set_option linter.unusedSimpArgs false
set_option linter.unusedVariables false
/- The lexers' small functions. -/
namespace Go.Proofs.YtajpnemfppaafaaGreat
open Go Go.AH
def isLet (x : Int) : Bool := decide (97 ≤ x ∧ x ≤ 122) || decide (65 ≤ x ∧ x ≤ 90)
def isDig (x : Int) : Bool := decide (48 ≤ x ∧ x ≤ 57)
def isPln (x : Int) : Bool := decide (32 ≤ x ∧ x ≤ 126) && x != 34
theorem l87 (d : Nat) (n : Int) (h : AHeap) : call Tp Ms (d + 1) 285 [.int .u8 n] h = some (.bool (isLet n), h) := by
 rw [c285, e285]; unfold isLet
 by_cases h1 : 97 ≤ n <;> by_cases h2 : n ≤ 122 <;> by_cases h3 : 65 ≤ n <;> by_cases h4 : n ≤ 90 <;> simp [h1, h2, h3, h4]
theorem l92 (d : Nat) (n : Int) (h : AHeap) : call Tp Ms (d + 1) 275 [.int .u8 n] h = some (.bool (isLet n), h) := by
 rw [c275, e275]; unfold isLet
 by_cases h1 : 97 ≤ n <;> by_cases h2 : n ≤ 122 <;> by_cases h3 : 65 ≤ n <;> by_cases h4 : n ≤ 90 <;> simp [h1, h2, h3, h4]
theorem l89 (d : Nat) (n : Int) (h : AHeap) : call Tp Ms (d + 1) 287 [.int .u8 n] h = some (.bool (isDig n), h) := by
 rw [c287, e287]; unfold isDig
 by_cases h1 : 48 ≤ n <;> by_cases h2 : n ≤ 57 <;> simp [h1, h2]
theorem l94 (d : Nat) (n : Int) (h : AHeap) : call Tp Ms (d + 1) 277 [.int .u8 n] h = some (.bool (isDig n), h) := by
 rw [c277, e277]; unfold isDig
 by_cases h1 : 48 ≤ n <;> by_cases h2 : n ≤ 57 <;> simp [h1, h2]
theorem l90 (d : Nat) (n : Int) (h : AHeap) : call Tp Ms (d + 1) 288 [.int .u8 n] h = some (.bool (isPln n), h) := by
 rw [c288, e288]; unfold isPln
 by_cases h1 : 32 ≤ n <;> by_cases h2 : n ≤ 126 <;> simp [h1, h2]
theorem l96 (d : Nat) (n : Int) (h : AHeap) : call Tp Ms (d + 1) 279 [.int .u8 n] h = some (.bool (isPln n), h) := by
 rw [c279, e279]; unfold isPln
 by_cases h1 : 32 ≤ n <;> by_cases h2 : n ≤ 126 <;> simp [h1, h2]
theorem l52 (d : Nat) (n : Int) (h : AHeap) : call Tp Ms (d + 1) 192 [.int .u8 n] h = some (.bool (n != 10), h) := by rw [c192, e192]
def bt (s : ByteArray) (i : Nat) : Int := ((s.data[i]?).getD 0).toNat
theorem strIx {s : ByteArray} {i : Nat} (hi : i < s.size) : aStrIx (.string s) (.int .i64 (i : Int)) = some (.int .u8 (bt s i)) := by
 have h1 : s[i]? = some (s[i]'hi) := by simp [hi]
 have h2 : s.data[i]? = some (s[i]'hi) := Array.getElem?_eq_getElem (by exact hi)
 simp [aStrIx, h1, bt, h2]
theorem wr {x : Int} (h0 : -1000000 ≤ x) (h1 : x ≤ 4611686018427387904) : IntKind.i64.wrap x = x := by
 simp [IntKind.wrap, IntKind.bits, IntKind.signed]; omega
def endGo (p : Int → Bool) (s : ByteArray) : Nat → Nat → Nat
 | 0, i => i
 | f + 1, i => if i < s.size ∧ p (bt s i) = true then endGo p s f (i + 1) else i
def endOf (p : Int → Bool) (s : ByteArray) (i : Nat) : Nat := endGo p s (s.size - i) i
theorem endOf_stop {p : Int → Bool} {s : ByteArray} {i : Nat} (h : ¬ (i < s.size ∧ p (bt s i) = true)) : endOf p s i = i := by
 unfold endOf
 cases s.size - i with
 | zero => rfl
 | succ f => simp only [endGo]; rw [if_neg h]
theorem endOf_step {p : Int → Bool} {s : ByteArray} {i : Nat} (h : i < s.size) (hp : p (bt s i) = true) : endOf p s i = endOf p s (i + 1) := by
 unfold endOf
 obtain ⟨f, hf⟩ : ∃ f, s.size - i = f + 1 := ⟨s.size - i - 1, by omega⟩
 rw [hf, show s.size - (i + 1) = f by omega]
 simp only [endGo]; rw [if_pos ⟨h, hp⟩]
theorem endOf_bd {p : Int → Bool} {s : ByteArray} : ∀ (n i : Nat), s.size - i = n → i ≤ s.size → i ≤ endOf p s i ∧ endOf p s i ≤ s.size := by
 intro n
 induction n with
 | zero => intro i hn hi; rw [endOf_stop (by omega)]; omega
 | succ n ih =>
  intro i hn hi
  by_cases h : i < s.size ∧ p (bt s i) = true
  ·rw [endOf_step h.1 h.2]
   have := ih (i + 1) (by omega) (by omega)
   omega
  ·rw [endOf_stop h]; omega
theorem run_loop {d N g : Nat} {p : Int → Bool} {s : ByteArray} (hs : s.size ≤ 3000) (hg : ∀ n h, call Tp Ms d g [.int .u8 n] h = some (.bool (p n), h)) (h : AHeap) :
  ∀ (n i m : Nat), s.size - i = n → i ≤ s.size → n < m → s191_0 hk0 (call Tp Ms d) N m s (i : Int) (.func (.func g) #[] #[]) h = some (.int .i64 (endOf p s i : Nat), h) := by
 intro n
 induction n with
 | zero =>
  intro i m hn hi hm
  obtain ⟨m, rfl⟩ : ∃ k, m = k + 1 := ⟨m - 1, by omega⟩
  rw [s191_0_eq, endOf_stop (by omega)]
  have : ¬ ((i : Int) < (s.size : Int)) := by omega
  simp [this]
 | succ n ih =>
  intro i m hn hi hm
  obtain ⟨m, rfl⟩ : ∃ k, m = k + 1 := ⟨m - 1, by omega⟩
  have hlt : i < s.size := by omega
  have : (i : Int) < (s.size : Int) := by omega
  rw [s191_0_eq]
  simp only [this, decide_true, cond_true, strIx hlt, oBs, asI, if_true, aCallV, List.append_nil, List.nil_append, hg, asB]
  cases hp : p (bt s i) with
  | true =>
   rw [endOf_step hlt hp, cond_true, wr (by omega) (by omega)]
   exact ih (i + 1) m (by omega) (by omega) (by omega)
  | false =>
   rw [endOf_stop (by simp [hp])]; rfl
theorem l51 {d g : Nat} {p : Int → Bool} {s : ByteArray} (hs : s.size ≤ 3000) (hd : 3000 < d) (hg : ∀ n h, call Tp Ms d g [.int .u8 n] h = some (.bool (p n), h)) {i : Nat} (hi : i ≤ s.size) (h : AHeap) :
  call Tp Ms (d + 1) 191 [.string s, .int .i64 (i : Int), .func (.func g) #[] #[]] h = some (.int .i64 (endOf p s i : Nat), h) := by
 rw [c191, e191]
 exact run_loop hs hg h _ i d rfl hi (by omega)
theorem cond_twice {α : Type} (b : Bool) (x y z : α) : (bif b then (bif b then x else y) else z) = bif b then x else z := by cases b <;> rfl
theorem cond_or (b c : Bool) (h : AHeap) : (bif b then some (Value.bool true, h) else some (Value.bool c, h)) = some (Value.bool (b || c), h) := by cases b <;> rfl
def wordsL : List ByteArray := [⟨#[108, 111, 99, 97, 108]⟩, ⟨#[102, 110]⟩, ⟨#[105, 102]⟩, ⟨#[101, 108, 115, 101]⟩, ⟨#[119, 104, 105, 108, 101]⟩, ⟨#[114, 101, 116, 117, 114, 110]⟩, ⟨#[116, 114, 117, 101]⟩, ⟨#[102, 97, 108, 115, 101]⟩, ⟨#[110, 105, 108]⟩, ⟨#[97, 110, 100]⟩, ⟨#[111, 114]⟩, ⟨#[110, 111, 116]⟩]
def isWd (t : ByteArray) : Bool := wordsL.any fun w => t.toList == w.toList
theorem l93 (d : Nat) (t : ByteArray) (h : AHeap) : call Tp Ms (d + 1) 276 [.string t] h = some (.bool (isWd t), h) := by
 rw [c276, e276]
 simp only [cond_twice]
 simp only [cond_or]
 simp only [isWd, wordsL, List.any_cons, List.any_nil]
theorem in_loop {d N : Nat} {t : ByteArray} {h : AHeap} {i : Nat} {ws : List ByteArray} (hr : Row h i (ws.map Value.string)) (hw : ws.length ≤ 3000) :
  ∀ (n j m : Nat), ws.length - j = n → j ≤ ws.length → n < m →
   s222_0 hk0 (call Tp Ms d) N m (slc i 0 ws.length) t (j : Int) h = some (.bool ((ws.drop j).any fun w => w.toList == t.toList), h) := by
 intro n
 induction n with
 | zero =>
  intro j m hn hj hm
  obtain ⟨m, rfl⟩ : ∃ k, m = k + 1 := ⟨m - 1, by omega⟩
  have : ¬ ((j : Int) < (ws.length : Int)) := by omega
  rw [s222_0_eq, List.drop_eq_nil_of_le (by omega)]
  simp [aLen, slc, asI, this]
 | succ n ih =>
  intro j m hn hj hm
  obtain ⟨m, rfl⟩ : ∃ k, m = k + 1 := ⟨m - 1, by omega⟩
  have hlt : j < ws.length := by omega
  have hI : (j : Int) < (ws.length : Int) := by omega
  have hix : aIdx (slc i 0 ws.length) (.int .i64 (j : Int)) 1 = some (ptr i j) := by simp [aIdx, slc, hlt]
  have hld : aLd1 h (ptr i j) = some (.string ws[j]) := hr.ld1 (by simp [hlt])
  have hlen : aLen (slc i 0 ws.length) = some (.int .i64 ws.length) := rfl
  rw [s222_0_eq]
  simp only [hlen, oBs, asI, if_true, hI, decide_true, cond_true, hix, hld, asS]
  rw [List.drop_eq_getElem_cons hlt, List.any_cons]
  cases hb : (ws[j].toList == t.toList) with
  | true => simp
  | false =>
   rw [cond_false, wr (by omega) (by omega), Bool.false_or]
   exact ih (j + 1) m (by omega) (by omega) (by omega)
theorem l88 {d : Nat} (hd : 3000 < d) (t : ByteArray) (h : AHeap) : ∃ h', call Tp Ms (d + 2) 286 [.string t] h = some (.bool (isWd t), h') ∧ Ext h.size h h' := by
 refine ⟨h.new 9 (wordsL.map Value.string), ?_, Ext.new (Nat.le_refl _) _ _⟩
 rw [c286, e286, c357, e357]
 simp only [aNewS, oBs]
 rw [c222, e222]
 have := in_loop (d := d) (N := d) (t := t) (h := h.new 9 (wordsL.map Value.string)) (i := h.size) (ws := wordsL) (Own.new (b := h.size) (Nat.le_refl _) _ _).row (by decide) _ 0 d rfl (by decide) (by simp [wordsL]; omega)
 have e : (ptr h.size 0, h) = (ptr h.size 0, h) := rfl
 rw [show (slc h.size 0 12) = slc h.size 0 wordsL.length from rfl]
 erw [this]
 simp only [oBs, asB, List.drop_zero]
 congr 3
 simp only [isWd]
 congr 1
 funext w
 exact Bool.beq_comm ..
structure Tok where
 k : Int
 at' : Int
 text : ByteArray
 i : Int
def Tok.cells (t : Tok) : List Value := [.int .i64 t.k, .int .i64 t.at', .string t.text, .int .i64 t.i]
def Tok.val (t : Tok) : Value := .agg t.cells.toArray
theorem Tok.aCells (t : Tok) : aCells t.val = some t.cells := rfl
theorem ld_at {h : AHeap} {i : Nat} {t : Tok} (r : Row h i t.cells) :
  aLd1 h (ptr i 0) = some (.int .i64 t.k) ∧ aLd1 h (ptr i 1) = some (.int .i64 t.at') ∧ aLd1 h (ptr i 2) = some (.string t.text) ∧ aLd1 h (ptr i 3) = some (.int .i64 t.i) :=
 ⟨r.ld1 rfl, r.ld1 rfl, r.ld1 rfl, r.ld1 rfl⟩
theorem aOff_ptr (i o n : Nat) : aOff (ptr i o) n = some (ptr i (o + n)) := rfl
def flat (ts : List Tok) : List Value := (ts.map Tok.cells).flatten
theorem flat_len : ∀ ts : List Tok, (flat ts).length = ts.length * 4
 | [] => rfl
 | t :: ts => by
  have := flat_len ts
  simp only [flat, List.map_cons, List.flatten_cons, List.length_append, List.length_cons] at *
  simp only [Tok.cells, List.length_cons, List.length_nil] at *
  omega
theorem flat_at : ∀ (ts : List Tok) (j : Nat) (hj : j < ts.length), ((flat ts).drop (j * 4)).take 4 = ts[j].cells
 | t :: ts, 0, _ => by simp [flat, Tok.cells]
 | t :: ts, j + 1, hj => by
  have := flat_at ts j (by simpa using hj)
  rw [show (j + 1) * 4 = 4 + j * 4 by omega, ← List.drop_drop]
  simpa [flat, Tok.cells] using this
def OS (b : Nat) (h : AHeap) (v : Value) (ts : List Tok) : Prop := (v = .slice none 0 0 ∧ ts = []) ∨ ∃ i, v = slc i 0 ts.length ∧ Own b h i 233 (flat ts)
theorem vbeq_str (t : ByteArray) : vbeq (.string t) (.string t) = true := by
 simp [vbeq, vbeq1, BEq.beq, ByteArray.beq]
 exact Array.isEqv_self _
def numGo (s : ByteArray) : Nat → Nat → Int → Int
 | 0, _, n => n
 | f + 1, i, n => numGo s f (i + 1) (IntKind.i64.wrap ((IntKind.i64.wrap (10 * n)) + (IntKind.i64.wrap (IntKind.u8.wrap (bt s i - 48)))))
def TB (b : Nat) (h : AHeap) (i : Nat) (t : Tok) : Prop := Own b h i 233 t.cells
theorem TB.new (h : AHeap) (t : Tok) : TB h.size (h.new 233 t.cells) h.size t := Own.new (Nat.le_refl _) _ _
theorem TB.row {b : Nat} {h : AHeap} {i : Nat} {t : Tok} (x : TB b h i t) : Row h i t.cells := Own.row x
theorem TB.ext {b c : Nat} {h h' : AHeap} {i : Nat} {t : Tok} (x : TB b h i t) (y : Ext c h h') (hi : i < c) : TB b h' i t := Own.ext x y hi
theorem TB.stAll {b : Nat} {h : AHeap} {i : Nat} {t : Tok} (x : TB b h i t) (u : Tok) : ∃ h', aSt h (ptr i 0) u.val 4 = some h' ∧ Ext b h h' ∧ TB b h' i u := by
 obtain ⟨h', h1, h2, h3, _, _⟩ := Own.st (off := 0) (n := 4) x u.aCells rfl (Nat.le_refl _)
 exact ⟨h', h1, h2, h3⟩
theorem TB.ldAll {h : AHeap} {i : Nat} {t : Tok} (x : Row h i t.cells) : aLdN h (ptr i 0) 4 = some t.val := x.ldN (off := 0) (n := 4) (Nat.le_refl _)
theorem TB.stK {b : Nat} {h : AHeap} {i : Nat} {t : Tok} (x : TB b h i t) (v : Int) : ∃ h', aSt h (ptr i 0) (.int .i64 v) 1 = some h' ∧ Ext b h h' ∧ TB b h' i { t with k := v } := by
 obtain ⟨h', h1, h2, h3, _, _⟩ := Own.st (off := 0) (n := 1) (v := .int .i64 v) x rfl rfl (by show 0 + 1 ≤ 4; omega)
 exact ⟨h', h1, h2, h3⟩
theorem TB.stT {b : Nat} {h : AHeap} {i : Nat} {t : Tok} (x : TB b h i t) (v : ByteArray) : ∃ h', aSt h (ptr i 2) (.string v) 1 = some h' ∧ Ext b h h' ∧ TB b h' i { t with text := v } := by
 obtain ⟨h', h1, h2, h3, _, _⟩ := Own.st (off := 2) (n := 1) (v := .string v) x rfl rfl (by show 2 + 1 ≤ 4; omega)
 exact ⟨h', h1, h2, h3⟩
theorem TB.stI {b : Nat} {h : AHeap} {i : Nat} {t : Tok} (x : TB b h i t) (v : Int) : ∃ h', aSt h (ptr i 3) (.int .i64 v) 1 = some h' ∧ Ext b h h' ∧ TB b h' i { t with i := v } := by
 obtain ⟨h', h1, h2, h3, _, _⟩ := Own.st (off := 3) (n := 1) (v := .int .i64 v) x rfl rfl (by show 3 + 1 ≤ 4; omega)
 exact ⟨h', h1, h2, h3⟩
theorem isS2_tok (t : Tok) : isS2 t.val = true := rfl
theorem num95 {d N q p e b c : Nat} {s : ByteArray} (hs : s.size ≤ 3000) (he : e ≤ s.size) : ∀ (n i m : Nat) (t u : Tok) (h : AHeap), e - i = n → i ≤ e → n < m → TB b h p t → TB c h q u → q < b → c ≤ b →
  ∃ h', s278_1 hk0 (call Tp Ms d) N m s (ptr q 0) (e : Int) (ptr p 0) (i : Int) h = some (.tuple (List.toArray [({ t with i := numGo s n i t.i } : Tok).val, .int .i64 0]), h') ∧ Ext c h h' := by
 intro n
 induction n with
 | zero =>
  intro i m t u h hn hi hm tp tq hqb hcb
  obtain ⟨m, rfl⟩ : ∃ k, m = k + 1 := ⟨m - 1, by omega⟩
  have : ¬ ((i : Int) < (e : Int)) := by omega
  obtain ⟨h1, s1, x1, t1⟩ := tq.stAll t
  refine ⟨h1, ?_, x1⟩
  rw [s278_1_eq]
  simp only [this, decide_false, cond_false, TB.ldAll tp.row, oBs, s1, TB.ldAll t1.row, List.all_cons, isS2_tok, numGo]
  rfl
 | succ n ih =>
  intro i m t u h hn hi hm tp tq hqb hcb
  obtain ⟨m, rfl⟩ : ∃ k, m = k + 1 := ⟨m - 1, by omega⟩
  have hI : (i : Int) < (e : Int) := by omega
  obtain ⟨_, _, _, a3⟩ := ld_at tp.row
  obtain ⟨h1, s1, x1, t1⟩ := tp.stI (IntKind.i64.wrap ((IntKind.i64.wrap (10 * t.i)) + (IntKind.i64.wrap (IntKind.u8.wrap (bt s i - 48)))))
  obtain ⟨h2, r, x2⟩ := ih (i + 1) m _ u h1 (by omega) (by omega) (by omega) t1 (tq.ext x1 hqb) hqb hcb
  refine ⟨h2, ?_, (x1.mono hcb).trans x2⟩
  have wj : IntKind.i64.wrap ((i : Int) + 1) = ((i + 1 : Nat) : Int) := by rw [wr (by omega) (by omega)]; omega
  rw [s278_1_eq]
  simp only [hI, decide_true, cond_true, aOff_ptr, Nat.zero_add, a3, oBs, asI, if_true, strIx (show i < s.size by omega), s1, wj, r, numGo]
def tok0 : Tok := ⟨0, 0, ⟨#[]⟩, 0⟩
def numBad (s : ByteArray) (i : Nat) : Bool :=
 let e := endOf isDig s i
 decide (e - i > 15) || (decide (e - i > 1) && bt s i == 48) || (decide (e < s.size) && isLet (bt s e))
def numTok (s : ByteArray) (i : Nat) : Tok := ⟨3, i, s.extract i (endOf isDig s i), numGo s (endOf isDig s i - i) i 0⟩
theorem subS {s : ByteArray} {i e : Nat} (h1 : i ≤ e) (h2 : e ≤ s.size) : aSubS (.string s) (some (.int .i64 (i : Int))) (some (.int .i64 (e : Int))) = some (.string (s.extract i e)) := by
 have : ((e : Int) ≤ (s.size : Int)) := by omega
 simp [aSubS, aBound, h1, h2]
theorem l95 {d : Nat} (hd : 3010 < d) {s : ByteArray} (hs : s.size ≤ 3000) {i : Nat} (hi : i < s.size) (h : AHeap) :
  ∃ h', call Tp Ms (d + 2) 278 [.string s, .int .i64 (i : Int)] h = some (.tuple (List.toArray [(if numBad s i then tok0 else numTok s i).val, .int .i64 (if numBad s i then 3 else 0)]), h') ∧ Ext h.size h h' := by
 have hbd := endOf_bd (p := isDig) (s := s) _ i rfl (by omega)
 generalize he : endOf isDig s i = e at hbd
 obtain ⟨hb1, hb2⟩ := hbd
 have x1 := Ext.new (Nat.le_refl h.size) 233 tok0.cells
 have q1 := TB.new h tok0
 have x2 := Ext.new (Nat.le_refl (h.new 233 tok0.cells).size) 233 tok0.cells
 have p1 := TB.new (h.new 233 tok0.cells) tok0
 obtain ⟨h3, s3, x3, p3⟩ := p1.stAll ⟨3, i, s.extract i e, 0⟩
 have q3 := (q1.ext x2 (by simp [AHeap.new])).ext x3 (by simp [AHeap.new])
 have l51' := l51 (d := d) (g := 277) (p := isDig) hs (by omega) (fun n h => by obtain ⟨d, rfl⟩ : ∃ k, d = k + 1 := ⟨d - 1, by omega⟩; exact l94 d n h) (i := i) (by omega) (h.new 233 tok0.cells)
 rw [he] at l51'
 obtain ⟨h4, s4, x4, q4⟩ := q3.stAll tok0
 have hsz : h.size + 1 = (h.new 233 tok0.cells).size := rfl
 have X3 : Ext h.size h h3 := x1.trans ((x2.mono (by omega)).trans (x3.mono (by omega)))
 have hw : IntKind.i64.wrap ((e : Int) - (i : Int)) = (e : Int) - (i : Int) := wr (by omega) (by omega)
 have hz : ([Value.int .i64 0, .int .i64 0, .string ⟨#[]⟩, .int .i64 0] : List Value) = tok0.cells := rfl
 have hz2 : (Value.agg (List.toArray [Value.int .i64 0, .int .i64 0, .string ⟨#[]⟩, .int .i64 0])) = tok0.val := rfl
 have hz3 : (Value.agg (List.toArray [Value.int .i64 3, .int .i64 (i : Int), .string (s.extract i e), .int .i64 0])) = (⟨3, i, s.extract i e, 0⟩ : Tok).val := rfl
 have s4' : aSt h3 (ptr h.size 0) (.agg tok0.cells.toArray) 4 = some h4 := s4
 have l4 : aLdN h4 (ptr h.size 0) 4 = some tok0.val := TB.ldAll q4.row
 obtain ⟨h5, r5, x5⟩ := num95 (d := d + 1) (N := d + 1) (q := h.size) (p := (h.new 233 tok0.cells).size) hs hb2 (e - i) i (d + 1) _ tok0 h3 rfl (by omega) (by omega) p3 q3 (by omega) (by omega)
 have good : s278_0 hk0 (call Tp Ms (d + 1)) (d + 1) s (i : Int) (ptr h.size 0) (e : Int) (ptr (h.new 233 tok0.cells).size 0) h3 = some (.tuple (List.toArray [(numTok s i).val, .int .i64 0]), h5) := by
  rw [s278_0_j, s278_0_eq, r5]; unfold numTok; rw [he]
 rw [c278, e278]
 simp only [aNew, hz, hz2, l51', oBs, asI, if_true, subS hb1 hb2, asS, hz3, s3, hw]
 have l92' : ∀ (n : Int) (h : AHeap), call Tp Ms (d + 1) 275 [.int .u8 n] h = some (.bool (isLet n), h) := l92 d
 have a3 : ∀ t : Tok, List.all [t.val, .int .i64 3] isS2 = true := fun _ => rfl
 simp only [s4', l4, good, l92', oBs, asB, a3, cond_true]
 unfold numBad
 simp only [he]
 have c1 : decide ((e : Int) - (i : Int) > 15) = decide (e - i > 15) := by simp; omega
 have c2 : decide ((e : Int) - (i : Int) > 1) = decide (e - i > 1) := by simp; omega
 have c1003 : decide ((e : Int) < (s.size : Int)) = decide (e < s.size) := by simp
 rw [c1, c2, c1003, strIx hi]
 generalize decide (e - i > 15) = b1
 generalize decide (e - i > 1) = b2
 simp only [oBs, if_true]
 generalize (bt s i == 48) = b3
 have B := X3.trans x4
 have G := X3.trans x5
 by_cases hlt : e < s.size
 ·simp only [hlt, decide_true, cond_true, strIx hlt, oBs, if_true]
  generalize isLet (bt s e) = b4
  cases b1 <;> cases b2 <;> cases b3 <;> cases b4 <;> first | exact ⟨h4, rfl, B⟩ | exact ⟨h5, rfl, G⟩
 ·simp only [hlt, decide_false, cond_false]
  cases b1 <;> cases b2 <;> cases b3 <;> first | exact ⟨h4, rfl, B⟩ | exact ⟨h5, rfl, G⟩
theorem ext1 {s : ByteArray} {i : Nat} (h : i < s.size) : (s.extract i (i + 1)).toList = [s.data[i]'h] := by
 rw [ByteArray.toList_eq, ByteArray.data_extract]
 have h' : i < s.data.size := h
 apply List.ext_getElem
 ·simp; omega
 ·intro n h1 h2
  simp at h2
  subst h2
  simp
theorem ext2 {s : ByteArray} {i : Nat} (h : i + 1 < s.size) : (s.extract i (i + 2)).toList = [s.data[i]'(Nat.lt_of_succ_lt h), s.data[i + 1]'h] := by
 rw [ByteArray.toList_eq, ByteArray.data_extract]
 have h' : i + 1 < s.data.size := h
 apply List.ext_getElem
 ·simp; omega
 ·intro n h1 h2
  simp at h2
  match n, h2 with
  | 0, _ => simp
  | 1, _ => simp
def hitM (s : ByteArray) (i : Nat) (m : ByteArray) : Bool := decide (i + m.size ≤ s.size) && (s.extract i (i + m.size)).toList == m.toList
theorem bt_eq {s : ByteArray} {i : Nat} (h : i < s.size) (c : UInt8) : (s.data[i]'h == c) = (bt s i == (c.toNat : Int)) := by
 have h2 : s.data[i]? = some (s.data[i]'h) := Array.getElem?_eq_getElem (by exact h)
 simp only [bt, h2, Option.getD_some]
 rw [Bool.eq_iff_iff, beq_iff_eq, beq_iff_eq]
 exact ⟨fun e => by rw [e], fun e => UInt8.toNat_inj.1 (Int.ofNat.inj e)⟩
theorem hit1 {s : ByteArray} {i : Nat} (h : i < s.size) (c : UInt8) : hitM s i ⟨#[c]⟩ = (bt s i == (c.toNat : Int)) := by
 have e : (⟨#[c]⟩ : ByteArray).size = 1 := rfl
 unfold hitM
 rw [e, ext1 h, ByteArray.toList_eq, ← bt_eq h]
 have : i + 1 ≤ s.size := h
 simp [this]
theorem hit2 {s : ByteArray} {i : Nat} (h : i + 1 < s.size) (c c' : UInt8) : hitM s i ⟨#[c, c']⟩ = (bt s i == (c.toNat : Int) && bt s (i + 1) == (c'.toNat : Int)) := by
 have e : (⟨#[c, c']⟩ : ByteArray).size = 2 := rfl
 unfold hitM
 rw [e, ext2 h, ByteArray.toList_eq, ← bt_eq h, ← bt_eq (Nat.lt_of_succ_lt h)]
 have : i + 2 ≤ s.size := h
 simp [this]
theorem hit2' {s : ByteArray} {i : Nat} (h : ¬ i + 1 < s.size) (c c' : UInt8) : hitM s i ⟨#[c, c']⟩ = false := by
 have e : (⟨#[c, c']⟩ : ByteArray).size = 2 := rfl
 unfold hitM
 rw [e]
 have : ¬ (i + 2 ≤ s.size) := by omega
 simp [this]
theorem hit_ext {s m : ByteArray} {i : Nat} (h : hitM s i m = true) : s.extract i (i + m.size) = m := by
 unfold hitM at h
 simp only [Bool.and_eq_true, beq_iff_eq, ByteArray.toList_eq] at h
 exact ByteArray.ext (Array.toList_inj.1 h.2)
def marksL : List ByteArray := [⟨#[123]⟩, ⟨#[125]⟩, ⟨#[40]⟩, ⟨#[41]⟩, ⟨#[91]⟩, ⟨#[93]⟩, ⟨#[59]⟩, ⟨#[44]⟩, ⟨#[46, 46]⟩, ⟨#[46]⟩, ⟨#[61, 61]⟩, ⟨#[61]⟩, ⟨#[126, 61]⟩, ⟨#[60, 61]⟩, ⟨#[60]⟩, ⟨#[43]⟩, ⟨#[45]⟩, ⟨#[42]⟩, ⟨#[47]⟩, ⟨#[37]⟩, ⟨#[35]⟩]
def markOf (s : ByteArray) (i : Nat) : Option ByteArray := marksL.find? (hitM s i)
theorem size2 (a b : UInt8) : (⟨#[a, b]⟩ : ByteArray).size = 2 := rfl
def ofMark (i : Nat) : Option ByteArray → Tok × Nat × Nat
 | some m => (⟨5, i, m, 0⟩, 0, i + m.size)
 | none => (tok0, 2, 0)
def tokR (s : ByteArray) (i : Nat) : Tok × Nat × Nat :=
 if isLet (bt s i) = true then
  if isWd (s.extract i (endOf isLet s i)) = true then (⟨2, i, s.extract i (endOf isLet s i), 0⟩, 0, endOf isLet s i)
  else if endOf isLet s i - i > 12 then (tok0, 4, 0)
  else (⟨1, i, s.extract i (endOf isLet s i), 0⟩, 0, endOf isLet s i)
 else if isDig (bt s i) = true then
  if numBad s i = true then (tok0, 3, 0) else (numTok s i, 0, endOf isDig s i)
 else if bt s i = 34 then
  if endOf isPln s (i + 1) ≥ s.size ∨ bt s (endOf isPln s (i + 1)) ≠ 34 ∨ endOf isPln s (i + 1) - i - 1 > 160 then (tok0, 5, 0)
  else (⟨4, i, s.extract (i + 1) (endOf isPln s (i + 1)), 0⟩, 0, endOf isPln s (i + 1) + 1)
 else ofMark i (markOf s i)
def lexGo (s : ByteArray) : Nat → Nat → List Tok → List Tok × Nat × Nat
 | 0, _, acc => (acc, 0, 0)
 | f + 1, i, acc =>
  if s.size ≤ i then (acc, 0, 0)
  else if bt s i = 9 ∨ bt s i = 10 ∨ bt s i = 32 then lexGo s f (i + 1) acc
  else if bt s i = 45 ∧ i + 1 < s.size ∧ bt s (i + 1) = 45 then lexGo s f (endOf (fun b => b != 10) s i) acc
  else if (tokR s i).2.1 ≠ 0 then ([], (tokR s i).2.1, i)
  else lexGo s f (tokR s i).2.2 (acc ++ [(tokR s i).1])
theorem ret53 {b : Nat} {h : AHeap} {p : Nat} {t : Tok} (x : TB b h p t) (u : Tok) (n c : Int) : ∃ h', ((aSt h (ptr p 0) (.agg (List.toArray [.int .i64 u.k, .int .i64 u.at', .string u.text, .int .i64 u.i])) 4).bind fun h1 => (aLdN h1 (ptr p 0) 4).bind fun v =>
  bif List.all [v, .int .i64 n, .int .i64 c] isS2 then some (Value.tuple (List.toArray [v, .int .i64 n, .int .i64 c]), h1) else none) = some (.tuple (List.toArray [u.val, .int .i64 n, .int .i64 c]), h') ∧ Ext b h h' := by
 obtain ⟨h1, s1, x1, t1⟩ := x.stAll u
 refine ⟨h1, ?_, x1⟩
 have s1' : aSt h (ptr p 0) (.agg (List.toArray [.int .i64 u.k, .int .i64 u.at', .string u.text, .int .i64 u.i])) 4 = some h1 := s1
 rw [s1', oBs, TB.ldAll t1.row, oBs]; rfl
theorem r53_3 {C : ACall} {N b p : Nat} {h : AHeap} {t : Tok} (x : TB b h p t) : ∃ h', s193_3 hk0 C N (ptr p 0) h = some (.tuple (List.toArray [tok0.val, .int .i64 0, .int .i64 2]), h') ∧ Ext b h h' := by
 rw [s193_3_j, s193_3_eq]; exact ret53 x tok0 0 2
theorem r53_1 {C : ACall} {N b p i e : Nat} {s : ByteArray} {h : AHeap} {t : Tok} (x : TB b h p t) (h1 : i + 1 ≤ e) (h2 : e ≤ s.size) (hs : s.size ≤ 3000) :
  ∃ h', s193_1 hk0 C N s (i : Int) (ptr p 0) (e : Int) h = some (.tuple (List.toArray [(⟨4, i, s.extract (i + 1) e, 0⟩ : Tok).val, .int .i64 ((e + 1 : Nat) - (i : Int)), .int .i64 0]), h') ∧ Ext b h h' := by
 have w1 : IntKind.i64.wrap ((i : Int) + 1) = ((i + 1 : Nat) : Int) := by rw [wr (by omega) (by omega)]; omega
 have w2 : IntKind.i64.wrap ((e : Int) + 1) = ((e + 1 : Nat) : Int) := by rw [wr (by omega) (by omega)]; omega
 have w3 : IntKind.i64.wrap (((e + 1 : Nat) : Int) - (i : Int)) = ((e + 1 : Nat) : Int) - (i : Int) := wr (by omega) (by omega)
 rw [s193_1_j, s193_1_eq, w1, w2, w3, subS h1 h2]
 simp only [oBs, asS]
 exact ret53 x ⟨4, i, s.extract (i + 1) e, 0⟩ _ 0
theorem TB.stOther {b c : Nat} {h : AHeap} {p q : Nat} {t u : Tok} (x : TB b h p t) (y : TB c h q u) (hpc : p < c) (v : Tok) :
  ∃ h', aSt h (ptr p 0) v.val 4 = some h' ∧ Ext b h h' ∧ TB b h' p v ∧ Row h' q u.cells := by
 obtain ⟨h', h1, h2, h3, _, k⟩ := Own.st (off := 0) (n := 4) x v.aCells rfl (Nat.le_refl _)
 refine ⟨h', h1, h2, h3, k q _ y.row (fun o ho ⟨_, oi, hoi, hr⟩ => ?_) (by have := Own.lt y; omega)⟩
 obtain ⟨r, ep, hq, hr2⟩ := y
 rw [hq] at ho
 cases ho
 have := (at?_obj hoi).2.2.1
 simp only at hr
 omega
theorem r53_0 {C : ACall} {N b c p q : Nat} {h : AHeap} {t u : Tok} (x : TB b h p t) (y : TB c h q u) (hpc : p < c) :
  ∃ h', s193_0 hk0 C N (ptr p 0) (ptr q 0) h = some (.tuple (List.toArray [u.val, .int .i64 u.text.size, .int .i64 0]), h') ∧ Ext b h h' := by
 obtain ⟨h1, s1, x1, t1, k⟩ := x.stOther y hpc u
 refine ⟨h1, ?_, x1⟩
 obtain ⟨_, _, a2, _⟩ := ld_at y.row
 obtain ⟨_, _, b2, _⟩ := ld_at k
 rw [s193_0_j, s193_0_eq]
 simp only [TB.ldAll y.row, aOff_ptr, Nat.zero_add, a2, b2, s1, oBs, asS, vbeq_str, cond_true, TB.ldAll t1.row]
 rfl
theorem cond_orr {α : Type} (b c : Bool) (x y : α) : (bif b then x else (bif c then x else y)) = bif b || c then x else y := by cases b <;> rfl
def oneM (x : Int) : Bool := [123, 125, 40, 41, 91, 93, 59, 44, 46, 61, 60, 43, 45, 42, 47, 37, 35].any fun y => x == y
theorem r53_2 {C : ACall} {N b p i : Nat} {x7 : Int} {s : ByteArray} {h : AHeap} {t : Tok} (x : TB b h p t) (h2 : i < s.size) (hs : s.size ≤ 3000) :
  ∃ h', s193_2 hk0 C N s (i : Int) (ptr p 0) x7 h = some (.tuple (List.toArray [(if oneM x7 then ⟨5, i, s.extract i (i + 1), 0⟩ else tok0 : Tok).val, .int .i64 (if oneM x7 then 1 else 0), .int .i64 (if oneM x7 then 0 else 2)]), h') ∧ Ext b h h' := by
 have w1 : IntKind.i64.wrap ((i : Int) + 1) = ((i + 1 : Nat) : Int) := by rw [wr (by omega) (by omega)]; omega
 obtain ⟨h3, e1003, x3⟩ := r53_3 (C := C) (N := N) x
 obtain ⟨h4, e1004, x4⟩ := ret53 x ⟨5, i, s.extract i (i + 1), 0⟩ 1 0
 rw [s193_2_j, s193_2_eq, w1, subS (Nat.le_succ i) h2]
 simp only [oBs, asS, e1003]
 simp only [e1004]
 simp only [cond_twice, cond_orr]
 cases hb : oneM x7 with
 | true =>
  refine ⟨h4, ?_, x4⟩
  simp only [oneM, List.any_cons, List.any_nil, Bool.or_false] at hb
  rw [hb]; rfl
 | false =>
  refine ⟨h3, ?_, x3⟩
  simp only [oneM, List.any_cons, List.any_nil, Bool.or_false] at hb
  rw [hb]; rfl
def twoM (t : ByteArray) : Bool := t.toList == (⟨#[46, 46]⟩ : ByteArray).toList || (t.toList == (⟨#[61, 61]⟩ : ByteArray).toList || (t.toList == (⟨#[126, 61]⟩ : ByteArray).toList || t.toList == (⟨#[60, 61]⟩ : ByteArray).toList))
theorem two_hit {s : ByteArray} {i : Nat} (h : i + 1 < s.size) : twoM (s.extract i (i + 2)) = (hitM s i ⟨#[46, 46]⟩ || (hitM s i ⟨#[61, 61]⟩ || (hitM s i ⟨#[126, 61]⟩ || hitM s i ⟨#[60, 61]⟩))) := by
 have : i + 2 ≤ s.size := h
 simp only [twoM, hitM, size2, this, decide_true, Bool.true_and]
theorem markOf_eq {s : ByteArray} {i : Nat} (hi : i < s.size) : markOf s i = if (decide (i + 1 < s.size) && twoM (s.extract i (i + 2))) = true then some (s.extract i (i + 2)) else if oneM (bt s i) = true then some (s.extract i (i + 1)) else none := by
 have E1 : ∀ c : UInt8, bt s i = (c.toNat : Int) → s.extract i (i + 1) = ⟨#[c]⟩ := fun c h => by
  have := hit_ext (s := s) (m := ⟨#[c]⟩) (i := i) (by rw [hit1 hi, h]; simp)
  exact this
 by_cases h2 : i + 1 < s.size
 ·have E2 : ∀ c c' : UInt8, bt s i = (c.toNat : Int) → bt s (i + 1) = (c'.toNat : Int) → s.extract i (i + 2) = ⟨#[c, c']⟩ := fun c c' h h' => by
   have := hit_ext (s := s) (m := ⟨#[c, c']⟩) (i := i) (by rw [hit2 h2, h, h']; simp)
   exact this
  rw [two_hit h2]
  simp only [markOf, marksL, List.find?, hit1 hi, hit2 h2, h2, decide_true, Bool.true_and, oneM, List.any_cons, List.any_nil, Bool.or_false]
  generalize bt s i = x at E1 E2 ⊢
  generalize bt s (i + 1) = y at E2 ⊢
  generalize s.extract i (i + 1) = z1 at E1 ⊢
  generalize s.extract i (i + 2) = z2 at E2 ⊢
  by_cases h123 : x = 123
  ·subst h123
   have e1 := E1 123 rfl
   subst e1
   simp
  by_cases h125 : x = 125
  ·subst h125
   have e1 := E1 125 rfl
   subst e1
   simp
  by_cases h40 : x = 40
  ·subst h40
   have e1 := E1 40 rfl
   subst e1
   simp
  by_cases h41 : x = 41
  ·subst h41
   have e1 := E1 41 rfl
   subst e1
   simp
  by_cases h91 : x = 91
  ·subst h91
   have e1 := E1 91 rfl
   subst e1
   simp
  by_cases h93 : x = 93
  ·subst h93
   have e1 := E1 93 rfl
   subst e1
   simp
  by_cases h59 : x = 59
  ·subst h59
   have e1 := E1 59 rfl
   subst e1
   simp
  by_cases h44 : x = 44
  ·subst h44
   have e1 := E1 44 rfl
   subst e1
   simp
  by_cases h46 : x = 46
  ·subst h46
   have e1 := E1 46 rfl
   subst e1
   by_cases hy : y = 46
   ·subst hy; have e2 := E2 46 46 rfl rfl; subst e2; rfl
   ·simp [beq_eq_false_iff_ne.2 hy]
  by_cases h61 : x = 61
  ·subst h61
   have e1 := E1 61 rfl
   subst e1
   by_cases hy : y = 61
   ·subst hy; have e2 := E2 61 61 rfl rfl; subst e2; rfl
   ·simp [beq_eq_false_iff_ne.2 hy]
  by_cases h60 : x = 60
  ·subst h60
   have e1 := E1 60 rfl
   subst e1
   by_cases hy : y = 61
   ·subst hy; have e2 := E2 60 61 rfl rfl; subst e2; rfl
   ·simp [beq_eq_false_iff_ne.2 hy]
  by_cases h43 : x = 43
  ·subst h43
   have e1 := E1 43 rfl
   subst e1
   simp
  by_cases h45 : x = 45
  ·subst h45
   have e1 := E1 45 rfl
   subst e1
   simp
  by_cases h42 : x = 42
  ·subst h42
   have e1 := E1 42 rfl
   subst e1
   simp
  by_cases h47 : x = 47
  ·subst h47
   have e1 := E1 47 rfl
   subst e1
   simp
  by_cases h37 : x = 37
  ·subst h37
   have e1 := E1 37 rfl
   subst e1
   simp
  by_cases h35 : x = 35
  ·subst h35
   have e1 := E1 35 rfl
   subst e1
   simp
  by_cases h126 : x = 126
  ·subst h126
   by_cases hy : y = 61
   ·subst hy; have e2 := E2 126 61 rfl rfl; subst e2; rfl
   ·simp [beq_eq_false_iff_ne.2 hy]
  have n123 : (x == ((UInt8.toNat 123 : Nat) : Int)) = false := beq_eq_false_iff_ne.2 h123
  have n125 : (x == ((UInt8.toNat 125 : Nat) : Int)) = false := beq_eq_false_iff_ne.2 h125
  have n40 : (x == ((UInt8.toNat 40 : Nat) : Int)) = false := beq_eq_false_iff_ne.2 h40
  have n41 : (x == ((UInt8.toNat 41 : Nat) : Int)) = false := beq_eq_false_iff_ne.2 h41
  have n91 : (x == ((UInt8.toNat 91 : Nat) : Int)) = false := beq_eq_false_iff_ne.2 h91
  have n93 : (x == ((UInt8.toNat 93 : Nat) : Int)) = false := beq_eq_false_iff_ne.2 h93
  have n59 : (x == ((UInt8.toNat 59 : Nat) : Int)) = false := beq_eq_false_iff_ne.2 h59
  have n44 : (x == ((UInt8.toNat 44 : Nat) : Int)) = false := beq_eq_false_iff_ne.2 h44
  have n46 : (x == ((UInt8.toNat 46 : Nat) : Int)) = false := beq_eq_false_iff_ne.2 h46
  have n61 : (x == ((UInt8.toNat 61 : Nat) : Int)) = false := beq_eq_false_iff_ne.2 h61
  have n60 : (x == ((UInt8.toNat 60 : Nat) : Int)) = false := beq_eq_false_iff_ne.2 h60
  have n43 : (x == ((UInt8.toNat 43 : Nat) : Int)) = false := beq_eq_false_iff_ne.2 h43
  have n45 : (x == ((UInt8.toNat 45 : Nat) : Int)) = false := beq_eq_false_iff_ne.2 h45
  have n42 : (x == ((UInt8.toNat 42 : Nat) : Int)) = false := beq_eq_false_iff_ne.2 h42
  have n47 : (x == ((UInt8.toNat 47 : Nat) : Int)) = false := beq_eq_false_iff_ne.2 h47
  have n37 : (x == ((UInt8.toNat 37 : Nat) : Int)) = false := beq_eq_false_iff_ne.2 h37
  have n35 : (x == ((UInt8.toNat 35 : Nat) : Int)) = false := beq_eq_false_iff_ne.2 h35
  have n126 : (x == ((UInt8.toNat 126 : Nat) : Int)) = false := beq_eq_false_iff_ne.2 h126
  simp only [n123, n125, n40, n41, n91, n93, n59, n44, n46, n61, n60, n43, n45, n42, n47, n37, n35, n126, beq_eq_false_iff_ne.2 h123, beq_eq_false_iff_ne.2 h125, beq_eq_false_iff_ne.2 h40, beq_eq_false_iff_ne.2 h41, beq_eq_false_iff_ne.2 h91, beq_eq_false_iff_ne.2 h93, beq_eq_false_iff_ne.2 h59, beq_eq_false_iff_ne.2 h44, beq_eq_false_iff_ne.2 h46, beq_eq_false_iff_ne.2 h61, beq_eq_false_iff_ne.2 h60, beq_eq_false_iff_ne.2 h43, beq_eq_false_iff_ne.2 h45, beq_eq_false_iff_ne.2 h42, beq_eq_false_iff_ne.2 h47, beq_eq_false_iff_ne.2 h37, beq_eq_false_iff_ne.2 h35, beq_eq_false_iff_ne.2 h126, Bool.false_and, Bool.or_false]; rfl
 ·simp only [markOf, marksL, List.find?, hit1 hi, hit2' h2, h2, decide_false, Bool.false_and, oneM, List.any_cons, List.any_nil, Bool.or_false]
  generalize bt s i = x at E1 ⊢
  generalize s.extract i (i + 1) = z1 at E1 ⊢
  by_cases h123 : x = 123
  ·subst h123
   have e1 := E1 123 rfl
   subst e1
   simp
  by_cases h125 : x = 125
  ·subst h125
   have e1 := E1 125 rfl
   subst e1
   simp
  by_cases h40 : x = 40
  ·subst h40
   have e1 := E1 40 rfl
   subst e1
   simp
  by_cases h41 : x = 41
  ·subst h41
   have e1 := E1 41 rfl
   subst e1
   simp
  by_cases h91 : x = 91
  ·subst h91
   have e1 := E1 91 rfl
   subst e1
   simp
  by_cases h93 : x = 93
  ·subst h93
   have e1 := E1 93 rfl
   subst e1
   simp
  by_cases h59 : x = 59
  ·subst h59
   have e1 := E1 59 rfl
   subst e1
   simp
  by_cases h44 : x = 44
  ·subst h44
   have e1 := E1 44 rfl
   subst e1
   simp
  by_cases h46 : x = 46
  ·subst h46
   have e1 := E1 46 rfl
   subst e1
   simp
  by_cases h61 : x = 61
  ·subst h61
   have e1 := E1 61 rfl
   subst e1
   simp
  by_cases h60 : x = 60
  ·subst h60
   have e1 := E1 60 rfl
   subst e1
   simp
  by_cases h43 : x = 43
  ·subst h43
   have e1 := E1 43 rfl
   subst e1
   simp
  by_cases h45 : x = 45
  ·subst h45
   have e1 := E1 45 rfl
   subst e1
   simp
  by_cases h42 : x = 42
  ·subst h42
   have e1 := E1 42 rfl
   subst e1
   simp
  by_cases h47 : x = 47
  ·subst h47
   have e1 := E1 47 rfl
   subst e1
   simp
  by_cases h37 : x = 37
  ·subst h37
   have e1 := E1 37 rfl
   subst e1
   simp
  by_cases h35 : x = 35
  ·subst h35
   have e1 := E1 35 rfl
   subst e1
   simp
  have n123 : (x == ((UInt8.toNat 123 : Nat) : Int)) = false := beq_eq_false_iff_ne.2 h123
  have n125 : (x == ((UInt8.toNat 125 : Nat) : Int)) = false := beq_eq_false_iff_ne.2 h125
  have n40 : (x == ((UInt8.toNat 40 : Nat) : Int)) = false := beq_eq_false_iff_ne.2 h40
  have n41 : (x == ((UInt8.toNat 41 : Nat) : Int)) = false := beq_eq_false_iff_ne.2 h41
  have n91 : (x == ((UInt8.toNat 91 : Nat) : Int)) = false := beq_eq_false_iff_ne.2 h91
  have n93 : (x == ((UInt8.toNat 93 : Nat) : Int)) = false := beq_eq_false_iff_ne.2 h93
  have n59 : (x == ((UInt8.toNat 59 : Nat) : Int)) = false := beq_eq_false_iff_ne.2 h59
  have n44 : (x == ((UInt8.toNat 44 : Nat) : Int)) = false := beq_eq_false_iff_ne.2 h44
  have n46 : (x == ((UInt8.toNat 46 : Nat) : Int)) = false := beq_eq_false_iff_ne.2 h46
  have n61 : (x == ((UInt8.toNat 61 : Nat) : Int)) = false := beq_eq_false_iff_ne.2 h61
  have n60 : (x == ((UInt8.toNat 60 : Nat) : Int)) = false := beq_eq_false_iff_ne.2 h60
  have n43 : (x == ((UInt8.toNat 43 : Nat) : Int)) = false := beq_eq_false_iff_ne.2 h43
  have n45 : (x == ((UInt8.toNat 45 : Nat) : Int)) = false := beq_eq_false_iff_ne.2 h45
  have n42 : (x == ((UInt8.toNat 42 : Nat) : Int)) = false := beq_eq_false_iff_ne.2 h42
  have n47 : (x == ((UInt8.toNat 47 : Nat) : Int)) = false := beq_eq_false_iff_ne.2 h47
  have n37 : (x == ((UInt8.toNat 37 : Nat) : Int)) = false := beq_eq_false_iff_ne.2 h37
  have n35 : (x == ((UInt8.toNat 35 : Nat) : Int)) = false := beq_eq_false_iff_ne.2 h35
  simp only [n123, n125, n40, n41, n91, n93, n59, n44, n46, n61, n60, n43, n45, n42, n47, n37, n35, beq_eq_false_iff_ne.2 h123, beq_eq_false_iff_ne.2 h125, beq_eq_false_iff_ne.2 h40, beq_eq_false_iff_ne.2 h41, beq_eq_false_iff_ne.2 h91, beq_eq_false_iff_ne.2 h93, beq_eq_false_iff_ne.2 h59, beq_eq_false_iff_ne.2 h44, beq_eq_false_iff_ne.2 h46, beq_eq_false_iff_ne.2 h61, beq_eq_false_iff_ne.2 h60, beq_eq_false_iff_ne.2 h43, beq_eq_false_iff_ne.2 h45, beq_eq_false_iff_ne.2 h42, beq_eq_false_iff_ne.2 h47, beq_eq_false_iff_ne.2 h37, beq_eq_false_iff_ne.2 h35, Bool.false_and, Bool.or_false]; rfl
def tokV (T : Tok × Nat × Nat) (i : Nat) : Value := .tuple (List.toArray [T.1.val, .int .i64 (if T.2.1 = 0 then (T.2.2 : Int) - (i : Int) else 0), .int .i64 (T.2.1 : Int)])
theorem size_ext {s : ByteArray} {i e : Nat} (h1 : i ≤ e) (h2 : e ≤ s.size) : ((s.extract i e).size : Int) = (e : Int) - (i : Int) := by
 rw [ByteArray.size_extract]; omega
theorem l53 {d : Nat} (hd : 3010 < d) {s : ByteArray} (hs : s.size ≤ 3000) {i : Nat} (hi : i < s.size) (h : AHeap) :
  ∃ h', call Tp Ms (d + 3) 193 [.string s, .int .i64 (i : Int)] h = some (tokV (tokR s i) i, h') ∧ Ext h.size h h' := by
 have x1 := Ext.new (Nat.le_refl h.size) 233 tok0.cells
 have q1 := TB.new h tok0
 have hz : ([Value.int .i64 0, .int .i64 0, .string ⟨#[]⟩, .int .i64 0] : List Value) = tok0.cells := rfl
 have l92' : ∀ (n : Int) (h : AHeap), call Tp Ms (d + 2) 275 [.int .u8 n] h = some (.bool (isLet n), h) := l92 (d + 1)
 have l94' : ∀ (n : Int) (h : AHeap), call Tp Ms (d + 2) 277 [.int .u8 n] h = some (.bool (isDig n), h) := l94 (d + 1)
 have l93' : ∀ (t : ByteArray) (h : AHeap), call Tp Ms (d + 2) 276 [.string t] h = some (.bool (isWd t), h) := l93 (d + 1)
 rw [c193, e193]
 simp only [aNew, hz, strIx hi, oBs, asI, if_true, l92', asB]
 unfold tokR
 cases hL : isLet (bt s i) with
 | true =>
  have hbd := endOf_bd (p := isLet) (s := s) _ i rfl (by omega)
  have l51' := l51 (d := d + 1) (g := 275) (p := isLet) hs (by omega) (fun n h => by obtain ⟨d, rfl⟩ : ∃ k, d = k + 1 := ⟨d - 1, by omega⟩; exact l92 (d + 1) n h) (i := i) (by omega) (h.new 233 tok0.cells)
  generalize endOf isLet s i = e at hbd l51'
  obtain ⟨hb1, hb2⟩ := hbd
  have x2 := Ext.new (Nat.le_refl (h.new 233 tok0.cells).size) 233 tok0.cells
  have p1 := TB.new (h.new 233 tok0.cells) tok0
  obtain ⟨h3, s3, x3, p3⟩ := p1.stAll ⟨1, i, s.extract i e, 0⟩
  have q3 := (q1.ext x2 (by simp [AHeap.new])).ext x3 (by simp [AHeap.new])
  have s3' : aSt ((h.new 233 tok0.cells).new 233 tok0.cells) (ptr (h.new 233 tok0.cells).size 0) (.agg (List.toArray [.int .i64 1, .int .i64 (i : Int), .string (s.extract i e), .int .i64 0])) 4 = some h3 := s3
  obtain ⟨_, _, a2, _⟩ := ld_at p3.row
  have X3 : Ext h.size h h3 := x1.trans ((x2.mono (by simp [AHeap.new])).trans (x3.mono (by simp [AHeap.new])))
  simp only [cond_true, l51', oBs, asI, if_true, subS hb1 hb2, asS, s3', aOff_ptr, Nat.zero_add, a2, l93', asB]
  cases hW : isWd (s.extract i e) with
  | true =>
   obtain ⟨h4, s4, x4, p4⟩ := p3.stK 2
   have q4 := q3.ext x4 (by simp [AHeap.new])
   obtain ⟨h5, e1005, x5⟩ := r53_0 (C := call Tp Ms (d + 2)) (N := d + 2) q4 p4 (by simp [AHeap.new])
   refine ⟨h5, ?_, X3.trans ((x4.mono (by simp [AHeap.new])).trans x5)⟩
   simp only [cond_true, s4, oBs, e1005, if_true, tokV, size_ext hb1 hb2]
   rfl
  | false =>
   have hc : decide (((s.extract i e).size : Int) > 12) = decide (e - i > 12) := by rw [size_ext hb1 hb2]; simp; omega
   simp only [cond_false, hc]
   by_cases hn : e - i > 12
   ·obtain ⟨h4, e1004, x4⟩ := ret53 q3 tok0 0 4
    refine ⟨h4, ?_, X3.trans x4⟩
    simp only [hn, decide_true, cond_true, if_true]
    rw [show tok0.cells = [.int .i64 tok0.k, .int .i64 tok0.at', .string tok0.text, .int .i64 tok0.i] from rfl, e1004]
    rfl
   ·obtain ⟨h5, e1005, x5⟩ := r53_0 (C := call Tp Ms (d + 2)) (N := d + 2) q3 p3 (by simp [AHeap.new])
    refine ⟨h5, ?_, X3.trans x5⟩
    simp only [hn, decide_false, cond_false, if_false, e1005, tokV, if_true, size_ext hb1 hb2]
    rfl
 | false =>
  rw [cond_false, l94', oBs]
  simp only [asB, oBs]
  cases hD : isDig (bt s i) with
  | true =>
   rw [cond_true]
   obtain ⟨h3, c1003, x3⟩ := l95 hd hs hi (h.new 233 tok0.cells)
   rw [c1003, oBs]
   generalize hT : (if numBad s i = true then tok0 else numTok s i) = T
   have x2 := Ext.new (Nat.le_refl h3.size) 233 tok0.cells
   have p2 := TB.new h3 tok0
   obtain ⟨h4, s4, x4, p4⟩ := p2.stAll T
   have q4 := ((q1.ext x3 (by simp [AHeap.new])).ext x2 (by have := x3.size; simp [AHeap.new] at this ⊢; omega)).ext x4 (by have := x3.size; simp [AHeap.new] at this ⊢; omega)
   obtain ⟨h5, s5, x5, q5, k5⟩ := q4.stOther p4 (by have := x3.size; simp [AHeap.new] at this ⊢; omega) T
   obtain ⟨_, _, a2, _⟩ := ld_at p4.row
   obtain ⟨_, _, b2, _⟩ := ld_at k5
   have hlt : h.size ≤ h3.size := by have := x3.size; simp [AHeap.new] at this; omega
   refine ⟨h5, ?_, x1.trans ((x3.mono (by simp [AHeap.new])).trans ((x2.mono hlt).trans ((x4.mono hlt).trans x5)))⟩
   have t1 : aExt (.tuple (List.toArray [T.val, .int .i64 (if numBad s i then 3 else 0)])) 0 = some T.val := rfl
   have t2 : aExt (.tuple (List.toArray [T.val, .int .i64 (if numBad s i then 3 else 0)])) 1 = some (.int .i64 (if numBad s i then 3 else 0)) := rfl
   simp only [t1, t2, oBs, asI, if_true]
   simp only [s4, oBs, TB.ldAll p4.row, aOff_ptr, Nat.zero_add, a2, asS]
   simp only [s5, oBs, b2, asS, vbeq_str, cond_true, TB.ldAll q5.row]
   cases hB : numBad s i with
   | true => rw [hB, if_pos rfl] at hT; subst hT; rfl
   | false =>
    rw [hB, if_neg (by simp)] at hT; subst hT
    have hbd := endOf_bd (p := isDig) (s := s) _ i rfl (by omega)
    have hz : ((numTok s i).text.size : Int) = (endOf isDig s i : Nat) - (i : Int) := size_ext hbd.1 hbd.2
    rw [hz]; rfl
  | false =>
   rw [cond_false]
   have w1 : IntKind.i64.wrap ((i : Int) + 1) = ((i + 1 : Nat) : Int) := by rw [wr (by omega) (by omega)]; omega
   have w2 : IntKind.i64.wrap ((i : Int) + 2) = ((i + 2 : Nat) : Int) := by rw [wr (by omega) (by omega)]; omega
   by_cases h34 : bt s i = 34
   ·have hbd := endOf_bd (p := isPln) (s := s) _ (i + 1) rfl (by omega)
    have l51' := l51 (d := d + 1) (g := 279) (p := isPln) hs (by omega) (fun n h => by obtain ⟨d, rfl⟩ : ∃ k, d = k + 1 := ⟨d - 1, by omega⟩; exact l96 (d + 1) n h) (i := i + 1) (by omega) (h.new 233 tok0.cells)
    generalize endOf isPln s (i + 1) = e at hbd l51'
    obtain ⟨hb1, hb2⟩ := hbd
    have hE : ((bt s i == 34) : Bool) = true := by rw [h34]; rfl
    rw [hE, cond_true, w1, l51', oBs]
    obtain ⟨h4, e1004, x4⟩ := ret53 q1 tok0 0 5
    have e1004' : ((aSt (h.new 233 tok0.cells) (ptr h.size 0) (.agg tok0.cells.toArray) 4).bind fun h1 => (aLdN h1 (ptr h.size 0) 4).bind fun v =>
     bif List.all [v, .int .i64 0, .int .i64 5] isS2 then some (Value.tuple (List.toArray [v, .int .i64 0, .int .i64 5]), h1) else none) = some (.tuple (List.toArray [tok0.val, .int .i64 0, .int .i64 5]), h4) := e1004
    simp only [asI, if_true, oBs, e1004']
    rw [if_neg (by simp), if_neg (by simp), if_pos h34]
    by_cases he : e = s.size
    ·refine ⟨h4, ?_, x1.trans x4⟩
     have : (((e : Nat) : Int) == (s.size : Int)) = true := by rw [he]; simp
     rw [this, cond_true, if_pos (.inl (by omega))]; rfl
    ·have hlt : e < s.size := by omega
     have : (((e : Nat) : Int) == (s.size : Int)) = false := by rw [beq_eq_false_iff_ne]; omega
     have w3 : IntKind.i64.wrap ((e : Int) - (i : Int)) = (e : Int) - (i : Int) := wr (by omega) (by omega)
     have w4 : IntKind.i64.wrap ((e : Int) - (i : Int) - 1) = (e : Int) - (i : Int) - 1 := wr (by omega) (by omega)
     rw [this, cond_false, strIx hlt]
     simp only [oBs, if_true, w3, w4]
     by_cases h5 : bt s e = 34
     ·have hn : (bt s e != 34) = false := by rw [h5]; rfl
      rw [hn, cond_false]
      by_cases h6 : e - i - 1 > 160
      ·refine ⟨h4, ?_, x1.trans x4⟩
       have : decide ((e : Int) - (i : Int) - 1 > 160) = true := by simp; omega
       rw [this, cond_true, if_pos (.inr (.inr h6))]; rfl
      ·obtain ⟨h7, e1007, x7⟩ := r53_1 (C := call Tp Ms (d + 2)) (N := d + 2) q1 hb1 hb2 hs
       refine ⟨h7, ?_, x1.trans x7⟩
       have : decide ((e : Int) - (i : Int) - 1 > 160) = false := by simp; omega
       rw [this, cond_false, e1007, if_neg (by omega)]; rfl
     ·have hn : (bt s e != 34) = true := by simp [h5]
      refine ⟨h4, ?_, x1.trans x4⟩
      rw [hn, cond_true, if_pos (.inr (.inl h5))]; rfl
   ·have hE : ((bt s i == 34) : Bool) = false := beq_eq_false_iff_ne.2 h34
    rw [hE, cond_false, w1, w2, if_neg (by simp), if_neg (by simp), if_neg h34, markOf_eq hi]
    obtain ⟨h3, e1003, x3⟩ := r53_2 (C := call Tp Ms (d + 2)) (N := d + 2) (x7 := bt s i) q1 hi hs
    have fin1 : ∀ b : Bool, some (Value.tuple (List.toArray [(if b = true then ⟨5, i, s.extract i (i + 1), 0⟩ else tok0 : Tok).val, .int .i64 (if b = true then 1 else 0), .int .i64 (if b = true then 0 else 2)]), h3) =
      some (tokV (ofMark i (if b = true then some (s.extract i (i + 1)) else none)) i, h3) := by
     intro b
     cases b with
     | false => rfl
     | true =>
      have := size_ext (s := s) (i := i) (e := i + 1) (by omega) hi
      unfold tokV ofMark
      simp only [if_true]
      rw [show ((i + (s.extract i (i + 1)).size : Nat) : Int) - (i : Int) = 1 by omega]; rfl
    by_cases hlt : i + 1 < s.size
    ·have hc : decide (((i + 1 : Nat) : Int) < (s.size : Int)) = true := by simp; omega
     obtain ⟨h4, e1004, x4⟩ := ret53 q1 ⟨5, i, s.extract i (i + 2), 0⟩ 2 0
     rw [hc, cond_true, subS (by omega) hlt]
     simp only [oBs, asS, e1003]
     simp only [e1004]
     simp only [cond_twice, cond_orr, hlt, decide_true, Bool.true_and]
     cases hb : twoM (s.extract i (i + 2)) with
     | true =>
      refine ⟨h4, ?_, x1.trans x4⟩
      unfold twoM at hb
      rw [hb, cond_true, if_pos rfl]
      have := size_ext (s := s) (i := i) (e := i + 2) (by omega) hlt
      unfold tokV ofMark
      simp only [if_true]
      rw [show ((i + (s.extract i (i + 2)).size : Nat) : Int) - (i : Int) = 2 by omega]; rfl
     | false =>
      refine ⟨h3, ?_, x1.trans x3⟩
      unfold twoM at hb
      rw [hb, cond_false, if_neg (c := false = true) (by simp)]
      exact fin1 _
    ·have hc : decide (((i + 1 : Nat) : Int) < (s.size : Int)) = false := by simp; omega
     refine ⟨h3, ?_, x1.trans x3⟩
     rw [hc, cond_false, e1003, if_neg (c := (decide (i + 1 < s.size) && twoM (s.extract i (i + 2))) = true) (by simp [hlt])]
     exact fin1 _
theorem cond_same {α : Type} {c : Bool} {x y : α} (h : c = true → x = y) : (bif c then x else y) = y := by
 cases c with
 | false => rfl
 | true => exact h rfl
theorem skip {R : Type} {p : Int → Bool} {s : ByteArray} (f : Nat → Int → R) (hf : ∀ (n j : Nat), j < s.size → p (bt s j) = true → f (n + 1) (j : Int) = f n ((j + 1 : Nat) : Int)) :
  ∀ (k j m : Nat), s.size - j = k → j ≤ s.size → k < m → ∃ m', f m (j : Int) = f (m' + 1) ((endOf p s j : Nat) : Int) := by
 intro k
 induction k with
 | zero =>
  intro j m hk hj hm
  obtain ⟨m, rfl⟩ : ∃ q, m = q + 1 := ⟨m - 1, by omega⟩
  rw [endOf_stop (by omega)]
  exact ⟨m, rfl⟩
 | succ k ih =>
  intro j m hk hj hm
  obtain ⟨m, rfl⟩ : ∃ q, m = q + 1 := ⟨m - 1, by omega⟩
  by_cases hp : p (bt s j) = true
  ·rw [hf m j (by omega) hp, endOf_step (by omega) hp]
   exact ih (j + 1) m (by omega) (by omega) (by omega)
  ·rw [endOf_stop (by simp [hp])]
   exact ⟨m, rfl⟩
theorem endOf_no {p : Int → Bool} {s : ByteArray} : ∀ (k j : Nat), s.size - j = k → endOf p s j < s.size → p (bt s (endOf p s j)) = false := by
 intro k
 induction k with
 | zero => intro j hk h; rw [endOf_stop (by omega)] at h; omega
 | succ k ih =>
  intro j hk h
  by_cases hp : p (bt s j) = true
  ·rw [endOf_step (by omega) hp] at h ⊢
   exact ih (j + 1) (by omega) h
  ·rw [endOf_stop (by simp [hp])]
   simpa using hp
def Is50 (b : Nat) (h : AHeap) (r : Option (Value × AHeap)) (T : Tok × Nat × Nat) : Prop :=
 ∃ (h' : AHeap) (t : Tok) (e : Int), r = some (.tuple (List.toArray [t.val, .int .i64 (T.2.1 : Int), .int .i64 e]), h') ∧ Ext b h h' ∧ (T.2.1 = 0 → t = T.1 ∧ e = (T.2.2 : Int))
theorem Is50.of {b : Nat} {h h1 : AHeap} {r : Option (Value × AHeap)} {T : Tok × Nat × Nat} (x : Ext b h h1) (y : Is50 b h1 r T) : Is50 b h r T :=
 let ⟨h', t, e, h1, h2, h3⟩ := y; ⟨h', t, e, h1, x.trans h2, h3⟩
theorem ret50 {b c : Nat} {h : AHeap} {p q : Nat} {t u : Tok} {T : Tok × Nat × Nat} (x : TB b h p t) (y : TB c h q u) {k e : Int} (hk : k = (T.2.1 : Int)) (hT : T.2.1 = 0 → u = T.1 ∧ e = (T.2.2 : Int)) :
  Is50 b h ((aLdN h (ptr q 0) 4).bind fun v => (aSt h (ptr p 0) v 4).bind fun h1 => (aLdN h1 (ptr p 0) 4).bind fun v' => bif List.all [v', .int .i64 k, .int .i64 e] isS2 then some (Value.tuple (List.toArray [v', .int .i64 k, .int .i64 e]), h1) else none) T := by
 obtain ⟨h1, s1, x1, t1⟩ := x.stAll u
 refine ⟨h1, u, e, ?_, x1, hT⟩
 subst hk
 rw [TB.ldAll y.row, oBs, s1, oBs, TB.ldAll t1.row, oBs]; rfl
theorem g50_1 {C : ACall} {N b c p q e : Nat} {h : AHeap} {t u : Tok} (x : TB b h p t) (y : TB c h q u) : Is50 b h (s200_1 hk0 C N (ptr p 0) (e : Int) (ptr q 0) h) (u, 0, e) := by
 rw [s200_1_j, s200_1_eq]; exact ret50 x y rfl (fun _ => ⟨rfl, rfl⟩)
theorem g50_6 {C : ACall} {N b c p q i e : Nat} {s : ByteArray} {h : AHeap} {t : Tok} (x : TB b h p t) (y : TB c h q ⟨0, i, ⟨#[]⟩, 0⟩) (hpc : p < c) (hbc : b ≤ c) (h1 : i + 1 ≤ e) (h2 : e ≤ s.size) (hs : s.size ≤ 3000) :
  Is50 b h (s200_6 hk0 C N s (i : Int) (ptr p 0) (e : Int) (ptr q 0) h) (⟨4, i, s.extract (i + 1) e, 0⟩, 0, e + 1) := by
 have w1 : IntKind.i64.wrap ((i : Int) + 1) = ((i + 1 : Nat) : Int) := by rw [wr (by omega) (by omega)]; omega
 have w2 : IntKind.i64.wrap ((e : Int) + 1) = ((e + 1 : Nat) : Int) := by rw [wr (by omega) (by omega)]; omega
 obtain ⟨h3, s3, x3, y3⟩ := y.stK 4
 obtain ⟨h4, s4, x4, y4⟩ := y3.stT (s.extract (i + 1) e)
 have z := (x.ext x3 hpc).ext x4 hpc
 rw [s200_6_j, s200_6_eq, w1, w2, subS h1 h2]
 simp only [aOff_ptr, Nat.zero_add, oBs, s3, asS, s4]
 exact Is50.of ((x3.trans x4).mono hbc) (ret50 z y4 rfl (fun _ => ⟨rfl, rfl⟩))
theorem num50 {C : ACall} {N p q e b c : Nat} {s : ByteArray} (hs : s.size ≤ 3000) (he : e ≤ s.size) : ∀ (n i m : Nat) (t u : Tok) (h : AHeap), e - i = n → i ≤ e → n < m → TB b h p t → TB c h q u → p < c → b ≤ c →
  Is50 b h (s200_4 hk0 C N m s (ptr p 0) (e : Int) (ptr q 0) (i : Int) h) ({ u with i := numGo s n i u.i }, 0, e) := by
 intro n
 induction n with
 | zero =>
  intro i m t u h hn hi hm tp tq hpc hbc
  obtain ⟨m, rfl⟩ : ∃ k, m = k + 1 := ⟨m - 1, by omega⟩
  have : ¬ ((i : Int) < (e : Int)) := by omega
  rw [s200_4_eq]
  simp only [this, decide_false, cond_false]
  exact ret50 tp tq rfl (fun _ => ⟨rfl, rfl⟩)
 | succ n ih =>
  intro i m t u h hn hi hm tp tq hpc hbc
  obtain ⟨m, rfl⟩ : ∃ k, m = k + 1 := ⟨m - 1, by omega⟩
  have hI : (i : Int) < (e : Int) := by omega
  obtain ⟨_, _, _, a3⟩ := ld_at tq.row
  obtain ⟨h1, s1, x1, t1⟩ := tq.stI (IntKind.i64.wrap ((IntKind.i64.wrap (u.i * 10)) + (IntKind.i64.wrap (IntKind.u8.wrap (bt s i - 48)))))
  have r := ih (i + 1) m t _ h1 (by omega) (by omega) (by omega) (tp.ext x1 hpc) t1 hpc hbc
  have wj : IntKind.i64.wrap ((i : Int) + 1) = ((i + 1 : Nat) : Int) := by rw [wr (by omega) (by omega)]; omega
  rw [s200_4_eq]
  simp only [hI, decide_true, cond_true, aOff_ptr, Nat.zero_add, a3, oBs, asI, if_true, strIx (show i < s.size by omega), s1, wj]
  refine Is50.of (x1.mono hbc) ?_
  rw [numGo, show 10 * u.i = u.i * 10 by omega]
  exact r
theorem g50_3 {C : ACall} {N b c p q i e : Nat} {s : ByteArray} {h : AHeap} {t : Tok} (x : TB b h p t) (y : TB c h q ⟨0, i, ⟨#[]⟩, 0⟩) (hpc : p < c) (hbc : b ≤ c) (h1 : i ≤ e) (h2 : e ≤ s.size) (hs : s.size ≤ 3000) (hN : 3000 < N) :
  Is50 b h (s200_3 hk0 C N s (i : Int) (ptr p 0) (e : Int) (ptr q 0) h) (⟨3, i, s.extract i e, numGo s (e - i) i 0⟩, 0, e) := by
 obtain ⟨h3, s3, x3, y3⟩ := y.stK 3
 obtain ⟨h4, s4, x4, y4⟩ := y3.stT (s.extract i e)
 have z := (x.ext x3 hpc).ext x4 hpc
 rw [s200_3_j, s200_3_eq, subS h1 h2]
 simp only [aOff_ptr, Nat.zero_add, oBs, s3, asS, s4]
 exact Is50.of ((x3.trans x4).mono hbc) (num50 hs h2 (e - i) i N t _ h4 rfl h1 (by omega) z y4 hpc hbc)
theorem TB.stK9 {b b' : Nat} {h : AHeap} {i r : Nat} {t : Tok} {cs : List Value} (x : TB b h i t) (y : Own b' h r 9 cs) (v : Int) : ∃ h', aSt h (ptr i 0) (.int .i64 v) 1 = some h' ∧ Ext b h h' ∧ TB b h' i { t with k := v } ∧ Row h' r cs := by
 obtain ⟨h', h1, h2, h3, _, k⟩ := Own.st (off := 0) (n := 1) (v := .int .i64 v) x rfl rfl (by show 0 + 1 ≤ 4; omega)
 obtain ⟨r1, ep, hy, _⟩ := y
 obtain ⟨r2, ep2, hx, _⟩ := x
 refine ⟨h', h1, h2, h3, k r _ ⟨_, hy, rfl⟩ (fun o ho ⟨he, _⟩ => ?_) (fun e => ?_)⟩
 ·rw [hy] at ho; cases ho; simp at he
 ·subst e; rw [hy] at hx; simp at hx
def markR (s : ByteArray) (i j : Nat) : Tok × Nat × Nat :=
 ofMark i ((marksL.drop j).find? (hitM s i))
theorem marks_size : ∀ (j : Nat) (h : j < marksL.length), (marksL[j]'h).size ≤ 2 := by decide
theorem marks50 {C : ACall} {N p q r b b' c i : Nat} {s : ByteArray} {t : Tok} {h : AHeap} (hs : s.size ≤ 3000) (hi : i < s.size) (tp : TB b h p t) (tq : TB c h q ⟨0, i, ⟨#[]⟩, 0⟩) (tr : Own b' h r 9 (marksL.map Value.string)) (hpc : p < c) (hbc : b ≤ c) :
  ∀ (n j m : Nat), 21 - j = n → j ≤ 21 → n < m → Is50 b h (s200_7 hk0 C N m s (i : Int) (ptr p 0) (ptr q 0) (slc r 0 21) (j : Int) h) (markR s i j) := by
 have hl : marksL.length = 21 := rfl
 have hlen : aLen (slc r 0 21) = some (.int .i64 ((21 : Nat) : Int)) := rfl
 intro n
 induction n with
 | zero =>
  intro j m hn hj hm
  obtain ⟨m, rfl⟩ : ∃ k, m = k + 1 := ⟨m - 1, by omega⟩
  have : ¬ ((j : Int) < ((21 : Nat) : Int)) := by omega
  have hR : markR s i j = (tok0, 2, 0) := by unfold markR; rw [List.drop_eq_nil_of_le (by omega)]; rfl
  rw [s200_7_eq, hR]
  simp only [hlen, oBs, asI, if_true, this, decide_false, cond_false]
  exact ret50 tp tq rfl (fun h => by cases h)
 | succ n ih =>
  intro j m hn hj hm
  obtain ⟨m, rfl⟩ : ∃ k, m = k + 1 := ⟨m - 1, by omega⟩
  have hlt : j < marksL.length := by omega
  have hI : (j : Int) < ((21 : Nat) : Int) := by omega
  have hix : aIdx (slc r 0 21) (.int .i64 (j : Int)) 1 = some (ptr r j) := by simp [aIdx, slc]; omega
  have hld : aLd1 h (ptr r j) = some (.string (marksL[j]'hlt)) := tr.row.ld1 (by simp [hlt])
  have hsz := marks_size j hlt
  have wi : IntKind.i64.wrap ((i : Int) + ((marksL[j]'hlt).size : Int)) = ((i + (marksL[j]'hlt).size : Nat) : Int) := by rw [wr (by omega) (by omega)]; omega
  have wj : IntKind.i64.wrap ((j : Int) + 1) = ((j + 1 : Nat) : Int) := by rw [wr (by omega) (by omega)]; omega
  have hR : markR s i j = match hitM s i (marksL[j]'hlt) with | true => (⟨5, i, marksL[j]'hlt, 0⟩, 0, i + (marksL[j]'hlt).size) | false => markR s i (j + 1) := by
   unfold markR
   rw [List.drop_eq_getElem_cons hlt, List.find?_cons]
   cases hitM s i (marksL[j]'hlt) <;> rfl
  have next := ih (j + 1) m (by omega) (by omega) (by omega)
  rw [s200_7_eq, hR]
  simp only [hlen, oBs, asI, if_true, hI, decide_true, cond_true, hix, hld, asS, wi, wj]
  by_cases hc : i + (marksL[j]'hlt).size ≤ s.size
  ·have hc' : decide (((i + (marksL[j]'hlt).size : Nat) : Int) ≤ (s.size : Int)) = true := by simp; omega
   rw [hc', cond_true, subS (by omega) hc]
   simp only [oBs]
   have hh : hitM s i (marksL[j]'hlt) = ((s.extract i (i + (marksL[j]'hlt).size)).toList == (marksL[j]'hlt).toList) := by unfold hitM; simp [hc]
   rw [hh]
   cases ((s.extract i (i + (marksL[j]'hlt).size)).toList == (marksL[j]'hlt).toList) with
   | false => rw [cond_false]; exact next
   | true =>
    rw [cond_true, s200_8_j, s200_8_eq]
    obtain ⟨h3, s3, x3, y3, k3⟩ := tq.stK9 tr 5
    obtain ⟨h4, s4, x4, y4⟩ := y3.stT (marksL[j]'hlt)
    have hld3 : aLd1 h3 (ptr r j) = some (.string (marksL[j]'hlt)) := k3.ld1 (by simp [hlt])
    have z := (tp.ext x3 hpc).ext x4 hpc
    simp only [aOff_ptr, Nat.zero_add, oBs, s3, hix, hld3, asS, s4, wi]
    exact Is50.of ((x3.trans x4).mono hbc) (ret50 z y4 rfl (fun _ => ⟨rfl, rfl⟩))
  ·have hc' : decide (((i + (marksL[j]'hlt).size : Nat) : Int) ≤ (s.size : Int)) = false := by simp; omega
   have hh : hitM s i (marksL[j]'hlt) = false := by unfold hitM; simp [hc]
   rw [hc', cond_false, hh]
   exact next
theorem markR0 (s : ByteArray) (i : Nat) : markR s i 0 = ofMark i (markOf s i) := by
 unfold markR markOf
 rw [List.drop_zero]
theorem g50L {d b c p q : Nat} (hd : 3010 < d) {s : ByteArray} (hs : s.size ≤ 3000) {i : Nat} (hi : i < s.size) {h : AHeap} {t : Tok} (tp : TB b h p t) (tq : TB c h q ⟨0, i, ⟨#[]⟩, 0⟩) (hpc : p < c) (hbc : b ≤ c) :
  Is50 b h (s200_0 hk0 (call Tp Ms (d + 2)) (d + 2) (d + 2) s (i : Int) (ptr p 0) (i : Int) (ptr q 0) h) (if isWd (s.extract i (endOf isLet s i)) = true then (⟨2, i, s.extract i (endOf isLet s i), 0⟩, 0, endOf isLet s i)
  else if endOf isLet s i - i > 12 then (tok0, 4, 0)
  else (⟨1, i, s.extract i (endOf isLet s i), 0⟩, 0, endOf isLet s i)) := by
 have l87' : ∀ (n : Int) (h : AHeap), call Tp Ms (d + 2) 285 [.int .u8 n] h = some (.bool (isLet n), h) := l87 (d + 1)
 have l89' : ∀ (n : Int) (h : AHeap), call Tp Ms (d + 2) 287 [.int .u8 n] h = some (.bool (isDig n), h) := l89 (d + 1)
 have l90' : ∀ (n : Int) (h : AHeap), call Tp Ms (d + 2) 288 [.int .u8 n] h = some (.bool (isPln n), h) := l90 (d + 1)
 have hbd := endOf_bd (p := isLet) (s := s) _ i rfl (by omega)
 have hno := endOf_no (p := isLet) (s := s) _ i rfl
 obtain ⟨m', hm'⟩ := skip (p := isLet) (s := s) (fun n j => s200_0 hk0 (call Tp Ms (d + 2)) (d + 2) n s (i : Int) (ptr p 0) j (ptr q 0) h) (fun n j hj hp => by
  have : ((j : Nat) : Int) < (s.size : Int) := by omega
  have wj : IntKind.i64.wrap ((j : Int) + 1) = ((j + 1 : Nat) : Int) := by rw [wr (by omega) (by omega)]; omega
  rw [s200_0_eq]
  simp only [this, decide_true, cond_true, strIx hj, oBs, asI, if_true, l87', asB, hp, wj]) _ i (d + 2) rfl (by omega) (by omega)
 rw [hm']
 clear hm'
 generalize endOf isLet s i = e at hbd hno
 obtain ⟨hb1, hb2⟩ := hbd
 rw [s200_0_eq, cond_same (by
  intro hc
  have hlt : e < s.size := by simpa using hc
  simp only [strIx hlt, oBs, asI, if_true, l87', asB, hno hlt, cond_false])]
 obtain ⟨h4, s4, x4, p4⟩ := tq.stK 1
 obtain ⟨h5, s5, x5, p5⟩ := p4.stT (s.extract i e)
 obtain ⟨_, _, a2, _⟩ := ld_at p5.row
 obtain ⟨h6, c1006, x6⟩ := l88 (d := d) (by omega) (s.extract i e) h5
 have p6 := p5.ext x6 (Own.lt p5).2
 have hle : c ≤ h5.size := Nat.le_of_lt (Nat.lt_of_le_of_lt (Own.lt p5).1 (Own.lt p5).2)
 have q6 := ((tp.ext x4 hpc).ext x5 hpc).ext x6 (by omega)
 have X6 : Ext b h h6 := (x4.trans (x5.trans (x6.mono hle))).mono hbc
 refine Is50.of X6 ?_
 simp only [aOff_ptr, Nat.zero_add, s4, oBs, subS hb1 hb2, asS, s5, a2, c1006, asB]
 cases hW : isWd (s.extract i e) with
 | true =>
  rw [cond_true, if_pos rfl]
  obtain ⟨h7, s7, x7, p7⟩ := p6.stK 2
  simp only [s7, oBs]
  exact Is50.of (x7.mono hbc) (g50_1 (q6.ext x7 hpc) p7)
 | false =>
  rw [cond_false, if_neg (c := false = true) (by simp)]
  have hc : decide ((IntKind.i64.wrap ((e : Int) - (i : Int))) > 12) = decide (e - i > 12) := by rw [wr (by omega) (by omega)]; simp; omega
  rw [hc]
  by_cases hn : e - i > 12
  ·rw [decide_eq_true hn, cond_true, if_pos hn]
   exact ret50 q6 p6 rfl (fun h => by cases h)
  ·rw [decide_eq_false hn, cond_false, if_neg hn]
   exact g50_1 q6 p6
theorem g50D {d b c p q : Nat} (hd : 3010 < d) {s : ByteArray} (hs : s.size ≤ 3000) {i : Nat} (hi : i < s.size) {h : AHeap} {t : Tok} (tp : TB b h p t) (tq : TB c h q ⟨0, i, ⟨#[]⟩, 0⟩) (hpc : p < c) (hbc : b ≤ c) :
  Is50 b h (s200_2 hk0 (call Tp Ms (d + 2)) (d + 2) (d + 2) s (i : Int) (ptr p 0) (i : Int) (ptr q 0) h) (if numBad s i = true then (tok0, 3, 0) else (numTok s i, 0, endOf isDig s i)) := by
 have l87' : ∀ (n : Int) (h : AHeap), call Tp Ms (d + 2) 285 [.int .u8 n] h = some (.bool (isLet n), h) := l87 (d + 1)
 have l89' : ∀ (n : Int) (h : AHeap), call Tp Ms (d + 2) 287 [.int .u8 n] h = some (.bool (isDig n), h) := l89 (d + 1)
 have l90' : ∀ (n : Int) (h : AHeap), call Tp Ms (d + 2) 288 [.int .u8 n] h = some (.bool (isPln n), h) := l90 (d + 1)
 have hbd := endOf_bd (p := isDig) (s := s) _ i rfl (by omega)
 have hno := endOf_no (p := isDig) (s := s) _ i rfl
 obtain ⟨m', hm'⟩ := skip (p := isDig) (s := s) (fun n j => s200_2 hk0 (call Tp Ms (d + 2)) (d + 2) n s (i : Int) (ptr p 0) j (ptr q 0) h) (fun n j hj hp => by
  have : ((j : Nat) : Int) < (s.size : Int) := by omega
  have wj : IntKind.i64.wrap ((j : Int) + 1) = ((j + 1 : Nat) : Int) := by rw [wr (by omega) (by omega)]; omega
  rw [s200_2_eq]
  simp only [this, decide_true, cond_true, strIx hj, oBs, asI, if_true, l89', asB, hp, wj]) _ i (d + 2) rfl (by omega) (by omega)
 rw [hm']
 clear hm'
 have hN : numBad s i = (decide (endOf isDig s i - i > 15) || decide (endOf isDig s i - i > 1) && bt s i == 48 || decide (endOf isDig s i < s.size) && isLet (bt s (endOf isDig s i))) := rfl
 generalize numBad s i = nb at hN
 unfold numTok
 generalize endOf isDig s i = e at hbd hno hN
 obtain ⟨hb1, hb2⟩ := hbd
 rw [s200_2_eq, cond_same (by
  intro hc
  have hlt : e < s.size := by simpa using hc
  rw [strIx hlt, oBs]
  simp only [asI, if_true, oBs]
  rw [l89', oBs]
  simp only [asB, oBs, hno hlt, cond_false])]
 have w1 : IntKind.i64.wrap ((e : Int) - (i : Int)) = (e : Int) - (i : Int) := wr (by omega) (by omega)
 have c1 : decide ((e : Int) - (i : Int) > 15) = decide (e - i > 15) := by simp; omega
 have c2 : decide ((e : Int) - (i : Int) > 1) = decide (e - i > 1) := by simp; omega
 have c1003 : decide ((e : Int) < (s.size : Int)) = decide (e < s.size) := by simp
 have B : Is50 b h _ (tok0, 3, 0) := ret50 (k := 3) (e := e) tp tq rfl (fun h => by cases h)
 have G := g50_3 (C := call Tp Ms (d + 2)) (N := d + 2) tp tq hpc hbc hb1 hb2 hs (by omega)
 rw [w1, c1, c2, c1003, strIx hi]
 simp only [oBs, asI, if_true, l87', asB]
 generalize decide (e - i > 15) = b1 at hN ⊢
 generalize decide (e - i > 1) = b2 at hN ⊢
 generalize (bt s i == 48) = b3 at hN ⊢
 have T1 : nb = true → Is50 b h ((aLdN h (ptr q 0) 4).bind fun v => (aSt h (ptr p 0) v 4).bind fun h1 => (aLdN h1 (ptr p 0) 4).bind fun v' => bif List.all [v', .int .i64 3, .int .i64 (e : Int)] isS2 then some (Value.tuple (List.toArray [v', .int .i64 3, .int .i64 (e : Int)]), h1) else none) (if nb = true then (tok0, 3, 0) else (⟨3, i, s.extract i e, numGo s (e - i) i 0⟩, 0, e)) := fun hh => by rw [if_pos hh]; exact B
 have T2 : nb = false → Is50 b h (s200_3 hk0 (call Tp Ms (d + 2)) (d + 2) s (i : Int) (ptr p 0) (e : Int) (ptr q 0) h) (if nb = true then (tok0, 3, 0) else (⟨3, i, s.extract i e, numGo s (e - i) i 0⟩, 0, e)) := fun hh => by rw [if_neg (by simp [hh])]; exact G
 by_cases hlt : e < s.size
 ·simp only [hlt, decide_true, cond_true, strIx hlt, oBs, if_true, Bool.true_and] at hN ⊢
  generalize isLet (bt s e) = b4 at hN ⊢
  cases b1 <;> cases b2 <;> cases b3 <;> cases b4 <;> simp only [cond_true, cond_false] <;> first | (have hN2 : nb = true := (by simpa using hN); exact T1 hN2) | (have hN2 : nb = false := (by simpa using hN); exact T2 hN2)
 ·simp only [hlt, decide_false, cond_false, Bool.false_and] at hN ⊢
  cases b1 <;> cases b2 <;> cases b3 <;> simp only [cond_true, cond_false] <;> first | (have hN2 : nb = true := (by simpa using hN); exact T1 hN2) | (have hN2 : nb = false := (by simpa using hN); exact T2 hN2)
theorem g50Q {d b c p q : Nat} (hd : 3010 < d) {s : ByteArray} (hs : s.size ≤ 3000) {i : Nat} (hi : i < s.size) {h : AHeap} {t : Tok} (tp : TB b h p t) (tq : TB c h q ⟨0, i, ⟨#[]⟩, 0⟩) (hpc : p < c) (hbc : b ≤ c) :
  Is50 b h (s200_5 hk0 (call Tp Ms (d + 2)) (d + 2) (d + 2) s (i : Int) (ptr p 0) ((i + 1 : Nat) : Int) (ptr q 0) h) (if endOf isPln s (i + 1) ≥ s.size ∨ bt s (endOf isPln s (i + 1)) ≠ 34 ∨ endOf isPln s (i + 1) - i - 1 > 160 then (tok0, 5, 0)
  else (⟨4, i, s.extract (i + 1) (endOf isPln s (i + 1)), 0⟩, 0, endOf isPln s (i + 1) + 1)) := by
 have l87' : ∀ (n : Int) (h : AHeap), call Tp Ms (d + 2) 285 [.int .u8 n] h = some (.bool (isLet n), h) := l87 (d + 1)
 have l89' : ∀ (n : Int) (h : AHeap), call Tp Ms (d + 2) 287 [.int .u8 n] h = some (.bool (isDig n), h) := l89 (d + 1)
 have l90' : ∀ (n : Int) (h : AHeap), call Tp Ms (d + 2) 288 [.int .u8 n] h = some (.bool (isPln n), h) := l90 (d + 1)
 have hbd := endOf_bd (p := isPln) (s := s) _ (i + 1) rfl (by omega)
 have hno := endOf_no (p := isPln) (s := s) _ (i + 1) rfl
 have w1 : IntKind.i64.wrap ((i : Int) + 1) = ((i + 1 : Nat) : Int) := by rw [wr (by omega) (by omega)]; omega
 obtain ⟨m', hm'⟩ := skip (p := isPln) (s := s) (fun n j => s200_5 hk0 (call Tp Ms (d + 2)) (d + 2) n s (i : Int) (ptr p 0) j (ptr q 0) h) (fun n j hj hp => by
  have : ((j : Nat) : Int) < (s.size : Int) := by omega
  have wj : IntKind.i64.wrap ((j : Int) + 1) = ((j + 1 : Nat) : Int) := by rw [wr (by omega) (by omega)]; omega
  rw [s200_5_eq]
  simp only [this, decide_true, cond_true, strIx hj, oBs, asI, if_true, l90', asB, hp, wj]) _ (i + 1) (d + 2) rfl (by omega) (by omega)
 rw [hm']
 clear hm'
 generalize endOf isPln s (i + 1) = e at hbd hno
 obtain ⟨hb1, hb2⟩ := hbd
 rw [s200_5_eq, cond_same (by
  intro hc
  have hlt : e < s.size := by simpa using hc
  rw [strIx hlt, oBs]
  simp only [asI, if_true, oBs]
  rw [l90', oBs]
  simp only [asB, oBs, hno hlt, cond_false])]
 have w3 : IntKind.i64.wrap ((e : Int) - (i : Int)) = (e : Int) - (i : Int) := wr (by omega) (by omega)
 have w4 : IntKind.i64.wrap ((e : Int) - (i : Int) - 1) = (e : Int) - (i : Int) - 1 := wr (by omega) (by omega)
 have B : Is50 b h _ (tok0, 5, 0) := ret50 (k := 5) (e := e) tp tq rfl (fun h => by cases h)
 have G := g50_6 (C := call Tp Ms (d + 2)) (N := d + 2) tp tq hpc hbc hb1 hb2 hs
 rw [w3, w4]
 by_cases he : e ≥ s.size
 ·have : decide ((e : Int) ≥ (s.size : Int)) = true := by simp; omega
  rw [this, cond_true, if_pos (.inl he)]
  exact B
 ·have hlt : e < s.size := by omega
  have : decide ((e : Int) ≥ (s.size : Int)) = false := by simp; omega
  rw [this, cond_false, strIx hlt]
  simp only [oBs, asI, if_true]
  by_cases h5 : bt s e = 34
  ·have hn : (bt s e != 34) = false := by rw [h5]; rfl
   rw [hn, cond_false]
   by_cases h6 : e - i - 1 > 160
   ·have : decide ((e : Int) - (i : Int) - 1 > 160) = true := by simp; omega
    rw [this, cond_true, if_pos (.inr (.inr h6))]
    exact B
   ·have : decide ((e : Int) - (i : Int) - 1 > 160) = false := by simp; omega
    rw [this, cond_false, if_neg (by omega)]
    exact G
  ·have hn : (bt s e != 34) = true := by simp [h5]
   rw [hn, cond_true, if_pos (.inr (.inl h5))]
   exact B
theorem marksV : marksL.map Value.string = [.string (⟨#[123]⟩), .string (⟨#[125]⟩), .string (⟨#[40]⟩), .string (⟨#[41]⟩), .string (⟨#[91]⟩), .string (⟨#[93]⟩), .string (⟨#[59]⟩), .string (⟨#[44]⟩), .string (⟨#[46, 46]⟩), .string (⟨#[46]⟩), .string (⟨#[61, 61]⟩), .string (⟨#[61]⟩), .string (⟨#[126, 61]⟩), .string (⟨#[60, 61]⟩), .string (⟨#[60]⟩), .string (⟨#[43]⟩), .string (⟨#[45]⟩), .string (⟨#[42]⟩), .string (⟨#[47]⟩), .string (⟨#[37]⟩), .string (⟨#[35]⟩)] := rfl
theorem l91 (d : Nat) (h : AHeap) : call Tp Ms (d + 1) 289 [] h = some (slc h.size 0 21, h.new 9 (marksL.map Value.string)) := by
 rw [c289, e289, marksV]
 rfl
theorem l50 {d : Nat} (hd : 3010 < d) {s : ByteArray} (hs : s.size ≤ 3000) {i : Nat} (hi : i < s.size) (h : AHeap) :
  Is50 h.size h (call Tp Ms (d + 3) 200 [.string s, .int .i64 (i : Int)] h) (tokR s i) := by
 have x1 := Ext.new (Nat.le_refl h.size) 233 tok0.cells
 have q1 := TB.new h tok0
 have x2 := Ext.new (Nat.le_refl (h.new 233 tok0.cells).size) 233 tok0.cells
 have p2 := TB.new (h.new 233 tok0.cells) tok0
 obtain ⟨h3, s3, x3, p3⟩ := p2.stAll ⟨0, i, ⟨#[]⟩, 0⟩
 have q3 := (q1.ext x2 (by simp [AHeap.new])).ext x3 (by simp [AHeap.new])
 have s3' : aSt ((h.new 233 tok0.cells).new 233 tok0.cells) (ptr (h.new 233 tok0.cells).size 0) (.agg (List.toArray [.int .i64 0, .int .i64 (i : Int), .string ⟨#[]⟩, .int .i64 0])) 4 = some h3 := s3
 have hz : ([Value.int .i64 0, .int .i64 0, .string ⟨#[]⟩, .int .i64 0] : List Value) = tok0.cells := rfl
 have hS : (h.new 233 tok0.cells).size = h.size + 1 := rfl
 have X3 : Ext h.size h h3 := x1.trans ((x2.mono (by omega)).trans (x3.mono (by omega)))
 have l87' : ∀ (n : Int) (h : AHeap), call Tp Ms (d + 2) 285 [.int .u8 n] h = some (.bool (isLet n), h) := l87 (d + 1)
 have l89' : ∀ (n : Int) (h : AHeap), call Tp Ms (d + 2) 287 [.int .u8 n] h = some (.bool (isDig n), h) := l89 (d + 1)
 have l90' : ∀ (n : Int) (h : AHeap), call Tp Ms (d + 2) 288 [.int .u8 n] h = some (.bool (isPln n), h) := l90 (d + 1)
 refine Is50.of X3 ?_
 rw [c200, e200]
 simp only [aNew, hz]
 rw [s3', oBs]
 simp only [strIx hi, oBs, asI, if_true]
 rw [l87', oBs]
 simp only [asB, oBs]
 unfold tokR
 cases hL : isLet (bt s i) with
 | true =>
  rw [cond_true, if_pos rfl]
  exact g50L hd hs hi q3 p3 (by omega) (by omega)
 | false =>
  rw [cond_false, if_neg (c := false = true) (by simp)]
  rw [l89', oBs]
  simp only [asB, oBs]
  cases hD : isDig (bt s i) with
  | true =>
   rw [cond_true, if_pos rfl]
   exact g50D hd hs hi q3 p3 (by omega) (by omega)
  | false =>
   rw [cond_false, if_neg (c := false = true) (by simp)]
   by_cases h34 : bt s i = 34
   ·have hE : ((bt s i == 34) : Bool) = true := by rw [h34]; rfl
    have w1 : IntKind.i64.wrap ((i : Int) + 1) = ((i + 1 : Nat) : Int) := by rw [wr (by omega) (by omega)]; omega
    rw [hE, cond_true, w1, if_pos h34]
    exact g50Q hd hs hi q3 p3 (by omega) (by omega)
   ·have hE : ((bt s i == 34) : Bool) = false := beq_eq_false_iff_ne.2 h34
    have l91' : call Tp Ms (d + 2) 289 [] h3 = some (slc h3.size 0 21, h3.new 9 (marksL.map Value.string)) := l91 (d + 1) h3
    rw [hE, cond_false, if_neg h34, l91', oBs, ← markR0]
    have x4 := Ext.new (Nat.le_refl h3.size) 9 (marksL.map Value.string)
    have r4 := Own.new (Nat.le_refl h3.size) 9 (marksL.map Value.string)
    have hp := Own.lt p3
    have M := marks50 (C := call Tp Ms (d + 2)) (N := d + 2) hs hi (q3.ext x4 (by omega)) (p3.ext x4 hp.2) r4 (by omega) (by omega) 21 0 (d + 2) rfl (by omega) (by omega)
    exact Is50.of (x4.mono (by omega)) M
theorem fillTok (t : Tok) : aFill [.int .i64 0, .int .i64 0, .string ⟨#[]⟩, .int .i64 0] [(0, 4, t.val)] = some t.cells := rfl
def OR (b : Nat) (h : AHeap) (v : Value) (ts : List Tok) : Prop := ∃ r, v = slc r 0 ts.length ∧ Own b h r 233 (flat ts)
theorem OR.os {b : Nat} {h : AHeap} {v : Value} {ts : List Tok} (x : OR b h v ts) : OS b h v ts := .inr x
theorem OR.ext {b : Nat} {h h' : AHeap} {v : Value} {ts : List Tok} (x : OR b h v ts) (e : Ext h.size h h') : OR b h' v ts := let ⟨r, h1, h2⟩ := x; ⟨r, h1, h2.ext e h2.lt.2⟩
theorem OR.isS2 {b : Nat} {h : AHeap} {v : Value} {ts : List Tok} (x : OR b h v ts) (c n : Int) : List.all [v, .int .i64 c, .int .i64 n] isS2 = true := by obtain ⟨r, rfl, _⟩ := x; rfl
theorem OR.push {b : Nat} {h : AHeap} {v : Value} {ts : List Tok} (x : OR b h v ts) (hb : b ≤ h.size) (hl : ts.length ≤ 3000) (t : Tok) :
  ∃ v' h', aApp (h.new 233 t.cells) 233 4 40 v (slc h.size 0 1) = some (v', h') ∧ Ext b h h' ∧ OR b h' v' (ts ++ [t]) := by
 obtain ⟨r, rfl, o⟩ := x
 have e := Ext.new (Nat.le_refl h.size) 233 t.cells
 have w := (Own.new (b := 0) (Nat.zero_le h.size) 233 t.cells).row
 have hS : (h.new 233 t.cells).size = h.size + 1 := rfl
 have hsrc : aSrc (h.new 233 t.cells) 4 (slc h.size 0 1) = some (1, t.cells) := w.src (n := 1) (esz := 4) (by show 0 + 1 * 4 ≤ 4; omega)
 obtain ⟨h', s1, x1, o1, _⟩ := (o.ext e o.lt.2).app (n := ts.length) (bytes := 40) (esz := 4) (by omega) hsrc (flat_len ts).symm (by show ts.length + 1 ≤ 140737488355328; omega) (by show (ts.length + 1) * 40 ≤ 140737488355328; omega)
 refine ⟨_, h', s1, (e.mono hb).trans x1, (h.new 233 t.cells).size, by simp, ?_⟩
 rw [show flat (ts ++ [t]) = flat ts ++ t.cells by simp [flat]]
 exact o1
theorem tok_new (h : AHeap) (t : Tok) : ∃ h', aSt (h.new 233 [.int .i64 0, .int .i64 0, .string ⟨#[]⟩, .int .i64 0]) (ptr h.size 0) t.val 4 = some h' ∧ Ext h.size h h' ∧ aLdN h' (ptr h.size 0) 4 = some t.val := by
 obtain ⟨h', s1, x1, t1⟩ := (TB.new h tok0).stAll t
 exact ⟨h', s1, (Ext.new (Nat.le_refl h.size) 233 tok0.cells).trans x1, TB.ldAll t1.row⟩
theorem marks_pos : ∀ m ∈ marksL, 1 ≤ m.size := by decide
theorem tokR_bd {s : ByteArray} {i : Nat} (hi : i < s.size) (h0 : (tokR s i).2.1 = 0) : i < (tokR s i).2.2 ∧ (tokR s i).2.2 ≤ s.size := by
 have B : ∀ p : Int → Bool, p (bt s i) = true → i < endOf p s i ∧ endOf p s i ≤ s.size := fun p hp => by
  rw [endOf_step hi hp]
  have := endOf_bd (p := p) (s := s) _ (i + 1) rfl (by omega)
  omega
 unfold tokR at h0 ⊢
 by_cases hL : isLet (bt s i) = true
 ·rw [if_pos hL] at h0 ⊢
  have := B _ hL
  by_cases hW : isWd (s.extract i (endOf isLet s i)) = true
  ·rw [if_pos hW]; exact this
  ·rw [if_neg hW] at h0 ⊢
   by_cases hn : endOf isLet s i - i > 12
   ·rw [if_pos hn] at h0; cases h0
   ·rw [if_neg hn]; exact this
 ·rw [if_neg hL] at h0 ⊢
  by_cases hD : isDig (bt s i) = true
  ·rw [if_pos hD] at h0 ⊢
   by_cases hN : numBad s i = true
   ·rw [if_pos hN] at h0; cases h0
   ·rw [if_neg hN]; exact B _ hD
  ·rw [if_neg hD] at h0 ⊢
   by_cases h34 : bt s i = 34
   ·rw [if_pos h34] at h0 ⊢
    have := endOf_bd (p := isPln) (s := s) _ (i + 1) rfl (by omega)
    by_cases hc : endOf isPln s (i + 1) ≥ s.size ∨ bt s (endOf isPln s (i + 1)) ≠ 34 ∨ endOf isPln s (i + 1) - i - 1 > 160
    ·rw [if_pos hc] at h0; cases h0
    ·rw [if_neg hc]
     show i < endOf isPln s (i + 1) + 1 ∧ endOf isPln s (i + 1) + 1 ≤ s.size
     omega
   ·rw [if_neg h34] at h0 ⊢
    unfold markOf at h0 ⊢
    cases hm : marksL.find? (hitM s i) with
    | none => rw [hm] at h0; cases h0
    | some m =>
     have h1 := marks_pos m (List.mem_of_find?_eq_some hm)
     have h2 := List.find?_some hm
     unfold hitM at h2
     simp only [Bool.and_eq_true, decide_eq_true_eq] at h2
     exact ⟨by show i < i + m.size; omega, h2.1⟩
def IsLex (b : Nat) (h : AHeap) (r : Option (Value × AHeap)) (L : List Tok × Nat × Nat) : Prop :=
 ∃ (h' : AHeap) (v : Value), r = some (.tuple (List.toArray [v, .int .i64 (L.2.1 : Int), .int .i64 (L.2.2 : Int)]), h') ∧ Ext b h h' ∧ OS b h' v L.1 ∧ L.1.length ≤ 3000
theorem IsLex.of {b : Nat} {h h1 : AHeap} {r : Option (Value × AHeap)} {L : List Tok × Nat × Nat} (x : Ext b h h1) (y : IsLex b h1 r L) : IsLex b h r L :=
 let ⟨h', v, h2, h3, h4⟩ := y; ⟨h', v, h2, x.trans h3, h4⟩
def notNl (x : Int) : Bool := x != 10
def lexR (s : ByteArray) : List Tok × Nat × Nat := if s.size > 3000 then ([], 1, 0) else lexGo s (s.size + 1) 0 []
theorem lex15 {d b : Nat} (hd : 3010 < d) {s : ByteArray} (hs : s.size ≤ 3000) : ∀ (n i m : Nat) (v : Value) (ts : List Tok) (h : AHeap), s.size - i < n → i ≤ s.size → n ≤ m → ts.length ≤ i → b ≤ h.size → OR b h v ts →
  IsLex b h (s100_0 hk0 (call Tp Ms (d + 3)) (d + 3) m s v (i : Int) h) (lexGo s n i ts) := by
 intro n
 induction n with
 | zero => intro i m v ts h hn; omega
 | succ n ih =>
  intro i m v ts h hn hi hm ht hb ho
  obtain ⟨m, rfl⟩ : ∃ k, m = k + 1 := ⟨m - 1, by omega⟩
  rw [s100_0_eq]
  unfold lexGo
  by_cases hlt : i < s.size
  ·have hI : ((i : Nat) : Int) < (s.size : Int) := by omega
   have wi : IntKind.i64.wrap ((i : Int) + 1) = ((i + 1 : Nat) : Int) := by rw [wr (by omega) (by omega)]; omega
   rw [if_neg (by omega), decide_eq_true hI, cond_true, strIx hlt, oBs]
   simp only [asI, if_true, oBs, wi, cond_orr]
   have blank : (bt s i == 9 || (bt s i == 10 || bt s i == 32)) = decide (bt s i = 9 ∨ bt s i = 10 ∨ bt s i = 32) := by rw [Bool.eq_iff_iff]; simp
   rw [blank]
   by_cases hB : bt s i = 9 ∨ bt s i = 10 ∨ bt s i = 32
   ·rw [decide_eq_true hB, cond_true, if_pos hB]
    exact ih (i + 1) m v ts h (by omega) (by omega) (by omega) (by omega) hb ho
   ·rw [decide_eq_false hB, cond_false, if_neg hB, s100_1_j, s100_1_eq, wi]
    have step : IsLex b h (s100_2 hk0 (call Tp Ms (d + 3)) (d + 3) m s v (i : Int) h) (if (tokR s i).2.1 ≠ 0 then ([], (tokR s i).2.1, i) else lexGo s n (tokR s i).2.2 (ts ++ [(tokR s i).1])) := by
     obtain ⟨h1, c1, x1⟩ := l53 hd hs hlt h
     have hb1 : b ≤ h1.size := Nat.le_trans hb x1.size
     have bd := tokR_bd hlt
     rw [s100_2_j, s100_2_eq, c1]
     generalize tokR s i = T at bd
     obtain ⟨t, c, e⟩ := T
     simp only at bd ⊢
     obtain ⟨h2, c2, x2, l2⟩ := tok_new h1 t
     have t0 : aExt (tokV (t, c, e) i) 0 = some t.val := rfl
     have t1 : aExt (tokV (t, c, e) i) 1 = some (.int .i64 (if c = 0 then (e : Int) - (i : Int) else 0)) := rfl
     have t2 : aExt (tokV (t, c, e) i) 2 = some (.int .i64 (c : Int)) := rfl
     simp only [oBs, t0, t1, t2, asI, if_true, aNew, c2]
     have X2 : Ext b h h2 := (x1.mono hb).trans (x2.mono hb1)
     by_cases hc : c = 0
     ·subst hc
      have hne : (((0 : Nat) : Int) != 0) = false := rfl
      rw [hne, cond_false, l2, if_neg (c := (0 : Nat) ≠ 0) (by simp), if_pos (c := (0 : Nat) = 0) rfl]
      have ho2 := (ho.ext x1).ext x2
      obtain ⟨v3, h3, c1003, x3, o3⟩ := ho2.push (Nat.le_trans hb1 x2.size) (by omega) t
      simp only [oBs, fillTok, aNewS, c1003, if_true]
      have bd' := bd rfl
      have wj : IntKind.i64.wrap ((i : Int) + ((e : Int) - (i : Int))) = ((e : Nat) : Int) := by rw [wr (by omega) (by omega)]; omega
      rw [wj]
      exact IsLex.of (X2.trans x3) (ih e m v3 _ h3 (by omega) (by omega) (by omega) (by simp; omega) (Nat.le_trans (Nat.le_trans hb1 x2.size) x3.size) o3)
     ·have hne : (((c : Nat) : Int) != 0) = true := by simp; omega
      rw [hne, cond_true, if_pos hc]
      exact ⟨h2, _, rfl, X2, .inl ⟨rfl, rfl⟩, Nat.zero_le _⟩
    by_cases h45 : bt s i = 45
    ·have e1 : (bt s i == 45) = true := by rw [h45]; rfl
     rw [e1, cond_true]
     by_cases h2 : i + 1 < s.size
     ·have hI2 : ((i + 1 : Nat) : Int) < (s.size : Int) := by omega
      rw [decide_eq_true hI2, cond_true, strIx h2, oBs]
      simp only [asI, if_true, oBs]
      by_cases h3 : bt s (i + 1) = 45
      ·have e1003 : (bt s (i + 1) == 45) = true := by rw [h3]; rfl
       have hx : endOf notNl s i = endOf notNl s (i + 1) := endOf_step hlt (by rw [h45]; rfl)
       have bd := endOf_bd (p := notNl) (s := s) _ (i + 1) rfl (by omega)
       have l51' := l51 (d := d + 2) (g := 192) (p := notNl) hs (by omega) (fun n h => l52 (d + 1) n h) (i := i) (by omega) h
       rw [e1003, cond_true, if_pos ⟨h45, h2, h3⟩, l51', oBs]
       simp only [asI, if_true, oBs]
       exact ih (endOf notNl s i) m v ts h (by omega) (by omega) (by omega) (by omega) hb ho
      ·have e1003 : (bt s (i + 1) == 45) = false := beq_eq_false_iff_ne.2 h3
       rw [e1003, cond_false, if_neg (fun x => h3 x.2.2)]
       exact step
     ·have hI2 : ¬ ((i + 1 : Nat) : Int) < (s.size : Int) := by omega
      rw [decide_eq_false hI2, cond_false, if_neg (fun x => h2 x.2.1)]
      exact step
    ·have e1 : (bt s i == 45) = false := beq_eq_false_iff_ne.2 h45
     rw [e1, cond_false, if_neg (fun x => h45 x.1)]
     exact step
  ·have hI : ¬ ((i : Nat) : Int) < (s.size : Int) := by omega
   rw [if_pos (by omega), decide_eq_false hI, cond_false, ho.isS2, cond_true]
   exact ⟨h, v, rfl, Ext.refl _ _, ho.os, by show ts.length ≤ 3000; omega⟩
theorem lex14 {d b : Nat} (hd : 3010 < d) {s : ByteArray} (hs : s.size ≤ 3000) : ∀ (n i m : Nat) (v : Value) (ts : List Tok) (h : AHeap), s.size - i < n → i ≤ s.size → n ≤ m → ts.length ≤ i → b ≤ h.size → OR b h v ts →
  IsLex b h (s103_0 hk0 (call Tp Ms (d + 3)) (d + 3) m s v (i : Int) h) (lexGo s n i ts) := by
 intro n
 induction n with
 | zero => intro i m v ts h hn; omega
 | succ n ih =>
  intro i m v ts h hn hi hm ht hb ho
  obtain ⟨m, rfl⟩ : ∃ k, m = k + 1 := ⟨m - 1, by omega⟩
  rw [s103_0_eq]
  unfold lexGo
  by_cases hlt : i < s.size
  ·have hI : ((i : Nat) : Int) < (s.size : Int) := by omega
   have wi : IntKind.i64.wrap ((i : Int) + 1) = ((i + 1 : Nat) : Int) := by rw [wr (by omega) (by omega)]; omega
   rw [if_neg (by omega), decide_eq_true hI, cond_true, strIx hlt, oBs]
   simp only [asI, if_true, oBs, wi, cond_orr]
   have blank : (bt s i == 9 || (bt s i == 10 || bt s i == 32)) = decide (bt s i = 9 ∨ bt s i = 10 ∨ bt s i = 32) := by rw [Bool.eq_iff_iff]; simp
   rw [blank]
   by_cases hB : bt s i = 9 ∨ bt s i = 10 ∨ bt s i = 32
   ·rw [decide_eq_true hB, cond_true, if_pos hB]
    exact ih (i + 1) m v ts h (by omega) (by omega) (by omega) (by omega) hb ho
   ·rw [decide_eq_false hB, cond_false, if_neg hB, s103_1_j, s103_1_eq, wi]
    have step : IsLex b h (s103_4 hk0 (call Tp Ms (d + 3)) (d + 3) m s v (i : Int) h) (if (tokR s i).2.1 ≠ 0 then ([], (tokR s i).2.1, i) else lexGo s n (tokR s i).2.2 (ts ++ [(tokR s i).1])) := by
     obtain ⟨h1, t, e, c1, x1, hT⟩ := l50 hd hs hlt h
     have hb1 : b ≤ h1.size := Nat.le_trans hb x1.size
     have bd := tokR_bd hlt
     rw [s103_4_j, s103_4_eq, c1]
     generalize tokR s i = T at bd hT
     obtain ⟨t', c, e'⟩ := T
     simp only at bd hT ⊢
     obtain ⟨h2, c2, x2, l2⟩ := tok_new h1 t
     have t0 : aExt (.tuple (List.toArray [t.val, .int .i64 (c : Int), .int .i64 e])) 0 = some t.val := rfl
     have t1 : aExt (.tuple (List.toArray [t.val, .int .i64 (c : Int), .int .i64 e])) 1 = some (.int .i64 (c : Int)) := rfl
     have t2 : aExt (.tuple (List.toArray [t.val, .int .i64 (c : Int), .int .i64 e])) 2 = some (.int .i64 e) := rfl
     simp only [oBs, t0, t1, t2, asI, if_true, aNew, c2]
     have X2 : Ext b h h2 := (x1.mono hb).trans (x2.mono hb1)
     by_cases hc : c = 0
     ·subst hc
      obtain ⟨ht', he'⟩ := hT rfl
      subst ht'
      subst he'
      have hne : (((0 : Nat) : Int) != 0) = false := rfl
      rw [hne, cond_false, l2, if_neg (c := (0 : Nat) ≠ 0) (by simp)]
      have ho2 := (ho.ext x1).ext x2
      obtain ⟨v3, h3, c1003, x3, o3⟩ := ho2.push (Nat.le_trans hb1 x2.size) (by omega) t
      simp only [oBs, fillTok, aNewS, c1003, if_true]
      have bd' := bd rfl
      exact IsLex.of (X2.trans x3) (ih e' m v3 _ h3 (by omega) (by omega) (by omega) (by simp; omega) (Nat.le_trans (Nat.le_trans hb1 x2.size) x3.size) o3)
     ·have hne : (((c : Nat) : Int) != 0) = true := by simp; omega
      rw [hne, cond_true, if_pos hc]
      exact ⟨h2, _, rfl, X2, .inl ⟨rfl, rfl⟩, Nat.zero_le _⟩
    by_cases h45 : bt s i = 45
    ·have e1 : (bt s i == 45) = true := by rw [h45]; rfl
     rw [e1, cond_true]
     by_cases h2 : i + 1 < s.size
     ·have hI2 : ((i + 1 : Nat) : Int) < (s.size : Int) := by omega
      rw [decide_eq_true hI2, cond_true, strIx h2, oBs]
      simp only [asI, if_true, oBs]
      by_cases h3 : bt s (i + 1) = 45
      ·have e1003 : (bt s (i + 1) == 45) = true := by rw [h3]; rfl
       have hx : endOf notNl s i = endOf notNl s (i + 1) := endOf_step hlt (by rw [h45]; rfl)
       have bd := endOf_bd (p := notNl) (s := s) _ (i + 1) rfl (by omega)
       obtain ⟨m', hm'⟩ := skip (p := notNl) (s := s) (fun n j => s103_3 hk0 (call Tp Ms (d + 3)) (d + 3) m n s v j h) (fun n j hj hp => by
        have : ((j : Nat) : Int) < (s.size : Int) := by omega
        have wj : IntKind.i64.wrap ((j : Int) + 1) = ((j + 1 : Nat) : Int) := by rw [wr (by omega) (by omega)]; omega
        have hp' : (bt s j != 10) = true := hp
        rw [s103_3_eq]
        simp only [this, decide_true, cond_true, strIx hj, oBs, asI, if_true, hp', wj]) _ i (d + 3) rfl (by omega) (by omega)
       have hno := endOf_no (p := notNl) (s := s) _ i rfl
       rw [e1003, cond_true, if_pos ⟨h45, h2, h3⟩, s103_2_j, s103_2_eq, hm', s103_3_eq, cond_same (by
        intro hc
        have hlt : endOf notNl s i < s.size := by simpa using hc
        have hp' : (bt s (endOf notNl s i) != 10) = false := hno hlt
        simp only [strIx hlt, oBs, asI, if_true, hp', cond_false])]
       exact ih (endOf notNl s i) m v ts h (by omega) (by omega) (by omega) (by omega) hb ho
      ·have e1003 : (bt s (i + 1) == 45) = false := beq_eq_false_iff_ne.2 h3
       rw [e1003, cond_false, if_neg (fun x => h3 x.2.2)]
       exact step
     ·have hI2 : ¬ ((i + 1 : Nat) : Int) < (s.size : Int) := by omega
      rw [decide_eq_false hI2, cond_false, if_neg (fun x => h2 x.2.1)]
      exact step
    ·have e1 : (bt s i == 45) = false := beq_eq_false_iff_ne.2 h45
     rw [e1, cond_false, if_neg (fun x => h45 x.1)]
     exact step
  ·have hI : ¬ ((i : Nat) : Int) < (s.size : Int) := by omega
   rw [if_pos (by omega), decide_eq_false hI, cond_false, ho.isS2, cond_true]
   exact ⟨h, v, rfl, Ext.refl _ _, ho.os, by show ts.length ≤ 3000; omega⟩
theorem l15 {d : Nat} (hd : 3010 < d) (s : ByteArray) (h : AHeap) : IsLex h.size h (call Tp Ms (d + 4) 100 [.string s] h) (lexR s) := by
 rw [c100, e100]
 unfold lexR
 by_cases hs : s.size > 3000
 ·have : ((s.size : Int) > 3000) := by omega
  rw [decide_eq_true this, cond_true, if_pos hs]
  exact ⟨h, _, rfl, Ext.refl _ _, .inl ⟨rfl, rfl⟩, Nat.zero_le _⟩
 ·have : ¬ ((s.size : Int) > 3000) := by omega
  rw [decide_eq_false this, cond_false, if_neg hs]
  have x := Ext.new (Nat.le_refl h.size) 233 []
  have o := Own.new (Nat.le_refl h.size) 233 []
  exact IsLex.of x (lex15 hd (by omega) (s.size + 1) 0 (d + 3) (slc h.size 0 0) [] (h.new 233 []) (by omega) (by omega) (by omega) (by simp) x.size ⟨h.size, rfl, o⟩)
theorem l14 {d : Nat} (hd : 3010 < d) (s : ByteArray) (h : AHeap) : IsLex h.size h (call Tp Ms (d + 4) 103 [.string s] h) (lexR s) := by
 rw [c103, e103]
 unfold lexR
 by_cases hs : s.size > 3000
 ·have : ((s.size : Int) > 3000) := by omega
  rw [decide_eq_true this, cond_true, if_pos hs]
  exact ⟨h, _, rfl, Ext.refl _ _, .inl ⟨rfl, rfl⟩, Nat.zero_le _⟩
 ·have : ¬ ((s.size : Int) > 3000) := by omega
  rw [decide_eq_false this, cond_false, if_neg hs]
  have x := Ext.new (Nat.le_refl h.size) 233 []
  have o := Own.new (Nat.le_refl h.size) 233 []
  exact IsLex.of x (lex14 hd (by omega) (s.size + 1) 0 (d + 3) (slc h.size 0 0) [] (h.new 233 []) (by omega) (by omega) (by omega) (by simp) x.size ⟨h.size, rfl, o⟩)
noncomputable section
variable (hk : Hk (Value × AHeap)) (C : ACall) (N : Nat)
def F23_0 : Nx (Value × AHeap) := evSt hk Tp C M23 N Tryz.f23 [1, 1, 0, 1] []
def s23_0 (x1 : Value) (x3 : Int) (x31 : Bool) (h : AHeap) := hk 100003 (⟨48, [(1, x1), (3, .int .i64 x3), (31, .bool x31)]⟩) h (F23_0 hk C N)
def F23_1 : Nx (Value × AHeap) := evSt hk Tp C M23 N Tryz.f23 [1, 1, 1] []
def s23_1 (x1 : Value) (x3 : Int) (h : AHeap) := hk 4 (⟨48, [(1, x1), (3, .int .i64 x3)]⟩) h (F23_1 hk C N)
def F23_2 (n1 : Nat) : Nx (Value × AHeap) := evSt hk Tp C M23 N Tryz.f23 [1, 1, 1, 0, 1, 2, 6] [n1]
def s23_2 (n1 : Nat) (x1 : Value) (x3 x34 x35 : Int) (h : AHeap) := F23_2 hk C N n1 (⟨48, [(1, x1), (3, .int .i64 x3), (34, .int .i64 x34), (35, .int .i64 x35)]⟩) h
theorem e23 (x0 : Value) (h : AHeap) : evFn hk Tp C M23 N Tryz.f23 [x0] h =
  (aCells x0).bind fun c1 => aNew h 41 c1 fun p2 h3 => (aOff p2 0).bind fun v4 => (aLd1 h3 v4).bind fun v5 => (aLen v5).bind fun v6 => (asI .i64 v6).bind fun n7 => (aOff p2 0).bind fun v8 => (aLd1 h3 v8).bind fun v9 => (aLen v9).bind fun v10 => (asI .i64 v10).bind fun n11 => bif decide (n11 > 3000) then s23_0 hk C N p2 (IntKind.i64.wrap (n7 - 1)) true h3 else bif decide ((IntKind.i64.wrap (n7 - 1)) < 0) then s23_0 hk C N p2 (IntKind.i64.wrap (n7 - 1)) true h3 else (aOff p2 1).bind fun v12 => (aLd1 h3 v12).bind fun v13 => (asI .i64 v13).bind fun n14 => bif n14 != (IntKind.i64.wrap (n7 - 1)) then s23_0 hk C N p2 (IntKind.i64.wrap (n7 - 1)) true h3 else (aOff p2 0).bind fun v15 => (aLd1 h3 v15).bind fun v16 => (aIdx v16 (.int .i64 (IntKind.i64.wrap (n7 - 1))) 4).bind fun v17 => (aOff v17 0).bind fun v18 => (aLd1 h3 v18).bind fun v19 => (asI .i64 v19).bind fun n20 => s23_0 hk C N p2 (IntKind.i64.wrap (n7 - 1)) (n20 != 21) h3 := by kernel_rfl
theorem s23_0_j (x1 : Value) (x3 : Int) (x31 : Bool) (h : AHeap) : s23_0 hk0 C N x1 x3 x31 h = F23_0 hk0 C N (⟨48, [(1, x1), (3, .int .i64 x3), (31, .bool x31)]⟩) h := by delta s23_0; exact hk0_app _ _ _ _
theorem s23_0_eq (x1 : Value) (x3 : Int) (x31 : Bool) (h : AHeap) : F23_0 hk C N (⟨48, [(1, x1), (3, .int .i64 x3), (31, .bool x31)]⟩) h =
  bif x31 then some (.bool false, h) else s23_1 hk C N x1 x3 h := by kernel_rfl
theorem s23_1_j (x1 : Value) (x3 : Int) (h : AHeap) : s23_1 hk0 C N x1 x3 h = F23_1 hk0 C N (⟨48, [(1, x1), (3, .int .i64 x3)]⟩) h := by delta s23_1; exact hk0_app _ _ _ _
theorem s23_1_eq (x1 : Value) (x3 : Int) (h : AHeap) : F23_1 hk C N (⟨48, [(1, x1), (3, .int .i64 x3)]⟩) h =
  (aOff x1 0).bind fun v21 => (aLd1 h v21).bind fun v22 => (aLen v22).bind fun v23 => (asI .i64 v23).bind fun n24 => s23_2 hk C N N x1 x3 n24 0 h := by kernel_rfl
theorem s23_2_eq (n1 : Nat) (x1 : Value) (x3 x34 x35 : Int) (h : AHeap) : s23_2 hk C N (n1 + 1) x1 x3 x34 x35 h =
  bif decide (x35 < x34) then (C 106 [x1, .int .i64 x35] h).bind fun r25 => (asB r25.1).bind fun b26 => bif !b26 then some (.bool false, r25.2) else s23_2 hk C N n1 x1 x3 x34 (IntKind.i64.wrap (x35 + 1)) r25.2 else (aOff x1 0).bind fun v27 => (aLd1 h v27).bind fun v28 => (aLen v28).bind fun v29 => (asI .i64 v29).bind fun n30 => (C 107 [x1, .int .i64 x3, .int .i64 0] h).bind fun r31 => (asI .i64 r31.1).bind fun n32 => ((aLd1 r31.2 v27).bind fun v33 => some (vbeq v33 v28)).bind fun b34 => bif b34 then some (.bool (n32 == n30), r31.2) else none := by kernel_rfl
theorem c23 (d : Nat) (args : List Value) (h : AHeap) : call Tp Ms (d + 1) 23 args h = evFn hk0 Tp (call Tp Ms d) M23 d Tryz.f23 args h := by kernel_rfl
def F106_0 (n1 : Nat) : Nx (Value × AHeap) := evSt hk Tp C M106 N Tryz.f106 [1, 1, 0, 1, 2, 6] [n1]
def s106_0 (n1 : Nat) (x0 : Value) (x1 : Int) (x5 x16 : Value) (x17 x18 : Int) (h : AHeap) := F106_0 hk C N n1 (⟨35, [(0, x0), (1, .int .i64 x1), (5, x5), (16, x16), (17, .int .i64 x17), (18, .int .i64 x18)]⟩) h
theorem e106 (x0 : Value) (x1 : Int) (h : AHeap) : evFn hk Tp C M106 N Tryz.f106 [x0, .int .i64 x1] h =
  (aNil x0).bind fun v1 => (aOff v1 0).bind fun v2 => (aLd1 h v2).bind fun v3 => (aIdx v3 (.int .i64 x1) 4).bind fun v4 => (aLdN h v4 4).bind fun v5 => aNew h 48 [.int .i64 0, .string ⟨#[]⟩, .int .i64 0, .slice none 0 0] fun p6 h7 => (aSt h7 p6 v5 4).bind fun h8 => (aOff p6 3).bind fun v9 => (aLd1 h8 v9).bind fun v10 => (aLen v10).bind fun v11 => (asI .i64 v11).bind fun n12 => s106_0 hk C N N x0 x1 p6 v10 n12 0 h8 := by kernel_rfl
theorem s106_0_eq (n1 : Nat) (x0 : Value) (x1 : Int) (x5 x16 : Value) (x17 x18 : Int) (h : AHeap) : s106_0 hk C N (n1 + 1) x0 x1 x5 x16 x17 x18 h =
  bif decide (x18 < x17) then (aIdx x16 (.int .i64 x18) 1).bind fun v13 => (aLd1 h v13).bind fun v14 => (asI .i64 v14).bind fun n15 => (C 144 [.int .i64 n15, .int .i64 0, .int .i64 (IntKind.i64.wrap (x1 - 1))] h).bind fun r16 => (asB r16.1).bind fun b17 => bif !b17 then some (.bool false, r16.2) else s106_0 hk C N n1 x0 x1 x5 x16 x17 (IntKind.i64.wrap (x18 + 1)) r16.2 else (aLdN h x5 4).bind fun v18 => (C 207 [v18] h).bind fun r19 => (asB r19.1).bind fun b20 => bif b20 then (aLdN r19.2 x5 4).bind fun v21 => (C 208 [x0, v21] r19.2).bind fun r22 => (asB r22.1).bind fun b23 => some (.bool b23, r22.2) else some (.bool false, r19.2) := by kernel_rfl
theorem c106 (d : Nat) (args : List Value) (h : AHeap) : call Tp Ms (d + 1) 106 args h = evFn hk0 Tp (call Tp Ms d) M106 d Tryz.f106 args h := by kernel_rfl
def F107_0 (n1 : Nat) : Nx (Value × AHeap) := evSt hk Tp C M107 N Tryz.f107 [1, 0, 1, 2, 6] [n1]
def s107_0 (n1 : Nat) (x0 : Value) (x1 x2 : Int) (x16 : Value) (x17 x18 : Int) (h : AHeap) := F107_0 hk C N n1 (⟨34, [(0, x0), (1, .int .i64 x1), (2, .int .i64 x2), (16, x16), (17, .int .i64 x17), (18, .int .i64 x18)]⟩) h
theorem e107 (x0 : Value) (x1 x2 : Int) (h : AHeap) : evFn hk Tp C M107 N Tryz.f107 [x0, .int .i64 x1, .int .i64 x2] h =
  (aNil x0).bind fun v1 => (aOff v1 0).bind fun v2 => (aLd1 h v2).bind fun v3 => (aIdx v3 (.int .i64 x1) 4).bind fun v4 => (aOff v4 3).bind fun v5 => (aLd1 h v5).bind fun v6 => (aLen v6).bind fun v7 => (asI .i64 v7).bind fun n8 => s107_0 hk C N N x0 x1 x2 v6 n8 0 h := by kernel_rfl
theorem s107_0_eq (n1 : Nat) (x0 : Value) (x1 x2 : Int) (x16 : Value) (x17 x18 : Int) (h : AHeap) : s107_0 hk C N (n1 + 1) x0 x1 x2 x16 x17 x18 h =
  bif decide (x18 < x17) then (aIdx x16 (.int .i64 x18) 1).bind fun v9 => (aLd1 h v9).bind fun v10 => (asI .i64 v10).bind fun n11 => (C 107 [x0, .int .i64 n11, .int .i64 x2] h).bind fun r12 => (asI .i64 r12.1).bind fun n13 => bif decide (n13 < 0) then some (.int .i64 (-1), r12.2) else s107_0 hk C N n1 x0 x1 n13 x16 x17 (IntKind.i64.wrap (x18 + 1)) r12.2 else bif x1 != x2 then some (.int .i64 (-1), h) else some (.int .i64 (IntKind.i64.wrap (x2 + 1)), h) := by kernel_rfl
theorem c107 (d : Nat) (args : List Value) (h : AHeap) : call Tp Ms (d + 1) 107 args h = evFn hk0 Tp (call Tp Ms d) M107 d Tryz.f107 args h := by kernel_rfl
end
end Go.Proofs.YtajpnemfppaafaaGreat
